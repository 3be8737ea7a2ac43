/- Texts joined: Base Ma Mb Me Mf Mg. -/
import Derived.WalkKit
import Derived.Deep.QuietTactic
import Derived.BigQuiet
import Derived.Deep.LoopGhost
import Derived.Laws.AppendOwnNone
import Derived.Deep.RegionHeld3
import Derived.Deep.DeepCutAuto
import Derived.Test.YtcbfamgdkmfcgaaProg
import Derived.WalkSmall
import Derived.RangeFuncNested
import Derived.RangeFuncBound
import Derived.RangeFuncCalls
import Derived.RangeFuncLeaves
import Derived.Shelf.RegionOpen
import Derived.OwnWalkIn
import Derived.TacticsInMore
import Derived.LoopNIn
import Derived.LoopIn
set_option linter.all false
/- Own base words: a world that extends another, slices that read as lists. -/
namespace Go.Proofs.Ytcbfamgdkmfcgaa
open Go.RowKit

theorem hid {p : Prop} (h : p) : Hid p := h

/-- w' extends w: what was there is as it was. -/
def Ext (w w' : World) : Prop := Below w.heap.size w w'

theorem Ext.refl (w : World) : Ext w w := Below.refl _ _
theorem Ext.trans {a b c : World} (h : Ext a b) (k : Ext b c) : Ext a c := Below.trans h (Below.mono k h.size)
theorem Ext.alloc {a w : World} (h : Ext a w) (o : Obj) : Ext a (w.alloc o) := Below.alloc h h.size o
theorem Ext.drew {a w : World} (h : Ext a w) : Ext a w.drew := Below.drew h
theorem Ext.drewN {a w : World} (h : Ext a w) (n : Nat) : Ext a (w.drewN n) := ⟨h.os, h.tape, h.output, h.size, h.block⟩
theorem Ext.setCell {a w : World} (h : Ext a w) {p : Addr} (hp : a.heap.size ≤ p.block) (u : Value) : Ext a (w.setCell p u) := Below.setCell h hp u
theorem Ext.size {a w : World} (h : Ext a w) : a.heap.size ≤ w.heap.size := Below.size h
theorem Ext.cell {a w : World} (h : Ext a w) (b o : Nat) (hb : b < a.heap.size) : w.cell? ⟨b, o, none⟩ = a.cell? ⟨b, o, none⟩ := Below.cell (p := ⟨b, o, none⟩) h hb
theorem Ext.frozen {a w : World} (h : Ext a w) (b o : Nat) (hb : b < a.heap.size) : w.frozen? ⟨b, o, none⟩ = a.frozen? ⟨b, o, none⟩ := Below.frozen (p := ⟨b, o, none⟩) h hb
theorem Ext.grown {a w w' : World} {row : Option Nat} (h : Ext a w) (hg : w.grownBy w' row) (hr : ∀ k, row = some k → a.heap.size ≤ k) : Ext a w' := Below.grown h hg h.size hr
theorem Ext.both {W w1 : World} (hb : Ext W w1) : (∀ b o, b < W.heap.size → w1.cell? ⟨b, o, none⟩ = W.cell? ⟨b, o, none⟩) ∧ (∀ b o, b < W.heap.size → w1.frozen? ⟨b, o, none⟩ = W.frozen? ⟨b, o, none⟩) :=
  ⟨fun b o h => hb.cell b o h, fun b o h => hb.frozen b o h⟩

/-- The call returns a value of which R says what it is in the new world, and nothing that was there has turned. -/
def Ret (R : World → Value → Prop) (w : World) (e : Ending) (w' : World) : Prop := ∃ v, e = .returned v ∧ R w' v ∧ Ext w w'

/-- The slice value v of n elements reads as the cells xs (one cell an element). -/
def Cells (w : World) (v : Value) (xs : List Value) : Prop :=
  ∃ a cap, v = .slice a xs.length cap ∧ xs.length ≤ cap ∧ cap ≤ maxLen ∧ (a = none → cap = 0) ∧
    (xs ≠ [] → ∃ b off, a = some ⟨b, off, none⟩ ∧ b < w.heap.size ∧ ∀ i x, xs[i]? = some x → w.cell? ⟨b, off + i, none⟩ = some x)

theorem Cells.ext {w w' : World} {v : Value} {xs : List Value} (h : Cells w v xs) (e : Ext w w') : Cells w' v xs := by
  obtain ⟨a, cap, rfl, h1, h2, h0, h3⟩ := h
  refine ⟨a, cap, rfl, h1, h2, h0, fun hn => ?_⟩
  obtain ⟨b, off, rfl, hb, hc⟩ := h3 hn
  exact ⟨b, off, rfl, Nat.lt_of_lt_of_le hb e.size, fun i x hx => by rw [e.cell _ _ hb]; exact hc i x hx⟩

/-- limbs -/
def u32s (l : List Nat) : List Value := l.map fun (n : Nat) => Value.int .u32 (n : Int)
@[simp] theorem u32s_length (l : List Nat) : (u32s l).length = l.length := by simp [u32s]
def U32s (w : World) (v : Value) (l : List Nat) : Prop := Cells w v (u32s l) ∧ ∀ x ∈ l, x < 4294967296

theorem U32s.ext {w w' : World} {v : Value} {l : List Nat} (h : U32s w v l) (e : Ext w w') : U32s w' v l := ⟨h.1.ext e, h.2⟩

/-- a slice of limbs opened: nil or at an address -/
theorem U32s.open {w : World} {v : Value} {l : List Nat} (h : U32s w v l) : ∃ a cap, v = .slice a l.length cap ∧ l.length ≤ cap ∧ cap ≤ maxLen ∧ (a = none → cap = 0) ∧ (∀ x ∈ l, x < 4294967296) ∧
    (∀ i, i < l.length → ∃ b off, a = some ⟨b, off, none⟩ ∧ b < w.heap.size ∧ ∀ i, i < l.length → w.cell? ⟨b, off + i, none⟩ = some (.int .u32 (l.getD i 0 : Nat))) := by
  obtain ⟨⟨a, cap, rfl, h1, h2, h0, h3⟩, h4⟩ := h
  simp only [u32s_length] at h1 h3 ⊢
  refine ⟨a, cap, rfl, h1, h2, h0, h4, fun i hi => ?_⟩
  obtain ⟨b, off, rfl, hb, hc⟩ := h3 (by intro h; have := congrArg List.length h; simp at this; subst this; simp at hi)
  exact ⟨b, off, rfl, hb, fun i hi => hc i _ (by simp [u32s, hi])⟩


theorem own_snoc {w : World} {b : Nat} {e : TypeId} {v : Value} {n : Nat} {l : List Nat} {E : Int} (h : w.ownsRow b e 1 v n (u32s l ++ #[Value.int .u32 E].toList)) (d : Nat) (hE : E = d) : w.ownsRow b e 1 v n (u32s (l ++ [d])) := by
  subst hE; simpa [u32s] using h

/-! ### blocks of the call's own -/
/-- block g holds just the cells xs -/
def OBlk (w : World) (g : Nat) (e : TypeId) (xs : List Value) : Prop := w.heap[g]? = some (.cells xs.toArray e (0, 0))

theorem OBlk.lt {w : World} {g : Nat} {e : TypeId} {xs : List Value} (h : OBlk w g e xs) : g < w.heap.size := (Array.getElem?_eq_some_iff.1 h).1
theorem OBlk.cell {w : World} {g : Nat} {e : TypeId} {xs : List Value} (h : OBlk w g e xs) (j : Nat) : w.cell? ⟨g, j, none⟩ = xs[j]? := by
  unfold OBlk at h; simp [World.cell?, h]
theorem OBlk.frozen {w : World} {g : Nat} {e : TypeId} {xs : List Value} (h : OBlk w g e xs) (j : Nat) : w.frozen? ⟨g, j, none⟩ = false := by
  unfold OBlk at h; simp [World.frozen?, h]
theorem OBlk.set {w : World} {g : Nat} {e : TypeId} {xs : List Value} (h : OBlk w g e xs) (j : Nat) (u : Value) : OBlk (w.setCell ⟨g, j, none⟩ u) g e (xs.set j u) := by
  unfold OBlk at h ⊢
  simp only [World.setCell, Array.getElem?_modify, if_true, h]
  simp
theorem OBlk.ext {w w' : World} {g : Nat} {e : TypeId} {xs : List Value} (h : OBlk w g e xs) (x : Ext w w') : OBlk w' g e xs := (x.block g h.lt).trans h
theorem OBlk.setOther {w : World} {g : Nat} {e : TypeId} {xs : List Value} (h : OBlk w g e xs) {p : Addr} (hp : p.block ≠ g) (u : Value) : OBlk (w.setCell p u) g e xs := by
  unfold OBlk at h ⊢; rw [Below.heap_setCell _ _ _ _ (fun e => hp e.symm)]; exact h
theorem OBlk.cells {w : World} {g : Nat} {e : TypeId} {xs : List Value} (h : OBlk w g e xs) {c : Nat} (h1 : xs.length ≤ c) (h2 : c ≤ maxLen) : Cells w (.slice (some ⟨g, 0, none⟩) xs.length c) xs :=
  ⟨_, _, rfl, h1, h2, fun h => by (cases h), fun _ => ⟨g, 0, rfl, h.lt, fun i x hx => by rw [Nat.zero_add, h.cell, hx]⟩⟩
theorem OBlk.new (w : World) (xs : List Value) (e : TypeId) : OBlk (w.alloc (.cells xs.toArray e)) w.heap.size e xs := heap_alloc_new w _
theorem OBlk.at (w : World) (xs : List Value) (e : TypeId) (g : Nat) (h : w.heap.size = g) : OBlk (w.alloc (.cells xs.toArray e)) g e xs := h ▸ OBlk.new w xs e
theorem OBlk.grown {w w' : World} {g : Nat} {e : TypeId} {xs : List Value} {row : Option Nat} (h : OBlk w g e xs) (hg : w.grownBy w' row) (hr : some g ≠ row) : OBlk w' g e xs := (hg.block g h.lt hr).trans h
theorem OBlk.drew {w : World} {g : Nat} {e : TypeId} {xs : List Value} (h : OBlk w g e xs) : OBlk w.drew g e xs := h
theorem OBlk.drewN {w : World} {g : Nat} {e : TypeId} {xs : List Value} (h : OBlk w g e xs) (n : Nat) : OBlk (w.drewN n) g e xs := h
theorem OBlk.later {w : World} {g : Nat} {e : TypeId} {xs : List Value} (h : OBlk w g e xs) (o : Obj) : OBlk (w.alloc o) g e xs := h.ext ((Ext.refl _).alloc _)
theorem nes (n : Nat) : ¬ n = n + 1 + 1 ∧ ¬ n + 1 + 1 = n := ⟨by omega, by omega⟩
/-- three new blocks -/
theorem box3 (w : World) (a b c : List Value) (e f g : TypeId) : OBlk (((w.alloc (.cells a.toArray e)).alloc (.cells b.toArray f)).alloc (.cells c.toArray g)) w.heap.size e a ∧
    OBlk (((w.alloc (.cells a.toArray e)).alloc (.cells b.toArray f)).alloc (.cells c.toArray g)) (w.heap.size + 1) f b ∧ OBlk (((w.alloc (.cells a.toArray e)).alloc (.cells b.toArray f)).alloc (.cells c.toArray g)) (w.heap.size + 1 + 1) g c ∧
    Ext w (((w.alloc (.cells a.toArray e)).alloc (.cells b.toArray f)).alloc (.cells c.toArray g)) :=
  ⟨((OBlk.new w a e).later _).later _, (OBlk.at (w.alloc (.cells a.toArray e)) b f _ (by simp)).later _, OBlk.at ((w.alloc (.cells a.toArray e)).alloc (.cells b.toArray f)) c g _ (by simp), (((Ext.refl w).alloc _).alloc _).alloc _⟩
/-- the facts that a walk wants of a block of two cells -/
theorem OBlk.two {w : World} {g : Nat} {e : TypeId} {x y : Value} (h : OBlk w g e [x, y]) : w.cell? ⟨g, 0, none⟩ = some x ∧ w.cell? ⟨g, 1, none⟩ = some y ∧ ∀ j, w.frozen? ⟨g, j, none⟩ = false :=
  ⟨by rw [h.cell]; rfl, by rw [h.cell]; rfl, h.frozen⟩
theorem own_form {w : World} {base : Nat} {e : TypeId} {size : Nat} {v : Value} {n : Nat} {xs : List Value} (h : w.ownsRow base e size v n xs) : ∃ a cap, v = .slice a n cap := by
  rcases h.2 with ⟨rfl, rfl⟩ | ⟨g, cap, cur, rfl, _⟩
  · exact ⟨_, _, rfl⟩
  · exact ⟨_, _, rfl⟩
theorem ownsRow_cells {w : World} {base : Nat} {e : TypeId} {v : Value} {n : Nat} {xs : List Value} (h : w.ownsRow base e 1 v n xs) : Cells w v xs := by
  obtain ⟨h1, h2⟩ := h
  have hn : xs.length = n := by omega
  subst hn
  rcases h2 with ⟨rfl, h0⟩ | ⟨g, cap, cur, rfl, hb, hg, hnc, hcm, hcs, htake⟩
  · refine ⟨none, 0, by rw [h0], by omega, by decide, fun _ => rfl, fun hne => ?_⟩
    exact absurd (List.eq_nil_of_length_eq_zero h0) hne
  · refine ⟨_, cap, rfl, hnc, hcm, fun h => by (cases h), fun _ => ⟨g, 0, rfl, (Array.getElem?_eq_some_iff.1 hg).1, fun i x hx => ?_⟩⟩
    rw [Nat.zero_add]
    simp only [World.cell?, hg]
    rw [← htake, List.getElem?_take] at hx
    split at hx
    · simpa using hx
    · cases hx

theorem OBlk.owns {w : World} {g : Nat} {e : TypeId} {xs : List Value} (h : OBlk w g e xs) {base n : Nat} (hb : base ≤ g) (hn : n = xs.length) (hm : n ≤ maxLen) : w.ownsRow base e 1 (.slice (some ⟨g, 0, none⟩) n n) n xs := by
  subst hn
  exact ⟨by simp, .inr ⟨g, xs.length, _, rfl, hb, h, Nat.le_refl _, hm, by simp, by simp⟩⟩
theorem Ext.of_grownBy {W w w' : World} {base : Nat} {e : TypeId} {size : Nat} {v : Value} {n : Nat} {xs : List Value} (h : Ext W w) (hown : w.ownsRow base e size v n xs) (hb : W.heap.size ≤ base) (hg : w.grownBy w' v.ownBlock) : Ext W w' :=
  h.grown hg fun k hk => by have := hown.lt k hk; omega

/-- what the program's tables say of a slice type t of elements e -/
structure SlOf (P : Program) (t e : TypeId) (z : Value) (size bytes : Nat) : Prop where
  und : P.underlying t = some (.slice e)
  info : (P.info? e).map (fun i => (i.zero, i.size, i.bytes)) = some (some z, size, bytes)
  zs : z.cells.size = size
  pos : 0 < size

section
variable {P : Program} {ops : Array Oper} {rest : List Oper} {o : Oper} {a : Act} {Q : Exit → Act → World → Prop}

/-- append of one element that was just built -/
theorem wpList_app1 {t e : TypeId} {z : Value} {size bytes : Nat} (T : SlOf P t e z size bytes) (W w0 : World) (us : Array Value) (s x : Operand) (v : Value) (n : Nat) (xs : List Value)
    (hgd : o.guard = none) (ho : o.op = .call { callee := .builtin .append, args := #[s, x], argTypes := #[t, t] })
    (hs : a.eval s = v) (hx : a.eval x = .slice (some ⟨w0.heap.size, 0, none⟩) 1 1) (hext : Ext W w0) (hown : w0.ownsRow W.heap.size e size v n xs)
    (hus : us.size = size) (h1 : ∀ u ∈ us.toList, u.oneCell' = true) (hlen : n < 1125899906842624) (hby : (n + 1) * bytes ≤ 140737488355328)
    (h : ∀ v' w', w'.ownsRow W.heap.size e size v' (n + 1) (xs ++ us.toList) → Ext W w' → Hid (w0.grownBy w' v.ownBlock ∧ v' ≠ .slice none 0 0) → wpList P ops Q rest (a.put o.dst v') w') :
    wpList P ops Q (o :: rest) a (w0.alloc (.cells us e)) := by
  obtain ⟨i, hi, hz0, hz1, hz2⟩ := info_parts T.info
  have hsz := hext.size
  refine wpList_append_own _ hgd s x t ho W.heap.size e i z size bytes T.und hi hz0 hz1 hz2 T.zs T.pos v n xs hs (hown.alloc _) ⟨w0.heap.size, 0, none⟩ 1 1 us.toList hx (by simp [hus]) ?_ h1 (by unfold maxLen; omega) hby (by simp; omega) ?_
  · intro j u hu
    have : (⟨w0.heap.size, 0, none⟩ : Addr).add j = ⟨w0.heap.size, j, none⟩ := by unfold Addr.add; split <;> simp_all
    rw [this]
    simp at hu
    simp only [World.cell?, heap_alloc_new]
    simpa using hu
  · intro v' w' hown' hg hv
    have hg' : w0.grownBy w' v.ownBlock := ⟨hg.os, hg.tape, hg.output, Nat.le_trans (by simp) hg.size, fun k hk hne => (hg.block k (by simp; omega) hne).trans (Below.heap_alloc _ _ _ hk)⟩
    exact h v' w' hown' (hext.of_grownBy hown (Nat.le_refl _) hg') ⟨hg', fun e => by have := hv.1 e; omega⟩

/-- append of m elements that were just built -/
theorem wpList_appN {t e : TypeId} {z : Value} {size bytes : Nat} (T : SlOf P t e z size bytes) (W w0 : World) (us : Array Value) (m : Nat) (s x : Operand) (v : Value) (n : Nat) (xs : List Value)
    (hgd : o.guard = none) (ho : o.op = .call { callee := .builtin .append, args := #[s, x], argTypes := #[t, t] })
    (hs : a.eval s = v) (hx : a.eval x = .slice (some ⟨w0.heap.size, 0, none⟩) m m) (hext : Ext W w0) (hown : w0.ownsRow W.heap.size e size v n xs)
    (hus : us.size = m * size) (h1 : ∀ u ∈ us.toList, u.oneCell' = true) (hm : 0 < m) (hlen : n + m < 1125899906842624) (hby : (n + m) * bytes ≤ 140737488355328)
    (h : ∀ v' w', w'.ownsRow W.heap.size e size v' (n + m) (xs ++ us.toList) → Ext W w' → Hid (w0.grownBy w' v.ownBlock ∧ v' ≠ .slice none 0 0) → wpList P ops Q rest (a.put o.dst v') w') :
    wpList P ops Q (o :: rest) a (w0.alloc (.cells us e)) := by
  obtain ⟨i, hi, hz0, hz1, hz2⟩ := info_parts T.info
  have hsz := hext.size
  refine wpList_append_own _ hgd s x t ho W.heap.size e i z size bytes T.und hi hz0 hz1 hz2 T.zs T.pos v n xs hs (hown.alloc _) ⟨w0.heap.size, 0, none⟩ m m us.toList hx (by simp [hus]) ?_ h1 (by unfold maxLen; omega) hby (by simp; omega) ?_
  · intro j u hu
    have : (⟨w0.heap.size, 0, none⟩ : Addr).add j = ⟨w0.heap.size, j, none⟩ := by unfold Addr.add; split <;> simp_all
    rw [this]
    simp at hu
    simp only [World.cell?, heap_alloc_new]
    simpa using hu
  · intro v' w' hown' hg hv
    have hg' : w0.grownBy w' v.ownBlock := ⟨hg.os, hg.tape, hg.output, Nat.le_trans (by simp) hg.size, fun k hk hne => (hg.block k (by simp; omega) hne).trans (Below.heap_alloc _ _ _ hk)⟩
    exact h v' w' hown' (hext.of_grownBy hown (Nat.le_refl _) hg') ⟨hg', fun e => by have := hv.1 e; omega⟩

/-- append of all of a slice that reads as the cells ys -/
theorem wpList_appAll {t e : TypeId} {z : Value} {bytes : Nat} (T : SlOf P t e z 1 bytes) (W w0 : World) (s x : Operand) (v vx : Value) (n : Nat) (xs ys : List Value)
    (hgd : o.guard = none) (ho : o.op = .call { callee := .builtin .append, args := #[s, x], argTypes := #[t, t] })
    (hs : a.eval s = v) (hx : a.eval x = vx) (hext : Ext W w0) (hown : w0.ownsRow W.heap.size e 1 v n xs) (hys : Cells w0 vx ys)
    (h1 : ∀ u ∈ ys, u.oneCell' = true) (hlen : n + ys.length < 1125899906842624) (hby : (n + ys.length) * bytes ≤ 140737488355328)
    (h : ∀ v' w', w'.ownsRow W.heap.size e 1 v' (n + ys.length) (xs ++ ys) → Ext W w' → Hid (w0.grownBy w' v.ownBlock) → wpList P ops Q rest (a.put o.dst v') w') :
    wpList P ops Q (o :: rest) a w0 := by
  obtain ⟨i, hi, hz0, hz1, hz2⟩ := info_parts T.info
  have hsz := hext.size
  obtain ⟨ax, cx, rfl, hlx, _, hn0, hcx⟩ := hys
  cases ax with
  | none =>
    have hc0 := hn0 rfl
    subst hc0
    have hl0 : ys = [] := List.eq_nil_of_length_eq_zero (by omega)
    subst hl0
    refine wpList_append_own_none hgd s x t ho W.heap.size e i 1 T.und hi v n xs hs hown hx (h v w0 (by simpa using hown) hext ?_)
    exact ⟨rfl, rfl, rfl, Nat.le_refl _, fun _ _ _ => rfl⟩
  | some ad =>
    refine wpList_append_own _ hgd s x t ho W.heap.size e i z 1 bytes T.und hi hz0 hz1 hz2 T.zs T.pos v n xs hs hown ad ys.length cx ys hx (by simp) ?_ h1 (by unfold maxLen; omega) hby (by omega) ?_
    · intro j u hu
      obtain ⟨b, off, he, hb, hc⟩ := hcx (by intro e; subst e; simp at hu)
      simp only [Option.some.injEq] at he
      subst he
      have : (⟨b, off, none⟩ : Addr).add j = ⟨b, off + j, none⟩ := by unfold Addr.add; split <;> simp_all
      rw [this]; exact hc j u hu
    · intro v' w' hown' hg hv
      exact h v' w' hown' (hext.of_grownBy hown (Nat.le_refl _) hg) hg

/-- make([]T, n) -/
theorem wpList_mk {t e : TypeId} {z : Value} {bytes : Nat} (T : SlOf P t e z 1 bytes) (w0 : World) (l c : Operand) (kl kc : IntKind) (n : Nat)
    (hgd : o.guard = none) (hop : o.op = Op.makeSlice t l c) (hl : a.eval l = .int kl n) (hc : a.eval c = .int kc n) (hz : z.cells = #[z]) (hlen : n < 1125899906842624) (hby : bytes * n ≤ 281474976710656)
    (h : ∀ w', OBlk w' w0.heap.size e (List.replicate n z) → Ext w0 w' → w0.heap.size < w'.heap.size → wpList P ops Q rest (a.put o.dst (.slice (some ⟨w0.heap.size, 0, none⟩) n n)) w') :
    wpList P ops Q (o :: rest) a w0 := by
  obtain ⟨i, hi, hz0, hz1, hz2⟩ := info_parts T.info
  refine wpList_make_full w0 hgd l c t hop w0.heap.size e i z 1 T.und hi hz0 hz1 kl kc n n n hl hc rfl rfl (by rw [hz2]; exact hby) (by unfold maxLen; omega) (Nat.le_refl _) ?_
  intro w' hown hg
  have hE : Ext w0 w' := (Ext.refl w0).grown hg (fun k hk => by cases hk)
  obtain ⟨h1, h2⟩ := hown
  rcases h2 with ⟨h2, _⟩ | ⟨g, cap, cur, hv, hb, hgg, hnc, hcm, hcs, htake⟩
  · cases h2
  · simp only [Value.slice.injEq, Option.some.injEq, Addr.mk.injEq] at hv
    obtain ⟨⟨rfl, _⟩, _, rfl⟩ := hv
    have hlist : cur.toList = List.replicate n z := by
      have hl2 : cur.toList.length = n := by simp [hcs]
      rw [List.take_of_length_le (by omega)] at htake
      rw [htake, hz]
      apply List.ext_getElem?
      intro j
      by_cases hj : j < n
      · simp [madeCells, hj, Nat.mod_one]
      · simp [madeCells, hj]
    refine h w' ?_ hE (Array.getElem?_eq_some_iff.1 hgg).1
    unfold OBlk
    rw [hgg, ← hlist]
end
end Go.Proofs.Ytcbfamgdkmfcgaa

/- Walks: arithmetic modulo primes, the program's and the reference's. -/
namespace Go.Proofs.Ytcbfamgdkmfcgaa
open Go.RowKit

/-- a to the power e modulo p; behind a name, so that nothing reckons it -/
def pm (p a e : Nat) : Nat := a ^ e % p

theorem pm_lt {p a e : Nat} (h : 0 < p) : pm p a e < p := Nat.mod_lt _ h
theorem pm_zero (p a : Nat) : pm p a 0 = 1 % p := by simp [pm]
theorem pm_mul (p a e f : Nat) : pm p a e * pm p a f % p = pm p a (e + f) := by
  unfold pm; rw [← Nat.mul_mod, Nat.pow_add]
theorem pm_one {p a : Nat} (h : a < p) : pm p a 1 = a := by simp [pm, Nat.mod_eq_of_lt h]
/-- a step of the program's loop -/
theorem pm_step (p a e r : Nat) : r * pm p a e % p = (if e % 2 = 1 then (r * a % p) * pm p (a * a % p) (e / 2) % p else r * pm p (a * a % p) (e / 2) % p) := by
  have h1 : pm p (a * a % p) (e / 2) = pm p a (2 * (e / 2)) := by
    unfold pm; rw [← Nat.pow_mod, Nat.pow_mul, Nat.pow_two]
  rw [h1]
  split
  · rename_i h
    have e1 : e = 1 + 2 * (e / 2) := by omega
    conv => lhs; rw [e1]
    unfold pm
    rw [Nat.pow_add, Nat.pow_one]
    simp only [Nat.mul_mod_mod, Nat.mod_mul_mod, Nat.mul_assoc]
  · rename_i h
    have e1 : e = 2 * (e / 2) := by omega
    conv => lhs; rw [e1]

theorem rem_any (x p : Int) (w : World) (hp : 0 < p) (hx : 0 ≤ x) :
    Calls Try.prog 41 #[.int .u64 x, .int .u64 p] w fun e w' => e = .returned (.int .u64 (x % p)) ∧ w = w' := by
  have h0 : ((p == 0) = false) := by simp; omega
  go_enter Try.func41, Try.ntmps41
  go_wp2
  go_ret
  exact ⟨rfl, rfl⟩

theorem mAdd_any (p a b : Nat) (w : World) (hp : 0 < p) (hp2 : p ≤ 2147483648) (ha : a < p) (hb : b < p) :
    Calls Try.prog 28 #[.int .u64 p, .int .u64 a, .int .u64 b] w fun e w' => e = .returned (.int .u64 ((a + b) % p : Nat)) ∧ w = w' := by
  go_enter Try.func28, Try.ntmps28
  go_wp2_with fail
  refine (rem_any _ _ _ (by omega) (by omega)).mono ?_
  rintro e w' ⟨rfl, rfl⟩
  go_wp2
  go_ret
  exact ⟨by simp, rfl⟩

theorem mSub_any (p a b : Nat) (w : World) (hp : 0 < p) (hp2 : p ≤ 2147483648) (ha : a < p) (hb : b < p) :
    Calls Try.prog 29 #[.int .u64 p, .int .u64 a, .int .u64 b] w fun e w' => e = .returned (.int .u64 ((a + p - b) % p : Nat)) ∧ w = w' := by
  go_enter Try.func29, Try.ntmps29
  go_wp2_with fail
  refine (rem_any _ _ _ (by omega) (by omega)).mono ?_
  rintro e w' ⟨rfl, rfl⟩
  go_wp2
  go_ret
  exact ⟨by rw [show (a : Int) + p - b = ((a + p - b : Nat) : Int) by omega]; simp, rfl⟩

theorem mMul_any (p a b : Nat) (w : World) (hp : 0 < p) (hp2 : p ≤ 2147483648) (ha : a < p) (hb : b < p)  :
    Calls Try.prog 31 #[.int .u64 p, .int .u64 a, .int .u64 b] w fun e w' => e = .returned (.int .u64 (a * b % p : Nat)) ∧ w = w' := by
  have h0 : a * b < 4294967296 * 4294967296 := Nat.mul_lt_mul'' (by omega) (by omega)
  have h1 : ((a : Int) * (b : Int)) = ((a * b : Nat) : Int) := by simp
  have h2 : IntKind.u64.wrap ((a : Int) * (b : Int)) = (a : Int) * (b : Int) := by rw [h1]; exact IntWalk.u64_in _ (by omega)
  have h3 : 0 ≤ (a : Int) * (b : Int) := by rw [h1]; omega
  clear h0 h1
  go_enter Try.func31, Try.ntmps31
  go_wp2_with fail
  refine (rem_any _ _ _ (by omega) h3).mono ?_
  rintro e w' ⟨rfl, rfl⟩
  go_wp2
  go_ret
  exact ⟨by simp, rfl⟩

set_option maxHeartbeats 400000 in
theorem mPow_any (p a e : Nat) (w : World) (hp : 1 < p) (hp2 : p ≤ 2147483648) (ha : a < p) (he : e ≤ 18446744073709551615) :
    Calls Try.prog 32 #[.int .u64 p, .int .u64 a, .int .u64 e] w fun en w' => en = .returned (.int .u64 (pm p a e)) ∧ w = w' := by
  go_enter Try.func32, Try.ntmps32
  go_wp2_with fail
  refine (rem_any _ _ _ (by omega) (by omega)).mono ?_
  rintro en w' ⟨rfl, rfl⟩
  rw [show (1 : Int) % (p : Int) = 1 from Int.emod_eq_of_lt (by omega) (by omega)]
  go_wp2_with fail
  go_loop [1, 2, 7] (fun va ve vr => ∃ a' e' r' : Nat, va = .int .u64 a' ∧ ve = .int .u64 e' ∧ vr = .int .u64 r' ∧ a' < p ∧ r' < p ∧ e' ≤ 18446744073709551615 ∧ Hid (r' * pm p a' e' % p = pm p a e)) (fun _ ve _ => (intOf ve).toNat)
  case atStart => exact ⟨a, e, 1, rfl, rfl, rfl, ha, hp, he, by show _ = _; rw [Nat.one_mul]; exact Nat.mod_eq_of_lt (pm_lt (by omega))⟩
  case round =>
    obtain ⟨a', e', r', rfl, rfl, rfl, ha', hr', he', HE⟩ := hrel
    by_cases h0 : 0 < e'
    · have hand := and_one_u64 (e' : Int) (by omega) (by omega)
      have hst := pm_step p a' e' r'
      by_cases hb : e' % 2 = 1
      · have hb' : (((e' : Int) % 2) == 1) = true := by rw [beq_iff_eq]; omega
        rw [if_pos hb] at hst
        have HS := hid hst
        have hlt1 : r' * a' % p < p := Nat.mod_lt _ (by omega)
        have hlt2 : a' * a' % p < p := Nat.mod_lt _ (by omega)
        clear hst hb
        go_wp2_with fail
        refine (mMul_any p r' a' _ (by omega) hp2 hr' ha').mono ?_
        rintro en w' ⟨rfl, rfl⟩
        generalize hx : r' * a' % p = r2 at *
        generalize hy : a' * a' % p = a2 at *
        have HY := hid hy
        clear hx hy
        go_wp2_with fail
        refine (mMul_any p a' a' _ (by omega) hp2 ha' ha').mono ?_
        rintro en w' ⟨rfl, rfl⟩
        rw [HY.out]
        go_wp2
        go_round
        case rel => exact ⟨a2, e' / 2, r2, rfl, by go_num, rfl, hlt2, hlt1, by omega, by show _ = _; rw [← HE.out, HS.out]⟩
        case measure => simp [intOf]; omega
      · have hb' : (((e' : Int) % 2) == 1) = false := by rw [beq_eq_false_iff_ne]; omega
        rw [if_neg hb] at hst
        have HS := hid hst
        have hlt2 : a' * a' % p < p := Nat.mod_lt _ (by omega)
        clear hst hb
        go_wp2_with fail
        refine (mMul_any p a' a' _ (by omega) hp2 ha' ha').mono ?_
        rintro en w' ⟨rfl, rfl⟩
        generalize hy : a' * a' % p = a2 at *
        clear hy
        go_wp2
        go_round
        case rel => exact ⟨a2, e' / 2, r', rfl, by go_num, rfl, hlt2, hr', by omega, by show _ = _; rw [← HE.out, HS.out]⟩
        case measure => simp [intOf]; omega
    · have h0' : e' = 0 := by omega
      subst h0'
      have HF : Hid (r' = pm p a e) := by show _ = _; rw [← HE.out, pm_zero, Nat.mod_eq_of_lt hp, Nat.mul_one, Nat.mod_eq_of_lt hr']
      go_wp2
      go_ret
      exact ⟨by rw [← HF.out]; rfl, rfl⟩
end Go.Proofs.Ytcbfamgdkmfcgaa

/- Walks: the reference's arithmetic modulo primes; inverses. -/
namespace Go.Proofs.Ytcbfamgdkmfcgaa
open Go.RowKit

theorem rAdd_any (p a b : Nat) (w : World) (hp : 0 < p) (hp2 : p ≤ 2147483648) (ha : a < p) (hb : b < p) :
    Calls Try.prog 23 #[.int .u64 p, .int .u64 a, .int .u64 b] w fun e w' => e = .returned (.int .u64 ((a + b) % p : Nat)) ∧ w = w' := by
  have h0 : (((p : Int) == 0) = false) := by simp; omega
  go_enter Try.func23, Try.ntmps23
  go_wp2
  go_ret
  exact ⟨by simp, rfl⟩

theorem rSub_any (p a b : Nat) (w : World) (hp : 0 < p) (hp2 : p ≤ 2147483648) (ha : a < p) (hb : b < p) :
    Calls Try.prog 30 #[.int .u64 p, .int .u64 a, .int .u64 b] w fun e w' => e = .returned (.int .u64 ((a + p - b) % p : Nat)) ∧ w = w' := by
  have h0 : (((p : Int) == 0) = false) := by simp; omega
  go_enter Try.func30, Try.ntmps30
  go_wp2
  go_ret
  exact ⟨by rw [show (a : Int) + p - b = ((a + p - b : Nat) : Int) by omega]; simp, rfl⟩

theorem rMul_any (p a b : Nat) (w : World) (hp : 0 < p) (hp2 : p ≤ 2147483648) (ha : a < p) (hb : b < p)  :
    Calls Try.prog 25 #[.int .u64 p, .int .u64 a, .int .u64 b] w fun e w' => e = .returned (.int .u64 (a * b % p : Nat)) ∧ w = w' := by
  have h4 : (((p : Int) == 0) = false) := by simp; omega
  have h0 : a * b < 4294967296 * 4294967296 := Nat.mul_lt_mul'' (by omega) (by omega)
  have h1 : ((a : Int) * (b : Int)) = ((a * b : Nat) : Int) := by simp
  have h2 : IntKind.u64.wrap ((a : Int) * (b : Int)) = (a : Int) * (b : Int) := by rw [h1]; exact IntWalk.u64_in _ (by omega)
  have h3 : 0 ≤ (a : Int) * (b : Int) := by rw [h1]; omega
  clear h0 h1
  go_enter Try.func25, Try.ntmps25
  go_wp2
  go_ret
  exact ⟨by simp, rfl⟩

theorem div_two_pow (e k : Nat) : e / 2 ^ k = 2 * (e / 2 ^ (k + 1)) + e / 2 ^ k % 2 := by
  rw [Nat.pow_succ, ← Nat.div_div_eq_div_mul]; omega

set_option maxHeartbeats 400000 in
theorem rPow_any (p a e : Nat) (w : World) (hp : 1 < p) (hp2 : p ≤ 2147483648) (ha : a < p) (he : e ≤ 18446744073709551615) :
    Calls Try.prog 33 #[.int .u64 p, .int .u64 a, .int .u64 e] w fun en w' => en = .returned (.int .u64 (pm p a e)) ∧ w = w' := by
  have h4 : (((p : Int) == 0) = false) := by simp; omega
  have h5 : (1 : Int) % (p : Int) = 1 := Int.emod_eq_of_lt (by omega) (by omega)
  go_enter Try.func33, Try.ntmps33
  go_wp2_with fail
  have H5 := hid h5
  clear h5 h4
  go_loopg [7, 8] 64 (fun k ov bv wr => ov = .int .u64 (pm p a (e / 2 ^ k)) ∧ bv = .int .i64 ((k : Int) - 1) ∧ k ≤ 64 ∧ wr = w)
  case atStart => exact ⟨by rw [Nat.div_eq_of_lt (by omega), pm_zero, Nat.mod_eq_of_lt hp, H5.out]; rfl, rfl, by omega, rfl⟩
  case round =>
    obtain ⟨rfl, rfl, hk, rfl⟩ := hrel
    cases gk with
    | zero =>
      have hf : decide ((0 : Int) ≤ ((0 : Nat) : Int) - 1) = false := by simp
      go_wp2
      go_ret
      exact ⟨by simp, rfl⟩
    | succ k =>
      have e1 : ((k + 1 : Nat) : Int) - 1 = (k : Int) := by omega
      rw [e1]
      clear e1
      have hlt := pm_lt (p := p) (a := a) (e := e / 2 ^ (k + 1)) (by omega)
      have hsq := pm_mul p a (e / 2 ^ (k + 1)) (e / 2 ^ (k + 1))
      have hsq2 := pm_mul p a (2 * (e / 2 ^ (k + 1))) 1
      rw [pm_one ha] at hsq2
      have hdv := div_two_pow e k
      have HSQ := hid hsq
      have HSQ2 := hid hsq2
      have HDV := hid hdv
      clear hsq hsq2 hdv
      generalize pm p a (e / 2 ^ (k + 1)) = x at *
      go_wp2_with fail
      refine (rMul_any p x x _ (by omega) hp2 hlt hlt).mono ?_
      rintro en w' ⟨rfl, rfl⟩
      have hylt : x * x % p < p := Nat.mod_lt _ (by omega)
      generalize x * x % p = y at *
      have hb2 : ((e : Int) / 2 ^ k) = ((e / 2 ^ k : Nat) : Int) := by simp
      have hble : e / 2 ^ k ≤ e := Nat.div_le_self _ _
      have hand := and_one_u64 ((e : Int) / 2 ^ k) (by rw [hb2]; exact Int.natCast_nonneg _) (by rw [hb2]; exact Int.ofNat_le.2 (Nat.le_trans hble he))
      have HB2 := hid hb2
      clear hb2
      by_cases hb : e / 2 ^ k % 2 = 1
      · have hand' : bits BinOp.and IntKind.u64 ((e : Int) / 2 ^ k) 1 = 1 := by rw [hand, HB2.out]; generalize e / 2 ^ k = z at hb ⊢; omega
        have HB := hid hb
        clear hand hb hble
        go_wp2_with fail
        refine (rMul_any p y a _ (by omega) hp2 hylt ha).mono ?_
        rintro en w' ⟨rfl, rfl⟩
        go_wp2_with fail
        go_roundg k
        case measure => omega
        case rel =>
          refine ⟨?_, rfl, by omega, rfl⟩
          rw [HDV.out, HB.out, ← HSQ2.out, Nat.two_mul, ← HSQ.out]
          simp
      · have hand' : bits BinOp.and IntKind.u64 ((e : Int) / 2 ^ k) 1 = 0 := by rw [hand, HB2.out]; generalize e / 2 ^ k = z at hb ⊢; omega
        have HB := hid (show e / 2 ^ k % 2 = 0 by omega)
        clear hand hb hble
        go_wp2_with fail
        go_roundg k
        case measure => omega
        case rel =>
          refine ⟨?_, rfl, by omega, rfl⟩
          rw [HDV.out, HB.out, Nat.add_zero, Nat.two_mul, ← HSQ.out]

theorem mInv_any (p a : Nat) (w : World) (hp : 1 < p) (hp2 : p ≤ 2147483648) (ha : a < p) :
    Calls Try.prog 26 #[.int .u64 p, .int .u64 a] w fun en w' => en = .returned (.tuple #[.int .u64 (if a = 0 then 0 else pm p a (p - 2) : Nat), .int .i64 (if a = 0 then 30 else 0)]) ∧ w = w' := by
  by_cases h0 : a = 0
  · subst h0
    go_enter Try.func26, Try.ntmps26
    go_wp2
    go_ret2
    exact ⟨rfl, rfl⟩
  · have hz : (((a : Int) == 0)) = false := by simp; omega
    have hm : (p : Int) - 2 = ((p - 2 : Nat) : Int) := by omega
    have H0 := hid h0
    clear h0
    go_enter Try.func26, Try.ntmps26
    go_wp2_with fail
    refine (mPow_any p a (p - 2) _ hp hp2 ha (by omega)).mono ?_
    rintro en w' ⟨rfl, rfl⟩
    go_wp2
    go_ret2
    first | exact ⟨rfl, rfl⟩ | exact ⟨by rw [if_neg H0.out, if_neg H0.out]; rfl, rfl⟩

theorem rInv_any (p a : Nat) (w : World) (hp : 1 < p) (hp2 : p ≤ 2147483648) (ha : a < p) :
    Calls Try.prog 27 #[.int .u64 p, .int .u64 a] w fun en w' => en = .returned (.tuple #[.int .u64 (if a = 0 then 0 else pm p a (p - 2) : Nat), .int .i64 (if a = 0 then 30 else 0)]) ∧ w = w' := by
  have hpz : (((p : Int) == 0)) = false := by simp; omega
  have hmod : (a : Int) % (p : Int) = (a : Int) := Int.emod_eq_of_lt (by omega) (by omega)
  by_cases h0 : a = 0
  · subst h0
    go_enter Try.func27, Try.ntmps27
    go_wp2
    go_ret2
    exact ⟨rfl, rfl⟩
  · have hz : (((a : Int) == 0)) = false := by simp; omega
    have hm : (p : Int) - 2 = ((p - 2 : Nat) : Int) := by omega
    have H0 := hid h0
    clear h0
    go_enter Try.func27, Try.ntmps27
    go_wp2_with fail
    refine (rPow_any p a (p - 2) _ hp hp2 ha (by omega)).mono ?_
    rintro en w' ⟨rfl, rfl⟩
    go_wp2
    go_ret2
    first | exact ⟨rfl, rfl⟩ | exact ⟨by rw [if_neg H0.out, if_neg H0.out]; rfl, rfl⟩
end Go.Proofs.Ytcbfamgdkmfcgaa

/- Walks: Prime. -/
namespace Go.Proofs.Ytcbfamgdkmfcgaa
open Go.RowKit

def oddTwos : Nat → Nat → Nat × Nat
  | 0, m => (m, 0)
  | f + 1, m => if m % 2 = 0 then ((oddTwos f (m / 2)).1, (oddTwos f (m / 2)).2 + 1) else (m, 0)
def sqLoop (n : Nat) : Nat → Nat → Bool
  | 0, _ => false
  | k + 1, x => if x * x % n = n - 1 then true else sqLoop n k (x * x % n)
def spB (n b o t : Nat) : Bool := pm n b o == 1 || pm n b o == n - 1 || sqLoop n (t - 1) (pm n b o)
def basesB (n o t : Nat) : List Nat → Bool
  | [] => true
  | b :: r => if n = b then true else if spB n b o t then basesB n o t r else false
/-- what the program's Prime answers -/
def primeB (n : Nat) : Bool := if n < 2 ∨ 2147483648 ≤ n then false else if n % 2 = 0 then n == 2 else basesB n (oddTwos 64 (n - 1)).1 (oddTwos 64 (n - 1)).2 [2, 3, 5, 7]

theorem oddTwos_even {f m : Nat} (h : m % 2 = 0) : (oddTwos (f + 1) m).1 = (oddTwos f (m / 2)).1 ∧ (oddTwos (f + 1) m).2 = (oddTwos f (m / 2)).2 + 1 := by simp [oddTwos, h]
theorem oddTwos_odd {f m : Nat} (h : ¬ m % 2 = 0) : oddTwos (f + 1) m = (m, 0) := by simp [oddTwos, h]

set_option maxHeartbeats 1000000 in
theorem Prime_any (n : Nat) (w : World) (hn : n ≤ 18446744073709551615) :
    Calls Try.prog 9 #[.int .u64 n] w fun e w' => e = .returned (.bool (primeB n)) ∧ w = w' := by
  by_cases h1 : n < 2
  · have HF : Hid (primeB n = false) := by show _ = _; unfold primeB; rw [if_pos (.inl h1)]
    have hd : decide ((n : Int) < 2) = true := by simp; omega
    clear h1
    go_enter Try.func9, Try.ntmps9
    go_wp2
    go_step3
    go_wp2
    rw [Exit.noGoto_ret]
    go_ret
    exact ⟨by rw [HF.out]; rfl, rfl⟩
  · have hd : decide ((n : Int) < 2) = false := by simp; omega
    by_cases h2 : 2147483648 ≤ n
    · have HF : Hid (primeB n = false) := by show _ = _; unfold primeB; rw [if_pos (.inr h2)]
      have hd2 : decide ((2147483648 : Int) ≤ (n : Int)) = true := by simp; omega
      clear h1 h2
      go_enter Try.func9, Try.ntmps9
      go_wp2
      go_step3
      go_wp2
      rw [Exit.noGoto_ret]
      go_ret
      exact ⟨by rw [HF.out]; rfl, rfl⟩
    · have hd2 : decide ((2147483648 : Int) ≤ (n : Int)) = false := by simp; omega
      have hc : ¬ (n < 2 ∨ 2147483648 ≤ n) := by omega
      by_cases h3 : n % 2 = 0
      · have HF : Hid (primeB n = (n == 2)) := by show _ = _; unfold primeB; rw [if_neg hc, if_pos h3]
        have hd3 : (((n : Int) % 2) == 0) = true := by rw [beq_iff_eq]; omega
        have HE : Hid ((((n : Int)) == 2) = (n == 2)) := by show _ = _; rw [Bool.eq_iff_iff]; simp; omega
        clear h1 h2 h3 hc
        go_enter Try.func9, Try.ntmps9
        go_wp2
        go_step3
        go_wp2
        rw [Exit.noGoto_ret]
        go_ret
        exact ⟨by rw [HF.out, ← HE.out]; rfl, rfl⟩
      · have hd3 : (((n : Int) % 2) == 0) = false := by rw [beq_eq_false_iff_ne]; omega
        obtain ⟨O, HO⟩ : ∃ O, Hid ((oddTwos 64 (n - 1)).1 = O) := ⟨_, rfl⟩
        obtain ⟨T, HT⟩ : ∃ T, Hid ((oddTwos 64 (n - 1)).2 = T) := ⟨_, rfl⟩
        have HF : Hid (primeB n = basesB n O T [2, 3, 5, 7]) := by show _ = _; unfold primeB; rw [if_neg hc, if_neg h3, HO.out, HT.out]
        have H3 := hid h3
        clear hc h3
        go_enter Try.func9, Try.ntmps9
        go_wp2
        go_step3
        go_wp2
        go_loopg [3, 4] 64 (fun f ov tv wr => ∃ o t : Nat, ov = .int .u64 o ∧ tv = .int .i64 t ∧ t + f = 64 ∧ 0 < o ∧ o < 2147483648 ∧ wr = w ∧ Hid (o < 2 ^ f ∧ (oddTwos f o).1 = O ∧ (oddTwos f o).2 + t = T))
        case atStart => exact ⟨n - 1, 0, by go_num, rfl, by omega, by omega, by omega, rfl, by omega, HO.out, HT.out⟩
        case round =>
          obtain ⟨o, t, rfl, rfl, htf, ho0, ho1, rfl, HI⟩ := hrel
          cases gk with
          | zero => have := HI.out.1; simp at this; omega
          | succ f =>
            by_cases he : o % 2 = 0
            · have hd4 : (((o : Int) % 2) == 0) = true := by rw [beq_iff_eq]; omega
              have hst := hid (oddTwos_even (f := f) he)
              have H4 := hid he
              clear he
              go_wp2
              go_roundg f
              case measure => omega
              case rel =>
                have h5 := HI.out
                have h6 := hst.out
                have h7 := H4.out
                exact ⟨o / 2, t + 1, by go_num, by go_num, by omega, by omega, by omega, rfl, by rw [Nat.pow_succ] at h5; omega, by rw [← h6.1]; exact h5.2.1, by rw [h6.2] at h5; omega⟩
            · have hd4 : (((o : Int) % 2) == 0) = false := by rw [beq_eq_false_iff_ne]; omega
              have h5 := HI.out
              rw [oddTwos_odd he] at h5
              obtain ⟨-, rfl, rfl⟩ := h5
              clear HI he HO HT
              have HF2 : Hid (primeB n = basesB n o t [2, 3, 5, 7]) := by have := HF.out; rw [show (o, 0).2 + t = t by simp] at this; exact this
              have hn3 : 3 ≤ n := by have := H3.out; omega
              have hn31 : n < 2147483648 := by omega
              clear HF h1 h2
              go_wp2
              go_step3
              go_wp2
              go_loopg [29] 4 (fun g iv wr' => ∃ i : Nat, iv = .int .i64 i ∧ g + i = 4 ∧ wr' = wr ∧ Hid (primeB n = basesB n o t ([2, 3, 5, 7].drop i)) ∧ Hid (∀ b ∈ [2, 3, 5, 7].take i, b < n))
              case atStart => exact ⟨0, rfl, by omega, rfl, HF2, by intro b hb; simp at hb⟩
              case round =>
                clear HF2
                obtain ⟨i, rfl, hgi, rfl, HF, HB⟩ := hrel
                obtain ⟨go, rfl⟩ : ∃ go : Nat, go = gk := ⟨_, rfl⟩
                by_cases hi : i < 4
                · obtain ⟨b, hb, hidx, hble, hbas, hnext⟩ : ∃ b : Nat, b ≤ 7 ∧ (∀ w, (Instr.index 52 (.agg #[.int .u64 2, .int .u64 3, .int .u64 5, .int .u64 7]) (.int .i64 i)).run Try.prog w = .ok (.int .u64 b) w) ∧ Hid (b ≤ n) ∧ Hid (primeB n = (if n = b then true else if spB n b o t then basesB n o t ([2, 3, 5, 7].drop (i + 1)) else false)) ∧ Hid (b < n → ∀ c ∈ [2, 3, 5, 7].take (i + 1), c < n) := by
                    have hB := HB.out
                    have hodd := H3.out
                    have hF := HF.out
                    rcases i with _ | _ | _ | _ | i
                    · exact ⟨2, by omega, fun w => by kernel_rfl, by show _ ≤ _; omega, hF, by intro h c hc; simp at hc; omega⟩
                    · exact ⟨3, by omega, fun w => by kernel_rfl, by show _ ≤ _; omega, hF, by intro h c hc; simp at hc; omega⟩
                    · have := hB 3 (by simp); exact ⟨5, by omega, fun w => by kernel_rfl, by show _ ≤ _; omega, hF, by intro h c hc; simp at hc; omega⟩
                    · have := hB 5 (by simp); exact ⟨7, by omega, fun w => by kernel_rfl, by show _ ≤ _; omega, hF, by intro h c hc; simp at hc; omega⟩
                    · omega
                  clear HF HB
                  have hlt4 : decide ((i : Int) < 4) = true := by simp; omega
                  by_cases hnb : n = b
                  · have hd5 : (((n : Int)) == (b : Int)) = true := by rw [hnb]; simp
                    have HFin : Hid (primeB n = true) := by show _ = _; rw [hbas.out, if_pos hnb]
                    clear hnb hbas hnext
                    go_wp2
                    try rw [Exit.noGoto_ret]
                    go_ret
                    exact ⟨by rw [HFin.out]; rfl, rfl⟩
                  · have hd5 : (((n : Int)) == (b : Int)) = false := by rw [beq_eq_false_iff_ne]; omega
                    have hbn : b < n := by have := hble.out; omega
                    have hb2 := hbas.out
                    rw [if_neg hnb] at hb2
                    have HB2 := hid hb2
                    have HN := hid (hnext.out hbn)
                    clear hnb hbas hnext hb2
                    obtain ⟨X, HX⟩ : ∃ X, Hid (pm n b o = X) := ⟨_, rfl⟩
                    have hXn : X < n := by rw [← HX.out]; exact pm_lt (by omega)
                    have HSP : Hid (spB n b o t = (X == 1 || X == n - 1 || sqLoop n (t - 1) X)) := by show _ = _; unfold spB; rw [HX.out]
                    have HM1 : Hid ((n : Int) - 1 = ((n - 1 : Nat) : Int)) := hid (by omega)
                    go_wp2_with fail
                    refine (mPow_any n b o _ (by omega) (by omega) hbn (by omega)).mono ?_
                    rintro e w' ⟨rfl, rfl⟩
                    rw [HX.out]
                    by_cases hx1 : X = 1 ∨ X = n - 1
                    · have HT : Hid (spB n b o t = true) := by show _ = _; rw [HSP.out]; rcases hx1 with h | h <;> simp [h]
                      rcases hx1 with h | h
                      · subst h
                        go_wp2_with fail
                        go_roundg (go - 1)
                        case measure => omega
                        case rel => exact ⟨i + 1, by go_num, by omega, rfl, by have := HB2.out; rw [HT.out] at this; exact this, HN.out⟩
                      · have e1 : (((X : Nat) : Int) == 1) = (((n : Int) - 1) == 1) := by rw [h, HM1.out]
                        have e2 : (((X : Nat) : Int) == ((n : Int) - 1)) = true := by rw [h, HM1.out]; simp
                        have e3 : (((n : Int) - 1) == 1) = false := by rw [beq_eq_false_iff_ne]; omega
                        rw [e3] at e1
                        clear h e3
                        go_wp2_with fail
                        go_roundg (go - 1)
                        case measure => omega
                        case rel => exact ⟨i + 1, by go_num, by omega, rfl, by have := HB2.out; rw [HT.out] at this; exact this, HN.out⟩
                    · have e1 : (((X : Nat) : Int) == 1) = false := by rw [beq_eq_false_iff_ne]; omega
                      have e2 : (((X : Nat) : Int) == ((n : Int) - 1)) = false := by rw [beq_eq_false_iff_ne]; omega
                      have HS : Hid (spB n b o t = sqLoop n (t - 1) X) := by
                        show _ = _; rw [HSP.out]
                        have h1 : (X == 1) = false := by rw [beq_eq_false_iff_ne]; omega
                        have h2 : (X == n - 1) = false := by rw [beq_eq_false_iff_ne]; omega
                        rw [h1, h2]; rfl
                      clear hx1 HSP HX
                      go_wp2_with fail
                      clear e1 e2
                      go_loopg [7, 49] t (fun g xv jv wr' => ∃ j x : Nat, xv = .int .u64 x ∧ jv = .int .i64 j ∧ g + j = t ∧ x < n ∧ wr' = wr ∧ Hid (spB n b o t = sqLoop n (t - 1 - j) x))
                      case atStart => exact ⟨0, X, rfl, rfl, by omega, hXn, rfl, HS⟩
                      case round =>
                        clear HS hXn
                        obtain ⟨j, x, rfl, rfl, hgj, hxn, rfl, HI⟩ := hrel
                        by_cases hj : j < t - 1
                        · have hd6 : decide ((j : Int) < (t : Int) - 1) = true := by simp; omega
                          have hk : t - 1 - j = (t - 1 - (j + 1)) + 1 := by omega
                          have hI := HI.out
                          rw [hk, sqLoop] at hI
                          have HI2 := hid hI
                          have hylt : x * x % n < n := Nat.mod_lt _ (by omega)
                          clear hI HI hk
                          go_wp2_with fail
                          refine (mMul_any n x x _ (by omega) (by omega) hxn hxn).mono ?_
                          rintro e w' ⟨rfl, rfl⟩
                          obtain ⟨y, HY⟩ : ∃ y, Hid (x * x % n = y) := ⟨_, rfl⟩
                          rw [HY.out] at hylt HI2 ⊢
                          by_cases hy : y = n - 1
                          · have e2 : (((y : Nat) : Int) == ((n : Int) - 1)) = true := by rw [hy, HM1.out]; simp
                            have HT : Hid (spB n b o t = true) := by show _ = _; rw [HI2.out, if_pos hy]
                            clear hy
                            go_wp2_with fail
                            go_roundg (go - 1)
                            case measure => omega
                            case rel => exact ⟨i + 1, by go_num, by omega, rfl, by have := HB2.out; rw [HT.out] at this; exact this, HN.out⟩
                          · have e2 : (((y : Nat) : Int) == ((n : Int) - 1)) = false := by rw [beq_eq_false_iff_ne]; omega
                            have HT : Hid (spB n b o t = sqLoop n (t - 1 - (j + 1)) y) := by show _ = _; rw [HI2.out, if_neg hy]
                            clear hy
                            go_wp2_with fail
                            go_roundg (gk - 1)
                            case measure => omega
                            case rel => exact ⟨j + 1, y, rfl, by go_num, by omega, hylt, rfl, HT⟩
                        · have hd6 : decide ((j : Int) < (t : Int) - 1) = false := by simp; omega
                          have hk : t - 1 - j = 0 := by omega
                          have hI := HI.out
                          rw [hk, sqLoop] at hI
                          have HFin : Hid (primeB n = false) := by show _ = _; have := HB2.out; rw [hI] at this; exact this
                          clear hI HI hk hj
                          go_wp2_with fail
                          try rw [Exit.noGoto_ret]
                          go_ret
                          exact ⟨by rw [HFin.out]; rfl, rfl⟩
                · have hi4 : i = 4 := by omega
                  have HFin : Hid (primeB n = true) := by show _ = _; have := HF.out; rw [hi4] at this; exact this
                  have hd7 : decide ((i : Int) < 4) = false := by simp; omega
                  clear hi4 HF HB
                  go_wp2_with fail
                  try rw [Exit.noGoto_ret]
                  go_ret
                  exact ⟨by rw [HFin.out]; rfl, rfl⟩
end Go.Proofs.Ytcbfamgdkmfcgaa

/- Walks: the iterators upward and downward, and first. -/
namespace Go.Proofs.Ytcbfamgdkmfcgaa
open Go.RowKit Go.Shelf
attribute [local go_sem] Oper.semAt_some

abbrev U64 := { x : Nat // x ≤ 18446744073709551615 }
def ups (n k : Nat) : List Nat := (List.range k).map (fun i => n + 1 + i)
def downs (n k : Nat) : List Nat := (List.range k).map (fun i => n - 1 - i)
theorem ups_succ (n k : Nat) : ups n (k + 1) = ups n k ++ [n + 1 + k] := by simp [ups, List.range_succ]
theorem downs_succ (n k : Nat) : downs n (k + 1) = downs n k ++ [n - 1 - k] := by simp [downs, List.range_succ]
theorem ups_prefix (n : Nat) {j k : Nat} (h : j ≤ k) : ups n j <+: ups n k := by
  obtain ⟨d, rfl⟩ := Nat.exists_eq_add_of_le h
  refine ⟨(List.range d).map (fun i => n + 1 + (j + i)), ?_⟩
  simp [ups, List.range_add, Function.comp_def]
theorem downs_prefix (n : Nat) {j k : Nat} (h : j ≤ k) : downs n j <+: downs n k := by
  obtain ⟨d, rfl⟩ := Nat.exists_eq_add_of_le h
  refine ⟨(List.range d).map (fun i => n - 1 - (j + i)), ?_⟩
  simp [downs, List.range_add, Function.comp_def]
theorem ups_len (n k : Nat) : (ups n k).length = k := by simp [ups]
theorem downs_len (n k : Nat) : (downs n k).length = k := by simp [downs]
def u64s (xs : List U64) : List Nat := xs.map (·.1)
theorem u64s_snoc (xs : List U64) (x : U64) : u64s (xs ++ [x]) = u64s xs ++ [x.1] := by simp [u64s]
def natOf : Value → Nat
  | .int _ x => x.toNat
  | _ => 0

set_option maxHeartbeats 1000000 in
theorem up1_in (F : Fence) (n : Nat) (hf : F.fn 50) (hro : F.round = none) (hn : 1 ≤ n) (l Bn n₀ m M : Nat) (hM : Hid (2147483647 - m = M)) (hm : m ≤ 18446744073709551615) (J Jx : List U64 → World → Prop)
    (hY : ∀ pre x W, J pre W → pre.length < M → YieldAt F (n - 1) Try.prog l #[.int .u64 (x : U64).1] W fun e W' =>
      (e = .returned (.bool true) ∧ J (pre ++ [x]) W' ∧ Below n₀ W W') ∨ (e = .returned (.bool false) ∧ Jx (pre ++ [x]) W'))
    (W : World) (hBn : W.cell? ⟨Bn, 0, none⟩ = some (.int .u64 m)) (h0 : J [] W) :
    CallsIn F n Try.prog 50 #[.func (.yield l) #[] #[], .pointer (some ⟨Bn, 0, none⟩)] W fun e W' => (∃ v, e = .returned v) ∧
      ((∃ ys, u64s ys = ups m (M) ∧ J ys W') ∨ (∃ pre, u64s pre <+: ups m (M) ∧ Jx pre W')) := by
  refine callsIn_of_wp Try.func50 rfl hf ?_ hro
  simp only [Try.ntmps50, List.size_toArray, List.length_cons, List.length_nil, Nat.reduceAdd, Nat.reduceSub, Array.replicate_succ, Array.replicate_zero, List.push_toArray, List.append_toArray, List.nil_append, List.cons_append]
  gi_wp2
  gi_loopw [3] (fun p wr => ∃ (pre : List U64) (k c : Nat), p = .int .u64 c ∧ c = m + k ∧ k ≤ M ∧ Hid (u64s pre = ups m k) ∧ J pre wr)
    (fun p wr => 2147483647 - natOf p)
  case atStart =>
    exact ⟨[], 0, m, rfl, by omega, by omega, rfl, h0⟩
  case round =>
    obtain ⟨pre, k, c, rfl, hc, hk, hpre, hJs⟩ := hrel
    have hMo := hM.out
    have hpl : pre.length = k := by have := congrArg List.length hpre.out; simpa [u64s, ups_len] using this
    by_cases hlt : c < 2147483647
    · have hd : decide ((c : Int) < 2147483647) = true := by simp; omega
      obtain ⟨X, hX⟩ : ∃ X : U64, X.1 = c + 1 := ⟨⟨c + 1, by omega⟩, rfl⟩
      obtain ⟨fn, tmps, assign, body, hy, hR⟩ := hY pre X wr hJs (by omega)
      have hcc : ((X.1 : Nat) : Int) = (c : Int) + 1 := by omega
      rw [hcc] at hy
      have hstep2 : Hid (u64s (pre ++ [X]) = ups m (k + 1)) := by
        show _ = _
        have he : c + 1 = m + 1 + k := by omega
        rw [ups_succ, u64s_snoc, hpre.out, hX, he]
      have hkl : k + 1 ≤ M := by omega
      have hk0 : Hid (c + 1 = m + (k + 1)) := hid (by omega)
      have hme : Hid (2147483647 - (c + 1) < 2147483647 - c) := hid (by omega)
      clear hpl hpre hcc hMo hX hc hk
      gi_wp2
      refine hR.mono ?_
      rintro e W3 (⟨rfl, hJ3, hk3⟩ | ⟨rfl, hJx3⟩)
      · gi_wp2
        go_roundw
        case rel => exact ⟨_, k + 1, c + 1, by go_num, hk0.out, hkl, hstep2, hJ3⟩
        case measure => exact hme.out
      · gi_wp2
        refine bodyPost_ret (results_none rfl _ _ _) rfl ?_
        exact ⟨⟨_, rfl⟩, .inr ⟨_, hstep2.out ▸ ups_prefix m hkl, hJx3⟩⟩
    · have hd : decide ((c : Int) < 2147483647) = false := by simp; omega
      have hk2 : Hid (k = M) := hid (by omega)
      clear hlt hk hc hpl hMo
      gi_wp2_with fail
      go_end0
      exact ⟨⟨_, rfl⟩, .inl ⟨pre, by rw [hpre.out, hk2.out], hJs⟩⟩

set_option maxHeartbeats 1000000 in
theorem dn1_in (F : Fence) (n : Nat) (hf : F.fn 51) (hro : F.round = none) (hn : 1 ≤ n) (l Bn n₀ m M : Nat) (hM : Hid (min m 2147483648 = M)) (hm : m ≤ 18446744073709551615) (J Jx : List U64 → World → Prop)
    (hY : ∀ pre x W, J pre W → pre.length < M → YieldAt F (n - 1) Try.prog l #[.int .u64 (x : U64).1] W fun e W' =>
      (e = .returned (.bool true) ∧ J (pre ++ [x]) W' ∧ Below n₀ W W') ∨ (e = .returned (.bool false) ∧ Jx (pre ++ [x]) W'))
    (W : World) (hBn : W.cell? ⟨Bn, 0, none⟩ = some (.int .u64 m)) (h0 : J [] W) :
    CallsIn F n Try.prog 51 #[.func (.yield l) #[] #[], .pointer (some ⟨Bn, 0, none⟩)] W fun e W' => (∃ v, e = .returned v) ∧
      ((∃ ys, u64s ys = downs M M ∧ J ys W') ∨ (∃ pre, u64s pre <+: downs M M ∧ Jx pre W')) := by
  refine callsIn_of_wp Try.func51 rfl hf ?_ hro
  simp only [Try.ntmps51, List.size_toArray, List.length_cons, List.length_nil, Nat.reduceAdd, Nat.reduceSub, Array.replicate_succ, Array.replicate_zero, List.push_toArray, List.append_toArray, List.nil_append, List.cons_append]
  gi_wp2
  all_goals
    gi_loopw [3] (fun p wr => ∃ (pre : List U64) (k c : Nat), p = .int .u64 c ∧ c + k = M ∧ Hid (u64s pre = downs M k) ∧ J pre wr)
      (fun p wr => natOf p)
    case atStart =>
      rename_i hcmp
      have hMo := hM.out
      first
        | exact ⟨[], 0, m, rfl, by omega, rfl, h0⟩
        | exact ⟨[], 0, 2147483648, rfl, by omega, rfl, h0⟩
    case round =>
      obtain ⟨pre, k, c, rfl, hc, hpre, hJs⟩ := hrel
      have hMo := hM.out
      have hM64 : c ≤ 2147483648 := by omega
      have hpl : pre.length = k := by have := congrArg List.length hpre.out; simpa [u64s, downs_len] using this
      by_cases hlt : 0 < c
      · have hd : decide (0 < (c : Int)) = true := by simp; omega
        obtain ⟨X, hX⟩ : ∃ X : U64, X.1 = c - 1 := ⟨⟨c - 1, by omega⟩, rfl⟩
        obtain ⟨fn, tmps, assign, body, hy, hR⟩ := hY pre X wr hJs (by omega)
        have hcc : ((X.1 : Nat) : Int) = (c : Int) - 1 := by omega
        rw [hcc] at hy
        have hstep2 : Hid (u64s (pre ++ [X]) = downs M (k + 1)) := by
          show _ = _
          have he : c - 1 = M - 1 - k := by omega
          rw [downs_succ, u64s_snoc, hpre.out, hX, he]
        have hkl : Hid (k + 1 ≤ M) := hid (by omega)
        have hk0 : Hid (c - 1 + (k + 1) = M) := hid (by omega)
        have hme : Hid (c - 1 < c) := hid (by omega)
        clear hpl hpre hcc hMo hX hc
        gi_wp2
        refine hR.mono ?_
        rintro e W3 (⟨rfl, hJ3, hk3⟩ | ⟨rfl, hJx3⟩)
        · gi_wp2
          go_roundw
          case rel => exact ⟨_, k + 1, c - 1, by go_num, hk0.out, hstep2, hJ3⟩
          case measure => have := hme.out; simp [natOf]; omega
        · gi_wp2
          refine bodyPost_ret (results_none rfl _ _ _) rfl ?_
          exact ⟨⟨_, rfl⟩, .inr ⟨_, hstep2.out ▸ downs_prefix M hkl.out, hJx3⟩⟩
      · have hd : decide (0 < (c : Int)) = false := by simp; omega
        have hk2 : Hid (k = M) := hid (by omega)
        have hlt2 : ¬ (0 < (c : Int)) := by omega
        clear hlt hc hpl hMo
        gi_wp2
        go_end0
        exact ⟨⟨_, rfl⟩, .inl ⟨pre, by rw [hpre.out, hk2.out], hJs⟩⟩
end Go.Proofs.Ytcbfamgdkmfcgaa

/- Walks: first, Next, Before. -/
namespace Go.Proofs.Ytcbfamgdkmfcgaa
open Go.RowKit Go.Shelf
attribute [local go_sem] Oper.semAt_some

theorem up_stops (F : Fence) (n : Nat) (hf : F.fn 50) (hro : F.round = none) (hn : 1 ≤ n) (Bn n₀ m M : Nat) (hM : Hid (2147483647 - m = M)) (hm : m ≤ 18446744073709551615) (w : World) (hBn : Bn < w.heap.size)
    (hc : w.cell? ⟨Bn, 0, none⟩ = some (.int .u64 m)) :
    SeqStopsK F n Try.prog 50 #[.pointer (some ⟨Bn, 0, none⟩)] (fun x : U64 => #[Value.int .u64 x.1]) (Below n₀) (fun ys => u64s ys = ups m M) (fun pre => u64s pre <+: ups m M) M w := fun l J Jx W hW _ _ hY h0 =>
  up1_in F n hf hro hn l Bn n₀ m M hM hm J Jx hY W ((hW.cell (p := ⟨Bn, 0, none⟩) hBn).trans hc) h0

theorem dn_stops (F : Fence) (n : Nat) (hf : F.fn 51) (hro : F.round = none) (hn : 1 ≤ n) (Bn n₀ m M : Nat) (hM : Hid (min m 2147483648 = M)) (hm : m ≤ 18446744073709551615) (w : World) (hBn : Bn < w.heap.size)
    (hc : w.cell? ⟨Bn, 0, none⟩ = some (.int .u64 m)) :
    SeqStopsK F n Try.prog 51 #[.pointer (some ⟨Bn, 0, none⟩)] (fun x : U64 => #[Value.int .u64 x.1]) (Below n₀) (fun ys => u64s ys = downs M M) (fun pre => u64s pre <+: downs M M) M w := fun l J Jx W hW _ _ hY h0 =>
  dn1_in F n hf hro hn l Bn n₀ m M hM hm J Jx hY W ((hW.cell (p := ⟨Bn, 0, none⟩) hBn).trans hc) h0

/-- the first of the list that the program calls prime -/
def firstB (l : List Nat) : Nat := (l.find? primeB).getD 0

theorem firstB_none {l : List Nat} (h : ∀ x ∈ l, primeB x = false) : firstB l = 0 := by
  have : l.find? primeB = none := by rw [List.find?_eq_none]; intro x hx; simp [h x hx]
  simp [firstB, this]
theorem firstB_some {l pre : List Nat} {x : Nat} (hp : pre ++ [x] <+: l) (h : ∀ y ∈ pre, primeB y = false) (hx : primeB x = true) : firstB l = x := by
  obtain ⟨t, rfl⟩ := hp
  have : pre.find? primeB = none := by rw [List.find?_eq_none]; intro y hy; simp [h y hy]
  simp [firstB, List.find?_append, this, hx]

set_option maxRecDepth 100000 in
set_option maxHeartbeats 2000000 in
theorem first_any (gf B m M : Nat) (L : List Nat) (w : World)
    (he : ∀ args w, (callFunc gf args).run Try.prog w = .ok (.enter gf args) w)
    (hseq : ∀ n₀ w', Ext w w' → SeqStopsK Fence.wide 2 Try.prog gf #[.pointer (some ⟨B, 0, none⟩)] (fun x : U64 => #[Value.int .u64 x.1]) (Below n₀) (fun ys => u64s ys = L) (fun pre => u64s pre <+: L) M w') :
    Calls Try.prog 36 #[.func (.func gf) #[] #[.pointer (some ⟨B, 0, none⟩)]] w (Ret (fun _ v => v = .int .u64 (firstB L)) w) := by
  refine (callsIn_wide (n := 3)).1 ?_
  refine callsIn_of_wp_marks Try.func36 rfl trivial ?_ rfl
  simp only [Try.ntmps36, List.size_toArray, List.length_cons, List.length_nil, Nat.reduceAdd, Nat.reduceSub, Array.replicate_succ, Array.replicate_zero, List.push_toArray, List.append_toArray, List.nil_append, List.cons_append]
  gi_wp2
  have hb : OBlk _ _ _ _ := OBlk.new w [.int .u64 0] 22
  have hB0 : Ext w (w.alloc (.cells #[.int .u64 0] 22)) := (Ext.refl w).alloc _
  refine wpIn_rangeFunc_ownF rfl (by omega) (gf := gf) (lb := #[.pointer (some ⟨B, 0, none⟩)]) rfl trivial he
    (hseq w.heap.size _ hB0) belowK_t (belowK_b (by simp)) (Below.refl _ _) (fun _ => rfl)
    (fun pre W => ((∀ y ∈ u64s pre, primeB y = false) ∧ W.cell? ⟨w.heap.size, 0, none⟩ = some (.int .u64 0) ∧ W.frozen? ⟨w.heap.size, 0, none⟩ = false) ∧ Below w.heap.size w W)
    (fun c pre W => (c = .ret ∧ (∃ pr x, u64s pre = pr ++ [x] ∧ (∀ y ∈ pr, primeB y = false) ∧ primeB x = true ∧ W.cell? ⟨w.heap.size, 0, none⟩ = some (.int .u64 x))) ∧ Below w.heap.size w W)
    (OwnFrom.and (Own.from (fun s A B row hs hg hr => ⟨hs.1, cell_kept hs.2.1 hg hr, (frozen_kept hs.2.1 hg hr).trans hs.2.2⟩) _) (ownFrom_below (Nat.le_refl _) (by simp)))
    (fun c => OwnFrom.and (Own.from (fun s A B row hs hg hr => ⟨hs.1, by obtain ⟨pr, x, h1, h2, h3, h4⟩ := hs.2; exact ⟨pr, x, h1, h2, h3, cell_kept h4 hg hr⟩⟩) _) (ownFrom_below (Nat.le_refl _) (by simp)))
    ⟨⟨by simp [u64s], (hb.cell 0).trans rfl, hb.frozen 0⟩, hB0⟩
    (fun x => { tmps := #[.func (.func gf) #[] #[.pointer (some ⟨B, 0, none⟩)], undef, .pointer (some ⟨w.heap.size, 0, none⟩), .int .u64 x.1, .func (.func gf) #[] #[.pointer (some ⟨B, 0, none⟩)], .int .u64 x.1, undef, undef, undef], defers := [] }) ?assign ?body ?done ?stop
  case assign =>
    intro l x W K hK
    gi_wp2
    exact hK
  case body =>
    rintro l pre x W ⟨⟨hp, hcr, hfr⟩, hB⟩ _
    have hx64 := x.2
    by_cases hpx : primeB x.1 = true
    · gi_wp2_with (refine ⟨trivial, ?_⟩; gi_at_call 9; refine (CallsIn.inRound l (callsIn_wide.2 (Prime_any x.1 _ hx64))).mono ?_; rintro e w' ⟨rfl, rfl⟩; rw [hpx])
      exact ⟨KeepsOthers.setCell _ _ _, ⟨rfl, u64s pre, x.1, u64s_snoc _ _, hp, hpx, World.cell?_setCell_same' _ _ _ (by rw [hcr]; rfl)⟩, hB.setCell (p := ⟨w.heap.size, 0, none⟩) (by simp) _⟩
    · rw [Bool.not_eq_true] at hpx
      gi_wp2_with (refine ⟨trivial, ?_⟩; gi_at_call 9; refine (CallsIn.inRound l (callsIn_wide.2 (Prime_any x.1 _ hx64))).mono ?_; rintro e w' ⟨rfl, rfl⟩; rw [hpx])
      exact ⟨KeepsOthers.refl _, Below.refl _ _, ⟨fun y hy => by
        rw [u64s_snoc, List.mem_append] at hy
        exact hy.elim (hp y) (fun e => by simp at e; rw [e]; exact hpx), hcr, hfr⟩, hB⟩
  case done =>
    rintro D ys W hD hys ⟨⟨hne, hcr, hfr⟩, hB⟩ hK
    rw [hys] at hne
    gi_wp2
    have hK' := (KeepsOthers.setCell W ⟨w.heap.size, 0, none⟩ (.int .u64 0)).same D _ hK rfl
    refine ⟨by simp, .inl ⟨_, _, rfl, run_takeDeferred hK', ?_⟩⟩
    have hc5 := cell_kept (World.cell?_setCell_same' W ⟨w.heap.size, 0, none⟩ (.int .u64 0) (by rw [hcr]; rfl)) (grownBy_putObj' _ D (.deferred none)) (fun r e => by cases e; exact ⟨_, hK', rfl⟩)
    refine ⟨_, ?_, .int .u64 0, rfl, by rw [firstB_none hne]; rfl, (hB.setCell (p := ⟨w.heap.size, 0, none⟩) (by simp) _).trans (belowK_b (w := w) (Nat.le_refl _) _ D _ _ (by simp at hD; omega) hK' rfl rfl)⟩
    simp [results, Try.f36, go_sem, hc5]
  case stop =>
    rintro D c pre W hD hpre ⟨⟨rfl, pr, x, hpe, hne, hx, hcr⟩, hB⟩ hK
    rw [hpe] at hpre
    gi_wp2
    refine ⟨by simp, .inl ⟨_, _, rfl, run_takeDeferred hK, ?_⟩⟩
    have hc5 := cell_kept hcr (grownBy_putObj' _ D (.deferred none)) (fun r e => by cases e; exact ⟨_, hK, rfl⟩)
    refine ⟨_, ?_, .int .u64 x, rfl, by rw [firstB_some hpre hne hx], hB.trans (belowK_b (w := w) (Nat.le_refl _) W D _ _ (by simp at hD; omega) hK rfl rfl)⟩
    simp [results, Try.f36, go_sem, hc5]
end Go.Proofs.Ytcbfamgdkmfcgaa
