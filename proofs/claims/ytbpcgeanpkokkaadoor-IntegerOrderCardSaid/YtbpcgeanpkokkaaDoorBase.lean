/- Own base words: a world that extends another, slices that read as lists. -/
import Derived.WalkKit
import Derived.Deep.QuietTactic
import Derived.BigQuiet
import Derived.Deep.LoopGhost
import Derived.Laws.AppendOwnNone
import Derived.Deep.RegionHeld3
import Derived.Deep.DeepCutAuto
namespace Go.Proofs.YtbpcgeanpkokkaaDoor
open Go.RowKit

theorem hid {p : Prop} (h : p) : Hid p := h

/-- w' extends w: what was there is as it was. -/
def Ext (w w' : World) : Prop := Below w.heap.size w w'

theorem Ext.refl (w : World) : Ext w w := Below.refl _ _
theorem Ext.trans {a b c : World} (h : Ext a b) (k : Ext b c) : Ext a c := Below.trans h (Below.mono k h.size)
theorem Ext.alloc {a w : World} (h : Ext a w) (o : Obj) : Ext a (w.alloc o) := Below.alloc h h.size o
theorem Ext.drew {a w : World} (h : Ext a w) : Ext a w.drew := Below.drew h
theorem Ext.drewN {a w : World} (h : Ext a w) (n : Nat) : Ext a (w.drewN n) := ⟨h.os, h.tape, h.output, h.size, h.block⟩
theorem Ext.setCell {a w : World} (h : Ext a w) {p : Addr} (hp : a.heap.size ≤ p.block) (u : Value) : Ext a (w.setCell p u) := Below.setCell h hp u
theorem Ext.size {a w : World} (h : Ext a w) : a.heap.size ≤ w.heap.size := Below.size h
theorem Ext.cell {a w : World} (h : Ext a w) (b o : Nat) (hb : b < a.heap.size) : w.cell? ⟨b, o, none⟩ = a.cell? ⟨b, o, none⟩ := Below.cell (p := ⟨b, o, none⟩) h hb
theorem Ext.frozen {a w : World} (h : Ext a w) (b o : Nat) (hb : b < a.heap.size) : w.frozen? ⟨b, o, none⟩ = a.frozen? ⟨b, o, none⟩ := Below.frozen (p := ⟨b, o, none⟩) h hb
theorem Ext.grown {a w w' : World} {row : Option Nat} (h : Ext a w) (hg : w.grownBy w' row) (hr : ∀ k, row = some k → a.heap.size ≤ k) : Ext a w' := Below.grown h hg h.size hr
theorem Ext.both {W w1 : World} (hb : Ext W w1) : (∀ b o, b < W.heap.size → w1.cell? ⟨b, o, none⟩ = W.cell? ⟨b, o, none⟩) ∧ (∀ b o, b < W.heap.size → w1.frozen? ⟨b, o, none⟩ = W.frozen? ⟨b, o, none⟩) :=
  ⟨fun b o h => hb.cell b o h, fun b o h => hb.frozen b o h⟩

/-- The call returns a value of which R says what it is in the new world, and nothing that was there has turned. -/
def Ret (R : World → Value → Prop) (w : World) (e : Ending) (w' : World) : Prop := ∃ v, e = .returned v ∧ R w' v ∧ Ext w w'

/-- The slice value v of n elements reads as the cells xs (one cell an element). -/
def Cells (w : World) (v : Value) (xs : List Value) : Prop :=
  ∃ a cap, v = .slice a xs.length cap ∧ xs.length ≤ cap ∧ cap ≤ maxLen ∧ (a = none → cap = 0) ∧
    (xs ≠ [] → ∃ b off, a = some ⟨b, off, none⟩ ∧ b < w.heap.size ∧ ∀ i x, xs[i]? = some x → w.cell? ⟨b, off + i, none⟩ = some x)

theorem Cells.ext {w w' : World} {v : Value} {xs : List Value} (h : Cells w v xs) (e : Ext w w') : Cells w' v xs := by
  obtain ⟨a, cap, rfl, h1, h2, h0, h3⟩ := h
  refine ⟨a, cap, rfl, h1, h2, h0, fun hn => ?_⟩
  obtain ⟨b, off, rfl, hb, hc⟩ := h3 hn
  exact ⟨b, off, rfl, Nat.lt_of_lt_of_le hb e.size, fun i x hx => by rw [e.cell _ _ hb]; exact hc i x hx⟩

/-- limbs -/
def u32s (l : List Nat) : List Value := l.map fun (n : Nat) => Value.int .u32 (n : Int)
@[simp] theorem u32s_length (l : List Nat) : (u32s l).length = l.length := by simp [u32s]
def U32s (w : World) (v : Value) (l : List Nat) : Prop := Cells w v (u32s l) ∧ ∀ x ∈ l, x < 4294967296

theorem U32s.ext {w w' : World} {v : Value} {l : List Nat} (h : U32s w v l) (e : Ext w w') : U32s w' v l := ⟨h.1.ext e, h.2⟩

/-- a slice of limbs opened: nil or at an address -/
theorem U32s.open {w : World} {v : Value} {l : List Nat} (h : U32s w v l) : ∃ a cap, v = .slice a l.length cap ∧ l.length ≤ cap ∧ cap ≤ maxLen ∧ (a = none → cap = 0) ∧ (∀ x ∈ l, x < 4294967296) ∧
    (∀ i, i < l.length → ∃ b off, a = some ⟨b, off, none⟩ ∧ b < w.heap.size ∧ ∀ i, i < l.length → w.cell? ⟨b, off + i, none⟩ = some (.int .u32 (l.getD i 0 : Nat))) := by
  obtain ⟨⟨a, cap, rfl, h1, h2, h0, h3⟩, h4⟩ := h
  simp only [u32s_length] at h1 h3 ⊢
  refine ⟨a, cap, rfl, h1, h2, h0, h4, fun i hi => ?_⟩
  obtain ⟨b, off, rfl, hb, hc⟩ := h3 (by intro h; have := congrArg List.length h; simp at this; subst this; simp at hi)
  exact ⟨b, off, rfl, hb, fun i hi => hc i _ (by simp [u32s, hi])⟩


theorem own_snoc {w : World} {b : Nat} {e : TypeId} {v : Value} {n : Nat} {l : List Nat} {E : Int} (h : w.ownsRow b e 1 v n (u32s l ++ #[Value.int .u32 E].toList)) (d : Nat) (hE : E = d) : w.ownsRow b e 1 v n (u32s (l ++ [d])) := by
  subst hE; simpa [u32s] using h

/-! ### blocks of the call's own -/
/-- block g holds just the cells xs -/
def OBlk (w : World) (g : Nat) (e : TypeId) (xs : List Value) : Prop := w.heap[g]? = some (.cells xs.toArray e (0, 0))

theorem OBlk.lt {w : World} {g : Nat} {e : TypeId} {xs : List Value} (h : OBlk w g e xs) : g < w.heap.size := (Array.getElem?_eq_some_iff.1 h).1
theorem OBlk.cell {w : World} {g : Nat} {e : TypeId} {xs : List Value} (h : OBlk w g e xs) (j : Nat) : w.cell? ⟨g, j, none⟩ = xs[j]? := by
  unfold OBlk at h; simp [World.cell?, h]
theorem OBlk.frozen {w : World} {g : Nat} {e : TypeId} {xs : List Value} (h : OBlk w g e xs) (j : Nat) : w.frozen? ⟨g, j, none⟩ = false := by
  unfold OBlk at h; simp [World.frozen?, h]
theorem OBlk.set {w : World} {g : Nat} {e : TypeId} {xs : List Value} (h : OBlk w g e xs) (j : Nat) (u : Value) : OBlk (w.setCell ⟨g, j, none⟩ u) g e (xs.set j u) := by
  unfold OBlk at h ⊢
  simp only [World.setCell, Array.getElem?_modify, if_true, h]
  simp
theorem OBlk.ext {w w' : World} {g : Nat} {e : TypeId} {xs : List Value} (h : OBlk w g e xs) (x : Ext w w') : OBlk w' g e xs := (x.block g h.lt).trans h
theorem OBlk.setOther {w : World} {g : Nat} {e : TypeId} {xs : List Value} (h : OBlk w g e xs) {p : Addr} (hp : p.block ≠ g) (u : Value) : OBlk (w.setCell p u) g e xs := by
  unfold OBlk at h ⊢; rw [Below.heap_setCell _ _ _ _ (fun e => hp e.symm)]; exact h
theorem OBlk.cells {w : World} {g : Nat} {e : TypeId} {xs : List Value} (h : OBlk w g e xs) {c : Nat} (h1 : xs.length ≤ c) (h2 : c ≤ maxLen) : Cells w (.slice (some ⟨g, 0, none⟩) xs.length c) xs :=
  ⟨_, _, rfl, h1, h2, fun h => by (cases h), fun _ => ⟨g, 0, rfl, h.lt, fun i x hx => by rw [Nat.zero_add, h.cell, hx]⟩⟩
theorem OBlk.new (w : World) (xs : List Value) (e : TypeId) : OBlk (w.alloc (.cells xs.toArray e)) w.heap.size e xs := heap_alloc_new w _
theorem OBlk.at (w : World) (xs : List Value) (e : TypeId) (g : Nat) (h : w.heap.size = g) : OBlk (w.alloc (.cells xs.toArray e)) g e xs := h ▸ OBlk.new w xs e
theorem OBlk.grown {w w' : World} {g : Nat} {e : TypeId} {xs : List Value} {row : Option Nat} (h : OBlk w g e xs) (hg : w.grownBy w' row) (hr : some g ≠ row) : OBlk w' g e xs := (hg.block g h.lt hr).trans h
theorem OBlk.drew {w : World} {g : Nat} {e : TypeId} {xs : List Value} (h : OBlk w g e xs) : OBlk w.drew g e xs := h
theorem OBlk.drewN {w : World} {g : Nat} {e : TypeId} {xs : List Value} (h : OBlk w g e xs) (n : Nat) : OBlk (w.drewN n) g e xs := h
theorem OBlk.later {w : World} {g : Nat} {e : TypeId} {xs : List Value} (h : OBlk w g e xs) (o : Obj) : OBlk (w.alloc o) g e xs := h.ext ((Ext.refl _).alloc _)
theorem nes (n : Nat) : ¬ n = n + 1 + 1 ∧ ¬ n + 1 + 1 = n := ⟨by omega, by omega⟩
/-- three new blocks -/
theorem box3 (w : World) (a b c : List Value) (e f g : TypeId) : OBlk (((w.alloc (.cells a.toArray e)).alloc (.cells b.toArray f)).alloc (.cells c.toArray g)) w.heap.size e a ∧
    OBlk (((w.alloc (.cells a.toArray e)).alloc (.cells b.toArray f)).alloc (.cells c.toArray g)) (w.heap.size + 1) f b ∧ OBlk (((w.alloc (.cells a.toArray e)).alloc (.cells b.toArray f)).alloc (.cells c.toArray g)) (w.heap.size + 1 + 1) g c ∧
    Ext w (((w.alloc (.cells a.toArray e)).alloc (.cells b.toArray f)).alloc (.cells c.toArray g)) :=
  ⟨((OBlk.new w a e).later _).later _, (OBlk.at (w.alloc (.cells a.toArray e)) b f _ (by simp)).later _, OBlk.at ((w.alloc (.cells a.toArray e)).alloc (.cells b.toArray f)) c g _ (by simp), (((Ext.refl w).alloc _).alloc _).alloc _⟩
/-- the facts that a walk wants of a block of two cells -/
theorem OBlk.two {w : World} {g : Nat} {e : TypeId} {x y : Value} (h : OBlk w g e [x, y]) : w.cell? ⟨g, 0, none⟩ = some x ∧ w.cell? ⟨g, 1, none⟩ = some y ∧ ∀ j, w.frozen? ⟨g, j, none⟩ = false :=
  ⟨by rw [h.cell]; rfl, by rw [h.cell]; rfl, h.frozen⟩
theorem own_form {w : World} {base : Nat} {e : TypeId} {size : Nat} {v : Value} {n : Nat} {xs : List Value} (h : w.ownsRow base e size v n xs) : ∃ a cap, v = .slice a n cap := by
  rcases h.2 with ⟨rfl, rfl⟩ | ⟨g, cap, cur, rfl, _⟩
  · exact ⟨_, _, rfl⟩
  · exact ⟨_, _, rfl⟩
theorem ownsRow_cells {w : World} {base : Nat} {e : TypeId} {v : Value} {n : Nat} {xs : List Value} (h : w.ownsRow base e 1 v n xs) : Cells w v xs := by
  obtain ⟨h1, h2⟩ := h
  have hn : xs.length = n := by omega
  subst hn
  rcases h2 with ⟨rfl, h0⟩ | ⟨g, cap, cur, rfl, hb, hg, hnc, hcm, hcs, htake⟩
  · refine ⟨none, 0, by rw [h0], by omega, by decide, fun _ => rfl, fun hne => ?_⟩
    exact absurd (List.eq_nil_of_length_eq_zero h0) hne
  · refine ⟨_, cap, rfl, hnc, hcm, fun h => by (cases h), fun _ => ⟨g, 0, rfl, (Array.getElem?_eq_some_iff.1 hg).1, fun i x hx => ?_⟩⟩
    rw [Nat.zero_add]
    simp only [World.cell?, hg]
    rw [← htake, List.getElem?_take] at hx
    split at hx
    · simpa using hx
    · cases hx

theorem OBlk.owns {w : World} {g : Nat} {e : TypeId} {xs : List Value} (h : OBlk w g e xs) {base n : Nat} (hb : base ≤ g) (hn : n = xs.length) (hm : n ≤ maxLen) : w.ownsRow base e 1 (.slice (some ⟨g, 0, none⟩) n n) n xs := by
  subst hn
  exact ⟨by simp, .inr ⟨g, xs.length, _, rfl, hb, h, Nat.le_refl _, hm, by simp, by simp⟩⟩
theorem Ext.of_grownBy {W w w' : World} {base : Nat} {e : TypeId} {size : Nat} {v : Value} {n : Nat} {xs : List Value} (h : Ext W w) (hown : w.ownsRow base e size v n xs) (hb : W.heap.size ≤ base) (hg : w.grownBy w' v.ownBlock) : Ext W w' :=
  h.grown hg fun k hk => by have := hown.lt k hk; omega

/-- what the program's tables say of a slice type t of elements e -/
structure SlOf (P : Program) (t e : TypeId) (z : Value) (size bytes : Nat) : Prop where
  und : P.underlying t = some (.slice e)
  info : (P.info? e).map (fun i => (i.zero, i.size, i.bytes)) = some (some z, size, bytes)
  zs : z.cells.size = size
  pos : 0 < size

section
variable {P : Program} {ops : Array Oper} {rest : List Oper} {o : Oper} {a : Act} {Q : Exit → Act → World → Prop}

/-- append of one element that was just built -/
theorem wpList_app1 {t e : TypeId} {z : Value} {size bytes : Nat} (T : SlOf P t e z size bytes) (W w0 : World) (us : Array Value) (s x : Operand) (v : Value) (n : Nat) (xs : List Value)
    (hgd : o.guard = none) (ho : o.op = .call { callee := .builtin .append, args := #[s, x], argTypes := #[t, t] })
    (hs : a.eval s = v) (hx : a.eval x = .slice (some ⟨w0.heap.size, 0, none⟩) 1 1) (hext : Ext W w0) (hown : w0.ownsRow W.heap.size e size v n xs)
    (hus : us.size = size) (h1 : ∀ u ∈ us.toList, u.oneCell' = true) (hlen : n < 1125899906842624) (hby : (n + 1) * bytes ≤ 140737488355328)
    (h : ∀ v' w', w'.ownsRow W.heap.size e size v' (n + 1) (xs ++ us.toList) → Ext W w' → Hid (w0.grownBy w' v.ownBlock ∧ v' ≠ .slice none 0 0) → wpList P ops Q rest (a.put o.dst v') w') :
    wpList P ops Q (o :: rest) a (w0.alloc (.cells us e)) := by
  obtain ⟨i, hi, hz0, hz1, hz2⟩ := info_parts T.info
  have hsz := hext.size
  refine wpList_append_own _ hgd s x t ho W.heap.size e i z size bytes T.und hi hz0 hz1 hz2 T.zs T.pos v n xs hs (hown.alloc _) ⟨w0.heap.size, 0, none⟩ 1 1 us.toList hx (by simp [hus]) ?_ h1 (by unfold maxLen; omega) hby (by simp; omega) ?_
  · intro j u hu
    have : (⟨w0.heap.size, 0, none⟩ : Addr).add j = ⟨w0.heap.size, j, none⟩ := by unfold Addr.add; split <;> simp_all
    rw [this]
    simp at hu
    simp only [World.cell?, heap_alloc_new]
    simpa using hu
  · intro v' w' hown' hg hv
    have hg' : w0.grownBy w' v.ownBlock := ⟨hg.os, hg.tape, hg.output, Nat.le_trans (by simp) hg.size, fun k hk hne => (hg.block k (by simp; omega) hne).trans (Below.heap_alloc _ _ _ hk)⟩
    exact h v' w' hown' (hext.of_grownBy hown (Nat.le_refl _) hg') ⟨hg', fun e => by have := hv.1 e; omega⟩

/-- append of m elements that were just built -/
theorem wpList_appN {t e : TypeId} {z : Value} {size bytes : Nat} (T : SlOf P t e z size bytes) (W w0 : World) (us : Array Value) (m : Nat) (s x : Operand) (v : Value) (n : Nat) (xs : List Value)
    (hgd : o.guard = none) (ho : o.op = .call { callee := .builtin .append, args := #[s, x], argTypes := #[t, t] })
    (hs : a.eval s = v) (hx : a.eval x = .slice (some ⟨w0.heap.size, 0, none⟩) m m) (hext : Ext W w0) (hown : w0.ownsRow W.heap.size e size v n xs)
    (hus : us.size = m * size) (h1 : ∀ u ∈ us.toList, u.oneCell' = true) (hm : 0 < m) (hlen : n + m < 1125899906842624) (hby : (n + m) * bytes ≤ 140737488355328)
    (h : ∀ v' w', w'.ownsRow W.heap.size e size v' (n + m) (xs ++ us.toList) → Ext W w' → Hid (w0.grownBy w' v.ownBlock ∧ v' ≠ .slice none 0 0) → wpList P ops Q rest (a.put o.dst v') w') :
    wpList P ops Q (o :: rest) a (w0.alloc (.cells us e)) := by
  obtain ⟨i, hi, hz0, hz1, hz2⟩ := info_parts T.info
  have hsz := hext.size
  refine wpList_append_own _ hgd s x t ho W.heap.size e i z size bytes T.und hi hz0 hz1 hz2 T.zs T.pos v n xs hs (hown.alloc _) ⟨w0.heap.size, 0, none⟩ m m us.toList hx (by simp [hus]) ?_ h1 (by unfold maxLen; omega) hby (by simp; omega) ?_
  · intro j u hu
    have : (⟨w0.heap.size, 0, none⟩ : Addr).add j = ⟨w0.heap.size, j, none⟩ := by unfold Addr.add; split <;> simp_all
    rw [this]
    simp at hu
    simp only [World.cell?, heap_alloc_new]
    simpa using hu
  · intro v' w' hown' hg hv
    have hg' : w0.grownBy w' v.ownBlock := ⟨hg.os, hg.tape, hg.output, Nat.le_trans (by simp) hg.size, fun k hk hne => (hg.block k (by simp; omega) hne).trans (Below.heap_alloc _ _ _ hk)⟩
    exact h v' w' hown' (hext.of_grownBy hown (Nat.le_refl _) hg') ⟨hg', fun e => by have := hv.1 e; omega⟩

/-- append of all of a slice that reads as the cells ys -/
theorem wpList_appAll {t e : TypeId} {z : Value} {bytes : Nat} (T : SlOf P t e z 1 bytes) (W w0 : World) (s x : Operand) (v vx : Value) (n : Nat) (xs ys : List Value)
    (hgd : o.guard = none) (ho : o.op = .call { callee := .builtin .append, args := #[s, x], argTypes := #[t, t] })
    (hs : a.eval s = v) (hx : a.eval x = vx) (hext : Ext W w0) (hown : w0.ownsRow W.heap.size e 1 v n xs) (hys : Cells w0 vx ys)
    (h1 : ∀ u ∈ ys, u.oneCell' = true) (hlen : n + ys.length < 1125899906842624) (hby : (n + ys.length) * bytes ≤ 140737488355328)
    (h : ∀ v' w', w'.ownsRow W.heap.size e 1 v' (n + ys.length) (xs ++ ys) → Ext W w' → Hid (w0.grownBy w' v.ownBlock) → wpList P ops Q rest (a.put o.dst v') w') :
    wpList P ops Q (o :: rest) a w0 := by
  obtain ⟨i, hi, hz0, hz1, hz2⟩ := info_parts T.info
  have hsz := hext.size
  obtain ⟨ax, cx, rfl, hlx, _, hn0, hcx⟩ := hys
  cases ax with
  | none =>
    have hc0 := hn0 rfl
    subst hc0
    have hl0 : ys = [] := List.eq_nil_of_length_eq_zero (by omega)
    subst hl0
    refine wpList_append_own_none hgd s x t ho W.heap.size e i 1 T.und hi v n xs hs hown hx (h v w0 (by simpa using hown) hext ?_)
    exact ⟨rfl, rfl, rfl, Nat.le_refl _, fun _ _ _ => rfl⟩
  | some ad =>
    refine wpList_append_own _ hgd s x t ho W.heap.size e i z 1 bytes T.und hi hz0 hz1 hz2 T.zs T.pos v n xs hs hown ad ys.length cx ys hx (by simp) ?_ h1 (by unfold maxLen; omega) hby (by omega) ?_
    · intro j u hu
      obtain ⟨b, off, he, hb, hc⟩ := hcx (by intro e; subst e; simp at hu)
      simp only [Option.some.injEq] at he
      subst he
      have : (⟨b, off, none⟩ : Addr).add j = ⟨b, off + j, none⟩ := by unfold Addr.add; split <;> simp_all
      rw [this]; exact hc j u hu
    · intro v' w' hown' hg hv
      exact h v' w' hown' (hext.of_grownBy hown (Nat.le_refl _) hg) hg

/-- make([]T, n) -/
theorem wpList_mk {t e : TypeId} {z : Value} {bytes : Nat} (T : SlOf P t e z 1 bytes) (w0 : World) (l c : Operand) (kl kc : IntKind) (n : Nat)
    (hgd : o.guard = none) (hop : o.op = Op.makeSlice t l c) (hl : a.eval l = .int kl n) (hc : a.eval c = .int kc n) (hz : z.cells = #[z]) (hlen : n < 1125899906842624) (hby : bytes * n ≤ 281474976710656)
    (h : ∀ w', OBlk w' w0.heap.size e (List.replicate n z) → Ext w0 w' → w0.heap.size < w'.heap.size → wpList P ops Q rest (a.put o.dst (.slice (some ⟨w0.heap.size, 0, none⟩) n n)) w') :
    wpList P ops Q (o :: rest) a w0 := by
  obtain ⟨i, hi, hz0, hz1, hz2⟩ := info_parts T.info
  refine wpList_make_full w0 hgd l c t hop w0.heap.size e i z 1 T.und hi hz0 hz1 kl kc n n n hl hc rfl rfl (by rw [hz2]; exact hby) (by unfold maxLen; omega) (Nat.le_refl _) ?_
  intro w' hown hg
  have hE : Ext w0 w' := (Ext.refl w0).grown hg (fun k hk => by cases hk)
  obtain ⟨h1, h2⟩ := hown
  rcases h2 with ⟨h2, _⟩ | ⟨g, cap, cur, hv, hb, hgg, hnc, hcm, hcs, htake⟩
  · cases h2
  · simp only [Value.slice.injEq, Option.some.injEq, Addr.mk.injEq] at hv
    obtain ⟨⟨rfl, _⟩, _, rfl⟩ := hv
    have hlist : cur.toList = List.replicate n z := by
      have hl2 : cur.toList.length = n := by simp [hcs]
      rw [List.take_of_length_le (by omega)] at htake
      rw [htake, hz]
      apply List.ext_getElem?
      intro j
      by_cases hj : j < n
      · simp [madeCells, hj, Nat.mod_one]
      · simp [madeCells, hj]
    refine h w' ?_ hE (Array.getElem?_eq_some_iff.1 hgg).1
    unfold OBlk
    rw [hgg, ← hlist]
end
end Go.Proofs.YtbpcgeanpkokkaaDoor
