/- Texts joined: Base Val Vam Van Qa Ja Jb Jc Jd Je Jg Jh Ji Jk. -/
import Derived.WalkKit
import Derived.Deep.QuietTactic
import Derived.BigQuiet
import Derived.Deep.LoopGhost
import Derived.Laws.AppendOwnNone
import Derived.Deep.RegionHeld3
import Derived.Deep.DeepCutAuto
import Derived.Test.YtfhcmibgpddggaaZb
import Derived.Test.YtfhcmibgpddggaaZc
import Derived.Test.YtfhcmibgpddggaaZc
import Derived.Test.YtfhcmibgpddggaaZd
set_option linter.all false
open Nat renaming reduceEqDiff → zn1, reduceLT → zn2, reduceLeDiff → zn3, reduceAdd → zn4, reduceMul → zn5, reduceSub → zn6, reduceBEq → zn7
open Int renaming reduceToNat → zi1, reducePow → zi2
namespace Go.Proofs.Ytfhcmibgpddggaa
open Go.RowKit
theorem hid {p : Prop} (h : p) : Hid p := h
def Ext (w w' : World) : Prop := Below w.heap.size w w'
theorem Ext.refl (w : World) : Ext w w := Below.refl _ _
theorem Ext.trans {a b c : World} (h : Ext a b) (k : Ext b c) : Ext a c := Below.trans h (Below.mono k h.size)
theorem Ext.alloc {a w : World} (h : Ext a w) (o : Obj) : Ext a (w.alloc o) := Below.alloc h h.size o
theorem Ext.drew {a w : World} (h : Ext a w) : Ext a w.drew := Below.drew h
theorem Ext.setCell {a w : World} (h : Ext a w) {p : Addr} (hp : a.heap.size ≤ p.block) (u : Value) : Ext a (w.setCell p u) := Below.setCell h hp u
theorem Ext.size {a w : World} (h : Ext a w) : a.heap.size ≤ w.heap.size := Below.size h
theorem Ext.cell {a w : World} (h : Ext a w) (b o : Nat) (hb : b < a.heap.size) : w.cell? ⟨b, o, none⟩ = a.cell? ⟨b, o, none⟩ := Below.cell (p := ⟨b, o, none⟩) h hb
theorem Ext.frozen {a w : World} (h : Ext a w) (b o : Nat) (hb : b < a.heap.size) : w.frozen? ⟨b, o, none⟩ = a.frozen? ⟨b, o, none⟩ := Below.frozen (p := ⟨b, o, none⟩) h hb
def Cells (w : World) (v : Value) (xs : List Value) : Prop :=
  ∃ a cap, v = .slice a xs.length cap ∧ xs.length ≤ cap ∧ cap ≤ maxLen ∧ (a = none → cap = 0) ∧
    (xs ≠ [] → ∃ b off, a = some ⟨b, off, none⟩ ∧ b < w.heap.size ∧ ∀ i x, xs[i]? = some x → w.cell? ⟨b, off + i, none⟩ = some x)
def u32s (l : List Nat) : List Value := l.map fun (n : Nat) => Value.int .u32 (n : Int)
@[simp] theorem u32s_length (l : List Nat) : (u32s l).length = l.length := by simp [u32s]
def U32s (w : World) (v : Value) (l : List Nat) : Prop := Cells w v (u32s l) ∧ ∀ x ∈ l, x < 4294967296
theorem U32s.open {w : World} {v : Value} {l : List Nat} (h : U32s w v l) : ∃ a cap, v = .slice a l.length cap ∧ l.length ≤ cap ∧ cap ≤ maxLen ∧ (a = none → cap = 0) ∧ (∀ x ∈ l, x < 4294967296) ∧
    (∀ i, i < l.length → ∃ b off, a = some ⟨b, off, none⟩ ∧ b < w.heap.size ∧ ∀ i, i < l.length → w.cell? ⟨b, off + i, none⟩ = some (.int .u32 (l.getD i 0 : Nat))) := by
  obtain ⟨⟨a, cap, rfl, h1, h2, h0, h3⟩, h4⟩ := h
  simp only [u32s_length] at h1 h3 ⊢
  refine ⟨a, cap, rfl, h1, h2, h0, h4, fun i hi => ?_⟩
  obtain ⟨b, off, rfl, hb, hc⟩ := h3 (by intro h; have := congrArg List.length h; simp at this; subst this; simp at hi)
  exact ⟨b, off, rfl, hb, fun i hi => hc i _ (by simp [u32s, hi])⟩
def OBlk (w : World) (g : Nat) (e : TypeId) (xs : List Value) : Prop := w.heap[g]? = some (.cells xs.toArray e (0, 0))
theorem OBlk.lt {w : World} {g : Nat} {e : TypeId} {xs : List Value} (h : OBlk w g e xs) : g < w.heap.size := (Array.getElem?_eq_some_iff.1 h).1
theorem OBlk.cell {w : World} {g : Nat} {e : TypeId} {xs : List Value} (h : OBlk w g e xs) (j : Nat) : w.cell? ⟨g, j, none⟩ = xs[j]? := by
  unfold OBlk at h; simp [World.cell?, h]
theorem OBlk.frozen {w : World} {g : Nat} {e : TypeId} {xs : List Value} (h : OBlk w g e xs) (j : Nat) : w.frozen? ⟨g, j, none⟩ = false := by
  unfold OBlk at h; simp [World.frozen?, h]
theorem OBlk.set {w : World} {g : Nat} {e : TypeId} {xs : List Value} (h : OBlk w g e xs) (j : Nat) (u : Value) : OBlk (w.setCell ⟨g, j, none⟩ u) g e (xs.set j u) := by
  unfold OBlk at h ⊢
  simp only [World.setCell, Array.getElem?_modify, if_true, h]
  simp
theorem OBlk.cells {w : World} {g : Nat} {e : TypeId} {xs : List Value} (h : OBlk w g e xs) {c : Nat} (h1 : xs.length ≤ c) (h2 : c ≤ maxLen) : Cells w (.slice (some ⟨g, 0, none⟩) xs.length c) xs :=
  ⟨_, _, rfl, h1, h2, fun h => by (cases h), fun _ => ⟨g, 0, rfl, h.lt, fun i x hx => by rw [Nat.zero_add, h.cell, hx]⟩⟩
theorem OBlk.new (w : World) (xs : List Value) (e : TypeId) : OBlk (w.alloc (.cells xs.toArray e)) w.heap.size e xs := heap_alloc_new w _
theorem OBlk.at (w : World) (xs : List Value) (e : TypeId) (g : Nat) (h : w.heap.size = g) : OBlk (w.alloc (.cells xs.toArray e)) g e xs := h ▸ OBlk.new w xs e
theorem OBlk.drew {w : World} {g : Nat} {e : TypeId} {xs : List Value} (h : OBlk w g e xs) : OBlk w.drew g e xs := h
theorem nes (n : Nat) : ¬ n = n + 1 + 1 ∧ ¬ n + 1 + 1 = n := ⟨by omega, by omega⟩
theorem OBlk.two {w : World} {g : Nat} {e : TypeId} {x y : Value} (h : OBlk w g e [x, y]) : w.cell? ⟨g, 0, none⟩ = some x ∧ w.cell? ⟨g, 1, none⟩ = some y ∧ ∀ j, w.frozen? ⟨g, j, none⟩ = false :=
  ⟨by rw [h.cell]; rfl, by rw [h.cell]; rfl, h.frozen⟩
section
variable {P : Program} {ops : Array Oper} {rest : List Oper} {o : Oper} {a : Act} {Q : Exit → Act → World → Prop}
end
end Go.Proofs.Ytfhcmibgpddggaa
namespace Go.Proofs.Ytfhcmibgpddggaa
def val : List Nat → Nat
  | [] => 0
  | x :: l => x + 4294967296 * val l
def limbs (l : List Nat) : Prop := ∀ x ∈ l, x < 4294967296
theorem limbs_cons {x : Nat} {l : List Nat} (h : limbs (x :: l)) : x < 4294967296 ∧ limbs l := ⟨h x (by simp), fun y hy => h y (by simp [hy])⟩
theorem limbs_getD {l : List Nat} (h : limbs l) (i : Nat) : l.getD i 0 < 4294967296 := by
  rw [List.getD_eq_getElem?_getD]
  by_cases hi : i < l.length
  · simp [hi]; exact h _ (List.getElem_mem hi)
  · simp [hi]
theorem val_append (a b : List Nat) : val (a ++ b) = val a + 4294967296 ^ a.length * val b := by
  induction a with
  | nil => simp [val]
  | cons x a ih => simp only [List.cons_append, val, ih, List.length_cons, Nat.pow_succ]; grind
theorem val_lt {l : List Nat} (h : limbs l) : val l < 4294967296 ^ l.length := by
  induction l with
  | nil => simp [val]
  | cons x l ih =>
    obtain ⟨hx, hl⟩ := limbs_cons h
    have := ih hl
    simp only [val, List.length_cons, Nat.pow_succ]
    omega
theorem val_take_succ {l : List Nat} {k : Nat} (h : k < l.length) : val (l.take (k + 1)) = val (l.take k) + 4294967296 ^ k * l.getD k 0 := by
  rw [List.take_succ_eq_append_getElem h, val_append]
  simp [val, h, Nat.min_eq_left (Nat.le_of_lt h)]
theorem limbs_take {l : List Nat} (h : limbs l) (k : Nat) : limbs (l.take k) := fun x hx => h x (List.mem_of_mem_take hx)
theorem limbs_drop {l : List Nat} (h : limbs l) (k : Nat) : limbs (l.drop k) := fun x hx => h x (List.mem_of_mem_drop hx)
theorem val_split (l : List Nat) (k : Nat) (h : k ≤ l.length) : val l = val (l.take k) + 4294967296 ^ k * val (l.drop k) := by
  conv => lhs; rw [← List.take_append_drop k l]
  rw [val_append]; simp [Nat.min_eq_left h]
theorem val_lt_step {a b : List Nat} {k : Nat} (ha : limbs a) (hb : limbs b) (hka : k < a.length) (hkb : k < b.length) :
    (a.getD k 0 = b.getD k 0 → (val (a.take (k + 1)) < val (b.take (k + 1)) ↔ val (a.take k) < val (b.take k))) ∧
    (a.getD k 0 ≠ b.getD k 0 → (val (a.take (k + 1)) < val (b.take (k + 1)) ↔ a.getD k 0 < b.getD k 0)) := by
  have h1 := val_lt (limbs_take ha k)
  have h2 := val_lt (limbs_take hb k)
  rw [List.length_take, Nat.min_eq_left (Nat.le_of_lt hka)] at h1
  rw [List.length_take, Nat.min_eq_left (Nat.le_of_lt hkb)] at h2
  rw [val_take_succ hka, val_take_succ hkb]
  generalize val (a.take k) = x at *
  generalize val (b.take k) = y at *
  generalize a.getD k 0 = c
  generalize b.getD k 0 = d
  generalize 4294967296 ^ k = p at *
  refine ⟨fun h => by subst h; omega, fun h => ?_⟩
  rcases Nat.lt_or_gt_of_ne h with h' | h'
  · have : p * (c + 1) ≤ p * d := Nat.mul_le_mul_left _ h'
    rw [Nat.mul_add] at this
    constructor
    · intro _; exact h'
    · intro _; omega
  · have : p * (d + 1) ≤ p * c := Nat.mul_le_mul_left _ h'
    rw [Nat.mul_add] at this
    constructor
    · intro _; omega
    · intro _; omega
def lessL (a b : List Nat) : Bool := if a.length = b.length then decide (val a < val b) else decide (a.length < b.length)
def canon (l : List Nat) : Prop := ∀ h : l ≠ [], l.getLast h ≠ 0
theorem canon_ge {l : List Nat} (h : canon l) (hn : l ≠ []) : 4294967296 ^ (l.length - 1) ≤ val l := by
  have e := List.dropLast_concat_getLast hn
  have h1 := h hn
  conv => rhs; rw [← e]
  rw [val_append]
  simp only [List.length_dropLast, val]
  have : 4294967296 ^ (l.length - 1) * 1 ≤ 4294967296 ^ (l.length - 1) * (l.getLast hn + 4294967296 * 0) := Nat.mul_le_mul_left _ (by omega)
  omega
theorem lessL_eq {a b : List Nat} (ha : limbs a) (hb : limbs b) (ca : canon a) (cb : canon b) : lessL a b = decide (val a < val b) := by
  unfold lessL
  split
  · rfl
  · rename_i hne
    have key : ∀ {a b : List Nat}, limbs a → canon b → a.length < b.length → val a < val b := by
      intro a b ha cb h
      have h1 := val_lt ha
      have h2 := canon_ge cb (by intro e; subst e; simp at h)
      have h3 : 4294967296 ^ a.length ≤ 4294967296 ^ (b.length - 1) := Nat.pow_le_pow_right (by omega) (by omega)
      omega
    rcases Nat.lt_or_gt_of_ne hne with h | h
    · simp [h, key ha cb h]
    · have := key hb ca h
      rw [Bool.eq_iff_iff]; simp; omega
theorem val_inj {a b : List Nat} (ha : limbs a) (hb : limbs b) (h : a.length = b.length) (e : val a = val b) : a = b := by
  induction a generalizing b with
  | nil => cases b with | nil => rfl | cons => simp at h
  | cons x a ih =>
    cases b with
    | nil => simp at h
    | cons y b =>
      obtain ⟨hx, ha⟩ := limbs_cons ha
      obtain ⟨hy, hb⟩ := limbs_cons hb
      simp only [val] at e
      have h1 : x = y := by omega
      have h2 : val a = val b := by omega
      rw [h1, ih ha hb (by simpa using h) h2]
theorem canon_inj {a b : List Nat} (ha : limbs a) (hb : limbs b) (ca : canon a) (cb : canon b) (e : val a = val b) : a = b := by
  have h1 := lessL_eq ha hb ca cb
  have h2 := lessL_eq hb ha cb ca
  unfold lessL at h1 h2
  have hl : a.length = b.length := by
    by_cases hl : a.length = b.length
    · exact hl
    · rw [if_neg hl] at h1
      rw [if_neg (fun h => hl h.symm)] at h2
      simp [e] at h1 h2
      omega
  exact val_inj ha hb hl e
theorem val_take_succ' (l : List Nat) (k : Nat) : val (l.take (k + 1)) = val (l.take k) + 4294967296 ^ k * l.getD k 0 := by
  by_cases h : k < l.length
  · exact val_take_succ h
  · rw [List.take_of_length_le (by omega), List.take_of_length_le (by omega)]
    simp [List.getD_eq_getElem?_getD, List.getElem?_eq_none (Nat.le_of_not_lt h)]
theorem getD_ge {l : List Nat} {k : Nat} (h : ¬ k < l.length) : l.getD k 0 = 0 := by
  simp [List.getD_eq_getElem?_getD, List.getElem?_eq_none (Nat.le_of_not_lt h)]
theorem limbs_snoc {l : List Nat} (h : limbs l) {x : Nat} (hx : x < 4294967296) : limbs (l ++ [x]) := by
  intro y hy
  rcases List.mem_append.1 hy with hy | hy
  · exact h y hy
  · simp at hy; omega
def plusInv (a b : List Nat) (k c : Nat) (l : List Nat) : Prop := l.length = k ∧ limbs l ∧ val l + 4294967296 ^ k * c = val (a.take k) + val (b.take k)
theorem plusInv.step {a b l : List Nat} {k c : Nat} (h : plusInv a b k c l) (x y : Nat) (hx : a.getD k 0 = x) (hy : b.getD k 0 = y) : plusInv a b (k + 1) ((c + x + y) / 4294967296) (l ++ [(c + x + y) % 4294967296]) := by
  obtain ⟨h1, h2, h3⟩ := h
  refine ⟨by simp [h1], limbs_snoc h2 (by omega), ?_⟩
  rw [val_take_succ', val_take_succ', val_append, hx, hy, h1, Nat.pow_succ]
  simp only [val]
  have hd := Nat.div_add_mod (c + x + y) 4294967296
  generalize 4294967296 ^ k = p at *
  generalize (c + x + y) / 4294967296 = d at *
  generalize (c + x + y) % 4294967296 = m at *
  have : p * (c + x + y) = p * (4294967296 * d + m) := by rw [hd]
  grind
theorem plusInv.done {a b l : List Nat} {k : Nat} (h : plusInv a b k 0 l) (ha : a.length ≤ k) (hb : b.length ≤ k) : val l = val a + val b := by
  obtain ⟨h1, h2, h3⟩ := h
  rw [List.take_of_length_le ha, List.take_of_length_le hb] at h3
  simpa using h3
theorem val_set {z : List Nat} {j : Nat} (h : j < z.length) (x : Nat) : val (z.set j x) + 4294967296 ^ j * z.getD j 0 = val z + 4294967296 ^ j * x := by
  induction z generalizing j with
  | nil => simp at h
  | cons y z ih =>
    cases j with
    | zero => simp [val]; omega
    | succ j =>
      have := ih (j := j) (by simpa using h)
      simp only [List.set_cons_succ, val, List.getD_cons_succ, Nat.pow_succ] at *
      grind
theorem limbs_set {z : List Nat} (h : limbs z) (j : Nat) {x : Nat} (hx : x < 4294967296) : limbs (z.set j x) := by
  intro y hy
  rcases List.mem_or_eq_of_mem_set hy with hy | rfl
  · exact h y hy
  · exact hx
theorem limbs_replicate (n : Nat) : limbs (List.replicate n 0) := by intro x hx; simp at hx; omega
theorem val_replicate (n : Nat) : val (List.replicate n 0) = 0 := by induction n with | zero => rfl | succ n ih => simp [List.replicate_succ, val, ih]
def mulInv (a b : List Nat) (i k c : Nat) (z : List Nat) : Prop :=
  z.length = a.length + b.length + 1 ∧ limbs z ∧ val z + 4294967296 ^ (i + k) * c = val (a.take i) * val b + 4294967296 ^ i * (a.getD i 0 * val (b.take k))
theorem mulInv.step {a b z : List Nat} {i k c : Nat} (h : mulInv a b i k c z) (hj : i + k < z.length) (x y t : Nat) (hx : a.getD i 0 = x) (hy : b.getD k 0 = y) (ht : z.getD (i + k) 0 = t) :
    mulInv a b i (k + 1) ((c + t + x * y) / 4294967296) (z.set (i + k) ((c + t + x * y) % 4294967296)) := by
  obtain ⟨h1, h2, h3⟩ := h
  refine ⟨by simp [h1], limbs_set h2 _ (by omega), ?_⟩
  have h4 := val_set hj ((c + t + x * y) % 4294967296)
  rw [val_take_succ', hx, hy] at *
  rw [ht] at h4
  have hd := Nat.div_add_mod (c + t + x * y) 4294967296
  rw [show i + (k + 1) = i + k + 1 from rfl, Nat.pow_succ]
  generalize hD : (c + t + x * y) / 4294967296 = d at *
  generalize hM : (c + t + x * y) % 4294967296 = m at *
  generalize val (z.set (i + k) m) = V at *
  have e1 : 4294967296 ^ (i + k) = 4294967296 ^ i * 4294967296 ^ k := Nat.pow_add _ _ _
  generalize 4294967296 ^ (i + k) = p at *
  generalize 4294967296 ^ i = q at *
  generalize 4294967296 ^ k = r at *
  subst e1
  have : q * r * (c + t + x * y) = q * r * (4294967296 * d + m) := by rw [hd]
  grind
theorem mulInv.noCarry {a b z : List Nat} {i c : Nat} (h : mulInv a b i (b.length + 1) c z) (ha : limbs a) (hb : limbs b) (hi : i < a.length) : c = 0 := by
  obtain ⟨h1, h2, h3⟩ := h
  rw [List.take_of_length_le (l := b) (by omega)] at h3
  have e : val (a.take (i + 1)) * val b = val (a.take i) * val b + 4294967296 ^ i * (a.getD i 0 * val b) := by
    rw [val_take_succ', Nat.add_mul, Nat.mul_assoc]
  have hA := val_lt (limbs_take ha (i + 1))
  have hB := val_lt hb
  rw [List.length_take, Nat.min_eq_left hi] at hA
  have hP : val (a.take (i + 1)) * val b < 4294967296 ^ (i + (b.length + 1)) := by
    rw [show i + (b.length + 1) = (i + 1) + b.length by omega, Nat.pow_add]
    exact Nat.mul_lt_mul'' hA hB
  rcases Nat.eq_zero_or_pos c with h0 | h0
  · exact h0
  · have : 4294967296 ^ (i + (b.length + 1)) * 1 ≤ 4294967296 ^ (i + (b.length + 1)) * c := Nat.mul_le_mul_left _ h0
    omega
theorem mulInv.row {a b z : List Nat} {i k : Nat} (h : mulInv a b i k 0 z) (hk : b.length ≤ k) : mulInv a b (i + 1) 0 0 z := by
  obtain ⟨h1, h2, h3⟩ := h
  refine ⟨h1, h2, ?_⟩
  rw [List.take_of_length_le (l := b) hk, Nat.mul_zero, Nat.add_zero] at h3
  rw [val_take_succ', Nat.add_mul, h3, Nat.mul_zero, List.take_zero, Nat.mul_assoc, show val [] = 0 from rfl, Nat.mul_zero, Nat.mul_zero]
theorem mulInv.done {a b z : List Nat} {i : Nat} (h : mulInv a b i 0 0 z) (hi : a.length ≤ i) : val z = val a * val b := by
  obtain ⟨h1, h2, h3⟩ := h
  rw [List.take_of_length_le (l := a) hi, Nat.mul_zero, List.take_zero, show val [] = 0 from rfl, Nat.mul_zero, Nat.mul_zero] at h3
  exact h3
def minusInv (a b : List Nat) (k c : Nat) (l : List Nat) : Prop := l.length = k ∧ limbs l ∧ val l + val (b.take k) = val (a.take k) + 4294967296 ^ k * c
theorem minusInv.step {a b l : List Nat} {k c : Nat} (h : minusInv a b k c l) (x y d c' : Nat) (hx : a.getD k 0 = x) (hy : b.getD k 0 = y) (hd : d < 4294967296) (he : (d : Int) = x - c - y + 4294967296 * c') : minusInv a b (k + 1) c' (l ++ [d]) := by
  obtain ⟨h1, h2, h3⟩ := h
  refine ⟨by simp [h1], limbs_snoc h2 hd, ?_⟩
  rw [val_take_succ', val_take_succ', val_append, hx, hy, h1, Nat.pow_succ]
  simp only [val]
  have he' : d + c + y = x + 4294967296 * c' := by omega
  generalize 4294967296 ^ k = p at *
  have : p * (d + c + y) = p * (x + 4294967296 * c') := by rw [he']
  grind
theorem minusInv.done {a b l : List Nat} {c : Nat} (h : minusInv a b a.length c l) (hc : c ≤ 1) (ha : limbs a) (hb : b.length ≤ a.length) (hab : val b ≤ val a) : val l = val a - val b := by
  obtain ⟨h1, h2, h3⟩ := h
  rw [List.take_of_length_le (Nat.le_refl _), List.take_of_length_le hb] at h3
  have h4 := val_lt h2
  rw [h1] at h4
  have h5 := val_lt ha
  have : c = 0 := by
    rcases Nat.lt_or_ge c 1 with hh | hh
    · omega
    · have : c = 1 := by omega
      subst this
      omega
  subst this
  omega
def sgn (neg : Bool) (m : Nat) : Int := if neg then -(m : Int) else m
def Fits (K : Nat) (n : Int) : Prop := n.natAbs < 4294967296 ^ K
theorem Fits.mono {K L : Nat} {n : Int} (h : Fits K n) (hl : K ≤ L) : Fits L n := Nat.lt_of_lt_of_le h (Nat.pow_le_pow_right (by omega) hl)
theorem Fits.neg {K : Nat} {n : Int} (h : Fits K n) : Fits K (-n) := by unfold Fits at *; rwa [Int.natAbs_neg]
theorem Fits.add {K : Nat} {a b : Int} (ha : Fits K a) (hb : Fits K b) : Fits (K + 1) (a + b) := by
  unfold Fits at *; rw [Nat.pow_succ]; generalize 4294967296 ^ K = p at *; omega
theorem Fits.sub {K : Nat} {a b : Int} (ha : Fits K a) (hb : Fits K b) : Fits (K + 1) (a - b) := by
  have := Fits.add ha hb.neg; rwa [← Int.sub_eq_add_neg] at this
theorem Fits.mul {K L : Nat} {a b : Int} (ha : Fits K a) (hb : Fits L b) : Fits (K + L) (a * b) := by
  unfold Fits at *; rw [Int.natAbs_mul, Nat.pow_add]; exact Nat.mul_lt_mul'' ha hb
theorem canon_len {l : List Nat} {K : Nat} (hc : canon l) (h : val l < 4294967296 ^ K) : l.length ≤ K := by
  by_cases hn : l = []
  · subst hn; simp
  · have h1 := canon_ge hc hn
    by_cases hk : l.length ≤ K
    · exact hk
    · have h2 : 4294967296 ^ K ≤ 4294967296 ^ (l.length - 1) := Nat.pow_le_pow_right (by omega) (by omega)
      omega
end Go.Proofs.Ytfhcmibgpddggaa
namespace Go.Proofs.Ytfhcmibgpddggaa
theorem drop_cons {l : List Nat} {k : Nat} (h : k < l.length) : l.drop k = l.getD k 0 :: l.drop (k + 1) := by
  rw [List.drop_eq_getElem_cons h, List.getD_eq_getElem?_getD, List.getElem?_eq_getElem h]; rfl
theorem drop_set_cons {l : List Nat} {k x : Nat} (h : k < l.length) : (l.set k x).drop k = x :: l.drop (k + 1) := by
  rw [List.drop_eq_getElem_cons (by simpa using h)]
  simp [List.drop_set]
def shortInv (a : List Nat) (d k r : Nat) (z : List Nat) : Prop := z.length = a.length ∧ limbs z ∧ r < d ∧ val (a.drop k) = val (z.drop k) * d + r
theorem shortInv.step {a z : List Nat} {d k r x : Nat} (h : shortInv a d (k + 1) r z) (hk : k < a.length) (hx : a.getD k 0 = x) (hx2 : x < 4294967296) : shortInv a d k ((r * 4294967296 + x) % d) (z.set k ((r * 4294967296 + x) / d)) ∧ (r * 4294967296 + x) / d < 4294967296 := by
  obtain ⟨h1, h2, h3, h4⟩ := h
  have hq : (r * 4294967296 + x) / d < 4294967296 := by
    rw [Nat.div_lt_iff_lt_mul (by omega)]
    have : (r + 1) * 4294967296 ≤ d * 4294967296 := Nat.mul_le_mul_right _ h3
    rw [Nat.mul_comm 4294967296 d]; omega
  refine ⟨⟨by simp [h1], limbs_set h2 _ hq, Nat.mod_lt _ (by omega), ?_⟩, hq⟩
  rw [drop_cons hk, drop_set_cons (by omega), hx]
  simp only [val]
  rw [h4]
  have hd := Nat.div_add_mod (r * 4294967296 + x) d
  generalize (r * 4294967296 + x) / d = q at *
  generalize (r * 4294967296 + x) % d = m at *
  grind
theorem shortInv.done {a z : List Nat} {d r : Nat} (h : shortInv a d 0 r z) : val z = val a / d ∧ r = val a % d := by
  obtain ⟨h1, h2, h3, h4⟩ := h
  simp only [List.drop_zero] at h4
  rw [h4, Nat.mul_comm]
  exact ⟨by rw [Nat.mul_add_div (by omega), Nat.div_eq_of_lt h3]; rfl, by rw [Nat.mul_add_mod, Nat.mod_eq_of_lt h3]⟩
theorem val_one (x : Nat) : val [x] = x := by simp [val]
theorem limbs_one {x : Nat} (h : x < 4294967296) : limbs [x] := by intro y hy; simp at hy; omega
def divInv (A D R q : Nat) : Prop := A = R + q * D
theorem divInv.step {A D R q e : Nat} (h : divInv A D R q) (he : e * D ≤ R) : divInv A D (R - e * D) (q + e) := by
  unfold divInv at *; rw [Nat.add_mul]; omega
theorem divInv.done {a b s R q : Nat} (h : divInv (a * s) (b * s) R q) (hs : 0 < s) (hb : 0 < b) (hR : R < b * s) : q = a / b ∧ R / s = a % b := by
  unfold divInv at h
  have h1 : a * s / (b * s) = q := by
    rw [h, Nat.add_mul_div_right _ _ (Nat.mul_pos hb hs), Nat.div_eq_of_lt hR, Nat.zero_add]
  have h2 : a * s % (b * s) = R := by
    rw [h, Nat.add_mul_mod_self_right, Nat.mod_eq_of_lt hR]
  rw [Nat.mul_div_mul_right _ _ hs] at h1
  rw [Nat.mul_mod_mul_right] at h2
  refine ⟨h1.symm, ?_⟩
  rw [← h2, Nat.mul_div_cancel _ hs]
end Go.Proofs.Ytfhcmibgpddggaa
namespace Go.Proofs.Ytfhcmibgpddggaa
open Go.RowKit
theorem val_take_set {z : List Nat} {i y : Nat} (h : i < z.length) : val ((z.set i y).take (i + 1)) = val (z.take i) + 4294967296 ^ i * y := by
  rw [val_take_succ', List.take_set_of_le (Nat.le_refl _)]
  congr 2
  simp [List.getD_eq_getElem?_getD, h]
theorem val_take_all (z : List Nat) {n : Nat} (h : z.length ≤ n) : val (z.take n) = val z := by rw [List.take_of_length_le h]
theorem val_snoc_set {z : List Nat} {n y : Nat} (h : z.length = n + 1) : val (z.set n y) = val (z.take n) + 4294967296 ^ n * y := by
  rw [← val_take_set (by omega), val_take_all]; simp; omega
theorem val_last {z : List Nat} {n : Nat} (h : z.length = n + 1) : val z = val (z.take n) + 4294967296 ^ n * z.getD n 0 := by
  rw [← val_take_succ', val_take_all]; omega
theorem drop_set_ge {z : List Nat} {i j y : Nat} (h : i < j) : (z.set i y).drop j = z.drop j := List.drop_set_of_lt h
theorem drop_next {u z : List Nat} {i : Nat} (h : z.drop i = u.drop i) : z.drop (i + 1) = u.drop (i + 1) := by
  rw [← List.drop_drop, ← List.drop_drop, h]
def shiftInv (x : List Nat) (p i c : Nat) (z : List Nat) : Prop := z.length = x.length + 1 ∧ limbs z ∧ c < p ∧ val (z.take i) + 4294967296 ^ i * c = val (x.take i) * p
theorem shiftInv.step {x z : List Nat} {p i c d w : Nat} (h : shiftInv x p i c z) (hi : i < x.length) (hd : x.getD i 0 = d) (hd2 : d < 4294967296) (hw : w = c + d * p) (hp : p ≤ 4294967296) : shiftInv x p (i + 1) (w / 4294967296) (z.set i (w % 4294967296)) ∧ w < 4294967296 * p := by
  obtain ⟨h1, h2, h3, h4⟩ := h
  have hlt : w < 4294967296 * p := by
    have : d * p ≤ 4294967295 * p := Nat.mul_le_mul_right _ (by omega)
    omega
  refine ⟨⟨by simp [h1], limbs_set h2 _ (by omega), Nat.div_lt_of_lt_mul hlt, ?_⟩, hlt⟩
  rw [val_take_set (by omega), val_take_succ', hd, Nat.pow_succ, Nat.add_mul, ← h4, Nat.mul_assoc]
  have e : 4294967296 ^ i * w = 4294967296 ^ i * (w % 4294967296) + 4294967296 ^ i * (4294967296 * (w / 4294967296)) := by
    rw [← Nat.mul_add]; congr 1; omega
  have e2 : 4294967296 ^ i * w = 4294967296 ^ i * c + 4294967296 ^ i * (d * p) := by rw [hw, Nat.mul_add]
  rw [Nat.mul_assoc]
  omega
theorem shiftInv.done {x z : List Nat} {p c : Nat} (h : shiftInv x p x.length c z) : val (z.set x.length c) = val x * p := by
  obtain ⟨h1, h2, h3, h4⟩ := h
  rw [val_snoc_set h1, h4, List.take_length]
def msInv (u v : List Nat) (q i br c : Nat) (z : List Nat) : Prop :=
  z.length = u.length ∧ limbs z ∧ br ≤ 1 ∧ c < 4294967296 ∧ z.drop i = u.drop i ∧ val (z.take i) + q * val (v.take i) = val (u.take i) + 4294967296 ^ i * (c + br)
theorem msInv.step {u v z : List Nat} {q i br c e y w d br' : Nat} (h : msInv u v q i br c z) (hi : i < u.length) (he : v.getD i 0 = e) (hy : u.getD i 0 = y) (he2 : e < 4294967296) (hy2 : y < 4294967296) (hq : q < 4294967296)
    (hw : w = c + q * e) (hd : d < 4294967296) (hb : br' ≤ 1) (hdd : d + w % 4294967296 + br = y + 4294967296 * br') : msInv u v q (i + 1) br' (w / 4294967296) (z.set i d) ∧ w < 18446744073709551616 := by
  obtain ⟨h1, h2, h3, h4, h5, h6⟩ := h
  have hp : q * e ≤ 4294967295 * 4294967295 := Nat.mul_le_mul (by omega) (by omega)
  refine ⟨⟨by simp [h1], limbs_set h2 _ hd, hb, by omega, ?_, ?_⟩, by omega⟩
  · rw [drop_set_ge (by omega)]; exact drop_next h5
  · rw [val_take_set (by omega), val_take_succ', val_take_succ', he, hy, Nat.pow_succ]
    have a1 : q * (val (v.take i) + 4294967296 ^ i * e) = q * val (v.take i) + 4294967296 ^ i * (q * e) := by rw [Nat.mul_add]; ac_rfl
    have a2 : 4294967296 ^ i * 4294967296 * (w / 4294967296 + br') = 4294967296 ^ i * (4294967296 * (w / 4294967296)) + 4294967296 ^ i * (4294967296 * br') := by rw [Nat.mul_add]; ac_rfl
    have a3 : 4294967296 ^ i * (d + w % 4294967296 + br) = 4294967296 ^ i * (y + 4294967296 * br') := by rw [hdd]
    have a4 : 4294967296 ^ i * w = 4294967296 ^ i * (w % 4294967296) + 4294967296 ^ i * (4294967296 * (w / 4294967296)) := by rw [← Nat.mul_add]; congr 1; omega
    have a5 : 4294967296 ^ i * w = 4294967296 ^ i * c + 4294967296 ^ i * (q * e) := by rw [hw, Nat.mul_add]
    rw [a1, a2]
    rw [Nat.mul_add, Nat.mul_add, Nat.mul_add] at a3
    rw [Nat.mul_add] at h6
    omega
def abInv (u v : List Nat) (i c : Nat) (z : List Nat) : Prop := z.length = u.length ∧ limbs z ∧ c < 4294967296 ∧ z.drop i = u.drop i ∧ val (z.take i) + 4294967296 ^ i * c = val (u.take i) + val (v.take i)
theorem abInv.step {u v z : List Nat} {i c e y w : Nat} (h : abInv u v i c z) (hi : i < u.length) (he : v.getD i 0 = e) (hy : u.getD i 0 = y) (he2 : e < 4294967296) (hy2 : y < 4294967296) (hw : w = c + (y + e)) :
    abInv u v (i + 1) (w / 4294967296) (z.set i (w % 4294967296)) := by
  obtain ⟨h1, h2, h3, h4, h5⟩ := h
  refine ⟨by simp [h1], limbs_set h2 _ (by omega), by omega, ?_, ?_⟩
  · rw [drop_set_ge (by omega)]; exact drop_next h4
  · rw [val_take_set (by omega), val_take_succ', val_take_succ', he, hy, Nat.pow_succ]
    have a2 : 4294967296 ^ i * 4294967296 * (w / 4294967296) = 4294967296 ^ i * (4294967296 * (w / 4294967296)) := by ac_rfl
    have a4 : 4294967296 ^ i * w = 4294967296 ^ i * (w % 4294967296) + 4294967296 ^ i * (4294967296 * (w / 4294967296)) := by rw [← Nat.mul_add]; congr 1; omega
    have a5 : 4294967296 ^ i * w = 4294967296 ^ i * c + (4294967296 ^ i * y + 4294967296 ^ i * e) := by rw [hw, Nat.mul_add, Nat.mul_add]
    rw [a2]
    omega
def dvInv (X V n k : Nat) (Z q : List Nat) : Prop := limbs Z ∧ limbs q ∧ Z.length = q.length + n ∧ k ≤ q.length ∧ val (Z.drop k) < V ∧ val Z + 4294967296 ^ k * val (q.drop k) * V = X
theorem dvInv.seg {X V n j : Nat} {Z q : List Nat} (h : dvInv X V n (j + 1) Z q) (hV : V < 4294967296 ^ n) :
    val (Z.drop (j + (n + 1))) = 0 ∧ val ((Z.drop j).take (n + 1)) = val (Z.drop j) ∧ val ((Z.drop j).take (n + 1)) < 4294967296 * V := by
  obtain ⟨h1, h2, h3, h4, h5, h6⟩ := h
  have hlen : (Z.drop (j + 1)).length ≥ n := by simp; omega
  have hs := val_split (Z.drop (j + 1)) n (by omega)
  rw [List.drop_drop] at hs
  have hz : val (Z.drop (j + 1 + n)) = 0 := by
    rcases Nat.eq_zero_or_pos (val (Z.drop (j + 1 + n))) with e | e
    · exact e
    · have := Nat.mul_le_mul_left (4294967296 ^ n) e
      omega
  have e : j + 1 + n = j + (n + 1) := by omega
  rw [e] at hz
  have hs2 := val_split (Z.drop j) (n + 1) (by simp; omega)
  rw [List.drop_drop, hz, Nat.mul_zero, Nat.add_zero] at hs2
  refine ⟨hz, hs2.symm, ?_⟩
  rw [← hs2, drop_cons (by omega : j < Z.length)]
  have := limbs_getD h1 j
  simp only [val]
  have : 4294967296 * (val (Z.drop (j + 1)) + 1) ≤ 4294967296 * V := Nat.mul_le_mul_left _ h5
  omega
theorem dvInv.step {X V n j : Nat} {Z q z : List Nat} (h : dvInv X V n (j + 1) Z q) (hV : V < 4294967296 ^ n) (h0 : 0 < V) (hz : limbs z) (hzl : z.length = n + 1) (hv : val z = val ((Z.drop j).take (n + 1)) % V) :
    dvInv X V n j (Z.take j ++ (z ++ Z.drop (j + (n + 1)))) (q.set j (val ((Z.drop j).take (n + 1)) / V)) := by
  obtain ⟨s1, s2, s3⟩ := h.seg hV
  obtain ⟨h1, h2, h3, h4, h5, h6⟩ := h
  have hq : val ((Z.drop j).take (n + 1)) / V < 4294967296 := Nat.div_lt_of_lt_mul (by rw [Nat.mul_comm]; exact s3)
  generalize hU : val ((Z.drop j).take (n + 1)) = U at *
  have hl1 : (Z.take j).length = j := by simp; omega
  have hd : (Z.take j ++ (z ++ Z.drop (j + (n + 1)))).drop j = z ++ Z.drop (j + (n + 1)) := by
    rw [List.drop_append, hl1, Nat.sub_self, List.drop_eq_nil_of_le (by omega)]; rfl
  have hvz : val (z ++ Z.drop (j + (n + 1))) = U % V := by rw [val_append, s1, hv]; omega
  refine ⟨?_, limbs_set h2 _ hq, ?_, by simp; omega, ?_, ?_⟩
  · intro x hx
    rcases List.mem_append.1 hx with hx | hx
    · exact limbs_take h1 _ x hx
    · rcases List.mem_append.1 hx with hx | hx
      · exact hz x hx
      · exact limbs_drop h1 _ x hx
  · simp; omega
  · rw [hd, hvz]; exact Nat.mod_lt _ h0
  · rw [val_append, hl1, hvz, drop_set_cons (by omega)]
    simp only [val]
    have hZ := val_split Z j (by omega)
    rw [← s2] at hZ
    rw [hZ, Nat.pow_succ] at h6
    have hdm := Nat.div_add_mod U V
    have a1 : 4294967296 ^ j * (U / V + 4294967296 * val (q.drop (j + 1))) * V = 4294967296 ^ j * (V * (U / V)) + 4294967296 ^ j * 4294967296 * val (q.drop (j + 1)) * V := by
      rw [Nat.mul_add, Nat.add_mul]; ac_rfl
    have a2 : 4294967296 ^ j * U = 4294967296 ^ j * (V * (U / V)) + 4294967296 ^ j * (U % V) := by rw [← Nat.mul_add, hdm]
    rw [a1]
    omega
theorem dvInv.done {x y p n : Nat} {Z q : List Nat} (h : dvInv (x * p) (y * p) n 0 Z q) (hp : 0 < p) (hy : 0 < y) : val q = x / y ∧ val Z / p = x % y := by
  obtain ⟨_, _, _, _, h5, h6⟩ := h
  rw [List.drop_zero] at h5 h6
  simp only [Nat.pow_zero, Nat.one_mul] at h6
  exact divInv.done (h6.symm : divInv (x * p) (y * p) (val Z) (val q)) hp hy h5
end Go.Proofs.Ytfhcmibgpddggaa
namespace Go.Proofs.Ytfhcmibgpddggaa
open Go.RowKit
theorem clone_s (cs : List V) (hc : cs.all clo = true) (h1 : cs.all V.one = true) (hn : cs.length ≤ 1000000000) : Spec Try.prog 36 [.im cs cs.length] (.im cs cs.length) := by
  refine Spec.run Try.func36 rfl Try.ntmps36 (by simp) (by simp (disch := omega) only [go_sem]; rfl) fun B hB => ?_
  (repeat (first | refine DO.nil (by kernel_rfl) ?_ | (with_reducible refine SC.condB (by simp (disch := omega) only [go_sem, ↓reduceIte, zn1, zn2, zn3, zn4, zn5, zn6, reduceCtorEq, zn7, zi1, zi2, if_pos, if_neg]; rfl) ?_; first | with_reducible refine pickT ?_ | with_reducible refine pickF ?_) | (with_reducible first | apply oz1 | apply oz2 | apply oz3 | apply oz4 | apply oz5 | apply oz6 | apply oz7 | apply oz8 | apply oz9 | apply ozb | apply ozc | apply oze | apply ozf | apply ozg | apply ozh | apply ozi | apply ozj | apply ozk | refine ozd (by decide) ?_) | ((with_reducible apply SC.region); (focus (simp (disch := omega) only [go_sem, ↓reduceIte, reduceCtorEq]; rfl))) | (with_reducible refine SC.draw Tab.mixed rfl ?_; (repeat (refine DO.run (by simp (disch := omega) only [go_sem, ↓reduceIte, zn1, zn2, zn3, zn4, zn5, zn6, reduceCtorEq, zn7, zi1, zi2, if_pos, if_neg]; rfl) ?_)); refine DO.nil (by kernel_rfl) ?_)))
  refine SC.ops ?_
  refine SO.run (by simp (disch := omega) only [go_sem, ↓reduceIte, reduceCtorEq]; rfl) ?_
  by_cases h0 : cs.length = 0
  · have hnil : cs = [] := List.eq_nil_of_length_eq_zero h0
    subst hnil
    refine SO.nilq (by simp (disch := omega) only [go_sem]) (by simp (disch := omega) only [go_sem, ↓reduceIte]; rfl) (by simp (disch := omega) only [go_sem]) ⟨by simp (disch := omega) only [go_sem], by simp (disch := omega) only [go_sem]⟩ fun b => ?_
    cases b
    · (repeat (first | refine DO.nil (by kernel_rfl) ?_ | (with_reducible refine SC.condB (by simp (disch := omega) only [go_sem, ↓reduceIte]; rfl) ?_; first | with_reducible refine pickT ?_ | with_reducible refine pickF ?_) | (with_reducible first | apply oz1 | apply oz2 | apply oz3 | apply oz4 | apply oz5 | apply oz6 | apply oz7 | apply oz8 | apply oz9 | apply ozb | apply ozc | apply oze | apply ozf | apply ozg | apply ozh | apply ozi | apply ozj | apply ozk | refine ozd (by decide) ?_) | ((with_reducible apply SC.region); (focus (simp (disch := omega) only [go_sem, ↓reduceIte, zn1, zn2, zn3, zn4, reduceCtorEq]; rfl))) | (with_reducible refine SC.draw Tab.mixed rfl ?_; (repeat (refine DO.run (by simp (disch := omega) only [go_sem, ↓reduceIte, zn1, zn2, zn3, zn4, zn5, zn6, reduceCtorEq, zn7, zi1, zi2, if_pos, if_neg]; rfl) ?_)); refine DO.nil (by kernel_rfl) ?_)))
      exact retQ_ret Try.results36 (by simp (disch := omega) only [go_sem, ↓reduceIte]; rfl) (by simp (disch := omega) only [go_sem, ↓reduceIte, zn3]; rfl) rfl
    · (repeat (first | refine DO.nil (by kernel_rfl) ?_ | (with_reducible refine SC.condB (by simp (disch := omega) only [go_sem, ↓reduceIte]; rfl) ?_; first | with_reducible refine pickT ?_ | with_reducible refine pickF ?_) | (with_reducible first | apply oz1 | apply oz2 | apply oz3 | apply oz4 | apply oz5 | apply oz6 | apply oz7 | apply oz8 | apply oz9 | apply ozb | apply ozc | apply oze | apply ozf | apply ozg | apply ozh | apply ozi | apply ozj | apply ozk | refine ozd (by decide) ?_) | ((with_reducible apply SC.region); (focus (simp (disch := omega) only [go_sem, ↓reduceIte]; rfl))) | (with_reducible refine SC.draw Tab.mixed rfl ?_; (repeat (refine DO.run (by simp (disch := omega) only [go_sem, ↓reduceIte, zn1, zn2, zn3, zn4, zn5, zn6, reduceCtorEq, zn7, zi1, zi2, if_pos, if_neg]; rfl) ?_)); refine DO.nil (by kernel_rfl) ?_)))
      exact retQ_ret Try.results36 (by simp (disch := omega) only [go_sem, ↓reduceIte]; rfl) (by simp (disch := omega) only [go_sem]; rfl) rfl
  · (repeat (refine SO.run (by simp (disch := omega) only [go_sem, ↓reduceIte, if_pos]; rfl) ?_))
    (repeat (first | refine DO.nil (by kernel_rfl) ?_ | (with_reducible refine SC.condB (by simp (disch := omega) only [go_sem, ↓reduceIte]; rfl) ?_; first | with_reducible refine pickT ?_ | with_reducible refine pickF ?_) | (with_reducible first | apply oz1 | apply oz2 | apply oz3 | apply oz4 | apply oz5 | apply oz6 | apply oz7 | apply oz8 | apply oz9 | apply ozb | apply ozc | apply oze | apply ozf | apply ozg | apply ozh | apply ozi | apply ozj | apply ozk | refine ozd (by decide) ?_) | ((with_reducible apply SC.region); (focus (simp (disch := omega) only [go_sem, ↓reduceIte, zn1, zn2, zn3, zn4, reduceCtorEq, if_pos, h1]; rfl))) | (with_reducible refine SC.draw Tab.mixed rfl ?_; (repeat (refine DO.run (by simp (disch := omega) only [go_sem, ↓reduceIte, zn1, zn2, zn3, zn4, zn5, zn6, reduceCtorEq, zn7, zi1, zi2, if_pos, if_neg, h1]; rfl) ?_)); refine DO.nil (by kernel_rfl) ?_)))
    exact retQ_ret Try.results36 (by simp (disch := omega) only [go_sem, ↓reduceIte]; rfl) (by simp (disch := omega) only [go_sem, ↓reduceIte, if_pos, hc, List.take_length]; rfl) rfl
end Go.Proofs.Ytfhcmibgpddggaa
namespace Go.Proofs.Ytfhcmibgpddggaa
open Go.RowKit
def lv (l : List Nat) : List V := l.map fun (n : Nat) => .sc (.int .u32 (n : Int))
theorem lv_len (l : List Nat) : (lv l).length = l.length := by simp [lv]
theorem lv_get {l : List Nat} {i : Nat} (h : i < l.length) : (lv l)[i]? = some (.sc (.int .u32 (l.getD i 0 : Nat))) := by
  simp [lv, h]
theorem lv_take (l : List Nat) (k : Nat) : (lv l).take k = lv (l.take k) := by simp [lv]
theorem lv_all (l : List Nat) : (lv l).all V.one = true := by simp [lv, V.one, Value.oneCell']
theorem lv_clo (l : List Nat) : (lv l).all clo = true := by simp [lv, clo]
def sv (l : List Nat) : V := .im (lv l) l.length
def digs : Nat → Nat → List Nat
  | 0, _ => []
  | f + 1, n => if n = 0 then [] else n % 4294967296 :: digs f (n / 4294967296)
def limbsOf (n : Nat) : List Nat := digs (n + 1) n
def iv (z : Int) : V := .ag [.sc (.bool (decide (z < 0))), sv (limbsOf z.natAbs)]
theorem canon_cons {x : Nat} {r : List Nat} (h1 : r = [] → x ≠ 0) (h2 : canon r) : canon (x :: r) := by
  intro hn
  cases r with
  | nil => simpa using h1 rfl
  | cons a r => rw [List.getLast_cons (by simp)]; exact h2 (by simp)
theorem digs_spec : ∀ (f n : Nat), n < f → val (digs f n) = n ∧ limbs (digs f n) ∧ canon (digs f n)
  | 0, n, h => by omega
  | f + 1, n, h => by
    simp only [digs]
    split
    · rename_i h0; subst h0
      exact ⟨rfl, fun x hx => (by simp at hx), fun hn => absurd rfl hn⟩
    · rename_i h0
      obtain ⟨h1, h2, h3⟩ := digs_spec f (n / 4294967296) (by omega)
      refine ⟨?_, ?_, ?_⟩
      · show n % 4294967296 + 4294967296 * val (digs f (n / 4294967296)) = n
        rw [h1]; omega
      · intro x hx
        rcases List.mem_cons.1 hx with rfl | hx
        · omega
        · exact h2 x hx
      · refine canon_cons (fun e => ?_) h3
        rw [e] at h1
        have : n / 4294967296 = 0 := h1.symm
        omega
theorem limbsOf_val (n : Nat) : val (limbsOf n) = n := (digs_spec _ _ (Nat.lt_succ_self _)).1
theorem limbsOf_limbs (n : Nat) : limbs (limbsOf n) := (digs_spec _ _ (Nat.lt_succ_self _)).2.1
theorem limbsOf_canon (n : Nat) : canon (limbsOf n) := (digs_spec _ _ (Nat.lt_succ_self _)).2.2
theorem limbsOf_eq {l : List Nat} (h : limbs l) (hc : canon l) : limbsOf (val l) = l := canon_inj (limbsOf_limbs _) h (limbsOf_canon _) hc (limbsOf_val _)
theorem limbsOf_zero : limbsOf 0 = [] := rfl
theorem limbsOf_nil {n : Nat} : limbsOf n = [] ↔ n = 0 := ⟨fun h => by have := limbsOf_val n; rw [h] at this; exact this.symm, fun h => by subst h; rfl⟩
theorem val_take_zeros {l : List Nat} {k : Nat} (h : ∀ i, k ≤ i → l.getD i 0 = 0) : val (l.take k) = val l := by
  have key : ∀ m : List Nat, (∀ i, m.getD i 0 = 0) → val m = 0 := by
    intro m
    induction m with
    | nil => intro _; rfl
    | cons x r ih =>
      intro hm
      have h0 := hm 0
      simp at h0
      have := ih (fun i => by simpa using hm (i + 1))
      simp [val, h0, this]
  rcases Nat.le_total k l.length with hk | hk
  · rw [val_split l k hk, key (l.drop k) (fun i => by have := h (k + i) (by omega); simpa [List.getD_eq_getElem?_getD] using this)]; simp
  · rw [List.take_of_length_le hk]
theorem made_tree {l : List Nat} {k : Nat} {neg : Bool} (hl : limbs l) (h : ∀ i, k ≤ i → l.getD i 0 = 0) (hk : k ≤ l.length) (h0 : k ≠ 0 → l.getD (k - 1) 0 ≠ 0) : limbsOf (sgn neg (val l)).natAbs = l.take k ∧ decide (sgn neg (val l) < 0) = (neg && decide (0 < k)) := by
  have hv := val_take_zeros h
  have hc : canon (l.take k) := by
    intro hn
    have hk0 : k ≠ 0 := by intro e; subst e; simp at hn
    rw [List.getLast_eq_getElem]
    have := h0 hk0
    simp only [List.length_take, Nat.min_eq_left hk, List.getElem_take]
    rwa [List.getD_eq_getElem?_getD, List.getElem?_eq_getElem (by omega)] at this
  have hn : (sgn neg (val l)).natAbs = val l := by unfold sgn; cases neg <;> simp
  refine ⟨by rw [hn, ← hv]; exact limbsOf_eq (limbs_take hl k) hc, ?_⟩
  have hz : val l = 0 ↔ k = 0 := by
    rw [← hv]
    constructor
    · intro e
      have := limbsOf_eq (limbs_take hl k) hc
      rw [e, limbsOf_zero] at this
      have := congrArg List.length this
      simp at this
      omega
    · intro e; subst e; rfl
  unfold sgn
  cases neg with
  | false => simp
  | true =>
    simp only [if_true, Bool.true_and]
    by_cases hk0 : k = 0
    · have := hz.2 hk0; simp [this, hk0]
    · have : val l ≠ 0 := fun e => hk0 (hz.1 e)
      simp; omega
end Go.Proofs.Ytfhcmibgpddggaa
namespace Go.Proofs.Ytfhcmibgpddggaa
open Go.RowKit
theorem made_i (l : List Nat) (neg : Bool) (hl : limbs l) (hm : l.length ≤ 1000000000) : Spec Try.prog 58 [sv l, .sc (.bool neg)] (iv (sgn neg (val l))) := by
  unfold sv
  refine Spec.run Try.func58 rfl Try.ntmps58 (by simp) (by simp (disch := omega) only [go_sem, zn4]; rfl) fun B hB => ?_
  (repeat (first | (with_reducible first | apply oz1 | apply oz2 | apply oz3 | apply oz4 | apply oz5 | apply oz6 | apply oz7 | apply oz8 | apply oz9 | apply ozb | apply ozc | apply oze | apply ozf | apply ozg | apply ozh | apply ozi | apply ozj | apply ozk | refine ozd (by decide) ?_) | ((with_reducible apply SC.region); (focus (simp (disch := omega) only [go_sem, ↓reduceIte, reduceCtorEq]; rfl))) | (with_reducible refine SC.draw Tab.mixed rfl ?_; (repeat (refine DO.run (by simp (disch := omega) only [go_sem, ↓reduceIte, zn1, zn2, zn3, zn4, zn5, zn6, reduceCtorEq, zn7, zi1, zi2, if_pos, if_neg]; rfl) ?_)); refine DO.nil (by kernel_rfl) ?_)))
  refine SC.loop (fun k : Nat => ⟨[(0, .im (lv l) l.length), (1, .sc (.bool neg)), (4, .pt 0 0), (5, .sc (.int .i64 k))], [(0, ⟨54, [.sc (.bool false), .sc (.slice none 0 0)], false⟩)], 1, 31⟩)
    (fun k => k ≤ l.length ∧ ∀ i, k ≤ i → l.getD i 0 = 0) (fun k => k) l.length ?_ ?_ ?_
  · (refine Le.of [] hB (by first | exact ⟨Nat.zero_le _, fun _ _ => Nat.zero_le _⟩ | (constructor <;> (try simp) <;> (try omega))) ?_ ?_ <;> (repeat' (first | exact leSl_nil | exact leHp_nil | refine leSl_cons (by simp (disch := omega) only [go_sem, ↓reduceIte, zn1, reduceCtorEq]; rfl) ?_ ?_ | refine leHp_cons (by simp (disch := omega) only [go_sem, ↓reduceIte]; rfl) ?_ ?_ | exact VLe.junk _ | exact VLe.refl rfl | exact VLe.nil_sl _ _ _ | exact VLe.int (by first | rfl | omega | (dsimp only; omega)) | exact VLe.bool rfl | exact VLe.sl rfl (by first | rfl | omega | (dsimp only; omega) | (simp; done)) | exact VLe.cap rfl (by first | rfl | omega | (dsimp only; omega) | (simp; done)) | exact VLe.im rfl rfl | exact HLe.new rfl | exact HLe.same rfl (LLe.refl rfl) | refine HLe.same rfl ?_ | exact LLe.nil _ | exact LLe.refl rfl | refine LLe.cons ?_ ?_)))
  · exact ⟨Nat.le_refl _, fun i hi => by simp [hi]⟩
  · rintro k ⟨hk, hz⟩ K hK
    have hlen : (l.take k).length = k := by simp; omega
    have h3 : k = 0 ∨ (k ≠ 0 ∧ l.getD (k - 1) 0 ≠ 0) ∨ (k ≠ 0 ∧ l.getD (k - 1) 0 = 0) := by omega
    rcases h3 with h0 | ⟨h0, hx⟩ | ⟨h0, hx⟩
    · subst h0
      (repeat (first | (with_reducible first | apply oz1 | apply oz2 | apply oz3 | apply oz4 | apply oz5 | apply oz6 | apply oz7 | apply oz8 | apply oz9 | apply ozb | apply ozc | apply oze | apply ozf | apply ozg | apply ozh | apply ozi | apply ozj | apply ozk | refine ozd (by decide) ?_) | ((with_reducible apply SC.region); (focus (simp (disch := omega) only [go_sem, ↓reduceIte, zn1, reduceCtorEq]; rfl))) | (with_reducible refine SC.draw Tab.mixed rfl ?_; (repeat (refine DO.run (by simp (disch := omega) only [go_sem, ↓reduceIte, zn1, zn2, zn3, zn4, zn5, zn6, reduceCtorEq, zn7, zi1, zi2, if_pos, if_neg]; rfl) ?_)); refine DO.nil (by kernel_rfl) ?_)))
      refine SC.cond (by simp (disch := omega) only [go_sem, ↓reduceIte, if_neg]; rfl) ?_ ?_
      · intro h; cases h
      intro _
      (repeat (first | (with_reducible first | apply oz1 | apply oz2 | apply oz3 | apply oz4 | apply oz5 | apply oz6 | apply oz7 | apply oz8 | apply oz9 | apply ozb | apply ozc | apply oze | apply ozf | apply ozg | apply ozh | apply ozi | apply ozj | apply ozk | refine ozd (by decide) ?_) | ((with_reducible apply SC.region); (focus (simp (disch := omega) only [go_sem, ↓reduceIte, zn1, reduceCtorEq, if_neg]; rfl))) | (with_reducible refine SC.draw Tab.mixed rfl ?_; (repeat (refine DO.run (by simp (disch := omega) only [go_sem, ↓reduceIte, zn1, zn2, zn3, zn4, zn5, zn6, reduceCtorEq, zn7, zi1, zi2, if_pos, if_neg]; rfl) ?_)); refine DO.nil (by kernel_rfl) ?_)))
      refine SC.weak (by simp) (s' := ⟨[(0, .im (lv l) l.length), (1, .sc (.bool neg)), (4, .pt 0 0), (5, .sc (.int .i64 (0 : Nat)))], [(0, ⟨54, [.sc (.bool false), .sc (.slice none 0 0)], false⟩)], 1, 31⟩) (by (refine Le.of [] hB (by first | exact ⟨Nat.zero_le _, fun _ _ => Nat.zero_le _⟩ | (constructor <;> (try simp) <;> (try omega))) ?_ ?_ <;> (repeat' (first | exact leSl_nil | exact leHp_nil | refine leSl_cons (by simp (disch := omega) only [go_sem, ↓reduceIte, zn1, reduceCtorEq, if_neg]; rfl) ?_ ?_ | refine leHp_cons (by simp (disch := omega) only [go_sem, ↓reduceIte]; rfl) ?_ ?_ | exact VLe.junk _ | exact VLe.refl rfl | exact VLe.nil_sl _ _ _ | exact VLe.int (by first | rfl | omega | (dsimp only; omega)) | exact VLe.bool rfl | exact VLe.sl rfl (by first | rfl | omega | (dsimp only; omega) | (simp; done)) | exact VLe.cap rfl (by first | rfl | omega | (dsimp only; omega) | (simp; done)) | exact VLe.im rfl rfl | exact HLe.new rfl | exact HLe.same rfl (LLe.refl rfl) | refine HLe.same rfl ?_ | exact LLe.nil _ | exact LLe.refl rfl | refine LLe.cons ?_ ?_)))) ?_
      obtain ⟨e1, e2⟩ := made_tree (neg := neg) hl hz hk (fun h => absurd rfl h)
      have e3 : decide ((0 : Int) < ((0 : Nat) : Int)) = decide (0 < 0) := by simp
      cases neg
      all_goals
        refine SC.ops ?_
        (repeat (refine SO.run (by simp (disch := omega) only [go_sem, ↓reduceIte, zn1, zn2, zn3, zn4, reduceCtorEq, if_pos, lv_len, lv_take, Int.toNat_natCast, lv_all, List.replicate_zero]; rfl) ?_))
        (repeat (first | (with_reducible first | apply oz1 | apply oz2 | apply oz3 | apply oz4 | apply oz5 | apply oz6 | apply oz7 | apply oz8 | apply oz9 | apply ozb | apply ozc | apply oze | apply ozf | apply ozg | apply ozh | apply ozi | apply ozj | apply ozk | refine ozd (by decide) ?_) | ((with_reducible apply SC.region); (focus (simp (disch := omega) only [go_sem, ↓reduceIte, zn1, zn2, zn3, zn4, zn5, zn6, reduceCtorEq, zn7, zi1, zi2, if_pos, if_neg]; rfl))) | (with_reducible refine SC.draw Tab.mixed rfl ?_; (repeat (refine DO.run (by simp (disch := omega) only [go_sem, ↓reduceIte, zn1, zn2, zn3, zn4, zn5, zn6, reduceCtorEq, zn7, zi1, zi2, if_pos, if_neg]; rfl) ?_)); refine DO.nil (by kernel_rfl) ?_)))
        refine retQ_ret Try.results58 (by simp (disch := omega) only [go_sem, ↓reduceIte, zn1, zn3, zn4, reduceCtorEq]; rfl) (by simp (disch := omega) only [go_sem, ↓reduceIte, zn3, lv_len, lv_take, lv_clo]; rfl) ?_
        unfold iv sv
        rw [e1, e2]
        simp []
    · have hi : ((k : Int) - 1).toNat = k - 1 := by omega
      have hg := lv_get (l := l) (i := k - 1) (by omega)
      have hd : decide ((k : Int) > 0) = true := by simp; omega
      have hb : (((l.getD (k - 1) 0 : Nat) : Int) == 0) = false := by simp only [beq_eq_false_iff_ne, ne_eq]; omega
      (repeat (first | (with_reducible first | apply oz1 | apply oz2 | apply oz3 | apply oz4 | apply oz5 | apply oz6 | apply oz7 | apply oz8 | apply oz9 | apply ozb | apply ozc | apply oze | apply ozf | apply ozg | apply ozh | apply ozi | apply ozj | apply ozk | refine ozd (by decide) ?_) | ((with_reducible apply SC.region); (focus (simp (disch := omega) only [go_sem, ↓reduceIte, zn1, reduceCtorEq]; rfl))) | (with_reducible refine SC.draw Tab.mixed rfl ?_; (repeat (refine DO.run (by simp (disch := omega) only [go_sem, ↓reduceIte, zn1, zn2, zn3, zn4, zn5, zn6, reduceCtorEq, zn7, zi1, zi2, if_pos, if_neg]; rfl) ?_)); refine DO.nil (by kernel_rfl) ?_)))
      refine SC.ops ?_
      (repeat (refine SO.run (by simp (disch := omega) only [go_sem, ↓reduceIte, zn1, reduceCtorEq, if_pos, hi, hg, hd, hb, lv_len, List.getElem?_drop]; rfl) ?_))
      (repeat (first | (with_reducible first | apply oz1 | apply oz2 | apply oz3 | apply oz4 | apply oz5 | apply oz6 | apply oz7 | apply oz8 | apply oz9 | apply ozb | apply ozc | apply oze | apply ozf | apply ozg | apply ozh | apply ozi | apply ozj | apply ozk | refine ozd (by decide) ?_) | ((with_reducible apply SC.region); (focus (simp (disch := omega) only [go_sem, ↓reduceIte, zn1, zn2, zn3, zn4, zn5, zn6, reduceCtorEq, zn7, zi1, zi2, if_pos, if_neg]; rfl))) | (with_reducible refine SC.draw Tab.mixed rfl ?_; (repeat (refine DO.run (by simp (disch := omega) only [go_sem, ↓reduceIte, zn1, zn2, zn3, zn4, zn5, zn6, reduceCtorEq, zn7, zi1, zi2, if_pos, if_neg]; rfl) ?_)); refine DO.nil (by kernel_rfl) ?_)))
      refine SC.cond (by simp (disch := omega) only [go_sem, ↓reduceIte]; rfl) ?_ ?_
      · intro h; cases h
      intro _
      (repeat (first | (with_reducible first | apply oz1 | apply oz2 | apply oz3 | apply oz4 | apply oz5 | apply oz6 | apply oz7 | apply oz8 | apply oz9 | apply ozb | apply ozc | apply oze | apply ozf | apply ozg | apply ozh | apply ozi | apply ozj | apply ozk | refine ozd (by decide) ?_) | ((with_reducible apply SC.region); (focus (simp (disch := omega) only [go_sem, ↓reduceIte, zn1, reduceCtorEq]; rfl))) | (with_reducible refine SC.draw Tab.mixed rfl ?_; (repeat (refine DO.run (by simp (disch := omega) only [go_sem, ↓reduceIte, zn1, zn2, zn3, zn4, zn5, zn6, reduceCtorEq, zn7, zi1, zi2, if_pos, if_neg]; rfl) ?_)); refine DO.nil (by kernel_rfl) ?_)))
      refine SC.weak (by simp) (s' := ⟨[(0, .im (lv l) l.length), (1, .sc (.bool neg)), (4, .pt 0 0), (5, .sc (.int .i64 (k : Nat)))], [(0, ⟨54, [.sc (.bool false), .sc (.slice none 0 0)], false⟩)], 1, 31⟩) (by (refine Le.of [] hB (by first | exact ⟨Nat.zero_le _, fun _ _ => Nat.zero_le _⟩ | (constructor <;> (try simp) <;> (try omega))) ?_ ?_ <;> (repeat' (first | exact leSl_nil | exact leHp_nil | refine leSl_cons (by simp (disch := omega) only [go_sem, ↓reduceIte, zn1, reduceCtorEq]; rfl) ?_ ?_ | refine leHp_cons (by simp (disch := omega) only [go_sem, ↓reduceIte]; rfl) ?_ ?_ | exact VLe.junk _ | exact VLe.refl rfl | exact VLe.nil_sl _ _ _ | exact VLe.int (by first | rfl | omega | (dsimp only; omega)) | exact VLe.bool rfl | exact VLe.sl rfl (by first | rfl | omega | (dsimp only; omega) | (simp; done)) | exact VLe.cap rfl (by first | rfl | omega | (dsimp only; omega) | (simp; done)) | exact VLe.im rfl rfl | exact HLe.new rfl | exact HLe.same rfl (LLe.refl rfl) | refine HLe.same rfl ?_ | exact LLe.nil _ | exact LLe.refl rfl | refine LLe.cons ?_ ?_)))) ?_
      obtain ⟨e1, e2⟩ := made_tree (neg := neg) hl hz hk (fun _ => hx)
      have e3 : decide ((0 : Int) < ((k : Nat) : Int)) = decide (0 < k) := by simp
      cases neg
      all_goals
        refine SC.ops ?_
        (repeat (refine SO.run (by simp (disch := omega) only [go_sem, ↓reduceIte, zn1, zn2, zn3, zn4, reduceCtorEq, if_pos, lv_len, lv_take, Int.toNat_natCast, hlen, lv_all, List.replicate_zero]; rfl) ?_))
        (repeat (first | (with_reducible first | apply oz1 | apply oz2 | apply oz3 | apply oz4 | apply oz5 | apply oz6 | apply oz7 | apply oz8 | apply oz9 | apply ozb | apply ozc | apply oze | apply ozf | apply ozg | apply ozh | apply ozi | apply ozj | apply ozk | refine ozd (by decide) ?_) | ((with_reducible apply SC.region); (focus (simp (disch := omega) only [go_sem, ↓reduceIte, zn1, zn2, zn3, zn4, zn5, zn6, reduceCtorEq, zn7, zi1, zi2, if_pos, if_neg]; rfl))) | (with_reducible refine SC.draw Tab.mixed rfl ?_; (repeat (refine DO.run (by simp (disch := omega) only [go_sem, ↓reduceIte, zn1, zn2, zn3, zn4, zn5, zn6, reduceCtorEq, zn7, zi1, zi2, if_pos, if_neg]; rfl) ?_)); refine DO.nil (by kernel_rfl) ?_)))
        refine retQ_ret Try.results58 (by simp (disch := omega) only [go_sem, ↓reduceIte, zn1, zn3, zn4, reduceCtorEq]; rfl) (by simp (disch := omega) only [go_sem, ↓reduceIte, if_pos, lv_len, lv_take, hlen, List.take_take, Nat.min_self, lv_clo]; rfl) ?_
        unfold iv sv
        rw [e1, e2]
        simp [hlen]
    · have hi : ((k : Int) - 1).toNat = k - 1 := by omega
      have hg := lv_get (l := l) (i := k - 1) (by omega)
      have hd : decide ((k : Int) > 0) = true := by simp; omega
      have hb : (((l.getD (k - 1) 0 : Nat) : Int) == 0) = true := by simp only [beq_iff_eq]; omega
      (repeat (first | (with_reducible first | apply oz1 | apply oz2 | apply oz3 | apply oz4 | apply oz5 | apply oz6 | apply oz7 | apply oz8 | apply oz9 | apply ozb | apply ozc | apply oze | apply ozf | apply ozg | apply ozh | apply ozi | apply ozj | apply ozk | refine ozd (by decide) ?_) | ((with_reducible apply SC.region); (focus (simp (disch := omega) only [go_sem, ↓reduceIte, zn1, reduceCtorEq]; rfl))) | (with_reducible refine SC.draw Tab.mixed rfl ?_; (repeat (refine DO.run (by simp (disch := omega) only [go_sem, ↓reduceIte, zn1, zn2, zn3, zn4, zn5, zn6, reduceCtorEq, zn7, zi1, zi2, if_pos, if_neg]; rfl) ?_)); refine DO.nil (by kernel_rfl) ?_)))
      refine SC.ops ?_
      (repeat (refine SO.run (by simp (disch := omega) only [go_sem, ↓reduceIte, zn1, reduceCtorEq, if_pos, hi, hg, hd, hb, lv_len, List.getElem?_drop]; rfl) ?_))
      (repeat (first | (with_reducible first | apply oz1 | apply oz2 | apply oz3 | apply oz4 | apply oz5 | apply oz6 | apply oz7 | apply oz8 | apply oz9 | apply ozb | apply ozc | apply oze | apply ozf | apply ozg | apply ozh | apply ozi | apply ozj | apply ozk | refine ozd (by decide) ?_) | ((with_reducible apply SC.region); (focus (simp (disch := omega) only [go_sem, ↓reduceIte, zn1, zn2, zn3, zn4, zn5, zn6, reduceCtorEq, zn7, zi1, zi2, if_pos, if_neg]; rfl))) | (with_reducible refine SC.draw Tab.mixed rfl ?_; (repeat (refine DO.run (by simp (disch := omega) only [go_sem, ↓reduceIte, zn1, zn2, zn3, zn4, zn5, zn6, reduceCtorEq, zn7, zi1, zi2, if_pos, if_neg]; rfl) ?_)); refine DO.nil (by kernel_rfl) ?_)))
      refine SC.cond (by simp (disch := omega) only [go_sem, ↓reduceIte]; rfl) ?_ ?_
      rotate_left
      · intro h; cases h
      intro _
      (repeat (first | (with_reducible first | apply oz1 | apply oz2 | apply oz3 | apply oz4 | apply oz5 | apply oz6 | apply oz7 | apply oz8 | apply oz9 | apply ozb | apply ozc | apply oze | apply ozf | apply ozg | apply ozh | apply ozi | apply ozj | apply ozk | refine ozd (by decide) ?_) | ((with_reducible apply SC.region); (focus (simp (disch := omega) only [go_sem, ↓reduceIte, zn1, reduceCtorEq]; rfl))) | (with_reducible refine SC.draw Tab.mixed rfl ?_; (repeat (refine DO.run (by simp (disch := omega) only [go_sem, ↓reduceIte, zn1, zn2, zn3, zn4, zn5, zn6, reduceCtorEq, zn7, zi1, zi2, if_pos, if_neg]; rfl) ?_)); refine DO.nil (by kernel_rfl) ?_)))
      refine hK _ (k - 1) ?_ ⟨by omega, fun i hi => ?_⟩ (by omega)
      · (refine Le.of [] hB (by first | exact ⟨Nat.zero_le _, fun _ _ => Nat.zero_le _⟩ | (constructor <;> (try simp) <;> (try omega))) ?_ ?_ <;> (repeat' (first | exact leSl_nil | exact leHp_nil | refine leSl_cons (by simp (disch := omega) only [go_sem, ↓reduceIte, zn1, reduceCtorEq]; rfl) ?_ ?_ | refine leHp_cons (by simp (disch := omega) only [go_sem, ↓reduceIte]; rfl) ?_ ?_ | exact VLe.junk _ | exact VLe.refl rfl | exact VLe.nil_sl _ _ _ | exact VLe.int (by first | rfl | omega | (dsimp only; omega)) | exact VLe.bool rfl | exact VLe.sl rfl (by first | rfl | omega | (dsimp only; omega) | (simp; done)) | exact VLe.cap rfl (by first | rfl | omega | (dsimp only; omega) | (simp; done)) | exact VLe.im rfl rfl | exact HLe.new rfl | exact HLe.same rfl (LLe.refl rfl) | refine HLe.same rfl ?_ | exact LLe.nil _ | exact LLe.refl rfl | refine LLe.cons ?_ ?_)))
      · rcases Nat.lt_or_ge i k with h | h
        · rw [show i = k - 1 by omega]; exact hx
        · exact hz i h
end Go.Proofs.Ytfhcmibgpddggaa
namespace Go.Proofs.Ytfhcmibgpddggaa
open Go.RowKit
theorem less_i (a b : List Nat) (ha : limbs a) (hb : limbs b) (hma : a.length ≤ 1000000000) (hmb : b.length ≤ 1000000000) : Spec Try.prog 77 [sv a, sv b] (.sc (.bool (lessL a b))) := by
  unfold sv
  refine Spec.run Try.func77 rfl Try.ntmps77 (by simp) (by simp (disch := omega) only [go_sem, zn4]; rfl) fun B hB => ?_
  by_cases hab : a.length = b.length
  · have h1 : ((a.length : Int) != (b.length : Int)) = false := by rw [hab]; simp
    (repeat (first | (with_reducible first | apply oz1 | apply oz2 | apply oz3 | apply oz4 | apply oz5 | apply oz6 | apply oz7 | apply oz8 | apply oz9 | apply ozb | apply ozc | apply oze | apply ozf | apply ozg | apply ozh | apply ozi | apply ozj | apply ozk | refine ozd (by decide) ?_) | ((with_reducible apply SC.region); (focus (simp (disch := omega) only [go_sem, ↓reduceIte, zn1, reduceCtorEq]; rfl))) | (with_reducible refine SC.draw Tab.mixed rfl ?_; (repeat (refine DO.run (by simp (disch := omega) only [go_sem, ↓reduceIte, zn1, zn2, zn3, zn4, zn5, zn6, reduceCtorEq, zn7, zi1, zi2, if_pos, if_neg]; rfl) ?_)); refine DO.nil (by kernel_rfl) ?_)))
    refine SC.cond (by simp (disch := omega) only [go_sem, ↓reduceIte, h1]; rfl) ?_ ?_
    · intro h; cases h
    intro _
    (repeat (first | (with_reducible first | apply oz1 | apply oz2 | apply oz3 | apply oz4 | apply oz5 | apply oz6 | apply oz7 | apply oz8 | apply oz9 | apply ozb | apply ozc | apply oze | apply ozf | apply ozg | apply ozh | apply ozi | apply ozj | apply ozk | refine ozd (by decide) ?_) | ((with_reducible apply SC.region); (focus (simp (disch := omega) only [go_sem, ↓reduceIte, reduceCtorEq]; rfl))) | (with_reducible refine SC.draw Tab.mixed rfl ?_; (repeat (refine DO.run (by simp (disch := omega) only [go_sem, ↓reduceIte, zn1, zn2, zn3, zn4, zn5, zn6, reduceCtorEq, zn7, zi1, zi2, if_pos, if_neg]; rfl) ?_)); refine DO.nil (by kernel_rfl) ?_)))
    refine SC.loop (fun k : Nat => ⟨[(0, .im (lv a) a.length), (1, .im (lv b) b.length), (4, .sc (.bool false)), (5, .sc (.int .i64 ((k : Int) - 1)))], [], 0, 41⟩)
      (fun k => k ≤ a.length ∧ (val a < val b ↔ val (a.take k) < val (b.take k))) (fun k => k) a.length ?_ ?_ ?_
    · (refine Le.of [] hB (by first | exact ⟨Nat.zero_le _, fun _ _ => Nat.zero_le _⟩ | (constructor <;> (try simp) <;> (try omega))) ?_ ?_ <;> (repeat' (first | exact leSl_nil | exact leHp_nil | refine leSl_cons (by simp (disch := omega) only [go_sem, ↓reduceIte, zn1, reduceCtorEq]; rfl) ?_ ?_ | refine leHp_cons (by simp (disch := omega) only [go_sem, ↓reduceIte, zn1, zn2, zn3, zn4, zn5, zn6, reduceCtorEq, zn7, zi1, zi2, if_pos, if_neg]; rfl) ?_ ?_ | exact VLe.junk _ | exact VLe.refl rfl | exact VLe.nil_sl _ _ _ | exact VLe.int (by first | rfl | omega | (dsimp only; omega)) | exact VLe.bool rfl | exact VLe.sl rfl (by first | rfl | omega | (dsimp only; omega) | (simp; done)) | exact VLe.cap rfl (by first | rfl | omega | (dsimp only; omega) | (simp; done)) | exact VLe.im rfl rfl | exact HLe.new rfl | exact HLe.same rfl (LLe.refl rfl) | refine HLe.same rfl ?_ | exact LLe.nil _ | exact LLe.refl rfl | refine LLe.cons ?_ ?_)))
    · exact ⟨Nat.le_refl _, by rw [List.take_length, hab, List.take_length]⟩
    · rintro k ⟨hk, hI⟩ K hK
      by_cases h0 : k = 0
      · subst h0
        (repeat (first | (with_reducible first | apply oz1 | apply oz2 | apply oz3 | apply oz4 | apply oz5 | apply oz6 | apply oz7 | apply oz8 | apply oz9 | apply ozb | apply ozc | apply oze | apply ozf | apply ozg | apply ozh | apply ozi | apply ozj | apply ozk | refine ozd (by decide) ?_) | ((with_reducible apply SC.region); (focus (simp (disch := omega) only [go_sem, ↓reduceIte, zn1, reduceCtorEq]; rfl))) | (with_reducible refine SC.draw Tab.mixed rfl ?_; (repeat (refine DO.run (by simp (disch := omega) only [go_sem, ↓reduceIte, zn1, zn2, zn3, zn4, zn5, zn6, reduceCtorEq, zn7, zi1, zi2, if_pos, if_neg]; rfl) ?_)); refine DO.nil (by kernel_rfl) ?_)))
        refine SC.cond (by simp (disch := omega) only [go_sem, ↓reduceIte]; rfl) ?_ ?_
        · intro h; simp at h
        intro _
        (repeat (first | (with_reducible first | apply oz1 | apply oz2 | apply oz3 | apply oz4 | apply oz5 | apply oz6 | apply oz7 | apply oz8 | apply oz9 | apply ozb | apply ozc | apply oze | apply ozf | apply ozg | apply ozh | apply ozi | apply ozj | apply ozk | refine ozd (by decide) ?_) | ((with_reducible apply SC.region); (focus (simp (disch := omega) only [go_sem, ↓reduceIte]; rfl))) | (with_reducible refine SC.draw Tab.mixed rfl ?_; (repeat (refine DO.run (by simp (disch := omega) only [go_sem, ↓reduceIte, zn1, zn2, zn3, zn4, zn5, zn6, reduceCtorEq, zn7, zi1, zi2, if_pos, if_neg]; rfl) ?_)); refine DO.nil (by kernel_rfl) ?_)))
        refine retQ_ret Try.results77 (by simp (disch := omega) only [go_sem, ↓reduceIte]; rfl) (by simp (disch := omega) only [go_sem]; rfl) ?_
        unfold lessL
        rw [if_pos hab, decide_eq_false (fun h => by have := hI.1 h; simp [val] at this)]
      · have hi : ((k : Int) - 1).toNat = k - 1 := by omega
        have hga := lv_get (l := a) (i := k - 1) (by omega)
        have hgb := lv_get (l := b) (i := k - 1) (by omega)
        have hd : decide ((k : Int) - 1 ≥ 0) = true := by simp; omega
        (repeat (first | (with_reducible first | apply oz1 | apply oz2 | apply oz3 | apply oz4 | apply oz5 | apply oz6 | apply oz7 | apply oz8 | apply oz9 | apply ozb | apply ozc | apply oze | apply ozf | apply ozg | apply ozh | apply ozi | apply ozj | apply ozk | refine ozd (by decide) ?_) | ((with_reducible apply SC.region); (focus (simp (disch := omega) only [go_sem, ↓reduceIte, zn1, reduceCtorEq]; rfl))) | (with_reducible refine SC.draw Tab.mixed rfl ?_; (repeat (refine DO.run (by simp (disch := omega) only [go_sem, ↓reduceIte, zn1, zn2, zn3, zn4, zn5, zn6, reduceCtorEq, zn7, zi1, zi2, if_pos, if_neg]; rfl) ?_)); refine DO.nil (by kernel_rfl) ?_)))
        refine SC.cond (by simp (disch := omega) only [go_sem, ↓reduceIte, hd]; rfl) ?_ ?_
        rotate_left
        · intro h; cases h
        intro _
        have hs := val_lt_step (a := a) (b := b) (k := k - 1) ha hb (by omega) (by omega)
        rw [show k - 1 + 1 = k by omega, ← hI] at hs
        by_cases hx : a.getD (k - 1) 0 = b.getD (k - 1) 0
        · have hne : (((a.getD (k - 1) 0 : Nat) : Int) != ((b.getD (k - 1) 0 : Nat) : Int)) = false := by rw [hx]; simp
          (repeat (first | (with_reducible first | apply oz1 | apply oz2 | apply oz3 | apply oz4 | apply oz5 | apply oz6 | apply oz7 | apply oz8 | apply oz9 | apply ozb | apply ozc | apply oze | apply ozf | apply ozg | apply ozh | apply ozi | apply ozj | apply ozk | refine ozd (by decide) ?_) | ((with_reducible apply SC.region); (focus (simp (disch := omega) only [go_sem, ↓reduceIte, zn1, zn2, zn3, zn4, zn5, zn6, reduceCtorEq, zn7, zi1, zi2, if_pos, if_neg, hi, hga, hgb, hd, hne, lv_len, List.getElem?_drop]; rfl))) | (with_reducible refine SC.draw Tab.mixed rfl ?_; (repeat (refine DO.run (by simp (disch := omega) only [go_sem, ↓reduceIte, zn1, reduceCtorEq, if_pos, hi, hga, hgb, hd, hne, lv_len, List.getElem?_drop]; rfl) ?_)); refine DO.nil (by kernel_rfl) ?_)))
          refine SC.cond (by simp (disch := omega) only [go_sem, ↓reduceIte]; rfl) ?_ ?_
          · intro h; cases h
          intro _
          (repeat (first | (with_reducible first | apply oz1 | apply oz2 | apply oz3 | apply oz4 | apply oz5 | apply oz6 | apply oz7 | apply oz8 | apply oz9 | apply ozb | apply ozc | apply oze | apply ozf | apply ozg | apply ozh | apply ozi | apply ozj | apply ozk | refine ozd (by decide) ?_) | ((with_reducible apply SC.region); (focus (simp (disch := omega) only [go_sem, ↓reduceIte, zn1, reduceCtorEq]; rfl))) | (with_reducible refine SC.draw Tab.mixed rfl ?_; (repeat (refine DO.run (by simp (disch := omega) only [go_sem, ↓reduceIte, zn1, zn2, zn3, zn4, zn5, zn6, reduceCtorEq, zn7, zi1, zi2, if_pos, if_neg]; rfl) ?_)); refine DO.nil (by kernel_rfl) ?_)))
          refine hK _ (k - 1) ?_ ⟨by omega, hs.1 hx⟩ (by omega)
          (refine Le.of [] hB (by first | exact ⟨Nat.zero_le _, fun _ _ => Nat.zero_le _⟩ | (constructor <;> (try simp) <;> (try omega))) ?_ ?_ <;> (repeat' (first | exact leSl_nil | exact leHp_nil | refine leSl_cons (by simp (disch := omega) only [go_sem, ↓reduceIte, zn1, reduceCtorEq]; rfl) ?_ ?_ | refine leHp_cons (by simp (disch := omega) only [go_sem, ↓reduceIte, zn1, zn2, zn3, zn4, zn5, zn6, reduceCtorEq, zn7, zi1, zi2, if_pos, if_neg]; rfl) ?_ ?_ | exact VLe.junk _ | exact VLe.refl rfl | exact VLe.nil_sl _ _ _ | exact VLe.int (by first | rfl | omega | (dsimp only; omega)) | exact VLe.bool rfl | exact VLe.sl rfl (by first | rfl | omega | (dsimp only; omega) | (simp; done)) | exact VLe.cap rfl (by first | rfl | omega | (dsimp only; omega) | (simp; done)) | exact VLe.im rfl rfl | exact HLe.new rfl | exact HLe.same rfl (LLe.refl rfl) | refine HLe.same rfl ?_ | exact LLe.nil _ | exact LLe.refl rfl | refine LLe.cons ?_ ?_)))
        · have hne : (((a.getD (k - 1) 0 : Nat) : Int) != ((b.getD (k - 1) 0 : Nat) : Int)) = true := by simp only [bne_iff_ne, ne_eq]; omega
          (repeat (first | (with_reducible first | apply oz1 | apply oz2 | apply oz3 | apply oz4 | apply oz5 | apply oz6 | apply oz7 | apply oz8 | apply oz9 | apply ozb | apply ozc | apply oze | apply ozf | apply ozg | apply ozh | apply ozi | apply ozj | apply ozk | refine ozd (by decide) ?_) | ((with_reducible apply SC.region); (focus (simp (disch := omega) only [go_sem, ↓reduceIte, zn1, zn2, zn3, zn4, zn5, zn6, reduceCtorEq, zn7, zi1, zi2, if_pos, if_neg, hi, hga, hgb, hd, hne, lv_len, List.getElem?_drop]; rfl))) | (with_reducible refine SC.draw Tab.mixed rfl ?_; (repeat (refine DO.run (by simp (disch := omega) only [go_sem, ↓reduceIte, zn1, reduceCtorEq, if_pos, hi, hga, hgb, hd, hne, lv_len, List.getElem?_drop]; rfl) ?_)); refine DO.nil (by kernel_rfl) ?_)))
          refine SC.cond (by simp (disch := omega) only [go_sem, ↓reduceIte]; rfl) ?_ ?_
          rotate_left
          · intro h; cases h
          intro _
          (repeat (first | (with_reducible first | apply oz1 | apply oz2 | apply oz3 | apply oz4 | apply oz5 | apply oz6 | apply oz7 | apply oz8 | apply oz9 | apply ozb | apply ozc | apply oze | apply ozf | apply ozg | apply ozh | apply ozi | apply ozj | apply ozk | refine ozd (by decide) ?_) | ((with_reducible apply SC.region); (focus (simp (disch := omega) only [go_sem, ↓reduceIte, zn1, zn2, zn3, zn4, zn5, zn6, reduceCtorEq, zn7, zi1, zi2, if_pos, if_neg, hi, hga, hgb, hd, hne, lv_len, List.getElem?_drop]; rfl))) | (with_reducible refine SC.draw Tab.mixed rfl ?_; (repeat (refine DO.run (by simp (disch := omega) only [go_sem, ↓reduceIte, zn1, zn2, reduceCtorEq, if_pos, hi, hga, hgb, lv_len, List.getElem?_drop]; rfl) ?_)); refine DO.nil (by kernel_rfl) ?_)))
          refine retQ_ret Try.results77 (by simp (disch := omega) only [go_sem, ↓reduceIte]; rfl) (by simp (disch := omega) only [go_sem]; rfl) ?_
          unfold lessL
          rw [if_pos hab]
          have := hs.2 hx
          exact congrArg (fun t => V.sc (.bool t)) (decide_eq_decide.2 (by rw [this]; omega))
  · have h1 : ((a.length : Int) != (b.length : Int)) = true := by simp only [bne_iff_ne, ne_eq]; omega
    (repeat (first | (with_reducible first | apply oz1 | apply oz2 | apply oz3 | apply oz4 | apply oz5 | apply oz6 | apply oz7 | apply oz8 | apply oz9 | apply ozb | apply ozc | apply oze | apply ozf | apply ozg | apply ozh | apply ozi | apply ozj | apply ozk | refine ozd (by decide) ?_) | ((with_reducible apply SC.region); (focus (simp (disch := omega) only [go_sem, ↓reduceIte, zn1, reduceCtorEq]; rfl))) | (with_reducible refine SC.draw Tab.mixed rfl ?_; (repeat (refine DO.run (by simp (disch := omega) only [go_sem, ↓reduceIte, zn1, zn2, zn3, zn4, zn5, zn6, reduceCtorEq, zn7, zi1, zi2, if_pos, if_neg]; rfl) ?_)); refine DO.nil (by kernel_rfl) ?_)))
    refine SC.cond (by simp (disch := omega) only [go_sem, ↓reduceIte, h1]; rfl) ?_ ?_
    rotate_left
    · intro h; cases h
    intro _
    (repeat (first | (with_reducible first | apply oz1 | apply oz2 | apply oz3 | apply oz4 | apply oz5 | apply oz6 | apply oz7 | apply oz8 | apply oz9 | apply ozb | apply ozc | apply oze | apply ozf | apply ozg | apply ozh | apply ozi | apply ozj | apply ozk | refine ozd (by decide) ?_) | ((with_reducible apply SC.region); (focus (simp (disch := omega) only [go_sem, ↓reduceIte, zn1, reduceCtorEq]; rfl))) | (with_reducible refine SC.draw Tab.mixed rfl ?_; (repeat (refine DO.run (by simp (disch := omega) only [go_sem, ↓reduceIte, zn1, zn2, zn3, zn4, zn5, zn6, reduceCtorEq, zn7, zi1, zi2, if_pos, if_neg]; rfl) ?_)); refine DO.nil (by kernel_rfl) ?_)))
    refine retQ_ret Try.results77 (by simp (disch := omega) only [go_sem, ↓reduceIte]; rfl) (by simp (disch := omega) only [go_sem]; rfl) ?_
    unfold lessL
    rw [if_neg hab]
    exact congrArg (fun t => V.sc (.bool t)) (decide_eq_decide.2 (by omega))
end Go.Proofs.Ytfhcmibgpddggaa
namespace Go.Proofs.Ytfhcmibgpddggaa
open Go.RowKit
def Short (x : Int) : Prop := (limbsOf x.natAbs).length ≤ 1000000000
theorem lessL_limbs (m n : Nat) : lessL (limbsOf m) (limbsOf n) = decide (m < n) := by
  rw [lessL_eq (limbsOf_limbs m) (limbsOf_limbs n) (limbsOf_canon m) (limbsOf_canon n), limbsOf_val, limbsOf_val]
theorem less_n (m n : Nat) (hm : (limbsOf m).length ≤ 1000000000) (hn : (limbsOf n).length ≤ 1000000000) : Spec Try.prog 77 [sv (limbsOf m), sv (limbsOf n)] (.sc (.bool (decide (m < n)))) := by
  have := less_i _ _ (limbsOf_limbs m) (limbsOf_limbs n) hm hn
  rwa [lessL_limbs] at this
theorem same_i (x y : Int) (hx : Short x) (hy : Short y) : Spec Try.prog 48 [iv x, iv y] (.sc (.bool (decide (x = y)))) := by
  have l1 := less_n x.natAbs y.natAbs hx hy
  have l2 := less_n y.natAbs x.natAbs hy hx
  unfold sv at l1 l2
  unfold iv sv
  refine Spec.run Try.func48 rfl Try.ntmps48 (by simp) (by simp (disch := omega) only [go_sem, zn4]; rfl) fun B hB => ?_
  have hsx : (decide (x < 0) == decide (y < 0)) = true ↔ (x < 0 ↔ y < 0) := by simp
  by_cases hs : (decide (x < 0) == decide (y < 0)) = true
  · have hs' := hsx.1 hs
    by_cases h1 : x.natAbs < y.natAbs
    · rw [decide_eq_true h1] at l1
      (repeat (first | (with_reducible first | apply oz1 | apply oz2 | apply oz3 | apply oz4 | apply oz5 | apply oz6 | apply oz7 | apply oz8 | apply oz9 | apply ozb | apply ozc | apply oze | apply ozf | apply ozg | apply ozh | apply ozi | apply ozj | apply ozk | refine ozd (by decide) ?_) | ((with_reducible apply SC.region); (focus (simp (disch := omega) only [go_sem, ↓reduceIte, zn1, zn4, reduceCtorEq]; rfl))) | (with_reducible refine SC.draw Tab.mixed rfl ?_; (repeat (refine DO.run (by simp (disch := omega) only [go_sem, ↓reduceIte, zn1, zn2, zn3, zn4, zn5, zn6, reduceCtorEq, zn7, zi1, zi2, if_pos, if_neg]; rfl) ?_)); refine DO.nil (by kernel_rfl) ?_)))
      refine SC.ops ?_
      (repeat (refine SO.run (by simp (disch := omega) only [go_sem, ↓reduceIte, zn1, reduceCtorEq, hs]; rfl) ?_))
      (refine SO.call Tab.go77 (by simp (disch := omega) only [go_sem, ↓reduceIte, zn1]; rfl) (by simp (disch := omega) only [go_sem, ↓reduceIte, zn1] <;> rfl) ?_)
      (refine SCall.of (l1) (by simp (disch := omega) only [go_sem]; rfl) ?_)
      (repeat (refine SO.run (by simp (disch := omega) only [go_sem, ↓reduceIte, zn1, zn2, reduceCtorEq, Bool.not_true]; rfl) ?_))
      (repeat (first | (with_reducible first | apply oz1 | apply oz2 | apply oz3 | apply oz4 | apply oz5 | apply oz6 | apply oz7 | apply oz8 | apply oz9 | apply ozb | apply ozc | apply oze | apply ozf | apply ozg | apply ozh | apply ozi | apply ozj | apply ozk | refine ozd (by decide) ?_) | ((with_reducible apply SC.region); (focus (simp (disch := omega) only [go_sem, ↓reduceIte, zn1, zn2, zn3, zn4, zn5, zn6, reduceCtorEq, zn7, zi1, zi2, if_pos, if_neg]; rfl))) | (with_reducible refine SC.draw Tab.mixed rfl ?_; (repeat (refine DO.run (by simp (disch := omega) only [go_sem, ↓reduceIte, zn1, zn2, zn3, zn4, zn5, zn6, reduceCtorEq, zn7, zi1, zi2, if_pos, if_neg]; rfl) ?_)); refine DO.nil (by kernel_rfl) ?_)))
      refine retQ_ret Try.results48 (by simp (disch := omega) only [go_sem, ↓reduceIte]; rfl) (by simp (disch := omega) only [go_sem]; rfl) ?_
      rw [decide_eq_false (by omega)]
    · rw [decide_eq_false h1] at l1
      by_cases h2 : y.natAbs < x.natAbs
      · rw [decide_eq_true h2] at l2
        (repeat (first | (with_reducible first | apply oz1 | apply oz2 | apply oz3 | apply oz4 | apply oz5 | apply oz6 | apply oz7 | apply oz8 | apply oz9 | apply ozb | apply ozc | apply oze | apply ozf | apply ozg | apply ozh | apply ozi | apply ozj | apply ozk | refine ozd (by decide) ?_) | ((with_reducible apply SC.region); (focus (simp (disch := omega) only [go_sem, ↓reduceIte, zn1, zn4, reduceCtorEq]; rfl))) | (with_reducible refine SC.draw Tab.mixed rfl ?_; (repeat (refine DO.run (by simp (disch := omega) only [go_sem, ↓reduceIte, zn1, zn2, zn3, zn4, zn5, zn6, reduceCtorEq, zn7, zi1, zi2, if_pos, if_neg]; rfl) ?_)); refine DO.nil (by kernel_rfl) ?_)))
        refine SC.ops ?_
        (repeat (refine SO.run (by simp (disch := omega) only [go_sem, ↓reduceIte, zn1, reduceCtorEq, hs]; rfl) ?_))
        (refine SO.call Tab.go77 (by simp (disch := omega) only [go_sem, ↓reduceIte, zn1]; rfl) (by simp (disch := omega) only [go_sem, ↓reduceIte, zn1] <;> rfl) ?_)
        (refine SCall.of (l1) (by simp (disch := omega) only [go_sem]; rfl) ?_)
        (repeat (refine SO.run (by simp (disch := omega) only [go_sem, ↓reduceIte, zn1, reduceCtorEq, Bool.not_false]; rfl) ?_))
        (refine SO.call Tab.go77 (by simp (disch := omega) only [go_sem, ↓reduceIte, zn1]; rfl) (by simp (disch := omega) only [go_sem, ↓reduceIte, zn1] <;> rfl) ?_)
        (refine SCall.of (l2) (by simp (disch := omega) only [go_sem]; rfl) ?_)
        (repeat (refine SO.run (by simp (disch := omega) only [go_sem, ↓reduceIte, zn1, zn2, Bool.not_true]; rfl) ?_))
        (repeat (first | (with_reducible first | apply oz1 | apply oz2 | apply oz3 | apply oz4 | apply oz5 | apply oz6 | apply oz7 | apply oz8 | apply oz9 | apply ozb | apply ozc | apply oze | apply ozf | apply ozg | apply ozh | apply ozi | apply ozj | apply ozk | refine ozd (by decide) ?_) | ((with_reducible apply SC.region); (focus (simp (disch := omega) only [go_sem, ↓reduceIte, zn1, zn2, zn3, zn4, zn5, zn6, reduceCtorEq, zn7, zi1, zi2, if_pos, if_neg]; rfl))) | (with_reducible refine SC.draw Tab.mixed rfl ?_; (repeat (refine DO.run (by simp (disch := omega) only [go_sem, ↓reduceIte, zn1, zn2, zn3, zn4, zn5, zn6, reduceCtorEq, zn7, zi1, zi2, if_pos, if_neg]; rfl) ?_)); refine DO.nil (by kernel_rfl) ?_)))
        refine retQ_ret Try.results48 (by simp (disch := omega) only [go_sem, ↓reduceIte]; rfl) (by simp (disch := omega) only [go_sem]; rfl) ?_
        rw [decide_eq_false (by omega)]
      · rw [decide_eq_false h2] at l2
        (repeat (first | (with_reducible first | apply oz1 | apply oz2 | apply oz3 | apply oz4 | apply oz5 | apply oz6 | apply oz7 | apply oz8 | apply oz9 | apply ozb | apply ozc | apply oze | apply ozf | apply ozg | apply ozh | apply ozi | apply ozj | apply ozk | refine ozd (by decide) ?_) | ((with_reducible apply SC.region); (focus (simp (disch := omega) only [go_sem, ↓reduceIte, zn1, zn4, reduceCtorEq]; rfl))) | (with_reducible refine SC.draw Tab.mixed rfl ?_; (repeat (refine DO.run (by simp (disch := omega) only [go_sem, ↓reduceIte, zn1, zn2, zn3, zn4, zn5, zn6, reduceCtorEq, zn7, zi1, zi2, if_pos, if_neg]; rfl) ?_)); refine DO.nil (by kernel_rfl) ?_)))
        refine SC.ops ?_
        (repeat (refine SO.run (by simp (disch := omega) only [go_sem, ↓reduceIte, zn1, reduceCtorEq, hs]; rfl) ?_))
        (refine SO.call Tab.go77 (by simp (disch := omega) only [go_sem, ↓reduceIte, zn1]; rfl) (by simp (disch := omega) only [go_sem, ↓reduceIte, zn1] <;> rfl) ?_)
        (refine SCall.of (l1) (by simp (disch := omega) only [go_sem]; rfl) ?_)
        (repeat (refine SO.run (by simp (disch := omega) only [go_sem, ↓reduceIte, zn1, reduceCtorEq, Bool.not_false]; rfl) ?_))
        (refine SO.call Tab.go77 (by simp (disch := omega) only [go_sem, ↓reduceIte, zn1]; rfl) (by simp (disch := omega) only [go_sem, ↓reduceIte, zn1] <;> rfl) ?_)
        (refine SCall.of (l2) (by simp (disch := omega) only [go_sem]; rfl) ?_)
        (repeat (refine SO.run (by simp (disch := omega) only [go_sem, ↓reduceIte, zn1, zn2, Bool.not_false]; rfl) ?_))
        (repeat (first | (with_reducible first | apply oz1 | apply oz2 | apply oz3 | apply oz4 | apply oz5 | apply oz6 | apply oz7 | apply oz8 | apply oz9 | apply ozb | apply ozc | apply oze | apply ozf | apply ozg | apply ozh | apply ozi | apply ozj | apply ozk | refine ozd (by decide) ?_) | ((with_reducible apply SC.region); (focus (simp (disch := omega) only [go_sem, ↓reduceIte, zn1, zn2, zn3, zn4, zn5, zn6, reduceCtorEq, zn7, zi1, zi2, if_pos, if_neg]; rfl))) | (with_reducible refine SC.draw Tab.mixed rfl ?_; (repeat (refine DO.run (by simp (disch := omega) only [go_sem, ↓reduceIte, zn1, zn2, zn3, zn4, zn5, zn6, reduceCtorEq, zn7, zi1, zi2, if_pos, if_neg]; rfl) ?_)); refine DO.nil (by kernel_rfl) ?_)))
        refine retQ_ret Try.results48 (by simp (disch := omega) only [go_sem, ↓reduceIte]; rfl) (by simp (disch := omega) only [go_sem]; rfl) ?_
        rw [decide_eq_true (by omega)]
  · have hs' : ¬ (x < 0 ↔ y < 0) := fun h => hs (hsx.2 h)
    rw [Bool.not_eq_true] at hs
    (repeat (first | (with_reducible first | apply oz1 | apply oz2 | apply oz3 | apply oz4 | apply oz5 | apply oz6 | apply oz7 | apply oz8 | apply oz9 | apply ozb | apply ozc | apply oze | apply ozf | apply ozg | apply ozh | apply ozi | apply ozj | apply ozk | refine ozd (by decide) ?_) | ((with_reducible apply SC.region); (focus (simp (disch := omega) only [go_sem, ↓reduceIte, zn1, zn4, reduceCtorEq]; rfl))) | (with_reducible refine SC.draw Tab.mixed rfl ?_; (repeat (refine DO.run (by simp (disch := omega) only [go_sem, ↓reduceIte, zn1, zn2, zn3, zn4, zn5, zn6, reduceCtorEq, zn7, zi1, zi2, if_pos, if_neg]; rfl) ?_)); refine DO.nil (by kernel_rfl) ?_)))
    refine SC.ops ?_
    (repeat (refine SO.run (by simp (disch := omega) only [go_sem, ↓reduceIte, zn1, zn2, reduceCtorEq, hs]; rfl) ?_))
    (repeat (first | (with_reducible first | apply oz1 | apply oz2 | apply oz3 | apply oz4 | apply oz5 | apply oz6 | apply oz7 | apply oz8 | apply oz9 | apply ozb | apply ozc | apply oze | apply ozf | apply ozg | apply ozh | apply ozi | apply ozj | apply ozk | refine ozd (by decide) ?_) | ((with_reducible apply SC.region); (focus (simp (disch := omega) only [go_sem, ↓reduceIte, zn1, zn2, zn3, zn4, zn5, zn6, reduceCtorEq, zn7, zi1, zi2, if_pos, if_neg]; rfl))) | (with_reducible refine SC.draw Tab.mixed rfl ?_; (repeat (refine DO.run (by simp (disch := omega) only [go_sem, ↓reduceIte, zn1, zn2, zn3, zn4, zn5, zn6, reduceCtorEq, zn7, zi1, zi2, if_pos, if_neg]; rfl) ?_)); refine DO.nil (by kernel_rfl) ?_)))
    refine retQ_ret Try.results48 (by simp (disch := omega) only [go_sem, ↓reduceIte]; rfl) (by simp (disch := omega) only [go_sem]; rfl) ?_
    rw [decide_eq_false (by omega)]
theorem two_limbs {m : Nat} (h : m < 18446744073709551616) : val [m % 4294967296, m / 4294967296] = m ∧ limbs [m % 4294967296, m / 4294967296] := by
  refine ⟨by simp [val]; omega, fun x hx => ?_⟩
  simp at hx
  omega
theorem of_i (n : Int) (h1 : -9223372036854775808 ≤ n) (h2 : n < 9223372036854775808) : Spec Try.prog 32 [.sc (.int .i64 n)] (iv n) := by
  obtain ⟨hv, hl⟩ := two_limbs (m := n.natAbs) (by omega)
  have hm := made_i [n.natAbs % 4294967296, n.natAbs / 4294967296] (decide (n < 0)) hl (by simp)
  rw [hv] at hm
  have hs : sgn (decide (n < 0)) n.natAbs = n := by unfold sgn; split <;> simp_all <;> omega
  rw [hs] at hm
  unfold sv at hm
  rw [show lv [n.natAbs % 4294967296, n.natAbs / 4294967296] = [.sc (.int .u32 ((n.natAbs % 4294967296 : Nat) : Int)), .sc (.int .u32 ((n.natAbs / 4294967296 : Nat) : Int))] from rfl] at hm
  unfold iv sv at hm ⊢
  refine Spec.run Try.func32 rfl Try.ntmps32 (by simp) (by simp (disch := omega) only [go_sem]; rfl) fun B hB => ?_
  obtain ⟨m, hm0⟩ : ∃ m, m = n.natAbs := ⟨_, rfl⟩
  rw [← hm0] at hm
  have w1 : (m : Int) % 4294967296 = ((m % 4294967296 : Nat) : Int) := by simp
  have w2 : (m : Int) / 2 ^ min 32 64 % 4294967296 = ((m / 4294967296 : Nat) : Int) := by
    have : (2 : Int) ^ min 32 64 = 4294967296 := by decide
    rw [this]; omega
  simp only [List.length_cons, List.length_nil, Nat.zero_add, zn4] at hm
  by_cases h0 : n < 0
  · have e1 : IntKind.u64.wrap n = n + 18446744073709551616 := by simp [IntKind.wrap, IntKind.bits, IntKind.signed]; omega
    have e2 : IntKind.u64.wrap (0 - (n + 18446744073709551616)) = (m : Int) := by simp [IntKind.wrap, IntKind.bits, IntKind.signed]; omega
    have hd : decide (n < 0) = true := decide_eq_true h0
    rw [hd] at hm
    (repeat (first | (with_reducible first | apply oz1 | apply oz2 | apply oz3 | apply oz4 | apply oz5 | apply oz6 | apply oz7 | apply oz8 | apply oz9 | apply ozb | apply ozc | apply oze | apply ozf | apply ozg | apply ozh | apply ozi | apply ozj | apply ozk | refine ozd (by decide) ?_) | ((with_reducible apply SC.region); (focus (simp (disch := omega) only [go_sem, ↓reduceIte, reduceCtorEq, e1, hd]; rfl))) | (with_reducible refine SC.draw Tab.mixed rfl ?_; (repeat (refine DO.run (by simp (disch := omega) only [go_sem, ↓reduceIte, zn1, zn2, zn3, zn4, zn5, zn6, reduceCtorEq, zn7, zi1, zi2, if_pos, if_neg, e1, hd]; rfl) ?_)); refine DO.nil (by kernel_rfl) ?_)))
    refine SC.cond (by simp (disch := omega) only [go_sem, ↓reduceIte]; rfl) ?_ ?_
    rotate_left
    · intro h; cases h
    intro _
    (repeat (first | (with_reducible first | apply oz1 | apply oz2 | apply oz3 | apply oz4 | apply oz5 | apply oz6 | apply oz7 | apply oz8 | apply oz9 | apply ozb | apply ozc | apply oze | apply ozf | apply ozg | apply ozh | apply ozi | apply ozj | apply ozk | refine ozd (by decide) ?_) | ((with_reducible apply SC.region); (focus (simp (disch := omega) only [go_sem, ↓reduceIte, zn1, zn2, zn3, zn4, reduceCtorEq, zi1, if_neg, e2, hd]; rfl))) | (with_reducible refine SC.draw Tab.mixed rfl ?_; (repeat (refine DO.run (by simp (disch := omega) only [go_sem, ↓reduceIte, zn1, zn2, zn3, zn4, zn5, zn6, reduceCtorEq, zn7, zi1, zi2, if_pos, if_neg, e1, e2, hd]; rfl) ?_)); refine DO.nil (by kernel_rfl) ?_)))
    refine SC.ops ?_
    (repeat (refine SO.run (by simp (disch := omega) only [go_sem, ↓reduceIte, zn1, zn2, zn3, zn4, reduceCtorEq, zi1, if_neg, hd]; rfl) ?_))
    (refine SO.call Tab.go58 (by simp (disch := omega) only [go_sem, ↓reduceIte, zn1, zn3, zn4]; rfl) (by simp (disch := omega) only [go_sem, zn2] <;> rfl) ?_)
    rw [w1, w2]
    (refine SCall.ofF (hm) (by simp (disch := omega) only [go_sem, ↓reduceIte, zn7]; rfl) ?_)
    (repeat (refine SO.run (by simp (disch := omega) only [go_sem, ↓reduceIte, zn1, zn3, zn4, reduceCtorEq]; rfl) ?_))
    (repeat (first | (with_reducible first | apply oz1 | apply oz2 | apply oz3 | apply oz4 | apply oz5 | apply oz6 | apply oz7 | apply oz8 | apply oz9 | apply ozb | apply ozc | apply oze | apply ozf | apply ozg | apply ozh | apply ozi | apply ozj | apply ozk | refine ozd (by decide) ?_) | ((with_reducible apply SC.region); (focus (simp (disch := omega) only [go_sem, ↓reduceIte, zn1, zn2, zn3, zn4, zn5, zn6, reduceCtorEq, zn7, zi1, zi2, if_pos, if_neg]; rfl))) | (with_reducible refine SC.draw Tab.mixed rfl ?_; (repeat (refine DO.run (by simp (disch := omega) only [go_sem, ↓reduceIte, zn1, zn2, zn3, zn4, zn5, zn6, reduceCtorEq, zn7, zi1, zi2, if_pos, if_neg]; rfl) ?_)); refine DO.nil (by kernel_rfl) ?_)))
    refine retQ_ret Try.results32 (by simp (disch := omega) only [go_sem, ↓reduceIte, zn1, zn3, zn4, reduceCtorEq]; rfl) (by simp (disch := omega) only [go_sem, ↓reduceIte]; rfl) ?_
    rw [hd, ← hm0]
  · have e1 : IntKind.u64.wrap n = (m : Int) := by simp [IntKind.wrap, IntKind.bits, IntKind.signed]; omega
    have hd : decide (n < 0) = false := decide_eq_false h0
    rw [hd] at hm
    (repeat (first | (with_reducible first | apply oz1 | apply oz2 | apply oz3 | apply oz4 | apply oz5 | apply oz6 | apply oz7 | apply oz8 | apply oz9 | apply ozb | apply ozc | apply oze | apply ozf | apply ozg | apply ozh | apply ozi | apply ozj | apply ozk | refine ozd (by decide) ?_) | ((with_reducible apply SC.region); (focus (simp (disch := omega) only [go_sem, ↓reduceIte, reduceCtorEq, e1, hd]; rfl))) | (with_reducible refine SC.draw Tab.mixed rfl ?_; (repeat (refine DO.run (by simp (disch := omega) only [go_sem, ↓reduceIte, zn1, zn2, zn3, zn4, zn5, zn6, reduceCtorEq, zn7, zi1, zi2, if_pos, if_neg, e1, hd]; rfl) ?_)); refine DO.nil (by kernel_rfl) ?_)))
    refine SC.cond (by simp (disch := omega) only [go_sem, ↓reduceIte]; rfl) ?_ ?_
    · intro h; cases h
    intro _
    (repeat (first | (with_reducible first | apply oz1 | apply oz2 | apply oz3 | apply oz4 | apply oz5 | apply oz6 | apply oz7 | apply oz8 | apply oz9 | apply ozb | apply ozc | apply oze | apply ozf | apply ozg | apply ozh | apply ozi | apply ozj | apply ozk | refine ozd (by decide) ?_) | ((with_reducible apply SC.region); (focus (simp (disch := omega) only [go_sem, ↓reduceIte, zn1, zn2, zn3, zn4, reduceCtorEq, zi1, if_neg]; rfl))) | (with_reducible refine SC.draw Tab.mixed rfl ?_; (repeat (refine DO.run (by simp (disch := omega) only [go_sem, ↓reduceIte, zn1, zn2, zn3, zn4, zn5, zn6, reduceCtorEq, zn7, zi1, zi2, if_pos, if_neg]; rfl) ?_)); refine DO.nil (by kernel_rfl) ?_)))
    refine SC.ops ?_
    (repeat (refine SO.run (by simp (disch := omega) only [go_sem, ↓reduceIte, zn1, zn2, zn3, zn4, reduceCtorEq, zi1, if_neg, hd]; rfl) ?_))
    (refine SO.call Tab.go58 (by simp (disch := omega) only [go_sem, ↓reduceIte, zn1, zn3, zn4]; rfl) (by simp (disch := omega) only [go_sem, zn2] <;> rfl) ?_)
    rw [w1, w2]
    (refine SCall.ofF (hm) (by simp (disch := omega) only [go_sem, ↓reduceIte, zn7]; rfl) ?_)
    (repeat (refine SO.run (by simp (disch := omega) only [go_sem, ↓reduceIte, zn1, zn3, zn4, reduceCtorEq]; rfl) ?_))
    (repeat (first | (with_reducible first | apply oz1 | apply oz2 | apply oz3 | apply oz4 | apply oz5 | apply oz6 | apply oz7 | apply oz8 | apply oz9 | apply ozb | apply ozc | apply oze | apply ozf | apply ozg | apply ozh | apply ozi | apply ozj | apply ozk | refine ozd (by decide) ?_) | ((with_reducible apply SC.region); (focus (simp (disch := omega) only [go_sem, ↓reduceIte, zn1, zn2, zn3, zn4, zn5, zn6, reduceCtorEq, zn7, zi1, zi2, if_pos, if_neg]; rfl))) | (with_reducible refine SC.draw Tab.mixed rfl ?_; (repeat (refine DO.run (by simp (disch := omega) only [go_sem, ↓reduceIte, zn1, zn2, zn3, zn4, zn5, zn6, reduceCtorEq, zn7, zi1, zi2, if_pos, if_neg]; rfl) ?_)); refine DO.nil (by kernel_rfl) ?_)))
    refine retQ_ret Try.results32 (by simp (disch := omega) only [go_sem, ↓reduceIte, zn1, zn3, zn4, reduceCtorEq]; rfl) (by simp (disch := omega) only [go_sem, ↓reduceIte]; rfl) ?_
    rw [hd, ← hm0]
end Go.Proofs.Ytfhcmibgpddggaa
namespace Go.Proofs.Ytfhcmibgpddggaa
open Go.RowKit
theorem trim_i (l : List Nat) (hl : limbs l) (hm : l.length ≤ 1000000000) : Spec Try.prog 71 [sv l] (sv (limbsOf (val l))) := by
  unfold sv
  refine Spec.run Try.func71 rfl Try.ntmps71 (by simp) (by simp (disch := omega) only [go_sem]; rfl) fun B hB => ?_
  (repeat (first | (with_reducible first | apply oz1 | apply oz2 | apply oz3 | apply oz4 | apply oz5 | apply oz6 | apply oz7 | apply oz8 | apply oz9 | apply ozb | apply ozc | apply oze | apply ozf | apply ozg | apply ozh | apply ozi | apply ozj | apply ozk | refine ozd (by decide) ?_) | ((with_reducible apply SC.region); (focus (simp (disch := omega) only [go_sem, ↓reduceIte, reduceCtorEq]; rfl))) | (with_reducible refine SC.draw Tab.mixed rfl ?_; (repeat (refine DO.run (by simp (disch := omega) only [go_sem, ↓reduceIte, zn1, zn2, zn3, zn4, zn5, zn6, reduceCtorEq, zn7, zi1, zi2, if_pos, if_neg]; rfl) ?_)); refine DO.nil (by kernel_rfl) ?_)))
  refine SC.loop (fun k : Nat => ⟨[(0, .im (lv l) l.length), (3, .sc (.int .i64 k))], [], 0, 21⟩)
    (fun k => k ≤ l.length ∧ ∀ i, k ≤ i → l.getD i 0 = 0) (fun k => k) l.length ?_ ?_ ?_
  · (refine Le.of [] hB (by first | exact ⟨Nat.zero_le _, fun _ _ => Nat.zero_le _⟩ | (constructor <;> (try simp) <;> (try omega))) ?_ ?_ <;> (repeat' (first | exact leSl_nil | exact leHp_nil | refine leSl_cons (by simp (disch := omega) only [go_sem, ↓reduceIte, reduceCtorEq]; rfl) ?_ ?_ | refine leHp_cons (by simp (disch := omega) only [go_sem, ↓reduceIte, zn1, zn2, zn3, zn4, zn5, zn6, reduceCtorEq, zn7, zi1, zi2, if_pos, if_neg]; rfl) ?_ ?_ | exact VLe.junk _ | exact VLe.refl rfl | exact VLe.nil_sl _ _ _ | exact VLe.int (by first | rfl | omega | (dsimp only; omega)) | exact VLe.bool rfl | exact VLe.sl rfl (by first | rfl | omega | (dsimp only; omega) | (simp; done)) | exact VLe.cap rfl (by first | rfl | omega | (dsimp only; omega) | (simp; done)) | exact VLe.im rfl rfl | exact HLe.new rfl | exact HLe.same rfl (LLe.refl rfl) | refine HLe.same rfl ?_ | exact LLe.nil _ | exact LLe.refl rfl | refine LLe.cons ?_ ?_)))
  · exact ⟨Nat.le_refl _, fun i hi => by simp [hi]⟩
  · rintro k ⟨hk, hz⟩ K hK
    have hlen : (l.take k).length = k := by simp; omega
    by_cases h0 : k = 0
    · subst h0
      (repeat (first | (with_reducible first | apply oz1 | apply oz2 | apply oz3 | apply oz4 | apply oz5 | apply oz6 | apply oz7 | apply oz8 | apply oz9 | apply ozb | apply ozc | apply oze | apply ozf | apply ozg | apply ozh | apply ozi | apply ozj | apply ozk | refine ozd (by decide) ?_) | ((with_reducible apply SC.region); (focus (simp (disch := omega) only [go_sem, ↓reduceIte, reduceCtorEq]; rfl))) | (with_reducible refine SC.draw Tab.mixed rfl ?_; (repeat (refine DO.run (by simp (disch := omega) only [go_sem, ↓reduceIte, zn1, zn2, zn3, zn4, zn5, zn6, reduceCtorEq, zn7, zi1, zi2, if_pos, if_neg]; rfl) ?_)); refine DO.nil (by kernel_rfl) ?_)))
      refine SC.cond (by simp (disch := omega) only [go_sem, ↓reduceIte]; rfl) ?_ ?_
      · intro h; cases h
      intro _
      (repeat (first | (with_reducible first | apply oz1 | apply oz2 | apply oz3 | apply oz4 | apply oz5 | apply oz6 | apply oz7 | apply oz8 | apply oz9 | apply ozb | apply ozc | apply oze | apply ozf | apply ozg | apply ozh | apply ozi | apply ozj | apply ozk | refine ozd (by decide) ?_) | ((with_reducible apply SC.region); (focus (simp (disch := omega) only [go_sem, ↓reduceIte, zn1, zn2, zn3, reduceCtorEq, if_pos]; rfl))) | (with_reducible refine SC.draw Tab.mixed rfl ?_; (repeat (refine DO.run (by simp (disch := omega) only [go_sem, ↓reduceIte, zn1, zn2, zn3, zn4, zn5, zn6, reduceCtorEq, zn7, zi1, zi2, if_pos, if_neg]; rfl) ?_)); refine DO.nil (by kernel_rfl) ?_)))
      have e1 := (made_tree (neg := false) hl hz hk (fun h => absurd rfl h)).1
      have e2 : (sgn false (val l)).natAbs = val l := by simp [sgn]
      rw [e2] at e1
      refine retQ_ret Try.results71 (by simp (disch := omega) only [go_sem, ↓reduceIte]; rfl) (by simp (disch := omega) only [go_sem]; rfl) ?_
      rw [e1]; simp [lv]
    · have hi : ((k : Int) - 1).toNat = k - 1 := by omega
      have hg := lv_get (l := l) (i := k - 1) (by omega)
      have hd : decide ((k : Int) > 0) = true := by simp; omega
      by_cases hx : l.getD (k - 1) 0 = 0
      · have hb : (((l.getD (k - 1) 0 : Nat) : Int) == 0) = true := by simp only [beq_iff_eq]; omega
        (repeat (first | (with_reducible first | apply oz1 | apply oz2 | apply oz3 | apply oz4 | apply oz5 | apply oz6 | apply oz7 | apply oz8 | apply oz9 | apply ozb | apply ozc | apply oze | apply ozf | apply ozg | apply ozh | apply ozi | apply ozj | apply ozk | refine ozd (by decide) ?_) | ((with_reducible apply SC.region); (focus (simp (disch := omega) only [go_sem, ↓reduceIte, reduceCtorEq]; rfl))) | (with_reducible refine SC.draw Tab.mixed rfl ?_; (repeat (refine DO.run (by simp (disch := omega) only [go_sem, ↓reduceIte, zn1, zn2, zn3, zn4, zn5, zn6, reduceCtorEq, zn7, zi1, zi2, if_pos, if_neg]; rfl) ?_)); refine DO.nil (by kernel_rfl) ?_)))
        refine SC.cond (by simp (disch := omega) only [go_sem, ↓reduceIte, hd]; rfl) ?_ ?_
        rotate_left
        · intro h; cases h
        intro _
        (repeat (first | (with_reducible first | apply oz1 | apply oz2 | apply oz3 | apply oz4 | apply oz5 | apply oz6 | apply oz7 | apply oz8 | apply oz9 | apply ozb | apply ozc | apply oze | apply ozf | apply ozg | apply ozh | apply ozi | apply ozj | apply ozk | refine ozd (by decide) ?_) | ((with_reducible apply SC.region); (focus (simp (disch := omega) only [go_sem, ↓reduceIte, zn1, reduceCtorEq, if_pos, hi, hg, hd, hb, lv_len, List.getElem?_drop]; rfl))) | (with_reducible refine SC.draw Tab.mixed rfl ?_; (repeat (refine DO.run (by simp (disch := omega) only [go_sem, ↓reduceIte, zn1, zn2, zn3, zn4, zn5, zn6, reduceCtorEq, zn7, zi1, zi2, if_pos, if_neg, hi, hg, hd, hb, lv_len, List.getElem?_drop]; rfl) ?_)); refine DO.nil (by kernel_rfl) ?_)))
        refine SC.cond (by simp (disch := omega) only [go_sem, ↓reduceIte]; rfl) ?_ ?_
        rotate_left
        · intro h; cases h
        intro _
        (repeat (first | (with_reducible first | apply oz1 | apply oz2 | apply oz3 | apply oz4 | apply oz5 | apply oz6 | apply oz7 | apply oz8 | apply oz9 | apply ozb | apply ozc | apply oze | apply ozf | apply ozg | apply ozh | apply ozi | apply ozj | apply ozk | refine ozd (by decide) ?_) | ((with_reducible apply SC.region); (focus (simp (disch := omega) only [go_sem, ↓reduceIte, zn1, reduceCtorEq]; rfl))) | (with_reducible refine SC.draw Tab.mixed rfl ?_; (repeat (refine DO.run (by simp (disch := omega) only [go_sem, ↓reduceIte, zn1, zn2, zn3, zn4, zn5, zn6, reduceCtorEq, zn7, zi1, zi2, if_pos, if_neg]; rfl) ?_)); refine DO.nil (by kernel_rfl) ?_)))
        refine hK _ (k - 1) ?_ ⟨by omega, fun i hi => ?_⟩ (by omega)
        · (refine Le.of [] hB (by first | exact ⟨Nat.zero_le _, fun _ _ => Nat.zero_le _⟩ | (constructor <;> (try simp) <;> (try omega))) ?_ ?_ <;> (repeat' (first | exact leSl_nil | exact leHp_nil | refine leSl_cons (by simp (disch := omega) only [go_sem, ↓reduceIte, reduceCtorEq]; rfl) ?_ ?_ | refine leHp_cons (by simp (disch := omega) only [go_sem, ↓reduceIte, zn1, zn2, zn3, zn4, zn5, zn6, reduceCtorEq, zn7, zi1, zi2, if_pos, if_neg]; rfl) ?_ ?_ | exact VLe.junk _ | exact VLe.refl rfl | exact VLe.nil_sl _ _ _ | exact VLe.int (by first | rfl | omega | (dsimp only; omega)) | exact VLe.bool rfl | exact VLe.sl rfl (by first | rfl | omega | (dsimp only; omega) | (simp; done)) | exact VLe.cap rfl (by first | rfl | omega | (dsimp only; omega) | (simp; done)) | exact VLe.im rfl rfl | exact HLe.new rfl | exact HLe.same rfl (LLe.refl rfl) | refine HLe.same rfl ?_ | exact LLe.nil _ | exact LLe.refl rfl | refine LLe.cons ?_ ?_)))
        · rcases Nat.lt_or_ge i k with h | h
          · rw [show i = k - 1 by omega]; exact hx
          · exact hz i h
      · have hb : (((l.getD (k - 1) 0 : Nat) : Int) == 0) = false := by simp only [beq_eq_false_iff_ne, ne_eq]; omega
        have e1 := (made_tree (neg := false) hl hz hk (fun _ => hx)).1
        have e2 : (sgn false (val l)).natAbs = val l := by simp [sgn]
        rw [e2] at e1
        (repeat (first | (with_reducible first | apply oz1 | apply oz2 | apply oz3 | apply oz4 | apply oz5 | apply oz6 | apply oz7 | apply oz8 | apply oz9 | apply ozb | apply ozc | apply oze | apply ozf | apply ozg | apply ozh | apply ozi | apply ozj | apply ozk | refine ozd (by decide) ?_) | ((with_reducible apply SC.region); (focus (simp (disch := omega) only [go_sem, ↓reduceIte, reduceCtorEq]; rfl))) | (with_reducible refine SC.draw Tab.mixed rfl ?_; (repeat (refine DO.run (by simp (disch := omega) only [go_sem, ↓reduceIte, zn1, zn2, zn3, zn4, zn5, zn6, reduceCtorEq, zn7, zi1, zi2, if_pos, if_neg]; rfl) ?_)); refine DO.nil (by kernel_rfl) ?_)))
        refine SC.cond (by simp (disch := omega) only [go_sem, ↓reduceIte, hd]; rfl) ?_ ?_
        rotate_left
        · intro h; cases h
        intro _
        (repeat (first | (with_reducible first | apply oz1 | apply oz2 | apply oz3 | apply oz4 | apply oz5 | apply oz6 | apply oz7 | apply oz8 | apply oz9 | apply ozb | apply ozc | apply oze | apply ozf | apply ozg | apply ozh | apply ozi | apply ozj | apply ozk | refine ozd (by decide) ?_) | ((with_reducible apply SC.region); (focus (simp (disch := omega) only [go_sem, ↓reduceIte, zn1, reduceCtorEq, if_pos, hi, hg, hd, hb, lv_len, List.getElem?_drop]; rfl))) | (with_reducible refine SC.draw Tab.mixed rfl ?_; (repeat (refine DO.run (by simp (disch := omega) only [go_sem, ↓reduceIte, zn1, zn2, zn3, zn4, zn5, zn6, reduceCtorEq, zn7, zi1, zi2, if_pos, if_neg, hi, hg, hd, hb, lv_len, List.getElem?_drop]; rfl) ?_)); refine DO.nil (by kernel_rfl) ?_)))
        refine SC.cond (by simp (disch := omega) only [go_sem, ↓reduceIte]; rfl) ?_ ?_
        · intro h; cases h
        intro _
        (repeat (first | (with_reducible first | apply oz1 | apply oz2 | apply oz3 | apply oz4 | apply oz5 | apply oz6 | apply oz7 | apply oz8 | apply oz9 | apply ozb | apply ozc | apply oze | apply ozf | apply ozg | apply ozh | apply ozi | apply ozj | apply ozk | refine ozd (by decide) ?_) | ((with_reducible apply SC.region); (focus (simp (disch := omega) only [go_sem, ↓reduceIte, zn1, zn2, reduceCtorEq, if_pos, lv_take]; rfl))) | (with_reducible refine SC.draw Tab.mixed rfl ?_; (repeat (refine DO.run (by simp (disch := omega) only [go_sem, ↓reduceIte, zn1, zn2, zn3, zn4, zn5, zn6, reduceCtorEq, zn7, zi1, zi2, if_pos, if_neg, hi, hg, hd, hb, lv_len, lv_take, hlen]; rfl) ?_)); refine DO.nil (by kernel_rfl) ?_)))
        refine retQ_ret Try.results71 (by simp (disch := omega) only [go_sem, ↓reduceIte]; rfl) (by simp (disch := omega) only [go_sem]; rfl) ?_
        rw [e1, hlen]
theorem limbs_s (m : Nat) (h : m < 18446744073709551616) : Spec Try.prog 86 [.sc (.int .u64 m)] (.im [.sc (.int .u32 ((m % 4294967296 : Nat) : Int)), .sc (.int .u32 ((m / 4294967296 : Nat) : Int))] 2) := by
  have w1 : (m : Int) % 4294967296 = ((m % 4294967296 : Nat) : Int) := by simp
  have w2 : (m : Int) / 2 ^ min 32 64 % 4294967296 = ((m / 4294967296 : Nat) : Int) := by
    have : (2 : Int) ^ min 32 64 = 4294967296 := by decide
    rw [this]; omega
  refine Spec.run Try.func86 rfl Try.ntmps86 (by simp) (by simp (disch := omega) only [go_sem]; rfl) fun B hB => ?_
  (repeat (first | (with_reducible first | apply oz1 | apply oz2 | apply oz3 | apply oz4 | apply oz5 | apply oz6 | apply oz7 | apply oz8 | apply oz9 | apply ozb | apply ozc | apply oze | apply ozf | apply ozg | apply ozh | apply ozi | apply ozj | apply ozk | refine ozd (by decide) ?_) | ((with_reducible apply SC.region); (focus (simp (disch := omega) only [go_sem, ↓reduceIte, zn1, zn2, zn3, zn4, reduceCtorEq, zi1, if_neg]; rfl))) | (with_reducible refine SC.draw Tab.mixed rfl ?_; (repeat (refine DO.run (by simp (disch := omega) only [go_sem, ↓reduceIte, zn1, zn2, zn3, zn4, zn5, zn6, reduceCtorEq, zn7, zi1, zi2, if_pos, if_neg]; rfl) ?_)); refine DO.nil (by kernel_rfl) ?_)))
  refine retQ_ret Try.results86 (by simp (disch := omega) only [go_sem, ↓reduceIte]; rfl) (by simp (disch := omega) only [go_sem, ↓reduceIte, zn3, zn4]; rfl) ?_
  rw [w1, w2]
theorem value_i (neg : Bool) (l : List Nat) (hl : limbs l) (hm : l.length ≤ 1000000000) : Spec Try.prog 68 [.sc (.bool neg), sv l] (iv (sgn neg (val l))) := by
  have ht := trim_i l hl hm
  obtain ⟨L, eL⟩ : ∃ L, L = limbsOf (val l) := ⟨_, rfl⟩
  have hn : (sgn neg (val l)).natAbs = val l := by unfold sgn; cases neg <;> simp
  rw [← eL] at ht
  unfold iv
  rw [hn, ← eL]
  unfold sv at ht ⊢
  refine Spec.run Try.func68 rfl Try.ntmps68 (by simp) (by simp (disch := omega) only [go_sem, zn4]; rfl) fun B hB => ?_
  (repeat (first | (with_reducible first | apply oz1 | apply oz2 | apply oz3 | apply oz4 | apply oz5 | apply oz6 | apply oz7 | apply oz8 | apply oz9 | apply ozb | apply ozc | apply oze | apply ozf | apply ozg | apply ozh | apply ozi | apply ozj | apply ozk | refine ozd (by decide) ?_) | ((with_reducible apply SC.region); (focus (simp (disch := omega) only [go_sem, ↓reduceIte, zn1, reduceCtorEq]; rfl))) | (with_reducible refine SC.draw Tab.mixed rfl ?_; (repeat (refine DO.run (by simp (disch := omega) only [go_sem, ↓reduceIte, zn1, zn2, zn3, zn4, zn5, zn6, reduceCtorEq, zn7, zi1, zi2, if_pos, if_neg]; rfl) ?_)); refine DO.nil (by kernel_rfl) ?_)))
  refine SC.ops ?_
  (repeat (refine SO.run (by simp (disch := omega) only [go_sem, ↓reduceIte, zn1, reduceCtorEq]; rfl) ?_))
  (refine SO.call Tab.go71 (by simp (disch := omega) only [go_sem, ↓reduceIte]; rfl) (by simp (disch := omega) only [go_sem] <;> rfl) ?_)
  (refine SCall.ofF (ht) (by simp (disch := omega) only [go_sem, ↓reduceIte]; rfl) ?_)
  by_cases h0 : L.length = 0
  · have hL : L = [] := List.eq_nil_of_length_eq_zero h0
    have hv : val l = 0 := limbsOf_nil.1 (eL ▸ hL)
    subst hL
    have hd : decide (sgn neg (val l) < 0) = false := by rw [hv]; unfold sgn; cases neg <;> simp
    rw [hd]
    (repeat (refine SO.run (by simp (disch := omega) only [go_sem, ↓reduceIte]; rfl) ?_))
    (repeat (first | (with_reducible first | apply oz1 | apply oz2 | apply oz3 | apply oz4 | apply oz5 | apply oz6 | apply oz7 | apply oz8 | apply oz9 | apply ozb | apply ozc | apply oze | apply ozf | apply ozg | apply ozh | apply ozi | apply ozj | apply ozk | refine ozd (by decide) ?_) | ((with_reducible apply SC.region); (focus (simp (disch := omega) only [go_sem, ↓reduceIte]; rfl))) | (with_reducible refine SC.draw Tab.mixed rfl ?_; (repeat (refine DO.run (by simp (disch := omega) only [go_sem, ↓reduceIte, zn1, zn2, zn3, zn4, zn5, zn6, reduceCtorEq, zn7, zi1, zi2, if_pos, if_neg]; rfl) ?_)); refine DO.nil (by kernel_rfl) ?_)))
    refine SC.cond (by simp (disch := omega) only [go_sem, ↓reduceIte]; rfl) ?_ ?_
    rotate_left
    · intro h; simp at h
    intro _
    (repeat (first | (with_reducible first | apply oz1 | apply oz2 | apply oz3 | apply oz4 | apply oz5 | apply oz6 | apply oz7 | apply oz8 | apply oz9 | apply ozb | apply ozc | apply oze | apply ozf | apply ozg | apply ozh | apply ozi | apply ozj | apply ozk | refine ozd (by decide) ?_) | ((with_reducible apply SC.region); (focus (simp (disch := omega) only [go_sem, ↓reduceIte, zn1, zn3, zn4]; rfl))) | (with_reducible refine SC.draw Tab.mixed rfl ?_; (repeat (refine DO.run (by simp (disch := omega) only [go_sem, ↓reduceIte, zn1, zn2, zn3, zn4, zn5, zn6, reduceCtorEq, zn7, zi1, zi2, if_pos, if_neg]; rfl) ?_)); refine DO.nil (by kernel_rfl) ?_)))
    exact retQ_ret Try.results68 (by simp (disch := omega) only [go_sem, ↓reduceIte, zn1, zn3, zn4]; rfl) (by simp (disch := omega) only [go_sem, ↓reduceIte]; rfl) rfl
  · have hv : val l ≠ 0 := fun h => h0 (by rw [eL, h]; rfl)
    have hd : decide (sgn neg (val l) < 0) = neg := by unfold sgn; cases neg <;> simp; omega
    have hb : ((L.length : Int) == 0) = false := by simp only [beq_eq_false_iff_ne, ne_eq]; omega
    rw [hd]
    (repeat (refine SO.run (by simp (disch := omega) only [go_sem, ↓reduceIte]; rfl) ?_))
    (repeat (first | (with_reducible first | apply oz1 | apply oz2 | apply oz3 | apply oz4 | apply oz5 | apply oz6 | apply oz7 | apply oz8 | apply oz9 | apply ozb | apply ozc | apply oze | apply ozf | apply ozg | apply ozh | apply ozi | apply ozj | apply ozk | refine ozd (by decide) ?_) | ((with_reducible apply SC.region); (focus (simp (disch := omega) only [go_sem, ↓reduceIte]; rfl))) | (with_reducible refine SC.draw Tab.mixed rfl ?_; (repeat (refine DO.run (by simp (disch := omega) only [go_sem, ↓reduceIte, zn1, zn2, zn3, zn4, zn5, zn6, reduceCtorEq, zn7, zi1, zi2, if_pos, if_neg]; rfl) ?_)); refine DO.nil (by kernel_rfl) ?_)))
    refine SC.cond (by simp (disch := omega) only [go_sem, ↓reduceIte, hb]; rfl) ?_ ?_
    · intro h; cases h
    intro _
    (repeat (first | (with_reducible first | apply oz1 | apply oz2 | apply oz3 | apply oz4 | apply oz5 | apply oz6 | apply oz7 | apply oz8 | apply oz9 | apply ozb | apply ozc | apply oze | apply ozf | apply ozg | apply ozh | apply ozi | apply ozj | apply ozk | refine ozd (by decide) ?_) | ((with_reducible apply SC.region); (focus (simp (disch := omega) only [go_sem, ↓reduceIte, zn1, zn2, zn3, zn4, reduceCtorEq]; rfl))) | (with_reducible refine SC.draw Tab.mixed rfl ?_; (repeat (refine DO.run (by simp (disch := omega) only [go_sem, ↓reduceIte, zn1, zn2, zn3, zn4, zn5, zn6, reduceCtorEq, zn7, zi1, zi2, if_pos, if_neg]; rfl) ?_)); refine DO.nil (by kernel_rfl) ?_)))
    exact retQ_ret Try.results68 (by simp (disch := omega) only [go_sem, ↓reduceIte, zn1, zn3, zn4]; rfl) (by simp (disch := omega) only [go_sem, ↓reduceIte]; rfl) rfl
theorem pof_i (n : Int) (h1 : -9223372036854775808 ≤ n) (h2 : n < 9223372036854775808) : Spec Try.prog 67 [.sc (.int .i64 n)] (iv n) := by
  obtain ⟨hv, hl⟩ := two_limbs (m := n.natAbs) (by omega)
  have hm := value_i (decide (n < 0)) [n.natAbs % 4294967296, n.natAbs / 4294967296] hl (by simp)
  rw [hv] at hm
  have hs : sgn (decide (n < 0)) n.natAbs = n := by unfold sgn; split <;> simp_all <;> omega
  rw [hs] at hm
  unfold sv at hm
  rw [show lv [n.natAbs % 4294967296, n.natAbs / 4294967296] = [.sc (.int .u32 ((n.natAbs % 4294967296 : Nat) : Int)), .sc (.int .u32 ((n.natAbs / 4294967296 : Nat) : Int))] from rfl] at hm
  unfold iv sv at hm ⊢
  obtain ⟨m, hm0⟩ : ∃ m, m = n.natAbs := ⟨_, rfl⟩
  rw [← hm0] at hm
  have hlim := limbs_s m (by omega)
  simp only [List.length_cons, List.length_nil, Nat.zero_add, zn4] at hm
  refine Spec.run Try.func67 rfl Try.ntmps67 (by simp) (by simp (disch := omega) only [go_sem]; rfl) fun B hB => ?_
  by_cases h0 : n < 0
  · have e1 : IntKind.u64.wrap n = n + 18446744073709551616 := by simp [IntKind.wrap, IntKind.bits, IntKind.signed]; omega
    have e2 : IntKind.u64.wrap (0 - (n + 18446744073709551616)) = (m : Int) := by simp [IntKind.wrap, IntKind.bits, IntKind.signed]; omega
    have hd : decide (n < 0) = true := decide_eq_true h0
    rw [hd] at hm
    (repeat (first | (with_reducible first | apply oz1 | apply oz2 | apply oz3 | apply oz4 | apply oz5 | apply oz6 | apply oz7 | apply oz8 | apply oz9 | apply ozb | apply ozc | apply oze | apply ozf | apply ozg | apply ozh | apply ozi | apply ozj | apply ozk | refine ozd (by decide) ?_) | ((with_reducible apply SC.region); (focus (simp (disch := omega) only [go_sem, ↓reduceIte, reduceCtorEq, e1, hd]; rfl))) | (with_reducible refine SC.draw Tab.mixed rfl ?_; (repeat (refine DO.run (by simp (disch := omega) only [go_sem, ↓reduceIte, zn1, zn2, zn3, zn4, zn5, zn6, reduceCtorEq, zn7, zi1, zi2, if_pos, if_neg, e1, hd]; rfl) ?_)); refine DO.nil (by kernel_rfl) ?_)))
    refine SC.cond (by simp (disch := omega) only [go_sem, ↓reduceIte]; rfl) ?_ ?_
    rotate_left
    · intro h; cases h
    intro _
    (repeat (first | (with_reducible first | apply oz1 | apply oz2 | apply oz3 | apply oz4 | apply oz5 | apply oz6 | apply oz7 | apply oz8 | apply oz9 | apply ozb | apply ozc | apply oze | apply ozf | apply ozg | apply ozh | apply ozi | apply ozj | apply ozk | refine ozd (by decide) ?_) | ((with_reducible apply SC.region); (focus (simp (disch := omega) only [go_sem, ↓reduceIte, zn1, reduceCtorEq, e2, hd]; rfl))) | (with_reducible refine SC.draw Tab.mixed rfl ?_; (repeat (refine DO.run (by simp (disch := omega) only [go_sem, ↓reduceIte, zn1, zn2, zn3, zn4, zn5, zn6, reduceCtorEq, zn7, zi1, zi2, if_pos, if_neg, e1, e2, hd]; rfl) ?_)); refine DO.nil (by kernel_rfl) ?_)))
    refine SC.ops ?_
    (repeat (refine SO.run (by simp (disch := omega) only [go_sem, ↓reduceIte, zn1, reduceCtorEq, hd]; rfl) ?_))
    (refine SO.call Tab.go86 (by simp (disch := omega) only [go_sem, ↓reduceIte]; rfl) (by simp (disch := omega) only [go_sem] <;> rfl) ?_)
    (refine SCall.of (hlim) (by simp (disch := omega) only [go_sem]; rfl) ?_)
    (repeat (refine SO.run (by simp (disch := omega) only [go_sem, ↓reduceIte, zn2]; rfl) ?_))
    (refine SO.call Tab.go68 (by simp (disch := omega) only [go_sem, ↓reduceIte, zn1]; rfl) (by simp (disch := omega) only [go_sem, zn2] <;> rfl) ?_)
    (refine SCall.ofF (hm) (by simp (disch := omega) only [go_sem, ↓reduceIte]; rfl) ?_)
    (repeat (refine SO.run (by simp (disch := omega) only [go_sem, ↓reduceIte, zn1, zn3, zn4]; rfl) ?_))
    (repeat (first | (with_reducible first | apply oz1 | apply oz2 | apply oz3 | apply oz4 | apply oz5 | apply oz6 | apply oz7 | apply oz8 | apply oz9 | apply ozb | apply ozc | apply oze | apply ozf | apply ozg | apply ozh | apply ozi | apply ozj | apply ozk | refine ozd (by decide) ?_) | ((with_reducible apply SC.region); (focus (simp (disch := omega) only [go_sem, ↓reduceIte, zn1, zn2, zn3, zn4, zn5, zn6, reduceCtorEq, zn7, zi1, zi2, if_pos, if_neg]; rfl))) | (with_reducible refine SC.draw Tab.mixed rfl ?_; (repeat (refine DO.run (by simp (disch := omega) only [go_sem, ↓reduceIte, zn1, zn2, zn3, zn4, zn5, zn6, reduceCtorEq, zn7, zi1, zi2, if_pos, if_neg]; rfl) ?_)); refine DO.nil (by kernel_rfl) ?_)))
    refine retQ_ret Try.results67 (by simp (disch := omega) only [go_sem, ↓reduceIte, zn1, zn3, zn4]; rfl) (by simp (disch := omega) only [go_sem, ↓reduceIte]; rfl) ?_
    rw [hd, ← hm0]
  · have e1 : IntKind.u64.wrap n = (m : Int) := by simp [IntKind.wrap, IntKind.bits, IntKind.signed]; omega
    have hd : decide (n < 0) = false := decide_eq_false h0
    rw [hd] at hm
    (repeat (first | (with_reducible first | apply oz1 | apply oz2 | apply oz3 | apply oz4 | apply oz5 | apply oz6 | apply oz7 | apply oz8 | apply oz9 | apply ozb | apply ozc | apply oze | apply ozf | apply ozg | apply ozh | apply ozi | apply ozj | apply ozk | refine ozd (by decide) ?_) | ((with_reducible apply SC.region); (focus (simp (disch := omega) only [go_sem, ↓reduceIte, reduceCtorEq, e1, hd]; rfl))) | (with_reducible refine SC.draw Tab.mixed rfl ?_; (repeat (refine DO.run (by simp (disch := omega) only [go_sem, ↓reduceIte, zn1, zn2, zn3, zn4, zn5, zn6, reduceCtorEq, zn7, zi1, zi2, if_pos, if_neg, e1, hd]; rfl) ?_)); refine DO.nil (by kernel_rfl) ?_)))
    refine SC.cond (by simp (disch := omega) only [go_sem, ↓reduceIte]; rfl) ?_ ?_
    · intro h; cases h
    intro _
    (repeat (first | (with_reducible first | apply oz1 | apply oz2 | apply oz3 | apply oz4 | apply oz5 | apply oz6 | apply oz7 | apply oz8 | apply oz9 | apply ozb | apply ozc | apply oze | apply ozf | apply ozg | apply ozh | apply ozi | apply ozj | apply ozk | refine ozd (by decide) ?_) | ((with_reducible apply SC.region); (focus (simp (disch := omega) only [go_sem, ↓reduceIte, zn1, reduceCtorEq]; rfl))) | (with_reducible refine SC.draw Tab.mixed rfl ?_; (repeat (refine DO.run (by simp (disch := omega) only [go_sem, ↓reduceIte, zn1, zn2, zn3, zn4, zn5, zn6, reduceCtorEq, zn7, zi1, zi2, if_pos, if_neg]; rfl) ?_)); refine DO.nil (by kernel_rfl) ?_)))
    refine SC.ops ?_
    (repeat (refine SO.run (by simp (disch := omega) only [go_sem, ↓reduceIte, zn1, reduceCtorEq, hd]; rfl) ?_))
    (refine SO.call Tab.go86 (by simp (disch := omega) only [go_sem, ↓reduceIte]; rfl) (by simp (disch := omega) only [go_sem] <;> rfl) ?_)
    (refine SCall.of (hlim) (by simp (disch := omega) only [go_sem]; rfl) ?_)
    (repeat (refine SO.run (by simp (disch := omega) only [go_sem, ↓reduceIte, zn2]; rfl) ?_))
    (refine SO.call Tab.go68 (by simp (disch := omega) only [go_sem, ↓reduceIte, zn1]; rfl) (by simp (disch := omega) only [go_sem, zn2] <;> rfl) ?_)
    (refine SCall.ofF (hm) (by simp (disch := omega) only [go_sem, ↓reduceIte]; rfl) ?_)
    (repeat (refine SO.run (by simp (disch := omega) only [go_sem, ↓reduceIte, zn1, zn3, zn4]; rfl) ?_))
    (repeat (first | (with_reducible first | apply oz1 | apply oz2 | apply oz3 | apply oz4 | apply oz5 | apply oz6 | apply oz7 | apply oz8 | apply oz9 | apply ozb | apply ozc | apply oze | apply ozf | apply ozg | apply ozh | apply ozi | apply ozj | apply ozk | refine ozd (by decide) ?_) | ((with_reducible apply SC.region); (focus (simp (disch := omega) only [go_sem, ↓reduceIte, zn1, zn2, zn3, zn4, zn5, zn6, reduceCtorEq, zn7, zi1, zi2, if_pos, if_neg]; rfl))) | (with_reducible refine SC.draw Tab.mixed rfl ?_; (repeat (refine DO.run (by simp (disch := omega) only [go_sem, ↓reduceIte, zn1, zn2, zn3, zn4, zn5, zn6, reduceCtorEq, zn7, zi1, zi2, if_pos, if_neg]; rfl) ?_)); refine DO.nil (by kernel_rfl) ?_)))
    refine retQ_ret Try.results67 (by simp (disch := omega) only [go_sem, ↓reduceIte, zn1, zn3, zn4]; rfl) (by simp (disch := omega) only [go_sem, ↓reduceIte]; rfl) ?_
    rw [hd, ← hm0]
end Go.Proofs.Ytfhcmibgpddggaa
namespace Go.Proofs.Ytfhcmibgpddggaa
open Go.RowKit
theorem lv_snoc {l : List Nat} {x : Nat} {e : Int} (h : e = (x : Int)) : lv l ++ [.sc (.int .u32 e)] = lv (l ++ [x]) := by subst h; simp [lv]
theorem lv_ok (ok : Nat → Bool) (l : List Nat) : (lv l).all (okL ok) = true := by simp [lv, okL]
theorem LLe.lv {ok : Nat → Bool} {cs : List V} {l : List Nat} (h : cs = Go.Proofs.Ytfhcmibgpddggaa.lv l) : LLe ok cs (Go.Proofs.Ytfhcmibgpddggaa.lv l) := by subst h; exact LLe.refl (lv_ok _ _)
theorem lv_ren (f : Nat → Nat) (l : List Nat) : V.renL f (lv l) = lv l := by unfold lv; rw [show (l.map fun (n : Nat) => V.sc (.int .u32 (n : Int))) = (l.map fun (n : Nat) => Value.int .u32 (n : Int)).map .sc by simp]; exact renL_map_sc f _
theorem lv_snoc' {f : Nat → Nat} {l : List Nat} {x : Nat} {e : Int} (h : e = (x : Int)) : V.renL f (lv l ++ [.sc (.int .u32 e)]) = lv (l ++ [x]) := by rw [renL_app, lv_ren, ← lv_snoc h]; simp [V.renL, V.ren]
def dg : Nat → Nat → List Nat
  | 0, _ => []
  | k + 1, n => n % 4294967296 :: dg k (n / 4294967296)
theorem dg_len : ∀ (k n : Nat), (dg k n).length = k
  | 0, _ => rfl
  | k + 1, n => by simp [dg, dg_len k]
theorem dg_limbs : ∀ (k n : Nat), limbs (dg k n)
  | 0, _ => fun x hx => by simp [dg] at hx
  | k + 1, n => fun x hx => by
    rcases List.mem_cons.1 hx with rfl | hx
    · omega
    · exact dg_limbs k _ x hx
theorem dg_val : ∀ (k n : Nat), n < 4294967296 ^ k → val (dg k n) = n
  | 0, n, h => by simp at h; subst h; rfl
  | k + 1, n, h => by
    rw [Nat.pow_succ] at h
    simp only [dg, val]
    rw [dg_val k _ (by omega)]
    omega
theorem dg_eq {l : List Nat} (h : limbs l) : dg l.length (val l) = l :=
  val_inj (dg_limbs _ _) h (dg_len _ _) (dg_val _ _ (val_lt h))
def sumLen (a b : List Nat) : Nat := max a.length b.length + (if 4294967296 ^ max a.length b.length ≤ val a + val b then 1 else 0)
theorem sum_fits {a b : List Nat} (ha : limbs a) (hb : limbs b) : val a + val b < 4294967296 ^ sumLen a b := by
  have h1 := val_lt ha
  have h2 := val_lt hb
  have h3 : 4294967296 ^ a.length ≤ 4294967296 ^ max a.length b.length := Nat.pow_le_pow_right (by omega) (by omega)
  have h4 : 4294967296 ^ b.length ≤ 4294967296 ^ max a.length b.length := Nat.pow_le_pow_right (by omega) (by omega)
  unfold sumLen
  split
  · rw [Nat.pow_succ]; omega
  · simp only [Nat.add_zero]; omega
theorem plus_i (a b : List Nat) (ha : limbs a) (hb : limbs b) (hma : a.length ≤ 1000000000) (hmb : b.length ≤ 1000000000) : Spec Try.prog 87 [sv a, sv b] (sv (dg (sumLen a b) (val a + val b))) := by
  unfold sv
  refine Spec.run Try.func87 rfl Try.ntmps87 (by simp) (by simp (disch := omega) only [go_sem, zn4]; rfl) fun B hB => ?_
  (repeat (first | (with_reducible first | apply oz1 | apply oz2 | apply oz3 | apply oz4 | apply oz5 | apply oz6 | apply oz7 | apply oz8 | apply oz9 | apply ozb | apply ozc | apply oze | apply ozf | apply ozg | apply ozh | apply ozi | apply ozj | apply ozk | refine ozd (by decide) ?_) | ((with_reducible apply SC.region); (focus (simp (disch := omega) only [go_sem, ↓reduceIte, zn3]; rfl))) | (with_reducible refine SC.draw Tab.mixed rfl ?_; (repeat (refine DO.run (by simp (disch := omega) only [go_sem, ↓reduceIte, zn1, zn2, zn3, zn4, zn5, zn6, reduceCtorEq, zn7, zi1, zi2, if_pos, if_neg]; rfl) ?_)); refine DO.nil (by kernel_rfl) ?_)))
  refine SC.loop (fun x : Nat × Nat × List Nat => ⟨[(0, .im (lv a) a.length), (1, .im (lv b) b.length), (5, .sl 0 0 x.2.2.length 1 none), (6, .sc (.int .u64 x.2.1)), (7, .sc (.int .i64 x.1))], [(0, ⟨74, lv x.2.2, false⟩)], 1, 55⟩)
    (fun x => x.2.1 ≤ 1 ∧ (x.1 ≤ max a.length b.length ∨ x.1 = max a.length b.length + 1 ∧ x.2.1 = 0 ∧ 4294967296 ^ max a.length b.length ≤ val a + val b) ∧ plusInv a b x.1 x.2.1 x.2.2) (fun x => max a.length b.length + 1 - x.1) (0, 0, []) ?_ ?_ ?_
  · (refine Le.of [] hB (by first | exact ⟨Nat.zero_le _, fun _ _ => Nat.zero_le _⟩ | (constructor <;> (try simp) <;> (try omega))) ?_ ?_ <;> (repeat' (first | exact leSl_nil | exact leHp_nil | refine leSl_cons (by simp (disch := omega) only [go_sem, ↓reduceIte, zn1, reduceCtorEq]; rfl) ?_ ?_ | refine leHp_cons (by simp (disch := omega) only [go_sem, ↓reduceIte]; rfl) ?_ ?_ | exact VLe.junk _ | exact VLe.refl rfl | exact VLe.nil_sl _ _ _ | exact VLe.int (by first | rfl | omega | (dsimp only; omega)) | exact VLe.bool rfl | exact VLe.sl rfl (by first | rfl | omega | (dsimp only; omega) | (simp; done)) | exact VLe.cap rfl (by first | rfl | omega | (dsimp only; omega) | (simp; done)) | exact VLe.im rfl rfl | exact HLe.new rfl | exact HLe.same rfl (LLe.refl rfl) | refine HLe.same rfl ?_ | exact LLe.nil _ | exact LLe.refl rfl | refine LLe.cons ?_ ?_)))
  · exact ⟨Nat.zero_le _, .inl (Nat.zero_le _), rfl, fun x hx => by simp at hx, by simp [val]⟩
  · rintro ⟨k, c, l⟩ ⟨hc, hk, hI⟩ K hK
    simp only at hc hk hI ⊢
    have hlk : l.length = k := hI.1
    have hst := hI.step _ _ rfl rfl
    have xa := limbs_getD ha k
    have xb := limbs_getD hb k
    have hgo : ∀ (c' : Nat), c' = c + a.getD k 0 + b.getD k 0 → c' / 4294967296 ≤ 1 ∧ c' / 4294967296 < 2 ∧ c' ≤ 18446744073709551615 := fun c' e => by omega
    by_cases hend : k < a.length ∨ k < b.length ∨ 0 < c
    · have hk' : k ≤ max a.length b.length := by omega
      have dC := decide_eq_true (p := (0 : Int) < c)
      have dA := decide_eq_true (p := (k : Int) < a.length)
      have dB := decide_eq_true (p := (k : Int) < b.length)
      have dA' := decide_eq_false (p := (k : Int) < a.length)
      have dB' := decide_eq_false (p := (k : Int) < b.length)
      have fin : ∀ s', Le B s' ⟨[(0, .im (lv a) a.length), (1, .im (lv b) b.length), (5, .sl 0 0 (l.length + 1) 1 none), (6, .sc (.int .u64 ((c + a.getD k 0 + b.getD k 0) / 4294967296 : Nat))), (7, .sc (.int .i64 (k + 1 : Nat)))], [(0, ⟨74, lv (l ++ [(c + a.getD k 0 + b.getD k 0) % 4294967296]), false⟩)], 1, 55⟩ → K s' := by
        intro s' hs'
        refine hK _ (k + 1, (c + a.getD k 0 + b.getD k 0) / 4294967296, l ++ [(c + a.getD k 0 + b.getD k 0) % 4294967296]) ?_ ⟨by simp only; omega, ?_, hst⟩ (by simp only; omega)
        · simpa using hs'
        · simp only
          rcases Nat.lt_or_ge k (max a.length b.length) with h | h
          · exact .inl h
          · have h1 : k = max a.length b.length := by omega
            have hxa := getD_ge (l := a) (k := k) (by omega)
            have hxb := getD_ge (l := b) (k := k) (by omega)
            rw [hxa, hxb] at hst ⊢
            have hc1 : c = 1 := by omega
            refine .inr ⟨by omega, by omega, ?_⟩
            have h3 := hI.2.2
            rw [List.take_of_length_le (by omega), List.take_of_length_le (by omega), hc1, h1] at h3
            omega
      rcases Nat.lt_or_ge k a.length with hA | hA <;> rcases Nat.lt_or_ge k b.length with hB' | hB'
      · (repeat (first | refine DO.nil (by kernel_rfl) ?_ | (with_reducible refine SC.condB (by simp (disch := omega) only [go_sem, ↓reduceIte]; rfl) ?_; first | with_reducible refine pickT ?_ | with_reducible refine pickF ?_) | (with_reducible first | apply oz1 | apply oz2 | apply oz3 | apply oz4 | apply oz5 | apply oz6 | apply oz7 | apply oz8 | apply oz9 | apply ozb | apply ozc | apply oze | apply ozf | apply ozg | apply ozh | apply ozi | apply ozj | apply ozk | refine ozd (by decide) ?_) | ((with_reducible apply SC.region); (focus (simp (disch := omega) only [go_sem, ↓reduceIte, zn1, zn3, zn4, reduceCtorEq, if_pos, if_neg, dA (by omega), dB (by omega), lv_get hA, lv_get hB', lv_len, List.getElem?_drop, lv_take, List.take_length]; rfl))) | (with_reducible refine SC.draw Tab.mixed rfl ?_; (repeat (refine DO.run (by simp (disch := omega) only [go_sem, ↓reduceIte, zn1, zn2, zn3, zn4, zn5, zn6, reduceCtorEq, zn7, zi1, zi2, if_pos, if_neg, dA (by omega), dB (by omega), lv_get hA, lv_get hB', lv_len, List.getElem?_drop, lv_all, lv_take, List.take_length]; rfl) ?_)); refine DO.nil (by kernel_rfl) ?_)))
        refine fin _ (Le.swap 0 2 hB (by omega) (by omega) ?_)
        (refine Le.of [] hB (by first | exact ⟨Nat.zero_le _, fun _ _ => Nat.zero_le _⟩ | (constructor <;> (try simp) <;> (try omega))) ?_ ?_ <;> (repeat' (first | exact leSl_nil | exact leHp_nil | refine leSl_cons (by simp (disch := omega) only [go_sem, ↓reduceIte, zn1, reduceCtorEq]; rfl) ?_ ?_ | refine leHp_cons (by simp (disch := omega) only [go_sem, ↓reduceIte]; rfl) ?_ ?_ | exact VLe.junk _ | exact VLe.refl rfl | exact VLe.nil_sl _ _ _ | exact VLe.int (by first | rfl | omega | (dsimp only; omega)) | exact VLe.bool rfl | exact VLe.sl rfl (by first | rfl | omega | (dsimp only; omega) | (simp; done)) | exact VLe.cap rfl (by first | rfl | omega | (dsimp only; omega) | (simp; done)) | exact VLe.im rfl rfl | exact HLe.new rfl | exact HLe.same rfl (LLe.refl rfl) | refine HLe.same rfl ?_ | exact LLe.nil _ | exact LLe.refl rfl | refine LLe.cons ?_ ?_)))
        exact LLe.lv (lv_snoc' (by omega))
      · have hz := getD_ge (l := b) (k := k) (by omega)
        have q1 := dA (by omega)
        have q2 := dB' (by omega)
        (repeat (first | refine DO.nil (by kernel_rfl) ?_ | (with_reducible refine SC.condB (by simp (disch := omega) only [go_sem, ↓reduceIte]; rfl) ?_; first | with_reducible refine pickT ?_ | with_reducible refine pickF ?_) | (with_reducible first | apply oz1 | apply oz2 | apply oz3 | apply oz4 | apply oz5 | apply oz6 | apply oz7 | apply oz8 | apply oz9 | apply ozb | apply ozc | apply oze | apply ozf | apply ozg | apply ozh | apply ozi | apply ozj | apply ozk | refine ozd (by decide) ?_) | ((with_reducible apply SC.region); (focus (simp (disch := omega) only [go_sem, ↓reduceIte, zn1, zn3, zn4, reduceCtorEq, if_pos, if_neg, q1, q2, lv_get hA, lv_len, List.getElem?_drop, lv_take, List.take_length]; rfl))) | (with_reducible refine SC.draw Tab.mixed rfl ?_; (repeat (refine DO.run (by simp (disch := omega) only [go_sem, ↓reduceIte, zn1, zn2, zn3, zn4, zn5, zn6, reduceCtorEq, zn7, zi1, zi2, if_pos, if_neg, q1, q2, lv_get hA, lv_len, List.getElem?_drop, lv_all, lv_take, List.take_length]; rfl) ?_)); refine DO.nil (by kernel_rfl) ?_)))
        refine fin _ (Le.swap 0 2 hB (by omega) (by omega) ?_)
        (refine Le.of [] hB (by first | exact ⟨Nat.zero_le _, fun _ _ => Nat.zero_le _⟩ | (constructor <;> (try simp) <;> (try omega))) ?_ ?_ <;> (repeat' (first | exact leSl_nil | exact leHp_nil | refine leSl_cons (by simp (disch := omega) only [go_sem, ↓reduceIte, zn1, reduceCtorEq]; rfl) ?_ ?_ | refine leHp_cons (by simp (disch := omega) only [go_sem, ↓reduceIte]; rfl) ?_ ?_ | exact VLe.junk _ | exact VLe.refl rfl | exact VLe.nil_sl _ _ _ | exact VLe.int (by first | rfl | omega | (dsimp only; omega)) | exact VLe.bool rfl | exact VLe.sl rfl (by first | rfl | omega | (dsimp only; omega) | (simp; done)) | exact VLe.cap rfl (by first | rfl | omega | (dsimp only; omega) | (simp; done)) | exact VLe.im rfl rfl | exact HLe.new rfl | exact HLe.same rfl (LLe.refl rfl) | refine HLe.same rfl ?_ | exact LLe.nil _ | exact LLe.refl rfl | refine LLe.cons ?_ ?_)))
        exact LLe.lv (lv_snoc' (by omega))
      · have hz := getD_ge (l := a) (k := k) (by omega)
        have q1 := dA' (by omega)
        have q2 := dB (by omega)
        (repeat (first | refine DO.nil (by kernel_rfl) ?_ | (with_reducible refine SC.condB (by simp (disch := omega) only [go_sem, ↓reduceIte]; rfl) ?_; first | with_reducible refine pickT ?_ | with_reducible refine pickF ?_) | (with_reducible first | apply oz1 | apply oz2 | apply oz3 | apply oz4 | apply oz5 | apply oz6 | apply oz7 | apply oz8 | apply oz9 | apply ozb | apply ozc | apply oze | apply ozf | apply ozg | apply ozh | apply ozi | apply ozj | apply ozk | refine ozd (by decide) ?_) | ((with_reducible apply SC.region); (focus (simp (disch := omega) only [go_sem, ↓reduceIte, zn1, zn3, zn4, reduceCtorEq, if_pos, if_neg, q1, q2, lv_get hB', lv_len, List.getElem?_drop, lv_take, List.take_length]; rfl))) | (with_reducible refine SC.draw Tab.mixed rfl ?_; (repeat (refine DO.run (by simp (disch := omega) only [go_sem, ↓reduceIte, zn1, zn2, zn3, zn4, zn5, zn6, reduceCtorEq, zn7, zi1, zi2, if_pos, if_neg, q1, q2, lv_get hB', lv_len, List.getElem?_drop, lv_all, lv_take, List.take_length]; rfl) ?_)); refine DO.nil (by kernel_rfl) ?_)))
        refine fin _ (Le.swap 0 2 hB (by omega) (by omega) ?_)
        (refine Le.of [] hB (by first | exact ⟨Nat.zero_le _, fun _ _ => Nat.zero_le _⟩ | (constructor <;> (try simp) <;> (try omega))) ?_ ?_ <;> (repeat' (first | exact leSl_nil | exact leHp_nil | refine leSl_cons (by simp (disch := omega) only [go_sem, ↓reduceIte, zn1, reduceCtorEq]; rfl) ?_ ?_ | refine leHp_cons (by simp (disch := omega) only [go_sem, ↓reduceIte]; rfl) ?_ ?_ | exact VLe.junk _ | exact VLe.refl rfl | exact VLe.nil_sl _ _ _ | exact VLe.int (by first | rfl | omega | (dsimp only; omega)) | exact VLe.bool rfl | exact VLe.sl rfl (by first | rfl | omega | (dsimp only; omega) | (simp; done)) | exact VLe.cap rfl (by first | rfl | omega | (dsimp only; omega) | (simp; done)) | exact VLe.im rfl rfl | exact HLe.new rfl | exact HLe.same rfl (LLe.refl rfl) | refine HLe.same rfl ?_ | exact LLe.nil _ | exact LLe.refl rfl | refine LLe.cons ?_ ?_)))
        exact LLe.lv (lv_snoc' (by omega))
      · have hz := getD_ge (l := a) (k := k) (by omega)
        have hz := getD_ge (l := b) (k := k) (by omega)
        have q1 := dA' (by omega)
        have q2 := dB' (by omega)
        have q3 := dC (by omega)
        (repeat (first | refine DO.nil (by kernel_rfl) ?_ | (with_reducible refine SC.condB (by simp (disch := omega) only [go_sem, ↓reduceIte]; rfl) ?_; first | with_reducible refine pickT ?_ | with_reducible refine pickF ?_) | (with_reducible first | apply oz1 | apply oz2 | apply oz3 | apply oz4 | apply oz5 | apply oz6 | apply oz7 | apply oz8 | apply oz9 | apply ozb | apply ozc | apply oze | apply ozf | apply ozg | apply ozh | apply ozi | apply ozj | apply ozk | refine ozd (by decide) ?_) | ((with_reducible apply SC.region); (focus (simp (disch := omega) only [go_sem, ↓reduceIte, zn1, zn3, zn4, reduceCtorEq, if_pos, if_neg, q1, q2, q3, lv_len, lv_take, List.take_length]; rfl))) | (with_reducible refine SC.draw Tab.mixed rfl ?_; (repeat (refine DO.run (by simp (disch := omega) only [go_sem, ↓reduceIte, zn1, zn2, zn3, zn4, zn5, zn6, reduceCtorEq, zn7, zi1, zi2, if_pos, if_neg, q1, q2, q3, lv_len, List.getElem?_drop, lv_all, lv_take, List.take_length]; rfl) ?_)); refine DO.nil (by kernel_rfl) ?_)))
        refine fin _ (Le.swap 0 2 hB (by omega) (by omega) ?_)
        (refine Le.of [] hB (by first | exact ⟨Nat.zero_le _, fun _ _ => Nat.zero_le _⟩ | (constructor <;> (try simp) <;> (try omega))) ?_ ?_ <;> (repeat' (first | exact leSl_nil | exact leHp_nil | refine leSl_cons (by simp (disch := omega) only [go_sem, ↓reduceIte, zn1, reduceCtorEq]; rfl) ?_ ?_ | refine leHp_cons (by simp (disch := omega) only [go_sem, ↓reduceIte]; rfl) ?_ ?_ | exact VLe.junk _ | exact VLe.refl rfl | exact VLe.nil_sl _ _ _ | exact VLe.int (by first | rfl | omega | (dsimp only; omega)) | exact VLe.bool rfl | exact VLe.sl rfl (by first | rfl | omega | (dsimp only; omega) | (simp; done)) | exact VLe.cap rfl (by first | rfl | omega | (dsimp only; omega) | (simp; done)) | exact VLe.im rfl rfl | exact HLe.new rfl | exact HLe.same rfl (LLe.refl rfl) | refine HLe.same rfl ?_ | exact LLe.nil _ | exact LLe.refl rfl | refine LLe.cons ?_ ?_)))
        exact LLe.lv (lv_snoc' (by omega))
    · have hc0 : c = 0 := by omega
      subst hc0
      have dA := decide_eq_false (p := (k : Int) < a.length) (by omega)
      have dB := decide_eq_false (p := (k : Int) < b.length) (by omega)
      have hd := hI.done (by omega) (by omega)
      have hl : l.length = sumLen a b := by
        unfold sumLen
        have hv := val_lt hI.2.1
        rcases hk with hk | ⟨h1, h2, h3⟩
        · have h1 : k = max a.length b.length := by omega
          rw [hlk, h1] at hv
          rw [if_neg (by omega), hlk, h1]; rfl
        · rw [if_pos h3]; omega
      have he := dg_eq hI.2.1
      rw [hd, hl] at he
      have dC : decide ((0 : Int) < ((0 : Nat) : Int)) = false := by simp
      (repeat (first | refine DO.nil (by kernel_rfl) ?_ | (with_reducible refine SC.condB (by simp (disch := omega) only [go_sem, ↓reduceIte]; rfl) ?_; first | with_reducible refine pickT ?_ | with_reducible refine pickF ?_) | (with_reducible first | apply oz1 | apply oz2 | apply oz3 | apply oz4 | apply oz5 | apply oz6 | apply oz7 | apply oz8 | apply oz9 | apply ozb | apply ozc | apply oze | apply ozf | apply ozg | apply ozh | apply ozi | apply ozj | apply ozk | refine ozd (by decide) ?_) | ((with_reducible apply SC.region); (focus (simp (disch := omega) only [go_sem, ↓reduceIte, zn1, zn2, reduceCtorEq, dA, dB, dC]; rfl))) | (with_reducible refine SC.draw Tab.mixed rfl ?_; (repeat (refine DO.run (by simp (disch := omega) only [go_sem, ↓reduceIte, zn1, zn2, zn3, zn4, zn5, zn6, reduceCtorEq, zn7, zi1, zi2, if_pos, if_neg, dA, dB, dC, lv_len, lv_take, List.take_length]; rfl) ?_)); refine DO.nil (by kernel_rfl) ?_)))
      refine retQ_ret Try.results87 (by simp (disch := omega) only [go_sem, ↓reduceIte]; rfl) (by simp (disch := omega) only [go_sem, ↓reduceIte, if_pos, lv_len, lv_take, lv_clo, List.take_length]; rfl) ?_
      rw [he, hl]
end Go.Proofs.Ytfhcmibgpddggaa
namespace Go.Proofs.Ytfhcmibgpddggaa
open Go.RowKit
theorem minus_i (a b : List Nat) (ha : limbs a) (hb : limbs b) (hma : a.length ≤ 1000000000) (hbl : b.length ≤ a.length) (hba : val b ≤ val a) : Spec Try.prog 88 [sv a, sv b] (sv (dg a.length (val a - val b))) := by
  unfold sv
  refine Spec.run Try.func88 rfl Try.ntmps88 (by simp) (by simp (disch := omega) only [go_sem, zn4]; rfl) fun B hB => ?_
  (repeat (first | (with_reducible first | apply oz1 | apply oz2 | apply oz3 | apply oz4 | apply oz5 | apply oz6 | apply oz7 | apply oz8 | apply oz9 | apply ozb | apply ozc | apply oze | apply ozf | apply ozg | apply ozh | apply ozi | apply ozj | apply ozk | refine ozd (by decide) ?_) | ((with_reducible apply SC.region); (focus (simp (disch := omega) only [go_sem, ↓reduceIte, zn3]; rfl))) | (with_reducible refine SC.draw Tab.mixed rfl ?_; (repeat (refine DO.run (by simp (disch := omega) only [go_sem, ↓reduceIte, zn1, zn2, zn3, zn4, zn5, zn6, reduceCtorEq, zn7, zi1, zi2, if_pos, if_neg]; rfl) ?_)); refine DO.nil (by kernel_rfl) ?_)))
  refine SC.loop (fun x : Nat × Nat × List Nat => ⟨[(0, .im (lv a) a.length), (1, .im (lv b) b.length), (5, .sl 0 0 x.2.2.length 1 none), (6, .sc (.int .i64 x.2.1)), (7, .sc (.int .i64 x.1))], [(0, ⟨74, lv x.2.2, false⟩)], 1, 44⟩)
    (fun x => x.2.1 ≤ 1 ∧ x.1 ≤ a.length ∧ minusInv a b x.1 x.2.1 x.2.2) (fun x => a.length - x.1) (0, 0, []) ?_ ?_ ?_
  · (refine Le.of [] hB (by first | exact ⟨Nat.zero_le _, fun _ _ => Nat.zero_le _⟩ | (constructor <;> (try simp) <;> (try omega))) ?_ ?_ <;> (repeat' (first | exact leSl_nil | exact leHp_nil | refine leSl_cons (by simp (disch := omega) only [go_sem, ↓reduceIte, zn1, reduceCtorEq]; rfl) ?_ ?_ | refine leHp_cons (by simp (disch := omega) only [go_sem, ↓reduceIte]; rfl) ?_ ?_ | exact VLe.junk _ | exact VLe.refl rfl | exact VLe.nil_sl _ _ _ | exact VLe.int (by first | rfl | omega | (dsimp only; omega)) | exact VLe.bool rfl | exact VLe.sl rfl (by first | rfl | omega | (dsimp only; omega) | (simp; done)) | exact VLe.cap rfl (by first | rfl | omega | (dsimp only; omega) | (simp; done)) | exact VLe.im rfl rfl | exact HLe.new rfl | exact HLe.same rfl (LLe.refl rfl) | refine HLe.same rfl ?_ | exact LLe.nil _ | exact LLe.refl rfl | refine LLe.cons ?_ ?_)))
  · exact ⟨Nat.zero_le _, Nat.zero_le _, rfl, fun x hx => by simp at hx, by simp [val]⟩
  · rintro ⟨k, c, l⟩ ⟨hc, hk, hI⟩ K hK
    simp only at hc hk hI ⊢
    have hlk : l.length = k := hI.1
    have xa := limbs_getD ha k
    have xb := limbs_getD hb k
    by_cases hA : k < a.length
    · have q1 := decide_eq_true (p := (k : Int) < a.length) (by omega)
      have fin : ∀ (s' : SS) (d c' : Nat), d < 4294967296 → c' ≤ 1 → (d : Int) = (a.getD k 0 : Nat) - c - (b.getD k 0 : Nat) + 4294967296 * c' → Le B s' ⟨[(0, .im (lv a) a.length), (1, .im (lv b) b.length), (5, .sl 0 0 (l.length + 1) 1 none), (6, .sc (.int .i64 c')), (7, .sc (.int .i64 (k + 1 : Nat)))], [(0, ⟨74, lv (l ++ [d]), false⟩)], 1, 44⟩ → K s' := by
        intro s' d c' hd hc' he hs'
        refine hK _ (k + 1, c', l ++ [d]) (by simpa using hs') ⟨by simpa using hc', by simp only; omega, hI.step _ _ d c' rfl rfl hd he⟩ (by simp only; omega)
      by_cases hB' : k < b.length
      · have q2 := decide_eq_true (p := (k : Int) < b.length) (by omega)
        by_cases hn : ((a.getD k 0 : Nat) : Int) - c - (b.getD k 0 : Nat) < 0
        · have q3 := decide_eq_true hn
          (repeat (first | refine DO.nil (by kernel_rfl) ?_ | (with_reducible refine SC.condB (by simp (disch := omega) only [go_sem, ↓reduceIte]; rfl) ?_; first | with_reducible refine pickT ?_ | with_reducible refine pickF ?_) | (with_reducible first | apply oz1 | apply oz2 | apply oz3 | apply oz4 | apply oz5 | apply oz6 | apply oz7 | apply oz8 | apply oz9 | apply ozb | apply ozc | apply oze | apply ozf | apply ozg | apply ozh | apply ozi | apply ozj | apply ozk | refine ozd (by decide) ?_) | ((with_reducible apply SC.region); (focus (simp (disch := omega) only [go_sem, ↓reduceIte, zn1, zn3, zn4, reduceCtorEq, if_pos, q1, q2, q3, lv_get hA, lv_get hB', lv_len, List.getElem?_drop, lv_take, List.take_length]; rfl))) | (with_reducible refine SC.draw Tab.mixed rfl ?_; (repeat (refine DO.run (by simp (disch := omega) only [go_sem, ↓reduceIte, zn1, zn2, zn3, zn4, zn5, zn6, reduceCtorEq, zn7, zi1, zi2, if_pos, if_neg, q1, q2, q3, lv_get hA, lv_get hB', lv_len, List.getElem?_drop, lv_all, lv_take, List.take_length]; rfl) ?_)); refine DO.nil (by kernel_rfl) ?_)))
          refine fin _ (a.getD k 0 + 4294967296 - c - b.getD k 0) 1 (by omega) (by omega) (by omega) (Le.swap 0 2 hB (by omega) (by omega) ?_)
          (refine Le.of [] hB (by first | exact ⟨Nat.zero_le _, fun _ _ => Nat.zero_le _⟩ | (constructor <;> (try simp) <;> (try omega))) ?_ ?_ <;> (repeat' (first | exact leSl_nil | exact leHp_nil | refine leSl_cons (by simp (disch := omega) only [go_sem, ↓reduceIte, zn1, reduceCtorEq]; rfl) ?_ ?_ | refine leHp_cons (by simp (disch := omega) only [go_sem, ↓reduceIte]; rfl) ?_ ?_ | exact VLe.junk _ | exact VLe.refl rfl | exact VLe.nil_sl _ _ _ | exact VLe.int (by first | rfl | omega | (dsimp only; omega)) | exact VLe.bool rfl | exact VLe.sl rfl (by first | rfl | omega | (dsimp only; omega) | (simp; done)) | exact VLe.cap rfl (by first | rfl | omega | (dsimp only; omega) | (simp; done)) | exact VLe.im rfl rfl | exact HLe.new rfl | exact HLe.same rfl (LLe.refl rfl) | refine HLe.same rfl ?_ | exact LLe.nil _ | exact LLe.refl rfl | refine LLe.cons ?_ ?_)))
          exact LLe.lv (lv_snoc' (by omega))
        · have q3 := decide_eq_false hn
          (repeat (first | refine DO.nil (by kernel_rfl) ?_ | (with_reducible refine SC.condB (by simp (disch := omega) only [go_sem, ↓reduceIte]; rfl) ?_; first | with_reducible refine pickT ?_ | with_reducible refine pickF ?_) | (with_reducible first | apply oz1 | apply oz2 | apply oz3 | apply oz4 | apply oz5 | apply oz6 | apply oz7 | apply oz8 | apply oz9 | apply ozb | apply ozc | apply oze | apply ozf | apply ozg | apply ozh | apply ozi | apply ozj | apply ozk | refine ozd (by decide) ?_) | ((with_reducible apply SC.region); (focus (simp (disch := omega) only [go_sem, ↓reduceIte, zn1, zn3, zn4, reduceCtorEq, if_pos, q1, q2, q3, lv_get hA, lv_get hB', lv_len, List.getElem?_drop, lv_take, List.take_length]; rfl))) | (with_reducible refine SC.draw Tab.mixed rfl ?_; (repeat (refine DO.run (by simp (disch := omega) only [go_sem, ↓reduceIte, zn1, zn2, zn3, zn4, zn5, zn6, reduceCtorEq, zn7, zi1, zi2, if_pos, if_neg, q1, q2, q3, lv_get hA, lv_get hB', lv_len, List.getElem?_drop, lv_all, lv_take, List.take_length]; rfl) ?_)); refine DO.nil (by kernel_rfl) ?_)))
          refine fin _ (a.getD k 0 - c - b.getD k 0) 0 (by omega) (by omega) (by omega) (Le.swap 0 2 hB (by omega) (by omega) ?_)
          (refine Le.of [] hB (by first | exact ⟨Nat.zero_le _, fun _ _ => Nat.zero_le _⟩ | (constructor <;> (try simp) <;> (try omega))) ?_ ?_ <;> (repeat' (first | exact leSl_nil | exact leHp_nil | refine leSl_cons (by simp (disch := omega) only [go_sem, ↓reduceIte, zn1, reduceCtorEq]; rfl) ?_ ?_ | refine leHp_cons (by simp (disch := omega) only [go_sem, ↓reduceIte]; rfl) ?_ ?_ | exact VLe.junk _ | exact VLe.refl rfl | exact VLe.nil_sl _ _ _ | exact VLe.int (by first | rfl | omega | (dsimp only; omega)) | exact VLe.bool rfl | exact VLe.sl rfl (by first | rfl | omega | (dsimp only; omega) | (simp; done)) | exact VLe.cap rfl (by first | rfl | omega | (dsimp only; omega) | (simp; done)) | exact VLe.im rfl rfl | exact HLe.new rfl | exact HLe.same rfl (LLe.refl rfl) | refine HLe.same rfl ?_ | exact LLe.nil _ | exact LLe.refl rfl | refine LLe.cons ?_ ?_)))
          exact LLe.lv (lv_snoc' (by omega))
      · have q2 := decide_eq_false (p := (k : Int) < b.length) (by omega)
        have hz := getD_ge (l := b) (k := k) hB'
        by_cases hn : ((a.getD k 0 : Nat) : Int) - c < 0
        · have q3 := decide_eq_true hn
          (repeat (first | refine DO.nil (by kernel_rfl) ?_ | (with_reducible refine SC.condB (by simp (disch := omega) only [go_sem, ↓reduceIte]; rfl) ?_; first | with_reducible refine pickT ?_ | with_reducible refine pickF ?_) | (with_reducible first | apply oz1 | apply oz2 | apply oz3 | apply oz4 | apply oz5 | apply oz6 | apply oz7 | apply oz8 | apply oz9 | apply ozb | apply ozc | apply oze | apply ozf | apply ozg | apply ozh | apply ozi | apply ozj | apply ozk | refine ozd (by decide) ?_) | ((with_reducible apply SC.region); (focus (simp (disch := omega) only [go_sem, ↓reduceIte, zn1, zn3, zn4, reduceCtorEq, if_pos, q1, q2, q3, lv_get hA, lv_len, List.getElem?_drop, lv_take, List.take_length]; rfl))) | (with_reducible refine SC.draw Tab.mixed rfl ?_; (repeat (refine DO.run (by simp (disch := omega) only [go_sem, ↓reduceIte, zn1, zn2, zn3, zn4, zn5, zn6, reduceCtorEq, zn7, zi1, zi2, if_pos, if_neg, q1, q2, q3, lv_get hA, lv_len, List.getElem?_drop, lv_all, lv_take, List.take_length]; rfl) ?_)); refine DO.nil (by kernel_rfl) ?_)))
          refine fin _ (a.getD k 0 + 4294967296 - c) 1 (by omega) (by omega) (by omega) (Le.swap 0 2 hB (by omega) (by omega) ?_)
          (refine Le.of [] hB (by first | exact ⟨Nat.zero_le _, fun _ _ => Nat.zero_le _⟩ | (constructor <;> (try simp) <;> (try omega))) ?_ ?_ <;> (repeat' (first | exact leSl_nil | exact leHp_nil | refine leSl_cons (by simp (disch := omega) only [go_sem, ↓reduceIte, zn1, reduceCtorEq]; rfl) ?_ ?_ | refine leHp_cons (by simp (disch := omega) only [go_sem, ↓reduceIte]; rfl) ?_ ?_ | exact VLe.junk _ | exact VLe.refl rfl | exact VLe.nil_sl _ _ _ | exact VLe.int (by first | rfl | omega | (dsimp only; omega)) | exact VLe.bool rfl | exact VLe.sl rfl (by first | rfl | omega | (dsimp only; omega) | (simp; done)) | exact VLe.cap rfl (by first | rfl | omega | (dsimp only; omega) | (simp; done)) | exact VLe.im rfl rfl | exact HLe.new rfl | exact HLe.same rfl (LLe.refl rfl) | refine HLe.same rfl ?_ | exact LLe.nil _ | exact LLe.refl rfl | refine LLe.cons ?_ ?_)))
          exact LLe.lv (lv_snoc' (by omega))
        · have q3 := decide_eq_false hn
          (repeat (first | refine DO.nil (by kernel_rfl) ?_ | (with_reducible refine SC.condB (by simp (disch := omega) only [go_sem, ↓reduceIte]; rfl) ?_; first | with_reducible refine pickT ?_ | with_reducible refine pickF ?_) | (with_reducible first | apply oz1 | apply oz2 | apply oz3 | apply oz4 | apply oz5 | apply oz6 | apply oz7 | apply oz8 | apply oz9 | apply ozb | apply ozc | apply oze | apply ozf | apply ozg | apply ozh | apply ozi | apply ozj | apply ozk | refine ozd (by decide) ?_) | ((with_reducible apply SC.region); (focus (simp (disch := omega) only [go_sem, ↓reduceIte, zn1, zn3, zn4, reduceCtorEq, if_pos, q1, q2, q3, lv_get hA, lv_len, List.getElem?_drop, lv_take, List.take_length]; rfl))) | (with_reducible refine SC.draw Tab.mixed rfl ?_; (repeat (refine DO.run (by simp (disch := omega) only [go_sem, ↓reduceIte, zn1, zn2, zn3, zn4, zn5, zn6, reduceCtorEq, zn7, zi1, zi2, if_pos, if_neg, q1, q2, q3, lv_get hA, lv_len, List.getElem?_drop, lv_all, lv_take, List.take_length]; rfl) ?_)); refine DO.nil (by kernel_rfl) ?_)))
          refine fin _ (a.getD k 0 - c) 0 (by omega) (by omega) (by omega) (Le.swap 0 2 hB (by omega) (by omega) ?_)
          (refine Le.of [] hB (by first | exact ⟨Nat.zero_le _, fun _ _ => Nat.zero_le _⟩ | (constructor <;> (try simp) <;> (try omega))) ?_ ?_ <;> (repeat' (first | exact leSl_nil | exact leHp_nil | refine leSl_cons (by simp (disch := omega) only [go_sem, ↓reduceIte, zn1, reduceCtorEq]; rfl) ?_ ?_ | refine leHp_cons (by simp (disch := omega) only [go_sem, ↓reduceIte]; rfl) ?_ ?_ | exact VLe.junk _ | exact VLe.refl rfl | exact VLe.nil_sl _ _ _ | exact VLe.int (by first | rfl | omega | (dsimp only; omega)) | exact VLe.bool rfl | exact VLe.sl rfl (by first | rfl | omega | (dsimp only; omega) | (simp; done)) | exact VLe.cap rfl (by first | rfl | omega | (dsimp only; omega) | (simp; done)) | exact VLe.im rfl rfl | exact HLe.new rfl | exact HLe.same rfl (LLe.refl rfl) | refine HLe.same rfl ?_ | exact LLe.nil _ | exact LLe.refl rfl | refine LLe.cons ?_ ?_)))
          exact LLe.lv (lv_snoc' (by omega))
    · have hka : k = a.length := by omega
      subst hka
      have q1 := decide_eq_false (p := ((a.length : Nat) : Int) < a.length) (by omega)
      have hd := hI.done hc ha hbl hba
      have he := dg_eq hI.2.1
      rw [hd, hlk] at he
      (repeat (first | refine DO.nil (by kernel_rfl) ?_ | (with_reducible refine SC.condB (by simp (disch := omega) only [go_sem, ↓reduceIte]; rfl) ?_; first | with_reducible refine pickT ?_ | with_reducible refine pickF ?_) | (with_reducible first | apply oz1 | apply oz2 | apply oz3 | apply oz4 | apply oz5 | apply oz6 | apply oz7 | apply oz8 | apply oz9 | apply ozb | apply ozc | apply oze | apply ozf | apply ozg | apply ozh | apply ozi | apply ozj | apply ozk | refine ozd (by decide) ?_) | ((with_reducible apply SC.region); (focus (simp (disch := omega) only [go_sem, ↓reduceIte, zn1, zn2, reduceCtorEq, q1]; rfl))) | (with_reducible refine SC.draw Tab.mixed rfl ?_; (repeat (refine DO.run (by simp (disch := omega) only [go_sem, ↓reduceIte, zn1, zn2, zn3, zn4, zn5, zn6, reduceCtorEq, zn7, zi1, zi2, if_pos, if_neg, q1, lv_len, lv_take, List.take_length]; rfl) ?_)); refine DO.nil (by kernel_rfl) ?_)))
      refine retQ_ret Try.results88 (by simp (disch := omega) only [go_sem, ↓reduceIte]; rfl) (by simp (disch := omega) only [go_sem, ↓reduceIte, if_pos, lv_len, lv_take, lv_clo, List.take_length]; rfl) ?_
      rw [he, hlk]
end Go.Proofs.Ytfhcmibgpddggaa
namespace Go.Proofs.Ytfhcmibgpddggaa
open Go.RowKit
theorem fits_len {K : Nat} {x : Int} (h : Fits K x) : (limbsOf x.natAbs).length ≤ K := canon_len (limbsOf_canon _) (by rw [limbsOf_val]; exact h)
theorem dg_made (k n : Nat) (neg : Bool) (h : n < 4294967296 ^ k) (hk : k ≤ 1000000000) : Spec Try.prog 58 [sv (dg k n), .sc (.bool neg)] (iv (sgn neg n)) := by
  have := made_i (dg k n) neg (dg_limbs _ _) (by rw [dg_len]; exact hk)
  rwa [dg_val k n h] at this
theorem sumLen_le (a b : List Nat) : sumLen a b ≤ max a.length b.length + 1 := by
  unfold sumLen; split <;> omega
theorem add_i (x y : Int) (K : Nat) (hx : Fits K x) (hy : Fits K y) (hK : K ≤ 500000000) : Spec Try.prog 69 [iv x, iv y] (iv (x + y)) := by
  have lx := fits_len hx
  have ly := fits_len hy
  have vx := limbsOf_val x.natAbs
  have vy := limbsOf_val y.natAbs
  have bx := limbsOf_limbs x.natAbs
  have bY := limbsOf_limbs y.natAbs
  by_cases hs : (decide (x < 0) == decide (y < 0)) = true
  · have hs' : (x < 0 ↔ y < 0) := by simpa using hs
    have c1 := plus_i _ _ bx bY (by omega) (by omega)
    have hf := sum_fits bx bY
    have c2 := dg_made _ _ (decide (x < 0)) hf (by have := sumLen_le (limbsOf x.natAbs) (limbsOf y.natAbs); omega)
    rw [vx, vy] at c1 c2
    rw [show sgn (decide (x < 0)) (x.natAbs + y.natAbs) = x + y by unfold sgn; split <;> simp_all <;> omega] at c2
    unfold sv at c1 c2
    unfold iv sv at c2 ⊢
    refine Spec.run Try.func69 rfl Try.ntmps69 (by simp) (by simp (disch := omega) only [go_sem, zn4]; rfl) fun B hB => ?_
    (repeat (first | refine DO.nil (by kernel_rfl) ?_ | (with_reducible first | apply oz1 | apply oz2 | apply oz3 | apply oz4 | apply oz5 | apply oz6 | apply oz7 | apply oz8 | apply oz9 | apply ozb | apply ozc | apply oze | apply ozf | apply ozg | apply ozh | apply ozi | apply ozj | apply ozk | refine ozd (by decide) ?_) | ((first | apply SO.call | apply DO.call); (iterate 3 (focus (simp (disch := omega) only [go_sem, ↓reduceIte, zn1] <;> rfl))); (first | apply SCall.ofX | apply DCall.ofX); (focus (first | assumption)); (focus (simp (disch := omega) only [go_sem] <;> rfl))) | ((with_reducible first | apply SC.condB | apply SC.region | apply SO.run | apply DO.run); (focus (simp (disch := omega) only [go_sem, ↓reduceIte, zn1, zn3, zn4, reduceCtorEq, hs] <;> rfl)); (first | refine pickT ?_ | refine pickF ?_ | fail_if_success with_reducible refine pickA ?_)) | ((with_reducible refine SC.draw Tab.mixed ?_ ?_); (focus (first | rfl | simp (disch := omega) only [go_sem, ↓reduceIte, zn1, zn2, zn3, zn4, zn5, zn6, reduceCtorEq, zn7, zi1, zi2, if_pos, if_neg, hs]))) | (with_reducible apply SC.ops)))
    exact retQ_ret Try.results69 (by simp (disch := omega) only [go_sem, ↓reduceIte, zn1, zn3, zn4]; rfl) (by simp (disch := omega) only [go_sem, ↓reduceIte]; rfl) rfl
  · have hs' : ¬ (x < 0 ↔ y < 0) := by simpa using hs
    rw [Bool.not_eq_true] at hs
    have c0 := less_n x.natAbs y.natAbs (by omega) (by omega)
    by_cases hl : x.natAbs < y.natAbs
    · rw [decide_eq_true hl] at c0
      have hle : (limbsOf x.natAbs).length ≤ (limbsOf y.natAbs).length := canon_len (limbsOf_canon _) (by have := val_lt bY; omega)
      have c1 := minus_i _ _ bY bx (by omega) hle (by omega)
      have c2 := dg_made (limbsOf y.natAbs).length (y.natAbs - x.natAbs) (decide (y < 0)) (by have := val_lt bY; omega) (by omega)
      rw [vx, vy] at c1
      rw [show sgn (decide (y < 0)) (y.natAbs - x.natAbs) = x + y by unfold sgn; split <;> simp_all <;> omega] at c2
      unfold sv at c0 c1 c2
      unfold iv sv at c2 ⊢
      refine Spec.run Try.func69 rfl Try.ntmps69 (by simp) (by simp (disch := omega) only [go_sem, zn4]; rfl) fun B hB => ?_
      (repeat (first | refine DO.nil (by kernel_rfl) ?_ | (with_reducible first | apply oz1 | apply oz2 | apply oz3 | apply oz4 | apply oz5 | apply oz6 | apply oz7 | apply oz8 | apply oz9 | apply ozb | apply ozc | apply oze | apply ozf | apply ozg | apply ozh | apply ozi | apply ozj | apply ozk | refine ozd (by decide) ?_) | ((first | apply SO.call | apply DO.call); (iterate 3 (focus (simp (disch := omega) only [go_sem, ↓reduceIte, zn1] <;> rfl))); (first | apply SCall.ofX | apply DCall.ofX); (focus (first | assumption)); (focus (simp (disch := omega) only [go_sem] <;> rfl))) | ((with_reducible first | apply SC.condB | apply SC.region | apply SO.run | apply DO.run); (focus (simp (disch := omega) only [go_sem, ↓reduceIte, zn1, zn3, zn4, reduceCtorEq, hs] <;> rfl)); (first | refine pickT ?_ | refine pickF ?_ | fail_if_success with_reducible refine pickA ?_)) | ((with_reducible refine SC.draw Tab.mixed ?_ ?_); (focus (first | rfl | simp (disch := omega) only [go_sem, ↓reduceIte, zn1, zn2, zn3, zn4, zn5, zn6, reduceCtorEq, zn7, zi1, zi2, if_pos, if_neg, hs]))) | (with_reducible apply SC.ops)))
      exact retQ_ret Try.results69 (by simp (disch := omega) only [go_sem, ↓reduceIte, zn1, zn3, zn4]; rfl) (by simp (disch := omega) only [go_sem, ↓reduceIte]; rfl) rfl
    · rw [decide_eq_false hl] at c0
      have hle : (limbsOf y.natAbs).length ≤ (limbsOf x.natAbs).length := canon_len (limbsOf_canon _) (by have := val_lt bx; omega)
      have c1 := minus_i _ _ bx bY (by omega) hle (by omega)
      have c2 := dg_made (limbsOf x.natAbs).length (x.natAbs - y.natAbs) (decide (x < 0)) (by have := val_lt bx; omega) (by omega)
      rw [vx, vy] at c1
      rw [show sgn (decide (x < 0)) (x.natAbs - y.natAbs) = x + y by unfold sgn; split <;> simp_all <;> omega] at c2
      unfold sv at c0 c1 c2
      unfold iv sv at c2 ⊢
      refine Spec.run Try.func69 rfl Try.ntmps69 (by simp) (by simp (disch := omega) only [go_sem, zn4]; rfl) fun B hB => ?_
      (repeat (first | refine DO.nil (by kernel_rfl) ?_ | (with_reducible first | apply oz1 | apply oz2 | apply oz3 | apply oz4 | apply oz5 | apply oz6 | apply oz7 | apply oz8 | apply oz9 | apply ozb | apply ozc | apply oze | apply ozf | apply ozg | apply ozh | apply ozi | apply ozj | apply ozk | refine ozd (by decide) ?_) | ((first | apply SO.call | apply DO.call); (iterate 3 (focus (simp (disch := omega) only [go_sem, ↓reduceIte, zn1, zn2] <;> rfl))); (first | apply SCall.ofX | apply DCall.ofX); (focus (first | assumption)); (focus (simp (disch := omega) only [go_sem] <;> rfl))) | ((with_reducible first | apply SC.condB | apply SC.region | apply SO.run | apply DO.run); (focus (simp (disch := omega) only [go_sem, ↓reduceIte, zn1, zn3, zn4, reduceCtorEq, hs] <;> rfl)); (first | refine pickT ?_ | refine pickF ?_ | fail_if_success with_reducible refine pickA ?_)) | ((with_reducible refine SC.draw Tab.mixed ?_ ?_); (focus (first | rfl | simp (disch := omega) only [go_sem, ↓reduceIte, zn1, zn2, zn3, zn4, zn5, zn6, reduceCtorEq, zn7, zi1, zi2, if_pos, if_neg, hs]))) | (with_reducible apply SC.ops)))
      exact retQ_ret Try.results69 (by simp (disch := omega) only [go_sem, ↓reduceIte, zn1, zn3, zn4]; rfl) (by simp (disch := omega) only [go_sem, ↓reduceIte]; rfl) rfl
theorem neg_i (x : Int) (K : Nat) (hx : Fits K x) (hK : K ≤ 1000000000) : Spec Try.prog 47 [iv x] (iv (-x)) := by
  have lx := fits_len hx
  have c1 := made_i (limbsOf x.natAbs) (!decide (x < 0)) (limbsOf_limbs _) (by omega)
  rw [limbsOf_val, show sgn (!decide (x < 0)) x.natAbs = -x by unfold sgn; split <;> simp_all <;> omega] at c1
  unfold sv at c1
  unfold iv sv at c1 ⊢
  refine Spec.run Try.func47 rfl Try.ntmps47 (by simp) (by simp (disch := omega) only [go_sem]; rfl) fun B hB => ?_
  (repeat (first | refine DO.nil (by kernel_rfl) ?_ | (with_reducible first | apply oz1 | apply oz2 | apply oz3 | apply oz4 | apply oz5 | apply oz6 | apply oz7 | apply oz8 | apply oz9 | apply ozb | apply ozc | apply oze | apply ozf | apply ozg | apply ozh | apply ozi | apply ozj | apply ozk | refine ozd (by decide) ?_) | ((first | apply SO.call | apply DO.call); (iterate 3 (focus (simp (disch := omega) only [go_sem, ↓reduceIte, zn1, zn2] <;> rfl))); (first | apply SCall.ofX | apply DCall.ofX); (focus (first | assumption)); (focus (simp (disch := omega) only [go_sem] <;> rfl))) | ((with_reducible first | apply SC.condB | apply SC.region | apply SO.run | apply DO.run); (focus (simp (disch := omega) only [go_sem, ↓reduceIte, zn1, zn2, zn3, zn4, reduceCtorEq] <;> rfl)); (first | refine pickT ?_ | refine pickF ?_ | fail_if_success with_reducible refine pickA ?_)) | ((with_reducible refine SC.draw Tab.mixed ?_ ?_); (focus (first | rfl | simp (disch := omega) only [go_sem, ↓reduceIte, zn1, zn2, zn3, zn4, zn5, zn6, reduceCtorEq, zn7, zi1, zi2, if_pos, if_neg]))) | (with_reducible apply SC.ops)))
  exact retQ_ret Try.results47 (by simp (disch := omega) only [go_sem, ↓reduceIte, zn1, zn3, zn4]; rfl) (by simp (disch := omega) only [go_sem, ↓reduceIte]; rfl) rfl
theorem sub_i (x y : Int) (K : Nat) (hx : Fits K x) (hy : Fits K y) (hK : K ≤ 500000000) : Spec Try.prog 81 [iv x, iv y] (iv (x - y)) := by
  have c1 := neg_i y K hy (by omega)
  have c2 := add_i x (-y) K hx hy.neg hK
  rw [← Int.sub_eq_add_neg] at c2
  unfold iv sv at c1 c2 ⊢
  refine Spec.run Try.func81 rfl Try.ntmps81 (by simp) (by simp (disch := omega) only [go_sem, zn4]; rfl) fun B hB => ?_
  (repeat (first | refine DO.nil (by kernel_rfl) ?_ | (with_reducible first | apply oz1 | apply oz2 | apply oz3 | apply oz4 | apply oz5 | apply oz6 | apply oz7 | apply oz8 | apply oz9 | apply ozb | apply ozc | apply oze | apply ozf | apply ozg | apply ozh | apply ozi | apply ozj | apply ozk | refine ozd (by decide) ?_) | ((first | apply SO.call | apply DO.call); (iterate 3 (focus (simp (disch := omega) only [go_sem, ↓reduceIte, zn1, zn2] <;> rfl))); (first | apply SCall.ofX | apply DCall.ofX); (focus (first | assumption)); (focus (simp (disch := omega) only [go_sem] <;> rfl))) | ((with_reducible first | apply SC.condB | apply SC.region | apply SO.run | apply DO.run); (focus (simp (disch := omega) only [go_sem, ↓reduceIte, zn1, zn3, zn4, reduceCtorEq] <;> rfl)); (first | refine pickT ?_ | refine pickF ?_ | fail_if_success with_reducible refine pickA ?_)) | ((with_reducible refine SC.draw Tab.mixed ?_ ?_); (focus (first | rfl | simp (disch := omega) only [go_sem, ↓reduceIte, zn1, zn2, zn3, zn4, zn5, zn6, reduceCtorEq, zn7, zi1, zi2, if_pos, if_neg]))) | (with_reducible apply SC.ops)))
  exact retQ_ret Try.results81 (by simp (disch := omega) only [go_sem, ↓reduceIte, zn1, zn3, zn4]; rfl) (by simp (disch := omega) only [go_sem, ↓reduceIte]; rfl) rfl
end Go.Proofs.Ytfhcmibgpddggaa
namespace Go.Proofs.Ytfhcmibgpddggaa
open Go.RowKit
theorem lv_rep (n : Nat) : List.replicate n (.sc (.int .u32 0)) = lv (List.replicate n 0) := by simp [lv]
theorem lv_set {l : List Nat} {i x : Nat} {e : Int} (h : e = (x : Int)) : (lv l).set i (.sc (.int .u32 e)) = lv (l.set i x) := by subst h; simp [lv, List.map_set]
theorem sgn_mul (x y : Int) : sgn (decide (x < 0) != decide (y < 0)) (x.natAbs * y.natAbs) = x * y := by
  rcases Int.lt_or_le x 0 with hx | hx <;> rcases Int.lt_or_le y 0 with hy | hy
  · rw [decide_eq_true hx, decide_eq_true hy]
    obtain ⟨m, rfl⟩ : ∃ m : Nat, x = -m := ⟨x.natAbs, by omega⟩
    obtain ⟨n, rfl⟩ : ∃ n : Nat, y = -n := ⟨y.natAbs, by omega⟩
    simp [sgn, Int.neg_mul_neg]
  · rw [decide_eq_true hx, decide_eq_false (by omega)]
    obtain ⟨m, rfl⟩ : ∃ m : Nat, x = -m := ⟨x.natAbs, by omega⟩
    obtain ⟨n, rfl⟩ : ∃ n : Nat, y = n := ⟨y.natAbs, by omega⟩
    simp [sgn, Int.neg_mul]
  · rw [decide_eq_false (by omega), decide_eq_true hy]
    obtain ⟨m, rfl⟩ : ∃ m : Nat, x = m := ⟨x.natAbs, by omega⟩
    obtain ⟨n, rfl⟩ : ∃ n : Nat, y = -n := ⟨y.natAbs, by omega⟩
    simp [sgn, Int.mul_neg]
  · rw [decide_eq_false (by omega), decide_eq_false (by omega)]
    obtain ⟨m, rfl⟩ : ∃ m : Nat, x = m := ⟨x.natAbs, by omega⟩
    obtain ⟨n, rfl⟩ : ∃ n : Nat, y = n := ⟨y.natAbs, by omega⟩
    simp [sgn]
theorem mul_i (x y : Int) (K : Nat) (hx : Fits K x) (hy : Fits K y) (hK : K ≤ 400000000) : Spec Try.prog 70 [iv x, iv y] (iv (x * y)) := by
  have lx := fits_len hx
  have ly := fits_len hy
  obtain ⟨a, ea⟩ : ∃ a, a = limbsOf x.natAbs := ⟨_, rfl⟩
  obtain ⟨b, eb⟩ : ∃ b, b = limbsOf y.natAbs := ⟨_, rfl⟩
  have vx : val a = x.natAbs := by rw [ea]; exact limbsOf_val _
  have vy : val b = y.natAbs := by rw [eb]; exact limbsOf_val _
  have bx : limbs a := by rw [ea]; exact limbsOf_limbs _
  have bY : limbs b := by rw [eb]; exact limbsOf_limbs _
  rw [← ea] at lx
  rw [← eb] at ly
  unfold iv sv
  rw [← ea, ← eb]
  refine Spec.run Try.func70 rfl Try.ntmps70 (by simp) (by simp (disch := omega) only [go_sem, zn4]; rfl) fun B hB => ?_
  obtain ⟨ax, hax⟩ : ∃ ax : Blk, ax = ⟨54, [.sc (.bool (decide (x < 0))), .im (lv a) a.length], false⟩ := ⟨_, rfl⟩
  have hN : ((a.length : Int) + (b.length : Int) + 1).toNat = a.length + b.length + 1 := by omega
  (repeat (first | refine DO.nil (by kernel_rfl) ?_ | (with_reducible refine SC.condB (by simp (disch := omega) only [go_sem, ↓reduceIte, zn1, zn2, zn3, zn4, zn5, zn6, reduceCtorEq, zn7, zi1, zi2, if_pos, if_neg, lv_len, hN]; rfl) ?_; first | with_reducible refine pickT ?_ | with_reducible refine pickF ?_) | (with_reducible first | apply oz1 | apply oz2 | apply oz3 | apply oz4 | apply oz5 | apply oz6 | apply oz7 | apply oz8 | apply oz9 | apply ozb | apply ozc | apply oze | apply ozf | apply ozg | apply ozh | apply ozi | apply ozj | apply ozk | refine ozd (by decide) ?_) | ((with_reducible apply SC.region); (focus (simp (disch := omega) only [go_sem, ↓reduceIte, zn1, zn4, reduceCtorEq, if_pos, hN]; rfl))) | (with_reducible refine SC.draw Tab.mixed rfl ?_; (repeat (refine DO.run (by simp (disch := omega) only [go_sem, ↓reduceIte, zn1, zn2, zn3, zn4, zn5, zn6, reduceCtorEq, zn7, zi1, zi2, if_pos, if_neg, lv_len, hN]; rfl) ?_)); refine DO.nil (by kernel_rfl) ?_)))
  refine SC.loop (fun x' : Nat × List Nat => ⟨[(2, .pt 0 0), (3, .pt 1 0), (4, .pt 2 0), (5, .sl 3 0 (a.length + b.length + 1) 1 none), (6, .sc (.int .i64 x'.1))], [(3, ⟨74, lv x'.2, false⟩), (2, ⟨54, [.sc (.bool false), .sc (.slice none 0 0)], false⟩), (1, ⟨54, [.sc (.bool (decide (y < 0))), .im (lv b) b.length], false⟩), (0, ⟨54, [.sc (.bool (decide (x < 0))), .im (lv a) a.length], false⟩)], 4, 81⟩)
    (fun x' => x'.1 ≤ a.length ∧ mulInv a b x'.1 0 0 x'.2) (fun x' => a.length - x'.1) (0, List.replicate (a.length + b.length + 1) 0) ?_ ?_ ?_
  · (refine Le.of [] hB (by first | exact ⟨Nat.zero_le _, fun _ _ => Nat.zero_le _⟩ | (constructor <;> (try simp) <;> (try omega))) ?_ ?_ <;> (repeat' (first | exact leSl_nil | exact leHp_nil | refine leSl_cons (by simp (disch := omega) only [go_sem, ↓reduceIte, zn1]; rfl) ?_ ?_ | refine leHp_cons (by simp (disch := omega) only [go_sem, ↓reduceIte, zn1, reduceCtorEq]; rfl) ?_ ?_ | exact VLe.junk _ | exact VLe.refl rfl | exact VLe.nil_sl _ _ _ | exact VLe.int (by first | rfl | omega | (dsimp only; omega)) | exact VLe.bool rfl | exact VLe.sl rfl (by first | rfl | omega | (dsimp only; omega) | (simp; done)) | exact VLe.cap rfl (by first | rfl | omega | (dsimp only; omega) | (simp; done)) | exact VLe.im rfl rfl | exact HLe.new rfl | exact HLe.same rfl (LLe.refl rfl) | refine HLe.same rfl ?_ | exact LLe.nil _ | exact LLe.refl rfl | refine LLe.cons ?_ ?_)))
    exact LLe.lv (lv_rep _)
  · exact ⟨Nat.zero_le _, by simp, limbs_replicate _, by simp [val, val_replicate]⟩
  · rintro ⟨i, z⟩ ⟨hi, hI⟩ K hK
    simp only at hi hI ⊢
    have hz : z.length = a.length + b.length + 1 := hI.1
    by_cases hA : i < a.length
    · have q1 := decide_eq_true (p := (i : Int) < a.length) (by omega)
      (repeat (first | refine DO.nil (by kernel_rfl) ?_ | (with_reducible refine SC.condB (by simp (disch := omega) only [go_sem, ↓reduceIte]; rfl) ?_; first | with_reducible refine pickT ?_ | with_reducible refine pickF ?_) | (with_reducible first | apply oz1 | apply oz2 | apply oz3 | apply oz4 | apply oz5 | apply oz6 | apply oz7 | apply oz8 | apply oz9 | apply ozb | apply ozc | apply oze | apply ozf | apply ozg | apply ozh | apply ozi | apply ozj | apply ozk | refine ozd (by decide) ?_) | ((with_reducible apply SC.region); (focus (simp (disch := omega) only [go_sem, ↓reduceIte, zn1, reduceCtorEq, q1]; rfl))) | (with_reducible refine SC.draw Tab.mixed rfl ?_; (repeat (refine DO.run (by simp (disch := omega) only [go_sem, ↓reduceIte, zn1, zn2, zn3, zn4, zn5, zn6, reduceCtorEq, zn7, zi1, zi2, if_pos, if_neg, q1, lv_len]; rfl) ?_)); refine DO.nil (by kernel_rfl) ?_)))
      refine SC.loop (fun x' : Nat × Nat × List Nat => ⟨[(2, .pt 0 0), (3, .pt 1 0), (4, .pt 2 0), (5, .sl 3 0 (a.length + b.length + 1) 1 none), (6, .sc (.int .i64 i)), (7, .sc (.int .u64 x'.2.1)), (8, .sc (.int .i64 x'.1))], [(3, ⟨74, lv x'.2.2, false⟩), (2, ⟨54, [.sc (.bool false), .sc (.slice none 0 0)], false⟩), (1, ⟨54, [.sc (.bool (decide (y < 0))), .im (lv b) b.length], false⟩), (0, ⟨54, [.sc (.bool (decide (x < 0))), .im (lv a) a.length], false⟩)], 4, 81⟩)
        (fun x' => x'.1 ≤ b.length + 1 ∧ x'.2.1 < 4294967296 ∧ mulInv a b i x'.1 x'.2.1 x'.2.2) (fun x' => b.length + 1 - x'.1) (0, 0, z) ?_ ?_ ?_
      · (refine Le.of [] hB (by first | exact ⟨Nat.zero_le _, fun _ _ => Nat.zero_le _⟩ | (constructor <;> (try simp) <;> (try omega))) ?_ ?_ <;> (repeat' (first | exact leSl_nil | exact leHp_nil | refine leSl_cons (by simp (disch := omega) only [go_sem, ↓reduceIte, zn1]; rfl) ?_ ?_ | refine leHp_cons (by simp (disch := omega) only [go_sem, ↓reduceIte, zn1, reduceCtorEq]; rfl) ?_ ?_ | exact VLe.junk _ | exact VLe.refl rfl | exact VLe.nil_sl _ _ _ | exact VLe.int (by first | rfl | omega | (dsimp only; omega)) | exact VLe.bool rfl | exact VLe.sl rfl (by first | rfl | omega | (dsimp only; omega) | (simp; done)) | exact VLe.cap rfl (by first | rfl | omega | (dsimp only; omega) | (simp; done)) | exact VLe.im rfl rfl | exact HLe.new rfl | exact HLe.same rfl (LLe.refl rfl) | refine HLe.same rfl ?_ | exact LLe.nil _ | exact LLe.refl rfl | refine LLe.cons ?_ ?_)))
        exact LLe.lv rfl
      · exact ⟨Nat.zero_le _, by simp only; omega, hI⟩
      · rintro ⟨k, c, z⟩ ⟨hk, hc, hI⟩ K' hK'
        simp only at hk hc hI ⊢
        have hz : z.length = a.length + b.length + 1 := hI.1
        have la := limbs_getD bx i
        have lb := limbs_getD bY k
        have lz := limbs_getD hI.2.1 (i + k)
        by_cases hend : k < b.length ∨ 0 < c
        · have hk1 : k ≤ b.length := by
            rcases Nat.lt_or_ge k (b.length + 1) with h | h
            · omega
            · have h1 : k = b.length + 1 := by omega
              subst h1
              have := hI.noCarry bx bY hA
              omega
          have hidx : ((i : Int) + (k : Int)).toNat = i + k := by omega
          have hst := hI.step (by omega) _ _ _ rfl rfl rfl
          have hzi : i + k < z.length := by omega
          have gz := lv_get hzi
          have ga := lv_get hA
          by_cases hB' : k < b.length
          · have q2 := decide_eq_true (p := (k : Int) < b.length) (by omega)
            have gb := lv_get hB'
            generalize a.getD i 0 = xa at *
            generalize b.getD k 0 = xb at *
            generalize z.getD (i + k) 0 = xz at *
            have hp : xa * xb ≤ 4294967295 * 4294967295 := Nat.mul_le_mul (by omega) (by omega)
            have hm : (xa : Int) * (xb : Int) = ((xa * xb : Nat) : Int) := by simp
            generalize xa * xb = pr at *
            (repeat (first | refine DO.nil (by kernel_rfl) ?_ | (with_reducible refine SC.condB (by simp (disch := omega) only [go_sem, ↓reduceIte]; rfl) ?_; first | with_reducible refine pickT ?_ | with_reducible refine pickF ?_) | (with_reducible first | apply oz1 | apply oz2 | apply oz3 | apply oz4 | apply oz5 | apply oz6 | apply oz7 | apply oz8 | apply oz9 | apply ozb | apply ozc | apply oze | apply ozf | apply ozg | apply ozh | apply ozi | apply ozj | apply ozk | refine ozd (by decide) ?_) | ((with_reducible apply SC.region); (focus (simp (disch := omega) only [go_sem, ↓reduceIte, zn1, reduceCtorEq, if_pos, if_neg, q2, hidx, gz, lv_len]; rfl))) | (with_reducible refine SC.draw Tab.mixed rfl ?_; (repeat (refine DO.run (by simp (disch := omega) only [go_sem, ↓reduceIte, zn1, reduceCtorEq, if_pos, ga, gb, hm, lv_len, List.getElem?_drop]; rfl) ?_)); refine DO.nil (by kernel_rfl) ?_)))
            refine hK' _ (k + 1, (c + xz + pr) / 4294967296, z.set (i + k) ((c + xz + pr) % 4294967296)) ?_ ⟨by simp only; omega, by simp only; omega, hst⟩ (by simp only; omega)
            (refine Le.of [] hB (by first | exact ⟨Nat.zero_le _, fun _ _ => Nat.zero_le _⟩ | (constructor <;> (try simp) <;> (try omega))) ?_ ?_ <;> (repeat' (first | exact leSl_nil | exact leHp_nil | refine leSl_cons (by simp (disch := omega) only [go_sem, ↓reduceIte, zn1]; rfl) ?_ ?_ | refine leHp_cons (by simp (disch := omega) only [go_sem, ↓reduceIte, zn1, reduceCtorEq]; rfl) ?_ ?_ | exact VLe.junk _ | exact VLe.refl rfl | exact VLe.nil_sl _ _ _ | exact VLe.int (by first | rfl | omega | (dsimp only; omega)) | exact VLe.bool rfl | exact VLe.sl rfl (by first | rfl | omega | (dsimp only; omega) | (simp; done)) | exact VLe.cap rfl (by first | rfl | omega | (dsimp only; omega) | (simp; done)) | exact VLe.im rfl rfl | exact HLe.new rfl | exact HLe.same rfl (LLe.refl rfl) | refine HLe.same rfl ?_ | exact LLe.nil _ | exact LLe.refl rfl | refine LLe.cons ?_ ?_)))
            exact LLe.lv (lv_set (by omega))
          · have q2 := decide_eq_false (p := (k : Int) < b.length) (by omega)
            have q3 := decide_eq_true (p := (0 : Int) < c) (by omega)
            have hz0 := getD_ge (l := b) (k := k) hB'
            rw [hz0, Nat.mul_zero, Nat.add_zero] at hst
            generalize z.getD (i + k) 0 = xz at *
            (repeat (first | refine DO.nil (by kernel_rfl) ?_ | (with_reducible refine SC.condB (by simp (disch := omega) only [go_sem, ↓reduceIte]; rfl) ?_; first | with_reducible refine pickT ?_ | with_reducible refine pickF ?_) | (with_reducible first | apply oz1 | apply oz2 | apply oz3 | apply oz4 | apply oz5 | apply oz6 | apply oz7 | apply oz8 | apply oz9 | apply ozb | apply ozc | apply oze | apply ozf | apply ozg | apply ozh | apply ozi | apply ozj | apply ozk | refine ozd (by decide) ?_) | ((with_reducible apply SC.region); (focus (simp (disch := omega) only [go_sem, ↓reduceIte, zn1, reduceCtorEq, if_pos, if_neg, q2, q3, hidx, gz, lv_len]; rfl))) | (with_reducible refine SC.draw Tab.mixed rfl ?_; (repeat (refine DO.run (by simp (disch := omega) only [go_sem, ↓reduceIte, zn1, zn2, zn3, zn4, zn5, zn6, reduceCtorEq, zn7, zi1, zi2, if_pos, if_neg, q1, q2, q3, hidx, gz, lv_len, List.getElem?_drop]; rfl) ?_)); refine DO.nil (by kernel_rfl) ?_)))
            refine hK' _ (k + 1, (c + xz) / 4294967296, z.set (i + k) ((c + xz) % 4294967296)) ?_ ⟨by simp only; omega, by simp only; omega, hst⟩ (by simp only; omega)
            (refine Le.of [] hB (by first | exact ⟨Nat.zero_le _, fun _ _ => Nat.zero_le _⟩ | (constructor <;> (try simp) <;> (try omega))) ?_ ?_ <;> (repeat' (first | exact leSl_nil | exact leHp_nil | refine leSl_cons (by simp (disch := omega) only [go_sem, ↓reduceIte, zn1]; rfl) ?_ ?_ | refine leHp_cons (by simp (disch := omega) only [go_sem, ↓reduceIte, zn1, reduceCtorEq]; rfl) ?_ ?_ | exact VLe.junk _ | exact VLe.refl rfl | exact VLe.nil_sl _ _ _ | exact VLe.int (by first | rfl | omega | (dsimp only; omega)) | exact VLe.bool rfl | exact VLe.sl rfl (by first | rfl | omega | (dsimp only; omega) | (simp; done)) | exact VLe.cap rfl (by first | rfl | omega | (dsimp only; omega) | (simp; done)) | exact VLe.im rfl rfl | exact HLe.new rfl | exact HLe.same rfl (LLe.refl rfl) | refine HLe.same rfl ?_ | exact LLe.nil _ | exact LLe.refl rfl | refine LLe.cons ?_ ?_)))
            exact LLe.lv (lv_set (by omega))
        · have hc0 : c = 0 := by omega
          subst hc0
          have q2 := decide_eq_false (p := (k : Int) < b.length) (by omega)
          have q3 : decide ((0 : Int) < ((0 : Nat) : Int)) = false := by simp
          (repeat (first | refine DO.nil (by kernel_rfl) ?_ | (with_reducible refine SC.condB (by simp (disch := omega) only [go_sem, ↓reduceIte]; rfl) ?_; first | with_reducible refine pickT ?_ | with_reducible refine pickF ?_) | (with_reducible first | apply oz1 | apply oz2 | apply oz3 | apply oz4 | apply oz5 | apply oz6 | apply oz7 | apply oz8 | apply oz9 | apply ozb | apply ozc | apply oze | apply ozf | apply ozg | apply ozh | apply ozi | apply ozj | apply ozk | refine ozd (by decide) ?_) | ((with_reducible apply SC.region); (focus (simp (disch := omega) only [go_sem, ↓reduceIte, zn1, reduceCtorEq, q2, q3]; rfl))) | (with_reducible refine SC.draw Tab.mixed rfl ?_; (repeat (refine DO.run (by simp (disch := omega) only [go_sem, ↓reduceIte, zn1, zn2, zn3, zn4, zn5, zn6, reduceCtorEq, zn7, zi1, zi2, if_pos, if_neg, q1, q2, q3, lv_len]; rfl) ?_)); refine DO.nil (by kernel_rfl) ?_)))
          refine hK _ (i + 1, z) ?_ ⟨by simp only; omega, hI.row (by omega)⟩ (by simp only; omega)
          (refine Le.of [] hB (by first | exact ⟨Nat.zero_le _, fun _ _ => Nat.zero_le _⟩ | (constructor <;> (try simp) <;> (try omega))) ?_ ?_ <;> (repeat' (first | exact leSl_nil | exact leHp_nil | refine leSl_cons (by simp (disch := omega) only [go_sem, ↓reduceIte, zn1]; rfl) ?_ ?_ | refine leHp_cons (by simp (disch := omega) only [go_sem, ↓reduceIte, zn1, reduceCtorEq]; rfl) ?_ ?_ | exact VLe.junk _ | exact VLe.refl rfl | exact VLe.nil_sl _ _ _ | exact VLe.int (by first | rfl | omega | (dsimp only; omega)) | exact VLe.bool rfl | exact VLe.sl rfl (by first | rfl | omega | (dsimp only; omega) | (simp; done)) | exact VLe.cap rfl (by first | rfl | omega | (dsimp only; omega) | (simp; done)) | exact VLe.im rfl rfl | exact HLe.new rfl | exact HLe.same rfl (LLe.refl rfl) | refine HLe.same rfl ?_ | exact LLe.nil _ | exact LLe.refl rfl | refine LLe.cons ?_ ?_)))
          exact LLe.lv rfl
    · have q1 := decide_eq_false (p := (i : Int) < a.length) (by omega)
      have hd := hI.done (by omega)
      have c2 := made_i z (decide (x < 0) != decide (y < 0)) hI.2.1 (by omega)
      have e2 : sgn (decide (x < 0) != decide (y < 0)) (val z) = x * y := by
        rw [hd, vx, vy]; exact sgn_mul x y
      rw [e2] at c2
      unfold iv sv at c2
      rw [hz] at c2
      have ht : z.take (a.length + b.length + 1) = z := by rw [← hz]; exact List.take_length
      (repeat (first | refine DO.nil (by kernel_rfl) ?_ | (with_reducible first | apply oz1 | apply oz2 | apply oz3 | apply oz4 | apply oz5 | apply oz6 | apply oz7 | apply oz8 | apply oz9 | apply ozb | apply ozc | apply oze | apply ozf | apply ozg | apply ozh | apply ozi | apply ozj | apply ozk | refine ozd (by decide) ?_) | ((first | apply SO.call | apply DO.call); (iterate 3 (focus (simp (disch := omega) only [go_sem, ↓reduceIte, zn1, zn2, if_pos, lv_len, lv_take, lv_clo, ht] <;> rfl))); (first | apply SCall.ofX | apply DCall.ofX); (focus (first | assumption)); (focus (simp (disch := omega) only [go_sem, ↓reduceIte, zn7] <;> rfl))) | ((with_reducible first | apply SC.condB | apply SC.region | apply SO.run | apply DO.run); (focus (simp (disch := omega) only [go_sem, ↓reduceIte, zn1, zn2, zn3, zn4, reduceCtorEq, q1] <;> rfl)); (first | refine pickT ?_ | refine pickF ?_ | fail_if_success with_reducible refine pickA ?_)) | ((with_reducible refine SC.draw Tab.mixed ?_ ?_); (focus (first | rfl | simp (disch := omega) only [go_sem, ↓reduceIte, zn1, zn2, zn3, zn4, zn5, zn6, reduceCtorEq, zn7, zi1, zi2, if_pos, if_neg, q1, lv_len, lv_take, lv_clo, ht]))) | (with_reducible apply SC.ops)))
      exact retQ_ret Try.results70 (by simp (disch := omega) only [go_sem, ↓reduceIte, zn1, zn3, zn4]; rfl) (by simp (disch := omega) only [go_sem, ↓reduceIte]; rfl) rfl
end Go.Proofs.Ytfhcmibgpddggaa
