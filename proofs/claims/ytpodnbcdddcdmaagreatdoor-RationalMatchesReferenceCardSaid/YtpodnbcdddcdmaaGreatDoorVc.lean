/- Texts joined: Base Val Vam Van Gl Op Tb Sv Qa. -/
import Derived.WalkKit
import Derived.Deep.QuietTactic
import Derived.BigQuiet
import Derived.Deep.LoopGhost
import Derived.Laws.AppendOwnNone
import Derived.Deep.RegionHeld3
import Derived.Deep.DeepCutAuto
import Derived.ProofKit
import Derived.OpenShut
import Derived.Carry
import Derived.Test.YtpodnbcdddcdmaaGreatDoorRows
import Derived.Test.YtpodnbcdddcdmaaGreatDoorProg
import Derived.Lib.LaidTab
import Derived.KernelRfl
import Derived.ChangeVars
import Derived.LaidLaws
import Derived.Deep.DeepHandedRow
import Derived.Test.YtpodnbcdddcdmaaGreatDoorVa
import Derived.Test.YtpodnbcdddcdmaaGreatDoorVb
set_option linter.all false
/- Own base words: a world that extends another, slices that read as lists. -/
namespace Go.Proofs.YtpodnbcdddcdmaaGreatDoor
open Go.RowKit
theorem hid {p : Prop} (h : p) : Hid p := h
def u32s (l : List Nat) : List Value := l.map fun (n : Nat) => Value.int .u32 (n : Int)
@[simp] theorem u32s_length (l : List Nat) : (u32s l).length = l.length := by simp [u32s]
/-! ### blocks of the call's own -/
section
variable {P : Program} {ops : Array Oper} {rest : List Oper} {o : Oper} {a : Act} {Q : Exit → Act → World → Prop}
end
end Go.Proofs.YtpodnbcdddcdmaaGreatDoor

/- Plain facts on limbs: the value of a list of limbs. No program in sight. -/
namespace Go.Proofs.YtpodnbcdddcdmaaGreatDoor
def val : List Nat → Nat
  | [] => 0
  | x :: l => x + 4294967296 * val l
def limbs (l : List Nat) : Prop := ∀ x ∈ l, x < 4294967296
theorem limbs_cons {x : Nat} {l : List Nat} (h : limbs (x :: l)) : x < 4294967296 ∧ limbs l := ⟨h x (by simp), fun y hy => h y (by simp [hy])⟩
theorem limbs_getD {l : List Nat} (h : limbs l) (i : Nat) : l.getD i 0 < 4294967296 := by
  rw [List.getD_eq_getElem?_getD]
  by_cases hi : i < l.length
  · simp [hi]; exact h _ (List.getElem_mem hi)
  · simp [hi]
theorem val_append (a b : List Nat) : val (a ++ b) = val a + 4294967296 ^ a.length * val b := by
  induction a with
  | nil => simp [val]
  | cons x a ih => simp only [List.cons_append, val, ih, List.length_cons, Nat.pow_succ]; grind
theorem val_lt {l : List Nat} (h : limbs l) : val l < 4294967296 ^ l.length := by
  induction l with
  | nil => simp [val]
  | cons x l ih =>
    obtain ⟨hx, hl⟩ := limbs_cons h
    have := ih hl
    simp only [val, List.length_cons, Nat.pow_succ]
    omega
theorem val_take_succ {l : List Nat} {k : Nat} (h : k < l.length) : val (l.take (k + 1)) = val (l.take k) + 4294967296 ^ k * l.getD k 0 := by
  rw [List.take_succ_eq_append_getElem h, val_append]
  simp [val, h, Nat.min_eq_left (Nat.le_of_lt h)]
theorem limbs_take {l : List Nat} (h : limbs l) (k : Nat) : limbs (l.take k) := fun x hx => h x (List.mem_of_mem_take hx)
theorem limbs_drop {l : List Nat} (h : limbs l) (k : Nat) : limbs (l.drop k) := fun x hx => h x (List.mem_of_mem_drop hx)
theorem val_split (l : List Nat) (k : Nat) (h : k ≤ l.length) : val l = val (l.take k) + 4294967296 ^ k * val (l.drop k) := by
  conv => lhs; rw [← List.take_append_drop k l]
  rw [val_append]; simp [Nat.min_eq_left h]
theorem val_lt_step {a b : List Nat} {k : Nat} (ha : limbs a) (hb : limbs b) (hka : k < a.length) (hkb : k < b.length) :
    (a.getD k 0 = b.getD k 0 → (val (a.take (k + 1)) < val (b.take (k + 1)) ↔ val (a.take k) < val (b.take k))) ∧
    (a.getD k 0 ≠ b.getD k 0 → (val (a.take (k + 1)) < val (b.take (k + 1)) ↔ a.getD k 0 < b.getD k 0)) := by
  have h1 := val_lt (limbs_take ha k)
  have h2 := val_lt (limbs_take hb k)
  rw [List.length_take, Nat.min_eq_left (Nat.le_of_lt hka)] at h1
  rw [List.length_take, Nat.min_eq_left (Nat.le_of_lt hkb)] at h2
  rw [val_take_succ hka, val_take_succ hkb]
  generalize val (a.take k) = x at *
  generalize val (b.take k) = y at *
  generalize a.getD k 0 = c
  generalize b.getD k 0 = d
  generalize 4294967296 ^ k = p at *
  refine ⟨fun h => by subst h; omega, fun h => ?_⟩
  rcases Nat.lt_or_gt_of_ne h with h' | h'
  · have : p * (c + 1) ≤ p * d := Nat.mul_le_mul_left _ h'
    rw [Nat.mul_add] at this
    constructor
    · intro _; exact h'
    · intro _; omega
  · have : p * (d + 1) ≤ p * c := Nat.mul_le_mul_left _ h'
    rw [Nat.mul_add] at this
    constructor
    · intro _; omega
    · intro _; omega
def lessL (a b : List Nat) : Bool := if a.length = b.length then decide (val a < val b) else decide (a.length < b.length)
def canon (l : List Nat) : Prop := ∀ h : l ≠ [], l.getLast h ≠ 0
theorem canon_ge {l : List Nat} (h : canon l) (hn : l ≠ []) : 4294967296 ^ (l.length - 1) ≤ val l := by
  have e := List.dropLast_concat_getLast hn
  have h1 := h hn
  conv => rhs; rw [← e]
  rw [val_append]
  simp only [List.length_dropLast, val]
  have : 4294967296 ^ (l.length - 1) * 1 ≤ 4294967296 ^ (l.length - 1) * (l.getLast hn + 4294967296 * 0) := Nat.mul_le_mul_left _ (by omega)
  omega
theorem lessL_eq {a b : List Nat} (ha : limbs a) (hb : limbs b) (ca : canon a) (cb : canon b) : lessL a b = decide (val a < val b) := by
  unfold lessL
  split
  · rfl
  · rename_i hne
    have key : ∀ {a b : List Nat}, limbs a → canon b → a.length < b.length → val a < val b := by
      intro a b ha cb h
      have h1 := val_lt ha
      have h2 := canon_ge cb (by intro e; subst e; simp at h)
      have h3 : 4294967296 ^ a.length ≤ 4294967296 ^ (b.length - 1) := Nat.pow_le_pow_right (by omega) (by omega)
      omega
    rcases Nat.lt_or_gt_of_ne hne with h | h
    · simp [h, key ha cb h]
    · have := key hb ca h
      rw [Bool.eq_iff_iff]; simp; omega
theorem val_inj {a b : List Nat} (ha : limbs a) (hb : limbs b) (h : a.length = b.length) (e : val a = val b) : a = b := by
  induction a generalizing b with
  | nil => cases b with | nil => rfl | cons => simp at h
  | cons x a ih =>
    cases b with
    | nil => simp at h
    | cons y b =>
      obtain ⟨hx, ha⟩ := limbs_cons ha
      obtain ⟨hy, hb⟩ := limbs_cons hb
      simp only [val] at e
      have h1 : x = y := by omega
      have h2 : val a = val b := by omega
      rw [h1, ih ha hb (by simpa using h) h2]
theorem canon_inj {a b : List Nat} (ha : limbs a) (hb : limbs b) (ca : canon a) (cb : canon b) (e : val a = val b) : a = b := by
  have h1 := lessL_eq ha hb ca cb
  have h2 := lessL_eq hb ha cb ca
  unfold lessL at h1 h2
  have hl : a.length = b.length := by
    by_cases hl : a.length = b.length
    · exact hl
    · rw [if_neg hl] at h1
      rw [if_neg (fun h => hl h.symm)] at h2
      simp [e] at h1 h2
      omega
  exact val_inj ha hb hl e
theorem val_take_succ' (l : List Nat) (k : Nat) : val (l.take (k + 1)) = val (l.take k) + 4294967296 ^ k * l.getD k 0 := by
  by_cases h : k < l.length
  · exact val_take_succ h
  · rw [List.take_of_length_le (by omega), List.take_of_length_le (by omega)]
    simp [List.getD_eq_getElem?_getD, List.getElem?_eq_none (Nat.le_of_not_lt h)]
theorem getD_ge {l : List Nat} {k : Nat} (h : ¬ k < l.length) : l.getD k 0 = 0 := by
  simp [List.getD_eq_getElem?_getD, List.getElem?_eq_none (Nat.le_of_not_lt h)]
theorem limbs_snoc {l : List Nat} (h : limbs l) {x : Nat} (hx : x < 4294967296) : limbs (l ++ [x]) := by
  intro y hy
  rcases List.mem_append.1 hy with hy | hy
  · exact h y hy
  · simp at hy; omega
def plusInv (a b : List Nat) (k c : Nat) (l : List Nat) : Prop := l.length = k ∧ limbs l ∧ val l + 4294967296 ^ k * c = val (a.take k) + val (b.take k)
theorem plusInv.step {a b l : List Nat} {k c : Nat} (h : plusInv a b k c l) (x y : Nat) (hx : a.getD k 0 = x) (hy : b.getD k 0 = y) : plusInv a b (k + 1) ((c + x + y) / 4294967296) (l ++ [(c + x + y) % 4294967296]) := by
  obtain ⟨h1, h2, h3⟩ := h
  refine ⟨by simp [h1], limbs_snoc h2 (by omega), ?_⟩
  rw [val_take_succ', val_take_succ', val_append, hx, hy, h1, Nat.pow_succ]
  simp only [val]
  have hd := Nat.div_add_mod (c + x + y) 4294967296
  generalize 4294967296 ^ k = p at *
  generalize (c + x + y) / 4294967296 = d at *
  generalize (c + x + y) % 4294967296 = m at *
  have : p * (c + x + y) = p * (4294967296 * d + m) := by rw [hd]
  grind
theorem plusInv.done {a b l : List Nat} {k : Nat} (h : plusInv a b k 0 l) (ha : a.length ≤ k) (hb : b.length ≤ k) : val l = val a + val b := by
  obtain ⟨h1, h2, h3⟩ := h
  rw [List.take_of_length_le ha, List.take_of_length_le hb] at h3
  simpa using h3
theorem val_set {z : List Nat} {j : Nat} (h : j < z.length) (x : Nat) : val (z.set j x) + 4294967296 ^ j * z.getD j 0 = val z + 4294967296 ^ j * x := by
  induction z generalizing j with
  | nil => simp at h
  | cons y z ih =>
    cases j with
    | zero => simp [val]; omega
    | succ j =>
      have := ih (j := j) (by simpa using h)
      simp only [List.set_cons_succ, val, List.getD_cons_succ, Nat.pow_succ] at *
      grind
theorem limbs_set {z : List Nat} (h : limbs z) (j : Nat) {x : Nat} (hx : x < 4294967296) : limbs (z.set j x) := by
  intro y hy
  rcases List.mem_or_eq_of_mem_set hy with hy | rfl
  · exact h y hy
  · exact hx
theorem limbs_replicate (n : Nat) : limbs (List.replicate n 0) := by intro x hx; simp at hx; omega
theorem val_replicate (n : Nat) : val (List.replicate n 0) = 0 := by induction n with | zero => rfl | succ n ih => simp [List.replicate_succ, val, ih]
def mulInv (a b : List Nat) (i k c : Nat) (z : List Nat) : Prop :=
  z.length = a.length + b.length + 1 ∧ limbs z ∧ val z + 4294967296 ^ (i + k) * c = val (a.take i) * val b + 4294967296 ^ i * (a.getD i 0 * val (b.take k))
theorem mulInv.step {a b z : List Nat} {i k c : Nat} (h : mulInv a b i k c z) (hj : i + k < z.length) (x y t : Nat) (hx : a.getD i 0 = x) (hy : b.getD k 0 = y) (ht : z.getD (i + k) 0 = t) :
    mulInv a b i (k + 1) ((c + t + x * y) / 4294967296) (z.set (i + k) ((c + t + x * y) % 4294967296)) := by
  obtain ⟨h1, h2, h3⟩ := h
  refine ⟨by simp [h1], limbs_set h2 _ (by omega), ?_⟩
  have h4 := val_set hj ((c + t + x * y) % 4294967296)
  rw [val_take_succ', hx, hy] at *
  rw [ht] at h4
  have hd := Nat.div_add_mod (c + t + x * y) 4294967296
  rw [show i + (k + 1) = i + k + 1 from rfl, Nat.pow_succ]
  generalize hD : (c + t + x * y) / 4294967296 = d at *
  generalize hM : (c + t + x * y) % 4294967296 = m at *
  generalize val (z.set (i + k) m) = V at *
  have e1 : 4294967296 ^ (i + k) = 4294967296 ^ i * 4294967296 ^ k := Nat.pow_add _ _ _
  generalize 4294967296 ^ (i + k) = p at *
  generalize 4294967296 ^ i = q at *
  generalize 4294967296 ^ k = r at *
  subst e1
  have : q * r * (c + t + x * y) = q * r * (4294967296 * d + m) := by rw [hd]
  grind
theorem mulInv.noCarry {a b z : List Nat} {i c : Nat} (h : mulInv a b i (b.length + 1) c z) (ha : limbs a) (hb : limbs b) (hi : i < a.length) : c = 0 := by
  obtain ⟨h1, h2, h3⟩ := h
  rw [List.take_of_length_le (l := b) (by omega)] at h3
  have e : val (a.take (i + 1)) * val b = val (a.take i) * val b + 4294967296 ^ i * (a.getD i 0 * val b) := by
    rw [val_take_succ', Nat.add_mul, Nat.mul_assoc]
  have hA := val_lt (limbs_take ha (i + 1))
  have hB := val_lt hb
  rw [List.length_take, Nat.min_eq_left hi] at hA
  have hP : val (a.take (i + 1)) * val b < 4294967296 ^ (i + (b.length + 1)) := by
    rw [show i + (b.length + 1) = (i + 1) + b.length by omega, Nat.pow_add]
    exact Nat.mul_lt_mul'' hA hB
  rcases Nat.eq_zero_or_pos c with h0 | h0
  · exact h0
  · have : 4294967296 ^ (i + (b.length + 1)) * 1 ≤ 4294967296 ^ (i + (b.length + 1)) * c := Nat.mul_le_mul_left _ h0
    omega
theorem mulInv.row {a b z : List Nat} {i k : Nat} (h : mulInv a b i k 0 z) (hk : b.length ≤ k) : mulInv a b (i + 1) 0 0 z := by
  obtain ⟨h1, h2, h3⟩ := h
  refine ⟨h1, h2, ?_⟩
  rw [List.take_of_length_le (l := b) hk, Nat.mul_zero, Nat.add_zero] at h3
  rw [val_take_succ', Nat.add_mul, h3, Nat.mul_zero, List.take_zero, Nat.mul_assoc, show val [] = 0 from rfl, Nat.mul_zero, Nat.mul_zero]
theorem mulInv.done {a b z : List Nat} {i : Nat} (h : mulInv a b i 0 0 z) (hi : a.length ≤ i) : val z = val a * val b := by
  obtain ⟨h1, h2, h3⟩ := h
  rw [List.take_of_length_le (l := a) hi, Nat.mul_zero, List.take_zero, show val [] = 0 from rfl, Nat.mul_zero, Nat.mul_zero] at h3
  exact h3
def minusInv (a b : List Nat) (k c : Nat) (l : List Nat) : Prop := l.length = k ∧ limbs l ∧ val l + val (b.take k) = val (a.take k) + 4294967296 ^ k * c
theorem minusInv.step {a b l : List Nat} {k c : Nat} (h : minusInv a b k c l) (x y d c' : Nat) (hx : a.getD k 0 = x) (hy : b.getD k 0 = y) (hd : d < 4294967296) (he : (d : Int) = x - c - y + 4294967296 * c') : minusInv a b (k + 1) c' (l ++ [d]) := by
  obtain ⟨h1, h2, h3⟩ := h
  refine ⟨by simp [h1], limbs_snoc h2 hd, ?_⟩
  rw [val_take_succ', val_take_succ', val_append, hx, hy, h1, Nat.pow_succ]
  simp only [val]
  have he' : d + c + y = x + 4294967296 * c' := by omega
  generalize 4294967296 ^ k = p at *
  have : p * (d + c + y) = p * (x + 4294967296 * c') := by rw [he']
  grind
theorem minusInv.done {a b l : List Nat} {c : Nat} (h : minusInv a b a.length c l) (hc : c ≤ 1) (ha : limbs a) (hb : b.length ≤ a.length) (hab : val b ≤ val a) : val l = val a - val b := by
  obtain ⟨h1, h2, h3⟩ := h
  rw [List.take_of_length_le (Nat.le_refl _), List.take_of_length_le hb] at h3
  have h4 := val_lt h2
  rw [h1] at h4
  have h5 := val_lt ha
  have : c = 0 := by
    rcases Nat.lt_or_ge c 1 with hh | hh
    · omega
    · have : c = 1 := by omega
      subst this
      omega
  subst this
  omega
def sgn (neg : Bool) (m : Nat) : Int := if neg then -(m : Int) else m
theorem sgn_natAbs (neg : Bool) (m : Nat) : (sgn neg m).natAbs = m := by cases neg <;> simp [sgn]
def Fits (K : Nat) (n : Int) : Prop := n.natAbs < 4294967296 ^ K
theorem Fits.mono {K L : Nat} {n : Int} (h : Fits K n) (hl : K ≤ L) : Fits L n := Nat.lt_of_lt_of_le h (Nat.pow_le_pow_right (by omega) hl)
theorem Fits.neg {K : Nat} {n : Int} (h : Fits K n) : Fits K (-n) := by unfold Fits at *; rwa [Int.natAbs_neg]
theorem Fits.add {K : Nat} {a b : Int} (ha : Fits K a) (hb : Fits K b) : Fits (K + 1) (a + b) := by
  unfold Fits at *; rw [Nat.pow_succ]; generalize 4294967296 ^ K = p at *; omega
theorem Fits.sub {K : Nat} {a b : Int} (ha : Fits K a) (hb : Fits K b) : Fits (K + 1) (a - b) := by
  have := Fits.add ha hb.neg; rwa [← Int.sub_eq_add_neg] at this
theorem Fits.mul {K L : Nat} {a b : Int} (ha : Fits K a) (hb : Fits L b) : Fits (K + L) (a * b) := by
  unfold Fits at *; rw [Int.natAbs_mul, Nat.pow_add]; exact Nat.mul_lt_mul'' ha hb
theorem Fits.of_natAbs_le {K : Nat} {a b : Int} (h : Fits K b) (hl : a.natAbs ≤ b.natAbs) : Fits K a := Nat.lt_of_le_of_lt hl h
theorem fits_one {n : Int} (h : n.natAbs < 4294967296) : Fits 1 n := by simpa [Fits] using h
theorem fits_two {n : Int} (h : n.natAbs < 18446744073709551616) : Fits 2 n := by simpa [Fits] using h
theorem fits_val {l : List Nat} (h : limbs l) (neg : Bool) : Fits l.length (sgn neg (val l)) := by
  unfold Fits; rw [sgn_natAbs]; exact val_lt h
theorem canon_len {l : List Nat} {K : Nat} (hc : canon l) (h : val l < 4294967296 ^ K) : l.length ≤ K := by
  by_cases hn : l = []
  · subst hn; simp
  · have h1 := canon_ge hc hn
    by_cases hk : l.length ≤ K
    · exact hk
    · have h2 : 4294967296 ^ K ≤ 4294967296 ^ (l.length - 1) := Nat.pow_le_pow_right (by omega) (by omega)
      omega
end Go.Proofs.YtpodnbcdddcdmaaGreatDoor

/- Plain laws of limbs: division by one limb, the estimate, the division. -/
namespace Go.Proofs.YtpodnbcdddcdmaaGreatDoor
theorem val_two (m : Nat) : val [m % 4294967296, m / 4294967296] = m := by
  simp only [val]; omega
theorem limbs_two (m : Nat) (hm : m < 18446744073709551616) : limbs [m % 4294967296, m / 4294967296] := by
  intro x hx; simp at hx; omega
theorem drop_cons {l : List Nat} {k : Nat} (h : k < l.length) : l.drop k = l.getD k 0 :: l.drop (k + 1) := by
  rw [List.drop_eq_getElem_cons h, List.getD_eq_getElem?_getD, List.getElem?_eq_getElem h]; rfl
theorem drop_set_cons {l : List Nat} {k x : Nat} (h : k < l.length) : (l.set k x).drop k = x :: l.drop (k + 1) := by
  rw [List.drop_eq_getElem_cons (by simpa using h)]
  simp [List.drop_set]
def shortInv (a : List Nat) (d k r : Nat) (z : List Nat) : Prop := z.length = a.length ∧ limbs z ∧ r < d ∧ val (a.drop k) = val (z.drop k) * d + r
theorem shortInv.step {a z : List Nat} {d k r x : Nat} (h : shortInv a d (k + 1) r z) (hk : k < a.length) (hx : a.getD k 0 = x) (hx2 : x < 4294967296) : shortInv a d k ((r * 4294967296 + x) % d) (z.set k ((r * 4294967296 + x) / d)) ∧ (r * 4294967296 + x) / d < 4294967296 := by
  obtain ⟨h1, h2, h3, h4⟩ := h
  have hq : (r * 4294967296 + x) / d < 4294967296 := by
    rw [Nat.div_lt_iff_lt_mul (by omega)]
    have : (r + 1) * 4294967296 ≤ d * 4294967296 := Nat.mul_le_mul_right _ h3
    rw [Nat.mul_comm 4294967296 d]; omega
  refine ⟨⟨by simp [h1], limbs_set h2 _ hq, Nat.mod_lt _ (by omega), ?_⟩, hq⟩
  rw [drop_cons hk, drop_set_cons (by omega), hx]
  simp only [val]
  rw [h4]
  have hd := Nat.div_add_mod (r * 4294967296 + x) d
  generalize (r * 4294967296 + x) / d = q at *
  generalize (r * 4294967296 + x) % d = m at *
  grind
theorem shortInv.done {a z : List Nat} {d r : Nat} (h : shortInv a d 0 r z) : val z = val a / d ∧ r = val a % d := by
  obtain ⟨h1, h2, h3, h4⟩ := h
  simp only [List.drop_zero] at h4
  rw [h4, Nat.mul_comm]
  exact ⟨by rw [Nat.mul_add_div (by omega), Nat.div_eq_of_lt h3]; rfl, by rw [Nat.mul_add_mod, Nat.mod_eq_of_lt h3]⟩
theorem smallInv {l : List Nat} {k r x : Nat} (h : r = val (l.drop (k + 1))) (hk : k < l.length) (hx : l.getD k 0 = x) : r * 4294967296 + x = val (l.drop k) := by
  rw [drop_cons hk, hx, h]; simp only [val]; omega
theorem le_two_lt {l : List Nat} (h : limbs l) (hl : l.length ≤ 2) (k : Nat) : val (l.drop k) < 18446744073709551616 := by
  have h1 := val_lt (limbs_drop h k)
  have h2 : 4294967296 ^ (l.drop k).length ≤ 4294967296 ^ 2 := Nat.pow_le_pow_right (by omega) (by simp; omega)
  omega
theorem est_zero {r d : List Nat} {n : Nat} (hd : limbs d) (hl : r.length = d.length) (hn : d.length = n + 1) (hle : val d ≤ val r) (x y : Nat) (hx : r.getD n 0 = x) (hy : d.getD n 0 = y) :
    0 < max 1 (x / (y + 1)) ∧ max 1 (x / (y + 1)) * val d ≤ val r := by
  refine ⟨by omega, ?_⟩
  rcases Nat.lt_or_ge (x / (y + 1)) 1 with h | h
  · rw [Nat.max_eq_left (by omega)]; omega
  · rw [Nat.max_eq_right h]
    have e1 := val_split r n (by omega)
    have e2 := val_split d n (by omega)
    rw [drop_cons (show n < r.length by omega), hx] at e1
    rw [drop_cons (show n < d.length by omega), hy] at e2
    rw [List.drop_of_length_le (by omega)] at e1 e2
    have h3 := val_lt (limbs_take hd n)
    rw [List.length_take, Nat.min_eq_left (by omega)] at h3
    simp only [val, Nat.mul_zero, Nat.add_zero] at e1 e2
    rw [e1, e2]
    have h4 := Nat.div_mul_le_self x (y + 1)
    generalize x / (y + 1) = q at *
    generalize 4294967296 ^ n = p at *
    have h5 : q * (val (d.take n) + p * y) ≤ q * (p * (y + 1)) := Nat.mul_le_mul_left _ (by rw [Nat.mul_add]; omega)
    have h6 : p * (q * (y + 1)) ≤ p * x := Nat.mul_le_mul_left _ h4
    have h7 : q * (p * (y + 1)) = p * (q * (y + 1)) := by grind
    omega
theorem est_more {r d : List Nat} {n k : Nat} (hd : limbs d) (hn : d.length = n + 2) (hk : r.length = n + 2 + k + 1) (x z y : Nat) (hx : r.getD (n + k + 2) 0 = x) (hz : r.getD (n + k + 1) 0 = z) (hy : d.getD (n + 1) 0 = y) (hx0 : x ≠ 0) (hyb : y < 4294967296) :
    0 < (x * 4294967296 + z) / (y + 1) ∧ (x * 4294967296 + z) / (y + 1) * 4294967296 ^ k * val d ≤ val r := by
  have hq : 0 < (x * 4294967296 + z) / (y + 1) := Nat.div_pos (by omega) (by omega)
  refine ⟨hq, ?_⟩
  have e1 := val_split r (n + k + 1) (by omega)
  have e2 := val_split d (n + 1) (by omega)
  rw [drop_cons (show n + k + 1 < r.length by omega), hz, drop_cons (show n + k + 1 + 1 < r.length by omega), hx] at e1
  rw [drop_cons (show n + 1 < d.length by omega), hy] at e2
  rw [List.drop_of_length_le (by omega)] at e1 e2
  have h3 := val_lt (limbs_take hd (n + 1))
  rw [List.length_take, Nat.min_eq_left (by omega)] at h3
  simp only [val, Nat.mul_zero, Nat.add_zero] at e1 e2
  rw [e1, e2]
  have h4 := Nat.div_mul_le_self (x * 4294967296 + z) (y + 1)
  generalize (x * 4294967296 + z) / (y + 1) = q at *
  rw [show n + k + 1 = k + (n + 1) by omega, Nat.pow_add 4294967296 k (n + 1)]
  generalize 4294967296 ^ (n + 1) = p at *
  generalize 4294967296 ^ k = s at *
  have h5 : q * s * (val (d.take (n + 1)) + p * y) ≤ q * s * (p * (y + 1)) := Nat.mul_le_mul_left _ (by rw [Nat.mul_add]; omega)
  have h6 : s * p * (q * (y + 1)) ≤ s * p * (x * 4294967296 + z) := Nat.mul_le_mul_left _ h4
  have h7 : q * s * (p * (y + 1)) = s * p * (q * (y + 1)) := by grind
  have h8 : s * p * (z + 4294967296 * x) = s * p * (x * 4294967296 + z) := by grind
  omega
theorem val_one (x : Nat) : val [x] = x := by simp [val]
theorem limbs_one {x : Nat} (h : x < 4294967296) : limbs [x] := by intro y hy; simp at hy; omega
def divInv (A D R q : Nat) : Prop := A = R + q * D
theorem divInv.step {A D R q e : Nat} (h : divInv A D R q) (he : e * D ≤ R) : divInv A D (R - e * D) (q + e) := by
  unfold divInv at *; rw [Nat.add_mul]; omega
theorem divInv.done {a b s R q : Nat} (h : divInv (a * s) (b * s) R q) (hs : 0 < s) (hb : 0 < b) (hR : R < b * s) : q = a / b ∧ R / s = a % b := by
  unfold divInv at h
  have h1 : a * s / (b * s) = q := by
    rw [h, Nat.add_mul_div_right _ _ (Nat.mul_pos hb hs), Nat.div_eq_of_lt hR, Nat.zero_add]
  have h2 : a * s % (b * s) = R := by
    rw [h, Nat.add_mul_mod_self_right, Nat.mod_eq_of_lt hR]
  rw [Nat.mul_div_mul_right _ _ hs] at h1
  rw [Nat.mul_mod_mul_right] at h2
  refine ⟨h1.symm, ?_⟩
  rw [← h2, Nat.mul_div_cancel _ hs]
theorem divInv.le {A D R q : Nat} (h : divInv A D R q) (hD : 0 < D) : R ≤ A ∧ q ≤ A := by
  unfold divInv at h
  have : q * 1 ≤ q * D := Nat.mul_le_mul_left _ hD
  omega
theorem divmod_spec (na nb : Bool) (A B : Nat) (hB : 0 < B) :
    (if na ≠ nb then -((if na = true ∧ 0 < A % B then ((A / B : Nat) : Int) + 1 else ((A / B : Nat) : Int))) else (if na = true ∧ 0 < A % B then ((A / B : Nat) : Int) + 1 else ((A / B : Nat) : Int))) = sgn na A / sgn nb B ∧
    (if na = true ∧ 0 < A % B then (B : Int) - ((A % B : Nat) : Int) else ((A % B : Nat) : Int)) = sgn na A % sgn nb B := by
  have hd := Nat.div_add_mod A B
  have hm := Nat.mod_lt A hB
  have hB' : (0 : Int) < B := by omega
  have hd' : (B : Int) * ((A / B : Nat) : Int) + ((A % B : Nat) : Int) = A := by
    have := congrArg (fun n : Nat => (n : Int)) hd
    simpa using this
  generalize hq : A / B = q at *
  generalize hr : A % B = r at *
  have key : ∀ (x Q R : Int), R + (B : Int) * Q = x → 0 ≤ R → R < B → x / (B : Int) = Q ∧ x % (B : Int) = R := fun x Q R h1 h2 h3 => (Int.ediv_emod_unique hB').2 ⟨h1, h2, h3⟩
  cases na
  · have h := key (A : Int) q r (by omega) (by omega) (by omega)
    cases nb
    · simp [sgn, h.1, h.2]
    · simp [sgn, h.1, h.2, Int.ediv_neg, Int.emod_neg]
  · by_cases h0 : 0 < r
    · have h := key (-(A : Int)) (-((q : Int) + 1)) ((B : Int) - r) (by rw [← hd', Int.mul_neg, Int.mul_add]; omega) (by omega) (by omega)
      cases nb
      · simp [sgn, h.1, h.2, h0]
      · simp [sgn, h.1, h.2, h0, Int.ediv_neg, Int.emod_neg]
    · have hr0 : r = 0 := by omega
      subst hr0
      have h := key (-(A : Int)) (-(q : Int)) 0 (by rw [← hd', Int.mul_neg]; omega) (by omega) (by omega)
      cases nb
      · simp [sgn, h.1, h.2]
      · simp [sgn, h.1, h.2, Int.ediv_neg, Int.emod_neg]
end Go.Proofs.YtpodnbcdddcdmaaGreatDoor

/- Plain laws of the program's division: limbs shifted, a digit of a quotient, the division digit by digit. -/
namespace Go.Proofs.YtpodnbcdddcdmaaGreatDoor
open Go.RowKit
theorem val_take_set {z : List Nat} {i y : Nat} (h : i < z.length) : val ((z.set i y).take (i + 1)) = val (z.take i) + 4294967296 ^ i * y := by
  rw [val_take_succ', List.take_set_of_le (Nat.le_refl _)]
  congr 2
  simp [List.getD_eq_getElem?_getD, h]
theorem val_take_all (z : List Nat) {n : Nat} (h : z.length ≤ n) : val (z.take n) = val z := by rw [List.take_of_length_le h]
theorem val_snoc_set {z : List Nat} {n y : Nat} (h : z.length = n + 1) : val (z.set n y) = val (z.take n) + 4294967296 ^ n * y := by
  rw [← val_take_set (by omega), val_take_all]; simp; omega
theorem val_last {z : List Nat} {n : Nat} (h : z.length = n + 1) : val z = val (z.take n) + 4294967296 ^ n * z.getD n 0 := by
  rw [← val_take_succ', val_take_all]; omega
theorem drop_set_ge {z : List Nat} {i j y : Nat} (h : i < j) : (z.set i y).drop j = z.drop j := List.drop_set_of_lt h
theorem getD_of_drop {u z : List Nat} {i : Nat} (h : z.drop i = u.drop i) : z.getD i 0 = u.getD i 0 := by
  have h1 : (z.drop i)[0]? = (u.drop i)[0]? := by rw [h]
  simp only [List.getElem?_drop, Nat.add_zero] at h1
  simp [List.getD_eq_getElem?_getD, h1]
theorem drop_next {u z : List Nat} {i : Nat} (h : z.drop i = u.drop i) : z.drop (i + 1) = u.drop (i + 1) := by
  rw [← List.drop_drop, ← List.drop_drop, h]
/-! ### limbs shifted -/
def shiftInv (x : List Nat) (p i c : Nat) (z : List Nat) : Prop := z.length = x.length + 1 ∧ limbs z ∧ c < p ∧ val (z.take i) + 4294967296 ^ i * c = val (x.take i) * p
theorem shiftInv.step {x z : List Nat} {p i c d w : Nat} (h : shiftInv x p i c z) (hi : i < x.length) (hd : x.getD i 0 = d) (hd2 : d < 4294967296) (hw : w = c + d * p) (hp : p ≤ 4294967296) : shiftInv x p (i + 1) (w / 4294967296) (z.set i (w % 4294967296)) ∧ w < 4294967296 * p := by
  obtain ⟨h1, h2, h3, h4⟩ := h
  have hlt : w < 4294967296 * p := by
    have : d * p ≤ 4294967295 * p := Nat.mul_le_mul_right _ (by omega)
    omega
  refine ⟨⟨by simp [h1], limbs_set h2 _ (by omega), Nat.div_lt_of_lt_mul hlt, ?_⟩, hlt⟩
  rw [val_take_set (by omega), val_take_succ', hd, Nat.pow_succ, Nat.add_mul, ← h4, Nat.mul_assoc]
  have e : 4294967296 ^ i * w = 4294967296 ^ i * (w % 4294967296) + 4294967296 ^ i * (4294967296 * (w / 4294967296)) := by
    rw [← Nat.mul_add]; congr 1; omega
  have e2 : 4294967296 ^ i * w = 4294967296 ^ i * c + 4294967296 ^ i * (d * p) := by rw [hw, Nat.mul_add]
  rw [Nat.mul_assoc]
  omega
theorem shiftInv.done {x z : List Nat} {p c : Nat} (h : shiftInv x p x.length c z) : val (z.set x.length c) = val x * p := by
  obtain ⟨h1, h2, h3, h4⟩ := h
  rw [val_snoc_set h1, h4, List.take_length]
/-! ### the digit of a quotient -/
def UU (u0 u1 u2 ul M : Nat) : Nat := ((u0 * 4294967296 + u1) * 4294967296 + u2) * M + ul
def VV (v1 v2 vl M : Nat) : Nat := (v1 * 4294967296 + v2) * M + vl
theorem val_top3 {u : List Nat} {k : Nat} (h : u.length = k + 3) : val u = UU (u.getD (k + 2) 0) (u.getD (k + 1) 0) (u.getD k 0) (val (u.take k)) (4294967296 ^ k) := by
  have p1 : 4294967296 ^ (k + 2) = 4294967296 ^ k * 4294967296 * 4294967296 := by rw [Nat.pow_succ, Nat.pow_succ]
  have p2 : 4294967296 ^ (k + 1) = 4294967296 ^ k * 4294967296 := by rw [Nat.pow_succ]
  rw [val_last (n := k + 2) h, val_take_succ', val_take_succ', p1, p2]
  unfold UU
  generalize u.getD (k + 2) 0 = a
  generalize u.getD (k + 1) 0 = b
  generalize u.getD k 0 = c
  generalize val (u.take k) = d
  generalize 4294967296 ^ k = M
  have e1 : M * 4294967296 * 4294967296 * a = (M * a) * (4294967296 * 4294967296) := by ac_rfl
  have e2 : M * 4294967296 * b = (M * b) * 4294967296 := by ac_rfl
  have e3 : ((a * 4294967296 + b) * 4294967296 + c) * M = (M * a) * (4294967296 * 4294967296) + (M * b) * 4294967296 + M * c := by
    rw [Nat.add_mul, Nat.add_mul, Nat.add_mul]; ac_rfl
  omega
theorem val_top2 {v : List Nat} {k : Nat} (h : v.length = k + 2) : val v = VV (v.getD (k + 1) 0) (v.getD k 0) (val (v.take k)) (4294967296 ^ k) := by
  rw [val_last (n := k + 1) h, val_take_succ', Nat.pow_succ]
  unfold VV
  generalize v.getD (k + 1) 0 = b
  generalize v.getD k 0 = c
  generalize val (v.take k) = d
  generalize 4294967296 ^ k = M
  have e2 : M * 4294967296 * b = (M * b) * 4294967296 := by ac_rfl
  have e3 : (b * 4294967296 + c) * M = (M * b) * 4294967296 + M * c := by
    rw [Nat.add_mul]; ac_rfl
  omega
theorem top_le {u0 u1 u2 ul v1 v2 vl M : Nat} (hM : 0 < M) (hu : UU u0 u1 u2 ul M < 4294967296 * VV v1 v2 vl M) (hvl : vl < M) (h2 : v2 < 4294967296) : u0 ≤ v1 := by
  refine Nat.le_of_lt_succ ?_
  have h3 : u0 * 4294967296 * 4294967296 * M ≤ UU u0 u1 u2 ul M := by
    unfold UU
    refine Nat.le_trans ?_ (Nat.le_add_right _ _)
    refine Nat.mul_le_mul_right _ ?_
    omega
  have h4 : VV v1 v2 vl M < (v1 + 1) * 4294967296 * M := by
    unfold VV
    have : (v1 * 4294967296 + v2 + 1) * M ≤ (v1 + 1) * 4294967296 * M := Nat.mul_le_mul_right _ (by omega)
    rw [Nat.add_mul _ 1] at this
    omega
  have h5 : u0 * 4294967296 * 4294967296 * M < 4294967296 * ((v1 + 1) * 4294967296 * M) := by omega
  have h6 : u0 * (4294967296 * 4294967296 * M) < (v1 + 1) * (4294967296 * 4294967296 * M) := by
    have a1 : u0 * (4294967296 * 4294967296 * M) = u0 * 4294967296 * 4294967296 * M := by ac_rfl
    have a2 : (v1 + 1) * (4294967296 * 4294967296 * M) = 4294967296 * ((v1 + 1) * 4294967296 * M) := by ac_rfl
    rw [a1, a2]; exact h5
  exact Nat.lt_of_mul_lt_mul_right h6
theorem guess_down {u0 u1 u2 ul v1 v2 vl M q r Q : Nat} (hul : ul < M) (hq : q * v1 + r = u0 * 4294967296 + u1) (hQ : Q * VV v1 v2 vl M ≤ UU u0 u1 u2 ul M) (hQb : Q < 4294967296) (hle : Q ≤ q)
    (ht : 4294967295 < q ∨ r * 4294967296 + u2 < q * v2) : Q ≤ q - 1 ∧ 1 ≤ q := by
  rcases Nat.lt_or_ge Q q with h | h
  · omega
  · exfalso
    have e : Q = q := by omega
    subst e
    rcases ht with ht | ht
    · omega
    · have h1 : Q * ((v1 * 4294967296 + v2) * M) ≤ Q * VV v1 v2 vl M := Nat.mul_le_mul_left _ (by unfold VV; omega)
      have h2 : UU u0 u1 u2 ul M < ((u0 * 4294967296 + u1) * 4294967296 + u2 + 1) * M := by unfold UU; rw [Nat.add_mul _ 1]; omega
      have h3 : Q * (v1 * 4294967296 + v2) * M < ((u0 * 4294967296 + u1) * 4294967296 + u2 + 1) * M := by rw [Nat.mul_assoc]; omega
      have h4 := Nat.lt_of_mul_lt_mul_right h3
      rw [← hq, Nat.mul_add] at h4
      have e2 : Q * (v1 * 4294967296) = Q * v1 * 4294967296 := by ac_rfl
      omega
theorem guess_end {u0 u1 u2 ul v1 v2 vl M q r : Nat} (hM : 0 < M) (hvl : vl < M) (hv : 1 ≤ v1) (hq : q * v1 + r = u0 * 4294967296 + u1) (hqb : q < 4294967296) (ht : q * v2 ≤ r * 4294967296 + u2) : q * VV v1 v2 vl M < UU u0 u1 u2 ul M + VV v1 v2 vl M := by
  have h1 : q * (v1 * 4294967296 + v2) ≤ (u0 * 4294967296 + u1) * 4294967296 + u2 := by
    rw [← hq, Nat.mul_add]
    have e2 : q * (v1 * 4294967296) = q * v1 * 4294967296 := by ac_rfl
    omega
  have h2 := Nat.mul_le_mul_right M h1
  have h3 : q * vl ≤ 4294967295 * M := Nat.mul_le_mul (by omega) (by omega)
  have h4 : 1 * 4294967296 * M ≤ (v1 * 4294967296 + v2) * M := Nat.mul_le_mul_right _ (by omega)
  have e : q * VV v1 v2 vl M = q * (v1 * 4294967296 + v2) * M + q * vl := by unfold VV; rw [Nat.mul_add, Nat.mul_assoc]
  unfold UU
  rw [e]
  have : VV v1 v2 vl M = (v1 * 4294967296 + v2) * M + vl := rfl
  omega
theorem guess_break {u0 u1 v1 q r : Nat} (hu : u0 ≤ v1) (hu1 : u1 < 4294967296) (hv : 1 ≤ v1) (hq : q * v1 + r = u0 * 4294967296 + u1) (hr : 4294967296 ≤ r) : q < 4294967296 := by
  refine Nat.lt_of_not_le fun h => ?_
  have := Nat.mul_le_mul_right v1 h
  omega
theorem guess_first {u0 u1 v1 : Nat} (hu : u0 ≤ v1) (hu1 : u1 < 4294967296) (hv : 2147483648 ≤ v1) : (u0 * 4294967296 + u1) / v1 ≤ 4294967297 := by
  refine Nat.le_of_lt_succ (Nat.div_lt_of_lt_mul ?_)
  omega
theorem guess_over {u0 u1 u2 ul v1 v2 vl M Q : Nat} (hul : ul < M) (hM : 0 < M) (hv1 : 0 < v1) (hu1 : u1 < 4294967296) (hu2 : u2 < 4294967296) (hQ : Q * VV v1 v2 vl M ≤ UU u0 u1 u2 ul M) : Q ≤ (u0 * 4294967296 + u1) / v1 := by
  rw [Nat.le_div_iff_mul_le hv1]
  have h1 : Q * (v1 * 4294967296 * M) ≤ Q * VV v1 v2 vl M := Nat.mul_le_mul_left _ (by
    unfold VV; rw [Nat.add_mul]; omega)
  have h2 : UU u0 u1 u2 ul M < (u0 * 4294967296 + u1 + 1) * 4294967296 * M := by
    have : ((u0 * 4294967296 + u1) * 4294967296 + u2 + 1) * M ≤ (u0 * 4294967296 + u1 + 1) * 4294967296 * M := Nat.mul_le_mul_right _ (by omega)
    rw [Nat.add_mul _ 1] at this
    unfold UU; omega
  have h3 : Q * v1 * (4294967296 * M) < (u0 * 4294967296 + u1 + 1) * (4294967296 * M) := by
    have a1 : Q * v1 * (4294967296 * M) = Q * (v1 * 4294967296 * M) := by ac_rfl
    have a2 : (u0 * 4294967296 + u1 + 1) * (4294967296 * M) = (u0 * 4294967296 + u1 + 1) * 4294967296 * M := by ac_rfl
    rw [a1, a2]; omega
  have := Nat.lt_of_mul_lt_mul_right h3
  omega
def msInv (u v : List Nat) (q i br c : Nat) (z : List Nat) : Prop :=
  z.length = u.length ∧ limbs z ∧ br ≤ 1 ∧ c < 4294967296 ∧ z.drop i = u.drop i ∧ val (z.take i) + q * val (v.take i) = val (u.take i) + 4294967296 ^ i * (c + br)
theorem msInv.step {u v z : List Nat} {q i br c e y w d br' : Nat} (h : msInv u v q i br c z) (hi : i < u.length) (he : v.getD i 0 = e) (hy : u.getD i 0 = y) (he2 : e < 4294967296) (hy2 : y < 4294967296) (hq : q < 4294967296)
    (hw : w = c + q * e) (hd : d < 4294967296) (hb : br' ≤ 1) (hdd : d + w % 4294967296 + br = y + 4294967296 * br') : msInv u v q (i + 1) br' (w / 4294967296) (z.set i d) ∧ w < 18446744073709551616 := by
  obtain ⟨h1, h2, h3, h4, h5, h6⟩ := h
  have hp : q * e ≤ 4294967295 * 4294967295 := Nat.mul_le_mul (by omega) (by omega)
  refine ⟨⟨by simp [h1], limbs_set h2 _ hd, hb, by omega, ?_, ?_⟩, by omega⟩
  · rw [drop_set_ge (by omega)]; exact drop_next h5
  · rw [val_take_set (by omega), val_take_succ', val_take_succ', he, hy, Nat.pow_succ]
    have a1 : q * (val (v.take i) + 4294967296 ^ i * e) = q * val (v.take i) + 4294967296 ^ i * (q * e) := by rw [Nat.mul_add]; ac_rfl
    have a2 : 4294967296 ^ i * 4294967296 * (w / 4294967296 + br') = 4294967296 ^ i * (4294967296 * (w / 4294967296)) + 4294967296 ^ i * (4294967296 * br') := by rw [Nat.mul_add]; ac_rfl
    have a3 : 4294967296 ^ i * (d + w % 4294967296 + br) = 4294967296 ^ i * (y + 4294967296 * br') := by rw [hdd]
    have a4 : 4294967296 ^ i * w = 4294967296 ^ i * (w % 4294967296) + 4294967296 ^ i * (4294967296 * (w / 4294967296)) := by rw [← Nat.mul_add]; congr 1; omega
    have a5 : 4294967296 ^ i * w = 4294967296 ^ i * c + 4294967296 ^ i * (q * e) := by rw [hw, Nat.mul_add]
    rw [a1, a2]
    rw [Nat.mul_add, Nat.mul_add, Nat.mul_add] at a3
    rw [Nat.mul_add] at h6
    omega
def abInv (u v : List Nat) (i c : Nat) (z : List Nat) : Prop := z.length = u.length ∧ limbs z ∧ c < 4294967296 ∧ z.drop i = u.drop i ∧ val (z.take i) + 4294967296 ^ i * c = val (u.take i) + val (v.take i)
theorem abInv.step {u v z : List Nat} {i c e y w : Nat} (h : abInv u v i c z) (hi : i < u.length) (he : v.getD i 0 = e) (hy : u.getD i 0 = y) (he2 : e < 4294967296) (hy2 : y < 4294967296) (hw : w = c + (y + e)) :
    abInv u v (i + 1) (w / 4294967296) (z.set i (w % 4294967296)) := by
  obtain ⟨h1, h2, h3, h4, h5⟩ := h
  refine ⟨by simp [h1], limbs_set h2 _ (by omega), by omega, ?_, ?_⟩
  · rw [drop_set_ge (by omega)]; exact drop_next h4
  · rw [val_take_set (by omega), val_take_succ', val_take_succ', he, hy, Nat.pow_succ]
    have a2 : 4294967296 ^ i * 4294967296 * (w / 4294967296) = 4294967296 ^ i * (4294967296 * (w / 4294967296)) := by ac_rfl
    have a4 : 4294967296 ^ i * w = 4294967296 ^ i * (w % 4294967296) + 4294967296 ^ i * (4294967296 * (w / 4294967296)) := by rw [← Nat.mul_add]; congr 1; omega
    have a5 : 4294967296 ^ i * w = 4294967296 ^ i * c + (4294967296 ^ i * y + 4294967296 ^ i * e) := by rw [hw, Nat.mul_add, Nat.mul_add]
    rw [a2]
    omega
theorem digit_right {u v z : List Nat} {n q br c : Nat} (hu : u.length = n + 1) (hv : v.length = n) (h : msInv u v q n br c z) (hQ : val u / val v ≤ q) (hV : 0 < val v) (hc : c + br ≤ u.getD n 0) :
    q = val u / val v ∧ val (z.set n (u.getD n 0 - (c + br))) = val u % val v := by
  obtain ⟨h1, h2, h3, h4, h5, h6⟩ := h
  have hval : val (z.set n (u.getD n 0 - (c + br))) + q * val v = val u := by
    rw [val_snoc_set (by omega), val_last hu]
    rw [val_take_all v (by omega)] at h6
    have : 4294967296 ^ n * u.getD n 0 = 4294967296 ^ n * (u.getD n 0 - (c + br)) + 4294967296 ^ n * (c + br) := by rw [← Nat.mul_add]; congr 1; omega
    omega
  have hq : q ≤ val u / val v := (Nat.le_div_iff_mul_le hV).2 (by omega)
  have hq2 : q = val u / val v := by omega
  refine ⟨hq2, ?_⟩
  have := Nat.div_add_mod (val u) (val v)
  rw [← hq2, Nat.mul_comm] at this
  omega
theorem digit_less {u v z zz : List Nat} {n q br c ca : Nat} (hu : u.length = n + 1) (hv : v.length = n) (lu : limbs u) (lv' : limbs v) (h : msInv u v q n br c z) (hc : u.getD n 0 < c + br) (hQ : val u / val v ≤ q) (hq : q * val v < val u + val v) (hV : 0 < val v)
    (z' : List Nat) (hz' : z' = z.set n ((4294967296 + u.getD n 0 - (c + br)) % 4294967296)) (ha : abInv z' v n ca zz) : 1 ≤ q ∧ q - 1 = val u / val v ∧ ((4294967296 + u.getD n 0 - (c + br)) % 4294967296 + ca) % 4294967296 = 0 ∧ val (zz.set n 0) = val u % val v := by
  obtain ⟨h1, h2, h3, h4, h5, h6⟩ := h
  obtain ⟨g1, g2, g3, g4, g5⟩ := ha
  have ht : z'.take n = z.take n := by rw [hz', List.take_set_of_le (Nat.le_refl _)]
  rw [ht, val_take_all v (by omega)] at g5
  rw [val_take_all v (by omega)] at h6
  have hzl : z'.length = n + 1 := by rw [hz']; simp; omega
  have hU := val_last hu
  have lz : val (zz.take n) < 4294967296 ^ n := by
    have := val_lt (limbs_take g2 n)
    rwa [List.length_take, Nat.min_eq_left (by omega)] at this
  have lV : val v < 4294967296 ^ n := by have := val_lt lv'; rwa [hv] at this
  have lu0 := limbs_getD lu n
  generalize u.getD n 0 = t at *
  obtain ⟨s, hs⟩ : ∃ s, c + br = t + s := ⟨c + br - t, by omega⟩
  rw [hs] at h6 hc ⊢
  rw [Nat.mul_add] at h6
  have hs1 : 1 ≤ s := by omega
  -- U + b^n s = val (z.take n) + q V
  have e1 : val u + 4294967296 ^ n * s = val (z.take n) + q * val v := by omega
  have hsl : 4294967296 ^ n * 1 ≤ 4294967296 ^ n * s := Nat.mul_le_mul_left _ hs1
  have lzt : val (z.take n) < 4294967296 ^ n := by
    have := val_lt (limbs_take h2 n)
    rwa [List.length_take, Nat.min_eq_left (by omega)] at this
  have e2 : val u < q * val v := by omega
  have hq1 : 1 ≤ q := by
    rcases Nat.eq_zero_or_pos q with h | h
    · subst h; omega
    · exact h
  have e3 : q - 1 = val u / val v := by
    have a1 : val u / val v < q := (Nat.div_lt_iff_lt_mul hV).2 e2
    have a2 : q - 1 ≤ val u / val v := by
      rw [Nat.le_div_iff_mul_le hV, Nat.sub_mul]
      omega
    omega
  have hd := Nat.div_add_mod (val u) (val v)
  have hm := Nat.mod_lt (val u) hV
  rw [← e3, Nat.mul_comm, Nat.sub_mul, Nat.one_mul] at hd
  have hqv : val v ≤ q * val v := Nat.le_mul_of_pos_left _ hq1
  -- val (zz.take n) + b^n ca = R + b^n s
  have e4 : val (zz.take n) + 4294967296 ^ n * ca = val u % val v + 4294967296 ^ n * s := by omega
  have e5 : ca = s := by
    have hp : 0 < 4294967296 ^ n := Nat.pow_pos (by omega)
    have b1 := congrArg (· / 4294967296 ^ n) e4
    simp only [Nat.add_mul_div_left _ _ hp] at b1
    rw [Nat.div_eq_of_lt lz, Nat.div_eq_of_lt (by omega)] at b1
    omega
  subst e5
  refine ⟨hq1, e3, ?_, ?_⟩
  · omega
  · rw [val_snoc_set (by omega), Nat.mul_zero, Nat.add_zero]; omega
/-! ### the division -/
def dvInv (X V n k : Nat) (Z q : List Nat) : Prop := limbs Z ∧ limbs q ∧ Z.length = q.length + n ∧ k ≤ q.length ∧ val (Z.drop k) < V ∧ val Z + 4294967296 ^ k * val (q.drop k) * V = X
theorem dvInv.seg {X V n j : Nat} {Z q : List Nat} (h : dvInv X V n (j + 1) Z q) (hV : V < 4294967296 ^ n) :
    val (Z.drop (j + (n + 1))) = 0 ∧ val ((Z.drop j).take (n + 1)) = val (Z.drop j) ∧ val ((Z.drop j).take (n + 1)) < 4294967296 * V := by
  obtain ⟨h1, h2, h3, h4, h5, h6⟩ := h
  have hlen : (Z.drop (j + 1)).length ≥ n := by simp; omega
  have hs := val_split (Z.drop (j + 1)) n (by omega)
  rw [List.drop_drop] at hs
  have hz : val (Z.drop (j + 1 + n)) = 0 := by
    rcases Nat.eq_zero_or_pos (val (Z.drop (j + 1 + n))) with e | e
    · exact e
    · have := Nat.mul_le_mul_left (4294967296 ^ n) e
      omega
  have e : j + 1 + n = j + (n + 1) := by omega
  rw [e] at hz
  have hs2 := val_split (Z.drop j) (n + 1) (by simp; omega)
  rw [List.drop_drop, hz, Nat.mul_zero, Nat.add_zero] at hs2
  refine ⟨hz, hs2.symm, ?_⟩
  rw [← hs2, drop_cons (by omega : j < Z.length)]
  have := limbs_getD h1 j
  simp only [val]
  have : 4294967296 * (val (Z.drop (j + 1)) + 1) ≤ 4294967296 * V := Nat.mul_le_mul_left _ h5
  omega
theorem dvInv.step {X V n j : Nat} {Z q z : List Nat} (h : dvInv X V n (j + 1) Z q) (hV : V < 4294967296 ^ n) (h0 : 0 < V) (hz : limbs z) (hzl : z.length = n + 1) (hv : val z = val ((Z.drop j).take (n + 1)) % V) :
    dvInv X V n j (Z.take j ++ (z ++ Z.drop (j + (n + 1)))) (q.set j (val ((Z.drop j).take (n + 1)) / V)) := by
  obtain ⟨s1, s2, s3⟩ := h.seg hV
  obtain ⟨h1, h2, h3, h4, h5, h6⟩ := h
  have hq : val ((Z.drop j).take (n + 1)) / V < 4294967296 := Nat.div_lt_of_lt_mul (by rw [Nat.mul_comm]; exact s3)
  generalize hU : val ((Z.drop j).take (n + 1)) = U at *
  have hl1 : (Z.take j).length = j := by simp; omega
  have hd : (Z.take j ++ (z ++ Z.drop (j + (n + 1)))).drop j = z ++ Z.drop (j + (n + 1)) := by
    rw [List.drop_append, hl1, Nat.sub_self, List.drop_eq_nil_of_le (by omega)]; rfl
  have hvz : val (z ++ Z.drop (j + (n + 1))) = U % V := by rw [val_append, s1, hv]; omega
  refine ⟨?_, limbs_set h2 _ hq, ?_, by simp; omega, ?_, ?_⟩
  · intro x hx
    rcases List.mem_append.1 hx with hx | hx
    · exact limbs_take h1 _ x hx
    · rcases List.mem_append.1 hx with hx | hx
      · exact hz x hx
      · exact limbs_drop h1 _ x hx
  · simp; omega
  · rw [hd, hvz]; exact Nat.mod_lt _ h0
  · rw [val_append, hl1, hvz, drop_set_cons (by omega)]
    simp only [val]
    have hZ := val_split Z j (by omega)
    rw [← s2] at hZ
    rw [hZ, Nat.pow_succ] at h6
    have hdm := Nat.div_add_mod U V
    have a1 : 4294967296 ^ j * (U / V + 4294967296 * val (q.drop (j + 1))) * V = 4294967296 ^ j * (V * (U / V)) + 4294967296 ^ j * 4294967296 * val (q.drop (j + 1)) * V := by
      rw [Nat.mul_add, Nat.add_mul]; ac_rfl
    have a2 : 4294967296 ^ j * U = 4294967296 ^ j * (V * (U / V)) + 4294967296 ^ j * (U % V) := by rw [← Nat.mul_add, hdm]
    rw [a1]
    omega
theorem dvInv.done {x y p n : Nat} {Z q : List Nat} (h : dvInv (x * p) (y * p) n 0 Z q) (hp : 0 < p) (hy : 0 < y) : val q = x / y ∧ val Z / p = x % y := by
  obtain ⟨_, _, _, _, h5, h6⟩ := h
  rw [List.drop_zero] at h5 h6
  simp only [Nat.pow_zero, Nat.one_mul] at h6
  exact divInv.done (h6.symm : divInv (x * p) (y * p) (val Z) (val q)) hp hy h5
theorem back_limb {Z : List Nat} {i s : Nat} (hZ : limbs Z) (hs : s ≤ 32) (hi : i + 1 < Z.length) : ((Z.getD (i + 1) 0 * 4294967296 + Z.getD i 0) / 2 ^ s) % 4294967296 = (val Z / 2 ^ s / 4294967296 ^ i) % 4294967296 := by
  have hp : 0 < 4294967296 ^ i := Nat.pow_pos (by omega)
  have lt : val (Z.take i) < 4294967296 ^ i := by
    have := val_lt (limbs_take hZ i)
    rwa [List.length_take, Nat.min_eq_left (by omega)] at this
  have e0 : val Z / 4294967296 ^ i = val (Z.drop i) := by
    rw [val_split Z i (by omega), Nat.add_mul_div_left _ _ hp, Nat.div_eq_of_lt lt, Nat.zero_add]
  have e : val Z / 2 ^ s / 4294967296 ^ i = val (Z.drop i) / 2 ^ s := by
    rw [Nat.div_div_eq_div_mul, Nat.mul_comm, ← Nat.div_div_eq_div_mul, e0]
  rw [e, drop_cons (by omega), drop_cons hi]
  simp only [val]
  generalize Z.getD (i + 1) 0 = a
  generalize Z.getD i 0 = c
  generalize val (Z.drop (i + 1 + 1)) = W
  obtain ⟨t, ht⟩ : ∃ t, s + t = 32 := ⟨32 - s, by omega⟩
  have hb : 4294967296 = 2 ^ s * 2 ^ t := by rw [← Nat.pow_add, ht]
  have e1 : c + 4294967296 * (a + 4294967296 * W) = (a * 4294967296 + c) + 2 ^ s * (2 ^ t * W * 4294967296) := by
    have : 4294967296 * (4294967296 * W) = 2 ^ s * (2 ^ t * W * 4294967296) := by
      have h1 : 4294967296 * (4294967296 * W) = 2 ^ s * 2 ^ t * (4294967296 * W) := by rw [← hb]
      rw [h1]
      ac_rfl
    omega
  rw [e1, Nat.add_mul_div_left _ _ (Nat.pow_pos (by omega)), Nat.add_mul_mod_self_right]
end Go.Proofs.YtpodnbcdddcdmaaGreatDoor

/- From a contract by value to a row: the arguments opened, what is shown behind the call. -/
namespace Go.Proofs.YtpodnbcdddcdmaaGreatDoor
open Go.ChangeShapes Go.WideShapes Go.ChangeAt Go.RowKit
section
variable {H : Type} {enc : TypeId × Value → H} {P : Program} {W W' : World}
theorem trodAll_below (hl : laidOutB P = true) (hb : Below W.heap.size W W') : ∀ {ts : List TypeId} {vs : List Value} {ds : List (DataW H)} {ps : List MemPlace}, (ts.all fun t => P.readableRec t && decide (t < P.types.size)) = true → (∀ x ∈ ps, x.block < W.heap.size) →
    DataW.TrodAll enc P W 0 (fun _ => true) true ts vs ds ps → DataW.TrodAll enc P W' 0 (fun b => decide (b < W.heap.size)) true ts vs ds ps
  | [], vs, ds, ps, _, _, h => by obtain ⟨rfl, rfl, rfl⟩ := trodAll_nil h; exact trodAll_mk0
  | t :: ts, vs, ds, ps, hr, hlt, h => by
    obtain ⟨v, vs', d, ds', p, q, rfl, rfl, rfl, h1, h2⟩ := trodAll_cons h
    simp only [List.all_cons, Bool.and_eq_true, decide_eq_true_eq] at hr
    exact trodAll_cons_mk (Below.trod hl hr.1.1 hr.1.2 h1 hb fun x hx => hlt x (List.mem_append.2 (.inl hx))) (trodAll_below hl hb hr.2 (fun x hx => hlt x (List.mem_append.2 (.inr hx))) h2)
theorem law_post {f : Func} {s : ChangeSpec} {args : Array Value} {ds gs : List (DataW H)} {before : List MemPlace} {tb : TypeId} (hl : laidOutB P = true) (hr : (f.params.toList.all fun t => P.readableRec t && decide (t < P.types.size)) = true) (hres : f.resultTypes = #[tb])
    (htb : P.underlying tb = some .bool) (hvars : s.vars = []) (hs : s.fn H ds = { results := [.lit (.bool true)], args := ds }) (hW : DataW.Whole enc P f.params.toList s.vars false W args.toList ds gs before) (hb : Below W.heap.size W W') :
    s.post enc P f false true false false W args (.bool true) W' := by
  have hW' := hW
  obtain ⟨p, q, hA, hV, rfl, hz, hn⟩ := hW
  have hlt := hW'.lt
  rw [hvars] at hV
  obtain ⟨rfl, rfl⟩ := trodVars_none hV
  have e : s.fn H (ds ++ []) = { results := [.lit (.bool true)], args := ds } := by rw [List.append_nil]; exact hs
  refine ⟨ds, [], p ++ [], [], p, [], hW', ?_, ?_, ?_, hb.frame _, fun h => by cases h⟩
  · rw [e, hres]; exact trodAll_mk1 (shut_bool htb true)
  · rw [e]; exact trodAll_below hl hb hr (fun x hx => hlt x (List.mem_append.2 (.inl hx))) hA
  · rw [e, hvars]; exact rfl
theorem Rc.sc (S : Nat → Prop) (w : World) (v : Value) : Rc S w (.sc v) v := R.sc v
theorem Rc.scs (S : Nat → Prop) (w : World) (l : List Value) : Rc S w (.ag (l.map .sc)) (.agg l.toArray) :=
  R.ag (by simp) fun i x u hx hu => by
    rw [List.getElem?_map] at hx
    rw [List.getElem?_toArray] at hu
    rw [hu] at hx
    cases hx; exact .sc _
theorem AllC.nil (S : Nat → Prop) (w : World) : AllC S w [] [] := ⟨rfl, fun i x u hx => by simp at hx⟩
theorem AllC.cons {S : Nat → Prop} {w : World} {x : V} {v : Value} {xs : List V} {vs : List Value} (h : Rc S w x v) (k : AllC S w xs vs) : AllC S w (x :: xs) (v :: vs) :=
  ⟨by simp [k.1], fun i y u hy hu => by
    cases i with
    | zero => simp at hy hu; subst hy; subst hu; exact h
    | succ i => simp at hy hu; exact k.2 i y u hy hu⟩
theorem Spec.law {f : Nat} {xs : List V} {args : Array Value} (h : Spec P f xs (.sc (.bool true))) (ht : TabOK (fun b => b < W.heap.size) W) (ha : AllC (fun b => b < W.heap.size) W xs args.toList) : Calls P f args W fun e W' => e = .returned (.bool true) ∧ Below W.heap.size W W' := by
  refine (h _ W args (fun _ h => h) ht ha).mono ?_
  rintro e W' ⟨v, rfl, hg, hx⟩
  have : v = .bool true := by
    generalize hq : V.sc (.bool true) = q at hx
    cases hx <;> cases hq
    rfl
  exact ⟨by rw [this], hg.os, hg.tape, hg.output, hg.size, hg.block⟩
theorem u32_wf (n : Int) (h : (Lit.int .u32 n).wf = true) : 0 ≤ n ∧ n ≤ (4294967295 : Nat) := by
  have h1 : IntKind.u32.min = 0 := rfl
  have h2 : IntKind.u32.max = 4294967295 := rfl
  simp [Lit.wf] at h
  omega
end
end Go.Proofs.YtpodnbcdddcdmaaGreatDoor

/- Arguments opened: what a readable value of a given shape is as a tree. -/
namespace Go.Proofs.YtpodnbcdddcdmaaGreatDoor
open Go.ChangeShapes Go.WideShapes Go.ChangeAt Go.RowKit
inductive Shp where
  | int (k : IntKind) | bool | str
  | arr (n : Nat) (s : Shp)
  | slc (s : Shp)
  | st (l : List Shp)
mutual
/-- the cells of a value of the shape, as trees -/
def Shp.Rep : Shp → List V → Prop
  | .int k, ys => ∃ n : Int, ys = [.sc (.int k n)] ∧ (Lit.int k n).wf = true
  | .bool, ys => ∃ b, ys = [.sc (.bool b)]
  | .str, ys => ∃ s : ByteArray, ys = [.sc (.string s)] ∧ s.size ≤ maxLen
  | .arr n s, ys => ∃ yss : List (List V), yss.length = n ∧ ys = yss.flatten ∧ ∀ z ∈ yss, s.Rep z
  | .slc s, ys => ∃ yss : List (List V), yss.length ≤ maxLen ∧ ys = [.im yss.flatten yss.length] ∧ ∀ z ∈ yss, s.Rep z
  | .st l, ys => Shp.Reps l ys
def Shp.Reps : List Shp → List V → Prop
  | [], ys => ys = []
  | s :: r, ys => ∃ a b, ys = a ++ b ∧ s.Rep a ∧ Shp.Reps r b
end
mutual
/-- the type has the shape -/
def Shp.ok (P : Program) : Shp → TypeId → Bool
  | .int k, t => match P.underlying t with
    | some (.int k') => k' == k && P.cellsOf t == 1
    | _ => false
  | .bool, t => match P.underlying t with
    | some .bool => P.cellsOf t == 1
    | _ => false
  | .str, t => match P.underlying t with
    | some .string => P.cellsOf t == 1
    | _ => false
  | .arr n s, t => match P.underlying t with
    | some (.array m e) => m == n && s.ok P e && P.cellsOf t == n * P.cellsOf e
    | _ => false
  | .slc s, t => match P.underlying t with
    | some (.slice e) => s.ok P e && P.cellsOf t == 1
    | _ => false
  | .st l, t => match P.underlying t with
    | some (.struct fs) => Shp.oks P l fs.toList 0 (P.cellsOf t)
    | _ => false
def Shp.oks (P : Program) : List Shp → List Field → Nat → Nat → Bool
  | [], fs, off, n => fs.isEmpty && off == n
  | s :: r, fs, off, n => match fs with
    | f :: fs => f.offset == off && s.ok P f.type && Shp.oks P r fs (off + P.cellsOf f.type) n
    | [] => false
end
section
variable {S : Nat → Prop} {w : World}
theorem AllC.append {xs ys : List V} {vs us : List Value} (h : AllC S w xs vs) (k : AllC S w ys us) : AllC S w (xs ++ ys) (vs ++ us) := by
  refine ⟨by simp [h.1, k.1], fun i x u hx hu => ?_⟩
  have hl := h.1
  rw [List.getElem?_append] at hx hu
  by_cases hi : i < xs.length
  · rw [if_pos hi] at hx; rw [if_pos (by omega)] at hu
    exact h.2 i x u hx hu
  · rw [if_neg hi] at hx; rw [if_neg (by omega), ← hl] at hu
    exact k.2 _ x u hx hu
theorem AllC.rows {Q : List V → Prop} {sz : Nat} : ∀ (n : Nat) (cs : List Value), cs.length = n * sz → (∀ i, i < n → ∃ ys, Q ys ∧ AllC S w ys ((cs.drop (i * sz)).take sz)) → ∃ yss : List (List V), yss.length = n ∧ (∀ z ∈ yss, Q z) ∧ AllC S w yss.flatten cs
  | 0, cs, hl, _ => by
    have : cs = [] := List.eq_nil_of_length_eq_zero (by simpa using hl)
    subst this
    exact ⟨[], rfl, fun z hz => by simp at hz, AllC.nil _ _⟩
  | n + 1, cs, hl, h => by
    obtain ⟨ys, hq, ha⟩ := h 0 (by omega)
    rw [Nat.zero_mul, List.drop_zero] at ha
    have hl' : cs.length = n * sz + sz := by rw [hl, Nat.add_mul, Nat.one_mul]
    obtain ⟨yss, h1, h2, h3⟩ := AllC.rows (Q := Q) (sz := sz) n (cs.drop sz) (by simp [hl']) fun i hi => by
      obtain ⟨zs, hz, hb⟩ := h (i + 1) (by omega)
      refine ⟨zs, hz, ?_⟩
      rwa [List.drop_drop, show sz + i * sz = (i + 1) * sz by rw [Nat.add_mul]; omega]
    refine ⟨ys :: yss, by simp [h1], fun z hz => ?_, ?_⟩
    · rcases List.mem_cons.1 hz with rfl | hz
      · exact hq
      · exact h2 z hz
    · have := ha.append h3
      rwa [List.take_append_drop] at this
end
theorem addr_add (a : Addr) (i j : Nat) : (a.add i).add j = a.add (i + j) := by
  unfold Addr.add
  by_cases hj : j = 0
  · subst hj; simp
  · by_cases hi : i = 0
    · subst hi; simp
    · rw [if_neg hj, if_neg hi, if_neg (by omega)]; simp; omega
section
variable {H : Type} {enc : TypeId × Value → H} {P : Program} {w : World} {base : Nat} {sp : Nat → Bool} {held : Bool}
mutual
theorem open_rep : ∀ (s : Shp) {t : TypeId} {fuel : Nat} {cs : List Value} {x : DataW H × List MemPlace}, s.ok P t = true → DataW.trod enc P w base sp held fuel t cs = some x → cs.length = P.cellsOf t ∧ ∃ ys, s.Rep ys ∧ AllC (fun b => b < w.heap.size) w ys cs
  | .int k, t, fuel, cs, x, ho, h => by
    simp only [Shp.ok] at ho
    split at ho
    · rename_i k' hu
      simp only [Bool.and_eq_true, beq_iff_eq] at ho
      obtain ⟨rfl, hc⟩ := ho
      obtain ⟨n, rfl, _, hw⟩ := DataW.trod_int hu h
      exact ⟨hc.symm, _, ⟨n, rfl, hw⟩, AllC.cons (Rc.sc _ _ _) (AllC.nil _ _)⟩
    · cases ho
  | .bool, t, fuel, cs, x, ho, h => by
    simp only [Shp.ok] at ho
    split at ho
    · rename_i hu
      simp only [beq_iff_eq] at ho
      obtain ⟨n, rfl, _⟩ := DataW.trod_bool hu h
      exact ⟨ho.symm, _, ⟨n, rfl⟩, AllC.cons (Rc.sc _ _ _) (AllC.nil _ _)⟩
    · cases ho
  | .str, t, fuel, cs, x, ho, h => by
    simp only [Shp.ok] at ho
    split at ho
    · rename_i hu
      simp only [beq_iff_eq] at ho
      obtain ⟨n, rfl, _, hl⟩ := DataW.trod_string hu h
      exact ⟨ho.symm, _, ⟨n, rfl, hl⟩, AllC.cons (Rc.sc _ _ _) (AllC.nil _ _)⟩
    · cases ho
  | .arr n s, t, fuel, cs, x, ho, h => by
    simp only [Shp.ok] at ho
    split at ho
    · rename_i m e hu
      simp only [Bool.and_eq_true, beq_iff_eq] at ho
      obtain ⟨⟨rfl, ho⟩, hc⟩ := ho
      obtain ⟨xs, q, _, _, hl, hn, hel⟩ := DataW.trod_array hu h
      refine ⟨hl, ?_⟩
      obtain ⟨yss, h1, h2, h3⟩ := AllC.rows (S := fun b => b < w.heap.size) (w := w) (Q := s.Rep) m cs (by rw [hl, hc]) fun i hi => by
        have := hel i hi
        rw [List.getElem?_eq_getElem (by omega)] at this
        exact (open_rep s ho this).2
      exact ⟨_, ⟨yss, h1, rfl, h2⟩, h3⟩
    · cases ho
  | .slc s, t, fuel, cs, x, ho, h => by
    simp only [Shp.ok] at ho
    split at ho
    · rename_i e hu
      simp only [Bool.and_eq_true, beq_iff_eq] at ho
      obtain ⟨ho, hc⟩ := ho
      rcases DataW.trod_slice hu h with ⟨rfl, _⟩ | ⟨a, len, cap, elems, rest, n, _, rfl, _, hb, hl, hm, hlen, hel, _, _⟩
      · exact ⟨hc.symm, _, ⟨[], by simp, rfl, fun z hz => by simp at hz⟩, AllC.cons (.im0 (Nat.le_refl _) (by unfold maxLen; omega) (fun _ => rfl)) (AllC.nil _ _)⟩
      · refine ⟨hc.symm, ?_⟩
        obtain ⟨f, hf⟩ : ∃ f : Nat → Value, f = fun i => (w.cell? (a.add i)).getD undef := ⟨_, rfl⟩
        have each : ∀ i, i < len → w.cells? base (a.add (i * P.cellsOf e)) (P.cellsOf e) = some ((((List.range (len * P.cellsOf e)).map f).drop (i * P.cellsOf e)).take (P.cellsOf e)) ∧ ∃ y, DataW.trod enc P w base sp held n e ((((List.range (len * P.cellsOf e)).map f).drop (i * P.cellsOf e)).take (P.cellsOf e)) = some y := by
          intro i hi
          have h1 := hel i hi
          rw [List.getElem?_eq_getElem (by omega), Option.bind_eq_some_iff] at h1
          obtain ⟨cs', h2, h3⟩ := h1
          obtain ⟨_, h4, h5⟩ := World.cells?_some h2
          have hle : i * P.cellsOf e + P.cellsOf e ≤ len * P.cellsOf e := by
            have := Nat.mul_le_mul_right (P.cellsOf e) (show i + 1 ≤ len by omega)
            rwa [Nat.add_mul, Nat.one_mul] at this
          have he : cs' = (((List.range (len * P.cellsOf e)).map f).drop (i * P.cellsOf e)).take (P.cellsOf e) := by
            refine List.ext_getElem? fun j => ?_
            rw [List.getElem?_take]
            split
            · rename_i hj
              have h6 := h5 j hj
              rw [addr_add] at h6
              rw [List.getElem?_drop, List.getElem?_map, List.getElem?_range (by omega), Option.map_some, hf]
              simp only
              rw [h6, List.getElem?_eq_getElem (by omega)]; rfl
            · rw [List.getElem?_eq_none (by omega)]
          rw [← he]
          exact ⟨h2, _, h3⟩
        obtain ⟨yss, h1, h2, h3⟩ := AllC.rows (S := fun b => b < w.heap.size) (w := w) (Q := s.Rep) (sz := P.cellsOf e) len ((List.range (len * P.cellsOf e)).map f) (by simp) fun i hi => by
          obtain ⟨_, y, hy⟩ := each i hi
          exact (open_rep s ho hy).2
        refine ⟨_, ⟨yss, by omega, rfl, h2⟩, AllC.cons ?_ (AllC.nil _ _)⟩
        rw [h1]
        by_cases h0 : yss.flatten = []
        · rw [h0]; exact .im0 hl hm (fun h => by cases h)
        · have hpos : 0 < len * P.cellsOf e := by
            have h4 := h3.1
            simp only [List.length_map, List.length_range] at h4
            rw [← h4]
            exact List.length_pos_iff.2 h0
          have cell : ∀ i, i < len * P.cellsOf e → w.cell? (a.add i) = some (f i) := by
            intro i hi
            have hsz : 0 < P.cellsOf e := Nat.pos_of_ne_zero fun h => by rw [h, Nat.mul_zero] at hpos; omega
            have hd : i / P.cellsOf e < len := (Nat.div_lt_iff_lt_mul hsz).2 hi
            obtain ⟨h4, _⟩ := each (i / P.cellsOf e) hd
            obtain ⟨_, _, h5⟩ := World.cells?_some h4
            have h6 := h5 (i % P.cellsOf e) (Nat.mod_lt _ hsz)
            rw [addr_add, Nat.mul_comm, Nat.div_add_mod, List.getElem?_take, if_pos (Nat.mod_lt _ hsz), List.getElem?_drop, Nat.mul_comm, Nat.mul_comm, List.getElem?_map] at h6
            rw [h6, Nat.div_add_mod, List.getElem?_range hi]; rfl
          have c0 := cell 0 hpos
          rw [show a.add 0 = a by simp [Addr.add]] at c0
          obtain ⟨b, off, spot⟩ := a
          have hsp : spot = none := by
            cases spot with
            | none => rfl
            | some _ =>
              simp only [World.cell?] at c0
              split at c0
              · simp at c0
              · cases c0
          subst hsp
          have hbl : b < w.heap.size := by
            simp only [World.cell?] at c0
            split at c0
            · rename_i hb'; exact (Array.getElem?_eq_some_iff.1 hb').1
            · cases c0
          refine .im1 f hl hm hbl (fun i x hx => ?_) (fun i x hx => ?_)
          · have hi : i < len * P.cellsOf e := by
              have := (List.getElem?_eq_some_iff.1 hx).1
              have h4 := h3.1
              simp only [List.length_map, List.length_range] at h4
              omega
            have := cell i hi
            unfold Addr.add at this
            split at this
            · rename_i hi0; subst hi0; exact this
            · exact this
          · have hi : i < len * P.cellsOf e := by
              have := (List.getElem?_eq_some_iff.1 hx).1
              have h4 := h3.1
              simp only [List.length_map, List.length_range] at h4
              omega
            exact h3.2 i x (f i) hx (by rw [List.getElem?_map, List.getElem?_range hi]; rfl)
    · cases ho
  | .st l, t, fuel, cs, x, ho, h => by
    simp only [Shp.ok] at ho
    split at ho
    · rename_i fs hu
      obtain ⟨xs, n, _, _, hl, hn, hel⟩ := DataW.trod_struct hu h
      refine ⟨hl, ?_⟩
      obtain ⟨ys, h1, h2⟩ := open_reps l (fs := fs.toList) (off := 0) (cs := cs) (n := n) (m := P.cellsOf t) ho hl (fun i f hf => by
        have := hel i f (by simpa using hf)
        have hi := (List.getElem?_eq_some_iff.1 hf).1
        rw [List.getElem?_eq_getElem (by rw [hn]; simpa using hi)] at this
        exact ⟨_, this⟩)
      rw [List.drop_zero] at h2
      exact ⟨ys, h1, h2⟩
    · cases ho
theorem open_reps : ∀ (l : List Shp) {fs : List Field} {off n m : Nat} {cs : List Value}, Shp.oks P l fs off m = true → cs.length = m → (∀ (i : Nat) (f : Field), fs[i]? = some f → ∃ x : DataW H × List MemPlace, DataW.trod enc P w base sp held n f.type ((cs.drop f.offset).take (P.cellsOf f.type)) = some x) →
    ∃ ys, Shp.Reps l ys ∧ AllC (fun b => b < w.heap.size) w ys (cs.drop off)
  | [], fs, off, n, m, cs, ho, hl, h => by
    simp only [Shp.oks, Bool.and_eq_true, beq_iff_eq] at ho
    refine ⟨[], rfl, ?_⟩
    rw [List.drop_of_length_le (by omega)]
    exact AllC.nil _ _
  | s :: r, [], off, n, m, cs, ho, hl, h => by simp [Shp.oks] at ho
  | s :: r, f :: fs, off, n, m, cs, ho, hl, h => by
    simp only [Shp.oks, Bool.and_eq_true, beq_iff_eq] at ho
    obtain ⟨⟨h1, h2⟩, h3⟩ := ho
    obtain ⟨x, hx⟩ := h 0 f rfl
    obtain ⟨hlen, ys, h4, h5⟩ := open_rep s h2 hx
    obtain ⟨zs, h6, h7⟩ := open_reps r h3 hl fun i g hg => h (i + 1) g (by simpa using hg)
    refine ⟨ys ++ zs, ⟨ys, zs, rfl, h4, h6⟩, ?_⟩
    have := h5.append h7
    rwa [h1, ← List.drop_drop, List.take_append_drop] at this
end
def Shp.Val : Shp → V → Prop
  | .arr n s, x => ∃ ys, x = .ag ys ∧ (Shp.arr n s).Rep ys
  | .st l, x => ∃ ys, x = .ag ys ∧ Shp.Reps l ys
  | .int k, x => ∃ n : Int, x = .sc (.int k n) ∧ (Lit.int k n).wf = true
  | .bool, x => ∃ b, x = .sc (.bool b)
  | .str, x => ∃ s : ByteArray, x = .sc (.string s) ∧ s.size ≤ maxLen
  | .slc s, x => ∃ yss : List (List V), yss.length ≤ maxLen ∧ x = .im yss.flatten yss.length ∧ ∀ z ∈ yss, s.Rep z
def Shp.Vals : List Shp → List V → Prop
  | [], xs => xs = []
  | s :: r, xs => ∃ x ys, xs = x :: ys ∧ s.Val x ∧ Shp.Vals r ys
theorem rc_agg {S : Nat → Prop} {ys : List V} {cs : Array Value} (h : AllC S w ys cs.toList) : Rc S w (.ag ys) (.agg cs) :=
  .ag (by have := h.1; simpa using this) fun i x u hx hu => h.2 i x u hx (by simpa using hu)
theorem open_arg (s : Shp) {t : TypeId} {v : Value} {d : DataW H} {ps : List MemPlace} (ho : s.ok P t = true) (hval : Value.okWide P w .any 0 t v) (hd : DataW.Trod enc P w 0 (fun _ => true) true t v d ps) : ∃ x, s.Val x ∧ Rc (fun b => b < w.heap.size) w x v := by
  obtain ⟨fuel, hf⟩ := hd
  obtain ⟨_, ys, h1, h2⟩ := open_rep s ho hf
  have one : ∀ {y : V}, (∀ cs, v ≠ .agg cs) → ys = [y] → Rc (fun b => b < w.heap.size) w y v := by
    intro y hv e
    subst e
    have hc : v.cells.toList = [v] := by cases v <;> first | rfl | exact absurd rfl (hv _)
    rw [hc] at h2
    exact h2.2 0 y v rfl rfl
  cases s with
  | int k =>
    obtain ⟨n, rfl, hw⟩ := h1
    simp only [Shp.ok] at ho
    split at ho
    · rename_i hu
      obtain ⟨m, rfl⟩ := okWide_int hu hval
      exact ⟨_, ⟨n, rfl, hw⟩, one (fun cs e => by cases e) rfl⟩
    · cases ho
  | bool =>
    obtain ⟨b, rfl⟩ := h1
    simp only [Shp.ok] at ho
    split at ho
    · rename_i hu
      obtain ⟨m, rfl⟩ := okWide_bool hu hval
      exact ⟨_, ⟨b, rfl⟩, one (fun cs e => by cases e) rfl⟩
    · cases ho
  | str =>
    obtain ⟨b, rfl, hl⟩ := h1
    simp only [Shp.ok] at ho
    split at ho
    · rename_i hu
      refine ⟨_, ⟨b, rfl, hl⟩, one (fun cs e => ?_) rfl⟩
      subst e
      simp [Value.okWide, Cell.okWide, Cell.ok, hu] at hval
    · cases ho
  | slc s =>
    obtain ⟨yss, h3, rfl, h4⟩ := h1
    simp only [Shp.ok] at ho
    split at ho
    · rename_i hu
      refine ⟨_, ⟨yss, h3, rfl, h4⟩, one (fun cs e => ?_) rfl⟩
      subst e
      simp [Value.okWide, Cell.okWide, Cell.ok, hu] at hval
    · cases ho
  | arr n s =>
    have ho' := ho
    simp only [Shp.ok] at ho
    split at ho
    · rename_i hu
      obtain ⟨cs, rfl, _⟩ : ∃ cs, v = .agg cs ∧ cs.size = P.cellsOf t ∧ Row.okWide P w .any 0 t cs := by simpa [Value.okWide, hu] using hval
      exact ⟨_, ⟨ys, rfl, h1⟩, rc_agg h2⟩
    · cases ho
  | st l =>
    simp only [Shp.ok] at ho
    split at ho
    · rename_i hu
      obtain ⟨cs, rfl, _⟩ : ∃ cs, v = .agg cs ∧ cs.size = P.cellsOf t ∧ Row.okWide P w .any 0 t cs := by simpa [Value.okWide, hu] using hval
      exact ⟨_, ⟨ys, rfl, h1⟩, rc_agg h2⟩
    · cases ho
def Shp.okL (P : Program) : List Shp → List TypeId → Bool
  | [], [] => true
  | s :: r, t :: ts => s.ok P t && Shp.okL P r ts
  | _, _ => false
theorem open_args : ∀ (ss : List Shp) {ts : List TypeId} {vs : List Value} {ds : List (DataW H)} {ps : List MemPlace}, Shp.okL P ss ts = true → (∀ (j : Nat) t v, ts[j]? = some t → vs[j]? = some v → Value.okWide P w .any 0 t v) → DataW.TrodAll enc P w 0 (fun _ => true) true ts vs ds ps →
    ∃ xs, Shp.Vals ss xs ∧ AllC (fun b => b < w.heap.size) w xs vs ∧ ds.length = ts.length
  | [], [], vs, ds, ps, _, _, h => by obtain ⟨rfl, rfl, rfl⟩ := trodAll_nil h; exact ⟨[], rfl, AllC.nil _ _, rfl⟩
  | [], t :: ts, _, _, _, ho, _, _ => by cases ho
  | s :: r, [], _, _, _, ho, _, _ => by cases ho
  | s :: r, t :: ts, vs, ds, ps, ho, hv, h => by
    simp only [Shp.okL, Bool.and_eq_true] at ho
    obtain ⟨v, vs', d, ds', p, q, rfl, rfl, rfl, h1, h2⟩ := trodAll_cons h
    obtain ⟨x, h3, h4⟩ := open_arg s ho.1 (hv 0 t v rfl rfl) h1
    obtain ⟨xs, h5, h6, h7⟩ := open_args r ho.2 (fun j t v a b => hv (j + 1) t v (by simpa using a) (by simpa using b)) h2
    exact ⟨x :: xs, ⟨x, xs, rfl, h3, h5⟩, AllC.cons h4 h6, by simp [h7]⟩
theorem law_calls {f : Nat} {fn : Func} (ss : List Shp) {args : Array Value} {ds : List (DataW H)} {p : List MemPlace} (hok : Shp.okL P ss fn.params.toList = true)
    (hval : ∀ (j : Nat) t v, fn.params[j]? = some t → args[j]? = some v → Value.okWide P w .any 0 t v) (hA : DataW.TrodAll enc P w 0 (fun _ => true) true fn.params.toList args.toList ds p)
    (ht : TabOK (fun b => b < w.heap.size) w) (hs : ∀ xs, Shp.Vals ss xs → Spec P f xs (.sc (.bool true))) : ds.length = fn.params.size ∧ Calls P f args w fun e w' => e = .returned (.bool true) ∧ Below w.heap.size w w' := by
  obtain ⟨xs, h1, h2, h3⟩ := open_args ss hok (fun j t v a b => hval j t v (by simpa using a) (by simpa using b)) hA
  exact ⟨by simpa using h3, Spec.law (hs xs h1) ht h2⟩
/-! ### what is in a shape -/
theorem reps_ints {k : IntKind} : ∀ {yss : List (List V)}, (∀ z ∈ yss, (Shp.int k).Rep z) → ∃ ns : List Int, yss.flatten = ns.map (fun n => .sc (.int k n)) ∧ ns.length = yss.length ∧ ∀ n ∈ ns, (Lit.int k n).wf = true
  | [], _ => ⟨[], rfl, rfl, fun n hn => by simp at hn⟩
  | y :: r, h => by
    obtain ⟨n, rfl, hw⟩ := h y (by simp)
    obtain ⟨ns, h1, h2, h3⟩ := reps_ints (yss := r) fun z hz => h z (by simp [hz])
    exact ⟨n :: ns, by simp [h1], by simp [h2], fun m hm => by
      rcases List.mem_cons.1 hm with rfl | hm
      · exact hw
      · exact h3 m hm⟩
theorem reps_nats {k : IntKind} {M : Nat} (hk : ∀ n, (Lit.int k n).wf = true → 0 ≤ n ∧ n ≤ M) {yss : List (List V)} (h : ∀ z ∈ yss, (Shp.int k).Rep z) : ∃ ns : List Nat, yss.flatten = ns.map (fun (n : Nat) => .sc (.int k (n : Int))) ∧ ns.length = yss.length ∧ ∀ n ∈ ns, n ≤ M := by
  obtain ⟨ns, h1, h2, h3⟩ := reps_ints h
  refine ⟨ns.map Int.toNat, ?_, by simp [h2], fun n hn => ?_⟩
  · rw [h1, List.map_map]
    refine List.map_congr_left fun n hn => ?_
    have := hk n (h3 n hn)
    simp only [Function.comp, Int.toNat_of_nonneg this.1]
  · obtain ⟨m, hm, rfl⟩ := List.mem_map.1 hn
    have := hk m (h3 m hm)
    omega
end
end Go.Proofs.YtpodnbcdddcdmaaGreatDoor

/- The tables lie in a world that meets what the rows lay; a world that does. -/
namespace Go.Proofs.YtpodnbcdddcdmaaGreatDoor
open Go.ChangeShapes Go.WideShapes Go.ChangeAt Go.RowKit
theorem laid_tail {P : Program} {n : String} {d : DataW Unit} {r : List (String × DataW Unit)} {w : World} (h : laidMet P ((n, d) :: r) w) : laidMet P r w := by
  obtain ⟨ps, ⟨g, t, cs, fuel, p, q, hg, ht, hvar, hd, hr, rfl⟩, hnd, hc⟩ := h
  exact ⟨q, hr, (List.nodup_append.1 hnd).2.1, fun b off hb => hc b off (List.mem_append.2 (.inr hb))⟩
theorem tab_of {P : Program} {W : World} {name : String} {g : Nat} {cs : List Value} {k : IntKind} {zs : List Int} (hg : P.globalNamed name = some g) (h : Lib.TabIs P W name k zs) (e : cs = zs.map fun z => Value.int k z) (hn : 0 < cs.length) : g < W.heap.size ∧ ∀ i v, cs[i]? = some v → W.cell? ⟨g, i, none⟩ = some v := by
  have hc : ∀ i v, cs[i]? = some v → W.cell? ⟨g, i, none⟩ = some v := fun i v hi => by
    subst e; rw [World.var?_cell hg h i, List.getElem?_toArray]; exact hi
  refine ⟨?_, hc⟩
  have := hc 0 cs[0] (List.getElem?_eq_getElem hn)
  simp only [World.cell?] at this
  split at this
  · rename_i hb; exact (Array.getElem?_eq_some_iff.1 hb).1
  · cases this
theorem gTab2 : Tryz.prog.globalNamed "math/bits.deBruijn32tab" = some 2 := by kernel_rfl
theorem tab2 {W : World} {r : List (String × DataW Unit)} (h : laidMet Tryz.prog (("math/bits.deBruijn32tab", Rows.laid_math_bits_deBruijn32tab) :: r) W) : Lib.TabIs Tryz.prog W "math/bits.deBruijn32tab" .u8 [0, 1, 28, 2, 29, 14, 24, 3, 30, 22, 20, 15, 25, 17, 4, 8, 31, 27, 13, 23, 21, 19, 16, 7, 26, 12, 18, 6, 11, 5, 10, 9] :=
  Lib.tabIs_of_head (rest := r) (t := 127) (e := 5) (n := 32) gTab2 (by kernel_rfl) (by kernel_rfl) (by kernel_rfl) (by kernel_rfl) (by kernel_rfl) h
theorem gTab3 : Tryz.prog.globalNamed "math/bits.deBruijn64tab" = some 3 := by kernel_rfl
theorem tab3 {W : World} {r : List (String × DataW Unit)} (h : laidMet Tryz.prog (("math/bits.deBruijn64tab", Rows.laid_math_bits_deBruijn64tab) :: r) W) : Lib.TabIs Tryz.prog W "math/bits.deBruijn64tab" .u8 [0, 1, 56, 2, 57, 49, 28, 3, 61, 58, 42, 50, 38, 29, 17, 4, 62, 47, 59, 36, 45, 43, 51, 22, 53, 39, 33, 30, 24, 18, 12, 5, 63, 55, 48, 27, 60, 41, 37, 16, 46, 35, 44, 21, 52, 32, 23, 11, 54, 26, 40, 15, 34, 20, 31, 10, 25, 14, 19, 9, 13, 8, 7, 6] :=
  Lib.tabIs_of_head (rest := r) (t := 128) (e := 5) (n := 64) gTab3 (by kernel_rfl) (by kernel_rfl) (by kernel_rfl) (by kernel_rfl) (by kernel_rfl) h
theorem gTab0 : Tryz.prog.globalNamed "internal/strconv.uint64pow10" = some 0 := by kernel_rfl
theorem tab0 {W : World} {r : List (String × DataW Unit)} (h : laidMet Tryz.prog (("internal/strconv.uint64pow10", Rows.laid_internal_strconv_uint64pow10) :: r) W) : Lib.TabIs Tryz.prog W "internal/strconv.uint64pow10" .u64 [1, 10, 100, 1000, 10000, 100000, 1000000, 10000000, 100000000, 1000000000, 10000000000, 100000000000, 1000000000000, 10000000000000, 100000000000000, 1000000000000000, 10000000000000000, 100000000000000000, 1000000000000000000, 10000000000000000000] :=
  Lib.tabIs_of_head (rest := r) (t := 121) (e := 67) (n := 20) gTab0 (by kernel_rfl) (by kernel_rfl) (by kernel_rfl) (by kernel_rfl) (by kernel_rfl) h
set_option maxRecDepth 100000 in
theorem tabs {W : World} (h : laidMet Tryz.prog [("math/bits.deBruijn32tab", Rows.laid_math_bits_deBruijn32tab), ("math/bits.deBruijn64tab", Rows.laid_math_bits_deBruijn64tab), ("internal/strconv.uint64pow10", Rows.laid_internal_strconv_uint64pow10)] W) : TabOK (fun b => b < W.heap.size) W := by
  have t2 := tab_of (cs := [.int .u8 0, .int .u8 1, .int .u8 28, .int .u8 2, .int .u8 29, .int .u8 14, .int .u8 24, .int .u8 3, .int .u8 30, .int .u8 22, .int .u8 20, .int .u8 15, .int .u8 25, .int .u8 17, .int .u8 4, .int .u8 8, .int .u8 31, .int .u8 27, .int .u8 13, .int .u8 23, .int .u8 21, .int .u8 19, .int .u8 16, .int .u8 7, .int .u8 26, .int .u8 12, .int .u8 18, .int .u8 6, .int .u8 11, .int .u8 5, .int .u8 10, .int .u8 9]) gTab2 (tab2 h) (by kernel_rfl) (by simp only [List.length_cons]; omega)
  have t3 := tab_of (cs := [.int .u8 0, .int .u8 1, .int .u8 56, .int .u8 2, .int .u8 57, .int .u8 49, .int .u8 28, .int .u8 3, .int .u8 61, .int .u8 58, .int .u8 42, .int .u8 50, .int .u8 38, .int .u8 29, .int .u8 17, .int .u8 4, .int .u8 62, .int .u8 47, .int .u8 59, .int .u8 36, .int .u8 45, .int .u8 43, .int .u8 51, .int .u8 22, .int .u8 53, .int .u8 39, .int .u8 33, .int .u8 30, .int .u8 24, .int .u8 18, .int .u8 12, .int .u8 5, .int .u8 63, .int .u8 55, .int .u8 48, .int .u8 27, .int .u8 60, .int .u8 41, .int .u8 37, .int .u8 16, .int .u8 46, .int .u8 35, .int .u8 44, .int .u8 21, .int .u8 52, .int .u8 32, .int .u8 23, .int .u8 11, .int .u8 54, .int .u8 26, .int .u8 40, .int .u8 15, .int .u8 34, .int .u8 20, .int .u8 31, .int .u8 10, .int .u8 25, .int .u8 14, .int .u8 19, .int .u8 9, .int .u8 13, .int .u8 8, .int .u8 7, .int .u8 6]) gTab3 (tab3 (laid_tail h)) (by kernel_rfl) (by simp only [List.length_cons]; omega)
  have t0 := tab_of (cs := [.int .u64 1, .int .u64 10, .int .u64 100, .int .u64 1000, .int .u64 10000, .int .u64 100000, .int .u64 1000000, .int .u64 10000000, .int .u64 100000000, .int .u64 1000000000, .int .u64 10000000000, .int .u64 100000000000, .int .u64 1000000000000, .int .u64 10000000000000, .int .u64 100000000000000, .int .u64 1000000000000000, .int .u64 10000000000000000, .int .u64 100000000000000000, .int .u64 1000000000000000000, .int .u64 10000000000000000000]) gTab0 (tab0 (laid_tail (laid_tail h))) (by kernel_rfl) (by simp only [List.length_cons]; omega)
  intro g cs hg
  unfold tabG GT at hg
  unfold tabF at hg
  split at hg
  · rename_i e; subst e; cases hg; exact t2
  unfold tabF at hg
  split at hg
  · rename_i e; subst e; cases hg; exact t3
  unfold tabF at hg
  split at hg
  · rename_i e; subst e; cases hg; exact t0
  cases hg
noncomputable def laidWorld (os : Os) : World := { World.holding Tryz.prog os ⟨#[], #[], []⟩ with heap := ((((World.holding Tryz.prog os ⟨#[], #[], []⟩).heap.modify 2 fun | .cells _ t frozen => .cells #[.int .u8 0, .int .u8 1, .int .u8 28, .int .u8 2, .int .u8 29, .int .u8 14, .int .u8 24, .int .u8 3, .int .u8 30, .int .u8 22, .int .u8 20, .int .u8 15, .int .u8 25, .int .u8 17, .int .u8 4, .int .u8 8, .int .u8 31, .int .u8 27, .int .u8 13, .int .u8 23, .int .u8 21, .int .u8 19, .int .u8 16, .int .u8 7, .int .u8 26, .int .u8 12, .int .u8 18, .int .u8 6, .int .u8 11, .int .u8 5, .int .u8 10, .int .u8 9] t frozen | o => o).modify 3 fun | .cells _ t frozen => .cells #[.int .u8 0, .int .u8 1, .int .u8 56, .int .u8 2, .int .u8 57, .int .u8 49, .int .u8 28, .int .u8 3, .int .u8 61, .int .u8 58, .int .u8 42, .int .u8 50, .int .u8 38, .int .u8 29, .int .u8 17, .int .u8 4, .int .u8 62, .int .u8 47, .int .u8 59, .int .u8 36, .int .u8 45, .int .u8 43, .int .u8 51, .int .u8 22, .int .u8 53, .int .u8 39, .int .u8 33, .int .u8 30, .int .u8 24, .int .u8 18, .int .u8 12, .int .u8 5, .int .u8 63, .int .u8 55, .int .u8 48, .int .u8 27, .int .u8 60, .int .u8 41, .int .u8 37, .int .u8 16, .int .u8 46, .int .u8 35, .int .u8 44, .int .u8 21, .int .u8 52, .int .u8 32, .int .u8 23, .int .u8 11, .int .u8 54, .int .u8 26, .int .u8 40, .int .u8 15, .int .u8 34, .int .u8 20, .int .u8 31, .int .u8 10, .int .u8 25, .int .u8 14, .int .u8 19, .int .u8 9, .int .u8 13, .int .u8 8, .int .u8 7, .int .u8 6] t frozen | o => o).modify 0 fun | .cells _ t frozen => .cells #[.int .u64 1, .int .u64 10, .int .u64 100, .int .u64 1000, .int .u64 10000, .int .u64 100000, .int .u64 1000000, .int .u64 10000000, .int .u64 100000000, .int .u64 1000000000, .int .u64 10000000000, .int .u64 100000000000, .int .u64 1000000000000, .int .u64 10000000000000, .int .u64 100000000000000, .int .u64 1000000000000000, .int .u64 10000000000000000, .int .u64 100000000000000000, .int .u64 1000000000000000000, .int .u64 10000000000000000000] t frozen | o => o) }
end Go.Proofs.YtpodnbcdddcdmaaGreatDoor

/- Closed calls: the symbolic machine as a program, and that what it says holds. -/
namespace Go.Proofs.YtpodnbcdddcdmaaGreatDoor
open Go.RowKit
abbrev HP := List (Nat × Blk)
/-! ### words that have their argument reckoned first -/
def forceN {R : Type} (n : Nat) (k : Nat → R) : R :=
  match n with
  | .zero => k .zero
  | .succ m => k (.succ m)
theorem forceN_eq {R : Type} (n : Nat) (k : Nat → R) : forceN n k = k n := by cases n <;> rfl
def forceV {R : Type} (x : V) (k : V → R) : R :=
  match x with
  | .sc v => match v with
    | .int kd n => match n with
      | .ofNat m => forceN m fun m => k (.sc (.int kd (.ofNat m)))
      | .negSucc m => forceN m fun m => k (.sc (.int kd (.negSucc m)))
    | .bool b => match b with
      | true => k (.sc (.bool true))
      | false => k (.sc (.bool false))
    | v => k (.sc v)
  | .pt id off => forceN id fun id => forceN off fun off => k (.pt id off)
  | .sl id off len z c => forceN id fun id => forceN off fun off => forceN len fun len => k (.sl id off len z c)
  | x => k x
theorem forceV_eq {R : Type} (x : V) (k : V → R) : forceV x k = k x := by
  unfold forceV
  split
  · split
    · split <;> simp only [forceN_eq]
    · split <;> rfl
    · rfl
  · simp only [forceN_eq]
  · simp only [forceN_eq]
  · rfl
def spine {α R : Type} : List α → (List α → R) → R
  | [], k => k []
  | x :: r, k => spine r fun r' => k (x :: r')
theorem spine_eq {α R : Type} : ∀ (l : List α) (k : List α → R), spine l k = k l
  | [], k => rfl
  | x :: r, k => by rw [spine, spine_eq r]
def delS (t : Nat) : List (Nat × V) → List (Nat × V)
  | [] => []
  | (k, x) :: r => if k = t then r else (k, x) :: delS t r
def delK {R : Type} (t : Nat) : List (Nat × V) → (List (Nat × V) → R) → R
  | [], c => c []
  | (k, x) :: r, c => match Nat.beq k t with
    | true => c r
    | false => delK t r fun r' => c ((k, x) :: r')
theorem delK_eq {R : Type} (t : Nat) : ∀ (l : List (Nat × V)) (c : List (Nat × V) → R), delK t l c = c (delS t l)
  | [], c => rfl
  | (k, x) :: r, c => by
    rw [delK, delS]
    split
    · rename_i h; rw [if_pos (Nat.eq_of_beq_eq_true h)]
    · rename_i h; rw [if_neg (Nat.ne_of_beq_eq_false h), delK_eq t r]
def putT (sl : List (Nat × V)) (d : Option Nat) (x : V) : List (Nat × V) :=
  match d with
  | some d => (d, x) :: delS d sl
  | none => sl
def putK {R : Type} (sl : List (Nat × V)) (d : Option Nat) (x : V) (k : List (Nat × V) → R) : R :=
  match d with
  | some d => forceV x fun x => delK d sl fun r => k ((d, x) :: r)
  | none => k sl
theorem putK_eq {R : Type} (sl : List (Nat × V)) (d : Option Nat) (x : V) (k : List (Nat × V) → R) : putK sl d x k = k (putT sl d x) := by
  cases d with
  | none => rfl
  | some d => simp only [putK, putT, forceV_eq, delK_eq]
def blkK {R : Type} (b : Blk) (k : Blk → R) : R :=
  match b with
  | ⟨ty, cs, fz⟩ => spine cs fun cs => k ⟨ty, cs, fz⟩
theorem blkK_eq {R : Type} (b : Blk) (k : Blk → R) : blkK b k = k b := by cases b; simp only [blkK, spine_eq]
def hsetK {R : Type} : HP → Nat → Blk → (HP → R) → R
  | [], _, _, k => k []
  | (i, q) :: r, t, y, k => match Nat.beq t i with
    | true => k ((i, y) :: r)
    | false => hsetK r t y fun r' => k ((i, q) :: r')
theorem hsetK_eq {R : Type} : ∀ (l : HP) (t : Nat) (y : Blk) (k : HP → R), hsetK l t y k = k (hset l t y)
  | [], t, y, k => rfl
  | (i, q) :: r, t, y, k => by
    rw [hsetK, hset]
    split
    · rename_i h
      have := Nat.eq_of_beq_eq_true h
      subst this; rw [if_pos rfl]
    · rename_i h; rw [if_neg (Nat.ne_of_beq_eq_false h), hsetK_eq r]
def effK {R : Type} (f : Eff) (nx : Nat) (hp : HP) (k : HP → Nat → R) : R :=
  match f with
  | .none => k hp nx
  | .new b => blkK b fun b => forceN nx.succ fun n => k ((nx, b) :: hp) n
  | .set id b => blkK b fun b => hsetK hp id b fun hp' => k hp' nx
  | .app id b => blkK b fun b => spine (hdel hp id) fun hp' => forceN nx.succ fun n => k ((nx, b) :: hp') n
theorem effK_eq {R : Type} (f : Eff) (nx : Nat) (hp : HP) (k : HP → Nat → R) : effK f nx hp k = k (f.heap nx hp) (f.next nx) := by
  cases f <;> simp only [effK, blkK_eq, hsetK_eq, spine_eq, forceN_eq, Eff.heap, Eff.next]
theorem get_delS (t t' : Nat) (h : t' ≠ t) : ∀ l : List (Nat × V), get (delS t l) t' = get l t'
  | [] => rfl
  | (k, x) :: r => by
    simp only [delS]
    split
    · rename_i e; subst e; simp only [get]; rw [if_neg h]
    · simp only [get]; rw [get_delS t t' h r]
theorem get_putT (sl : List (Nat × V)) (d : Option Nat) (x : V) (t : Nat) : get (putT sl d x) t = get (putS sl d x) t := by
  cases d with
  | none => rfl
  | some d =>
    simp only [putT, putS, get]
    by_cases e : t = d
    · rw [if_pos e, if_pos e]
    · rw [if_neg e, if_neg e, get_delS d t e]
def SameS (s s' : SS) : Prop := (∀ t, get s.sl t = get s'.sl t) ∧ s.hp = s'.hp ∧ s.nx = s'.nx ∧ s.nt = s'.nt
def SS.putX {R : Type} (s : SS) (d : Option Nat) (x : V) (f : Eff) (k : SS → R) : R :=
  match s with
  | ⟨sl, hp, nx, nt⟩ => putK sl d x fun sl => effK f nx hp fun hp nx => k ⟨sl, hp, nx, nt⟩
theorem putX_eq {R : Type} (s : SS) (d : Option Nat) (x : V) (f : Eff) : ∃ s', SameS s' (s.put d x f) ∧ ∀ k : SS → R, s.putX d x f k = k s' := by
  obtain ⟨sl, hp, nx, nt⟩ := s
  exact ⟨⟨putT sl d x, f.heap nx hp, f.next nx, nt⟩, ⟨fun t => get_putT sl d x t, rfl, rfl, rfl⟩, fun k => by simp only [SS.putX, putK_eq, effK_eq]⟩
def SS.calledX {R : Type} (s : SS) (d : Option Nat) (x : V) (ids : List Nat) (k : SS → R) : R :=
  match s with
  | ⟨sl, hp, nx, nt⟩ => putK sl d x fun sl => match flat x with
    | true => k ⟨sl, hp, nx, nt⟩
    | false => spine (fzHp hp ids) fun hp => k ⟨sl, hp, nx, nt⟩
theorem calledX_eq {R : Type} (s : SS) (d : Option Nat) (x : V) (ids : List Nat) : ∃ s', SameS s' (s.called d x ids) ∧ ∀ k : SS → R, s.calledX d x ids k = k s' := by
  obtain ⟨sl, hp, nx, nt⟩ := s
  refine ⟨⟨putT sl d x, if flat x then hp else fzHp hp ids, nx, nt⟩, ⟨fun t => get_putT sl d x t, rfl, rfl, rfl⟩, fun k => ?_⟩
  simp only [SS.calledX, putK_eq, spine_eq]
  cases flat x <;> rfl
def SS.putY {R : Type} (s : SS) (d : Option Nat) (x : V) (f : Eff) (k : SS → R) : R :=
  match s with
  | ⟨sl, hp, nx, nt⟩ => forceV x fun x => effK f nx hp fun hp nx => k ⟨putS sl d x, hp, nx, nt⟩
theorem putY_eq {R : Type} (s : SS) (d : Option Nat) (x : V) (f : Eff) (k : SS → R) : s.putY d x f k = k (s.put d x f) := by
  obtain ⟨sl, hp, nx, nt⟩ := s
  simp only [SS.putY, forceV_eq, effK_eq]; rfl
def SS.calledY {R : Type} (s : SS) (d : Option Nat) (x : V) (ids : List Nat) (k : SS → R) : R :=
  match s with
  | ⟨sl, hp, nx, nt⟩ => match flat x with
    | true => k ⟨putS sl d x, hp, nx, nt⟩
    | false => spine (fzHp hp ids) fun hp => k ⟨putS sl d x, hp, nx, nt⟩
theorem calledY_eq {R : Type} (s : SS) (d : Option Nat) (x : V) (ids : List Nat) (k : SS → R) : s.calledY d x ids k = k (s.called d x ids) := by
  obtain ⟨sl, hp, nx, nt⟩ := s
  simp only [SS.calledY, spine_eq, SS.called]
  cases flat x <;> rfl
def stK {R : Type} : Nat → List V → (List (Nat × V) → R) → R
  | _, [], k => k []
  | n, x :: r, k => forceN n.succ fun m => stK m r fun l => k ((n, x) :: l)
theorem stK_eq {R : Type} : ∀ (n : Nat) (l : List V) (k : List (Nat × V) → R), stK n l k = k (stSl n l)
  | _, [], k => rfl
  | n, x :: r, k => by rw [stK, forceN_eq, stK_eq, stSl]
section
variable (P : Program) (K : Nat → List V → Option V) (inl : Nat → Bool)
def isEnd : Exit → Bool
  | .normal | .ret => true
  | _ => false
def runF (run : Code → SS → Option (Exit × SS)) (f : Nat) (ys : List V) (hp : HP) (nx : Nat) : Option (V × HP × Nat) :=
  match P.funcs[f]? with
  | some fn =>
    match fn.body with
    | some c =>
      match Nat.ble ys.length fn.ntmps with
      | true =>
        match stK 0 ys fun sl => run c ⟨sl, hp, nx, fn.ntmps⟩ with
        | some (e, s') => match isEnd e with
          | true => (resV P fn s').map fun x => (x, s'.hp, s'.nx)
          | false => none
        | none => none
      | false => none
    | none => none
  | none => none
def runV (run : Code → SS → Option (Exit × SS)) (f : Nat) (ys : List V) : Option V :=
  match K f ys with
  | some x => some x
  | none => match runF P run f ys [] 0 with
    | some (x, hp, _) => (frz 8 hp x).map (·.1)
    | none => none
def callX {R : Type} (run : Code → SS → Option (Exit × SS)) (f : Nat) (ys : List V) (s : SS) (d : Option Nat) (k : SS → Option R) : Option R :=
  match isGo P f with
  | true =>
    match (if inl f then none else frzAll (frz 8 s.hp) ys) with
    | some (zs, ids) => match runV P K run f zs with
      | some x => s.calledX d x ids k
      | none => none
    | none => match runF P run f ys s.hp s.nx with
      | some (x, hp', nx') => putK s.sl d x fun sl => k ⟨sl, hp', nx', s.nt⟩
      | none => none
  | false => none
def runX {R : Type} (ops : Array Oper) (s : SS) (o : Oper) (k : SS → Option R) : Option R :=
  match dstOk o.dst s.nt with
  | true => match guardV ops s.sl o.guard with
    | some true => match exOp P s.sl s.hp s.nx o.op with
      | some (x, f) => s.putX o.dst x f k
      | none => none
    | some false => s.putX o.dst (.tu []) .none k
    | none => none
  | false => none
def opX {R : Type} (run : Code → SS → Option (Exit × SS)) (ops : Array Oper) (s : SS) (o : Oper) (k : SS → Option R) : Option R :=
  match o.op with
  | .call ⟨.value g, args, _⟩ =>
    match dstOk o.dst s.nt with
    | true => match guardV ops s.sl o.guard with
      | some true => match fnOf (evS s.sl g) with
        | some (f, p, q) => callX P K inl run f (p ++ args.toList.map (evS s.sl) ++ q) s o.dst k
        | none => none
      | some false => s.putX o.dst (.tu []) .none k
      | none => none
    | false => none
  | _ => runX P ops s o k
def opsX (run : Code → SS → Option (Exit × SS)) (ops : Array Oper) : List Oper → SS → Option SS
  | [], s => some s
  | o :: l, s => opX P K inl run ops s o (opsX run ops l)
def opD {R : Type} (run : Code → SS → Option (Exit × SS)) (ops : Array Oper) (s : SS) (o : Oper) (k : Option Nat × List Nat → V → SS → Option R) : Option R :=
  match dstOk o.dst s.nt with
  | true => match guardV ops s.sl o.guard with
    | some true => match o.op with
      | .call ⟨.value g, args, _⟩ => match fnOf (evS s.sl g) with
        | some (f, p, q) => match isGo P f with
          | true => match frzAll (frz 8 s.hp) (p ++ args.toList.map (evS s.sl) ++ q) with
            | some (zs, ids) => match runV P K run f zs with
              | some x => s.calledY o.dst x ids (k (none, ids) x)
              | none => none
            | none => none
          | false => none
        | none => none
      | op => match okOp op with
        | true => match exOp P s.sl s.hp s.nx op with
          | some (x, f) => match noApp f with
            | true => s.putY o.dst x f (k (tgE f, rdOf s.sl op ++ crE f s.nx) x)
            | false => none
          | none => none
        | false => none
    | some false => s.putY o.dst (.tu []) .none (k (none, []) (.tu []))
    | none => none
  | false => none
def opsD (run : Code → SS → Option (Exit × SS)) (full : List Oper) : List Oper → List (Option Nat × List Nat) → List (Nat × V) → SS → Option SS
  | [], tr, sl, s => match chkD full tr.reverse with
    | true => some ⟨sl, s.hp, s.nx, s.nt⟩
    | false => none
  | o :: l, tr, sl, s => opD P K run full.toArray s o fun t x s' => putK sl o.dst x fun sl' => opsD run full l (t :: tr) sl' s'
def stepX (ih : Code → SS → Option (Exit × SS)) : Code → SS → Option (Exit × SS)
  | .skip, s => some (.normal, s)
  | .region _ ops false, s => (opsX P K inl ih ops ops.toList s).map (.normal, ·)
  | .region _ ops true, s => if P.follows .mixedOrders && klB s.hp s.nx then (opsD P K ih ops.toList ops.toList [] s.sl s).map (.normal, ·) else none
  | .seq a b, s => match ih a s with
    | some (.normal, s') => ih b s'
    | r => r
  | .cond c x y, s => match evS s.sl c with
    | .sc (.bool b) => match b with
      | true => ih x s
      | false => ih y s
    | _ => none
  | .block id c, s => match ih c s with
    | some (.exit i, s') => if i = id then some (.normal, s') else some (.exit i, s')
    | r => r
  | .loop c, s => match ih c s with
    | some (.normal, s') => ih (.loop c) s'
    | r => r
  | .exit id, s => some (.exit id, s)
  | .scope c, s => match ih c s with
    | some (.goto _, _) => none
    | r => r
  | .label _, s => some (.normal, s)
  | .ret, s => some (.ret, s)
  | _, _ => none
def exX (n : Nat) : Code → SS → Option (Exit × SS) := Nat.rec (fun _ _ => none) (fun _ ih => stepX P K inl ih) n
theorem exX_succ (n : Nat) : exX P K inl (n + 1) = stepX P K inl (exX P K inl n) := rfl
end
section
variable {P : Program} {K : Nat → List V → Option V} {inl : Nat → Bool}
theorem SameS.rel {B : Base} {S : Nat → Prop} {rho : Nat → Nat} {A : Nat → Prop} {s s' : SS} {a : Act} {w : World} (e : SameS s' s) (h : Rel B S rho A s a w) : Rel B S rho A s' a w := by
  obtain ⟨e1, e2, e3, e4⟩ := e
  exact ⟨fun t => by rw [e1]; exact h.slots t, by rw [e2]; exact h.mem, fun id hid => by rw [e3]; exact h.alt id hid, by rw [e4]; exact h.nt, h.defs⟩
theorem SameS.sops {B : Base} {ops : Array Oper} {l : List Oper} {Q : Exit → SS → Prop} {s s' : SS} (e : SameS s' s) (h : SOps P B ops l Q s') : SOps P B ops l Q s := fun S rho A a w hr => h S rho A a w (e.rel hr)
theorem SameS.swp {B : Base} {c : Code} {Q : Exit → SS → Prop} {s s' : SS} (e : SameS s' s) (h : SWp P B c Q s') : SWp P B c Q s := fun S rho A a w hr => h S rho A a w (e.rel hr)
def Sound (P : Program) (run : Code → SS → Option (Exit × SS)) : Prop := ∀ c s e s', run c s = some (e, s') → ∀ B, SWp P B c (fun e1 s1 => e1 = e ∧ s1 = s') s
def KSound (P : Program) (K : Nat → List V → Option V) : Prop := ∀ f ys x, K f ys = some x → Spec P f ys x
variable {run : Code → SS → Option (Exit × SS)}
theorem runF_parts {f : Nat} {ys : List V} {hp hp' : HP} {nx nx' : Nat} {x : V} (h : runF P run f ys hp nx = some (x, hp', nx')) : ∃ fn c e s', P.funcs[f]? = some fn ∧ fn.body = some c ∧ ys.length ≤ fn.ntmps ∧
    run c ⟨stSl 0 ys, hp, nx, fn.ntmps⟩ = some (e, s') ∧ isEnd e = true ∧ resV P fn s' = some x ∧ s'.hp = hp' ∧ s'.nx = nx' := by
  unfold runF at h
  split at h
  · rename_i fn hf
    split at h
    · rename_i c hb
      split at h
      · rename_i hn
        rw [stK_eq] at h
        split at h
        · rename_i e s' hrun
          split at h
          · rename_i he
            obtain ⟨y, hy, e1⟩ := Option.map_eq h
            simp only [Prod.mk.injEq] at e1
            obtain ⟨rfl, rfl, rfl⟩ := e1
            exact ⟨fn, c, e, s', hf, hb, Nat.le_of_ble_eq_true hn, hrun, he, hy, rfl, rfl⟩
          · cases h
        · cases h
      · cases h
    · cases h
  · cases h
theorem runF_sound (hr : Sound P run) {f : Nat} {ys : List V} {hp hp' : HP} {nx nx' : Nat} {x : V} (h : runF P run f ys hp nx = some (x, hp', nx')) : Inl P f ys hp nx x hp' nx' := by
  obtain ⟨fn, c, e, s', hf, hb, hn, hrun, he, hy, rfl, rfl⟩ := runF_parts h
  refine ⟨fn, c, hf, hb, hn, fun B _ => (hr c _ e s' hrun B).mono ?_⟩
  rintro e1 s1 ⟨rfl, rfl⟩
  cases e1 <;> first | exact ⟨x, hy, Le.refl _ _⟩ | cases he
theorem runV_sound (hr : Sound P run) (hK : KSound P K) {f : Nat} {ys : List V} {x : V} (h : runV P K run f ys = some x) : Spec P f ys x := by
  unfold runV at h
  split at h
  · rename_i hk; cases h; exact hK f ys _ hk
  · split at h
    · rename_i y hp nx' hF
      obtain ⟨⟨z, ids⟩, hz, e⟩ := Option.map_eq h
      cases e
      obtain ⟨fn, c, e, s', hf, hb, hn, hrun, he, hy, rfl, rfl⟩ := runF_parts hF
      refine Spec.of hf hb hn fun B _ => (hr c _ e s' hrun B).mono ?_
      rintro e1 s1 ⟨rfl, rfl⟩
      cases e1 <;> first | exact ⟨y, ids, hy, hz⟩ | cases he
    · cases h
theorem SOps.callV {B : Base} {s : SS} {ops : Array Oper} {Q : Exit → SS → Prop} {o : Oper} {l : List Oper} {g : Operand} {f : Nat} {p q : List V} {args : Array Operand} {ts : Array TypeId} {ys : List V} {ids : List Nat} {x : V} (ho : o.op = .call ⟨.value g, args, ts⟩) (hg : guardV ops s.sl o.guard = some true)
    (hd : dstOk o.dst s.nt = true) (hfn : fnOf (evS s.sl g) = some (f, p, q)) (hgo : isGo P f = true) (hf : frzAll (frz 8 s.hp) (p ++ args.toList.map (evS s.sl) ++ q) = some (ys, ids)) (hs : Spec P f ys x) (k : SOps P B ops l Q (s.called o.dst x ids)) : SOps P B ops (o :: l) Q s := by
  intro S rho A a w hr
  have hw := guard_sound hr.slots hg
  refine wpList_step fun K hK => ?_
  rw [if_pos hw]
  obtain ⟨ps, qs, he, hps, hqs⟩ := fn_sound hfn (ev_sound hr.mem.tab hr.slots g)
  have hall := (hps.append (All.ev hr.mem.tab hr.slots args.toList)).append hqs
  obtain ⟨h1, h2⟩ := frzAll_sound (frz_sound hr.mem 8) hf hall
  have hmf := hr.mem.freeze ids h2
  have hrun : (execOp a.eval o).run P w = .ok (.enter f (ps ++ args.map a.eval ++ qs)) w := by
    simp only [execOp, ho, resolve, he, Deferred.ofValue, Sem.run_bind, Sem.run_pure, Result.andThen_ok, invoke]
    exact callFunc_go hgo _ w
  have hvl : (ps ++ args.map a.eval ++ qs).toList = ps.toList ++ args.toList.map a.eval ++ qs.toList := by simp
  unfold Oper.wp
  rw [hrun]
  refine (hs (addS S rho A ids) w (ps ++ args.map a.eval ++ qs) hmf.slt hmf.tab ⟨by rw [hvl]; exact h1.1, fun i y u hy hu => (h1.2 i y u hy (by rw [← hvl]; exact hu)).rho⟩).mono ?_
  rintro e w' ⟨v, rfl, g, hx⟩
  refine hK _ _ ?_
  have hA : ∀ id, A id → A id ∧ rho id = rho id ∧ ∀ n, szAt w (rho id) n → szAt w' (rho id) n := fun id h => ⟨h, rfl, fun _ => g.szAt⟩
  by_cases hfl : flat x = true
  · have hm' := hr.mem.came g
    refine k (fun b => S b ∨ (w.heap.size ≤ b ∧ b < w'.heap.size)) rho A _ _ ⟨slots_put hr.slots (by rw [hr.nt]; exact hd) (fun b hb => ⟨.inl hb, g.block b (hr.mem.slt b hb)⟩) hA (flat_sound hfl hx.rho.open), ?_, hr.alt, by rw [put_size]; exact hr.nt, by rw [put_defers]; exact hr.defs⟩
    show Mem B _ rho A (if flat x then s.hp else fzHp s.hp ids) w'
    rw [if_pos hfl]; exact hm'
  · have hm' := hmf.came g
    refine k (fun b => addS S rho A ids b ∨ (w.heap.size ≤ b ∧ b < w'.heap.size)) rho A _ _ ⟨slots_put hr.slots (by rw [hr.nt]; exact hd) (fun b hb => ⟨.inl (.inl hb), g.block b (hr.mem.slt b hb)⟩) hA hx.rho.open, ?_, hr.alt, by rw [put_size]; exact hr.nt, by rw [put_defers]; exact hr.defs⟩
    show Mem B _ rho A (if flat x then s.hp else fzHp s.hp ids) w'
    rw [if_neg hfl]; exact hm'
theorem runX_sound {R : Type} {B : Base} {ops : Array Oper} {s : SS} {o : Oper} {l : List Oper} {Q : Exit → SS → Prop} {k : SS → Option R} {r : R} (h : runX P ops s o k = some r) (hk : ∀ s', k s' = some r → SOps P B ops l Q s') : SOps P B ops (o :: l) Q s := by
  unfold runX at h
  split at h
  · rename_i hd
    split at h
    · rename_i hg
      split at h
      · rename_i x f hx
        obtain ⟨s', e1, e2⟩ := putX_eq (R := Option R) s o.dst x f
        rw [e2] at h
        exact SOps.run1 (s' := s.put o.dst x f) (by unfold run1; rw [if_pos hd, hg]; simp only [hx, Option.map_some]) (e1.sops (hk s' h))
      · cases h
    · rename_i hg
      obtain ⟨s', e1, e2⟩ := putX_eq (R := Option R) s o.dst (.tu []) .none
      rw [e2] at h
      exact SOps.run1 (s' := s.put o.dst (.tu []) .none) (by unfold run1; rw [if_pos hd, hg]) (e1.sops (hk s' h))
    · cases h
  · cases h
theorem opX_sound {R : Type} (hr : Sound P run) (hK : KSound P K) {B : Base} {ops : Array Oper} {s : SS} {o : Oper} {l : List Oper} {Q : Exit → SS → Prop} {k : SS → Option R} {r : R} (h : opX P K inl run ops s o k = some r) (hk : ∀ s', k s' = some r → SOps P B ops l Q s') : SOps P B ops (o :: l) Q s := by
  unfold opX at h
  split at h
  · rename_i g args ts ho
    split at h
    · rename_i hd
      split at h
      · rename_i hg
        split at h
        · rename_i f p q hfn
          unfold callX at h
          split at h
          · rename_i hgo
            split at h
            · rename_i zs ids hz
              split at hz
              · cases hz
              · split at h
                · rename_i x hx
                  obtain ⟨s', e1, e2⟩ := calledX_eq (R := Option R) s o.dst x ids
                  rw [e2] at h
                  exact SOps.callV ho hg hd hfn hgo hz (runV_sound hr hK hx) (e1.sops (hk s' h))
                · cases h
            · split at h
              · rename_i x hp' nx' hx
                rw [putK_eq] at h
                exact SOps.inl ho hg hd hfn hgo (runF_sound hr hx) (SameS.sops (s' := ⟨putT s.sl o.dst x, hp', nx', s.nt⟩) ⟨fun t => get_putT s.sl o.dst x t, rfl, rfl, rfl⟩ (hk _ h))
              · cases h
          · cases h
        · cases h
      · rename_i hg
        obtain ⟨s', e1, e2⟩ := putX_eq (R := Option R) s o.dst (.tu []) .none
        rw [e2] at h
        exact SOps.run1 (s' := s.put o.dst (.tu []) .none) (by unfold run1; rw [if_pos hd, hg]) (e1.sops (hk s' h))
      · cases h
    · cases h
  · exact runX_sound h hk
theorem opsX_sound (hr : Sound P run) (hK : KSound P K) {B : Base} {ops : Array Oper} {Q : Exit → SS → Prop} : ∀ {l : List Oper} {s s' : SS}, opsX P K inl run ops l s = some s' → Q .normal s' → SOps P B ops l Q s
  | [], s, s', h, k => by simp only [opsX, Option.some.injEq] at h; subst h; exact SOps.nil k
  | o :: l, s, s', h, k => by
    simp only [opsX] at h
    exact opX_sound hr hK h fun s1 h1 => opsX_sound hr hK h1 k
theorem opD_sound {R : Type} (hr : Sound P run) (hK : KSound P K) {ops : Array Oper} {s : SS} {o : Oper} {k : Option Nat × List Nat → V → SS → Option R} {r : R} (h : opD P K run ops s o k = some r) : ∃ e s', DStep P ops o s e s' ∧ k (pr e) e.x s' = some r := by
  unfold opD at h
  split at h
  · rename_i hd
    split at h
    · rename_i hg
      split at h
      · rename_i g args ts ho
        split at h
        · rename_i f p q hfn
          split at h
          · rename_i hgo
            split at h
            · rename_i zs ids hz
              split at h
              · rename_i x hx
                rw [calledY_eq] at h
                exact ⟨⟨x, none, ids⟩, _, ⟨hd, .inr (.inr (.inl ⟨g, f, p, q, args, ts, zs, flat x, ho, hfn, hg, hgo, .inl hz, runV_sound hr hK hx, rfl, rfl, fun h => h⟩))⟩, h⟩
              · cases h
            · cases h
          · cases h
        · cases h
      · split at h
        · rename_i hok
          split at h
          · rename_i x f hx
            split at h
            · rename_i hna
              rw [putY_eq] at h
              exact ⟨⟨x, tgE f, rdOf s.sl o.op ++ crE f s.nx⟩, _, ⟨hd, .inl ⟨f, hg, hok, hx, rfl, rfl, rfl, hna⟩⟩, h⟩
            · cases h
          · cases h
        · cases h
    · rename_i hg
      rw [putY_eq] at h
      exact ⟨⟨.tu [], none, []⟩, _, ⟨hd, .inr (.inl ⟨hg, rfl, rfl, rfl, rfl⟩)⟩, h⟩
    · cases h
  · cases h
theorem SWp.conv {B : Base} {c : Code} {Q Q' : Exit → SS → Prop} {s : SS} (h : SWp P B c Q s) (hq : ∀ e s1, Q e s1 → ∃ s2, SameS s2 s1 ∧ Q' e s2) : SWp P B c Q' s := by
  intro S rho A a w hr
  refine wp_mono (h S rho A a w hr) ?_
  rintro e a w ⟨S, rho, A, s1, h1, h2⟩
  obtain ⟨s2, h3, h4⟩ := hq e s1 h1
  exact ⟨S, rho, A, s2, h4, h3.rel h2⟩
theorem opsD_sound (hr : Sound P run) (hK : KSound P K) {full : List Oper} : ∀ {l : List Oper} {tr : List (Option Nat × List Nat)} {sl : List (Nat × V)} {s s' : SS}, opsD P K run full l tr sl s = some s' → (∀ t, get sl t = get s.sl t) →
    ∃ es s1, DTr P full.toArray s l es s1 ∧ chkD full (tr.reverse ++ es.map pr) = true ∧ SameS s' s1
  | [], tr, sl, s, s', h, e => by
    simp only [opsD] at h
    split at h
    · rename_i hc; cases h
      exact ⟨[], s, ⟨rfl, rfl⟩, by simpa using hc, e, rfl, rfl, rfl⟩
    · cases h
  | o :: l, tr, sl, s, s', h, e => by
    simp only [opsD] at h
    obtain ⟨en, s1, h1, h2⟩ := opD_sound hr hK h
    rw [putK_eq] at h2
    obtain ⟨es, s2, h3, h4, h5⟩ := opsD_sound hr hK h2 (fun t => by
      rw [get_putT, h1.sl.1]
      cases o.dst with
      | none => exact e t
      | some d => simp only [putS, get]; rw [e])
    exact ⟨en :: es, s2, ⟨en, es, s1, rfl, h1, h3⟩, by simpa using h4, h5⟩
theorem exX_sound (hK : KSound P K) : ∀ n, Sound P (exX P K inl n)
  | 0 => fun c s e s' h => by cases h
  | n + 1 => by
    have ih := exX_sound hK n
    intro c s e s' h B
    rw [exX_succ] at h
    cases c with
    | skip => simp only [stepX, Option.some.injEq, Prod.mk.injEq] at h; obtain ⟨rfl, rfl⟩ := h; exact SWp.skip ⟨rfl, rfl⟩
    | region id ops d =>
      cases d with
      | false =>
        obtain ⟨s1, h1, e1⟩ := Option.map_eq h
        cases e1
        exact SWp.region (l := ops.toList) (opsX_sound ih hK h1 ⟨rfl, rfl⟩)
      | true =>
        simp only [stepX] at h
        split at h
        · rename_i hc
          rw [Bool.and_eq_true] at hc
          obtain ⟨s1, h1, e1⟩ := Option.map_eq h
          cases e1
          obtain ⟨es, s1, k1, k2, k3⟩ := opsD_sound ih hK h1 (fun _ => rfl)
          obtain ⟨st, en, k4, k5, k6⟩ := chk_run (klB_sound hc.2) k1 (by simpa using k2)
          exact SWp.conv (region_draw (id := id) (B := B) (Q := fun e2 s2 => e2 = .normal ∧ s2 = s1) k4 k5 hc.1 ⟨rfl, k6⟩) (by rintro e2 s2 ⟨rfl, rfl⟩; exact ⟨_, k3, rfl, rfl⟩)
        · cases h
    | seq a b =>
      simp only [stepX] at h
      split at h
      · rename_i s1 h1
        refine SWp.seq fun K1 hK1 => (ih a s _ _ h1 B).mono ?_
        rintro e1 s2 ⟨rfl, rfl⟩
        exact hK1 _ (ih b _ _ _ h B)
      · rename_i hne
        refine SWp.seq fun K1 hK1 => (ih a s _ _ h B).mono ?_
        rintro e1 s2 ⟨rfl, rfl⟩
        cases e1 <;> first | exact ⟨rfl, rfl⟩ | exact absurd h (hne _)
    | cond c x y =>
      simp only [stepX] at h
      split at h
      · rename_i b hc
        cases b with
        | true => exact SWp.cond hc (fun _ => ih x s _ _ h B) (fun h => by cases h)
        | false => exact SWp.cond hc (fun h => by cases h) (fun _ => ih y s _ _ h B)
      · cases h
    | block id c =>
      simp only [stepX] at h
      split at h
      · rename_i i s1 h1
        refine SWp.block ((ih c s _ _ h1 B).mono ?_)
        rintro e1 s2 ⟨rfl, rfl⟩
        simp only [blockQ]
        split at h
        · rename_i hi; rw [if_pos hi]; cases h; exact ⟨rfl, rfl⟩
        · rename_i hi; rw [if_neg hi]; cases h; exact ⟨rfl, rfl⟩
      · rename_i hne
        refine SWp.block ((ih c s _ _ h B).mono ?_)
        rintro e1 s2 ⟨rfl, rfl⟩
        cases e1 <;> first | exact ⟨rfl, rfl⟩ | exact absurd h (hne _ _)
    | loop c =>
      refine SWp.loop (α := Nat × SS) (fun x => x.2) (fun x => x.1 ≤ n + 1 ∧ exX P K inl x.1 (.loop c) x.2 = some (e, s')) (fun x => x.1) (n + 1, s) (Le.refl _ _) ⟨Nat.le_refl _, h⟩ ?_
      rintro ⟨m, s1⟩ ⟨hm, hx⟩ K1 hK1
      cases m with
      | zero => cases hx
      | succ m =>
        have ihm : Sound P (exX P K inl m) := by
          rcases Nat.lt_or_eq_of_le (Nat.le_of_succ_le_succ hm) with hlt | heq
          · exact exX_sound hK m
          · rw [heq]; exact ih
        simp only [exX_succ, stepX] at hx
        split at hx
        · rename_i s2 h1
          refine (ihm c s1 _ _ h1 B).mono ?_
          rintro e1 s3 ⟨rfl, rfl⟩
          exact hK1 _ (m, s3) (Le.refl _ _) ⟨by simp only at hm ⊢; omega, hx⟩ (by simp)
        · rename_i hne
          refine (ihm c s1 _ _ hx B).mono ?_
          rintro e1 s3 ⟨rfl, rfl⟩
          cases e1 <;> first | exact ⟨rfl, rfl⟩ | exact absurd hx (hne _)
    | exit id => simp only [stepX, Option.some.injEq, Prod.mk.injEq] at h; obtain ⟨rfl, rfl⟩ := h; exact SWp.exit ⟨rfl, rfl⟩
    | scope c =>
      simp only [stepX] at h
      split at h
      · cases h
      · rename_i hne
        refine SWp.scope ((ih c s _ _ h B).mono ?_)
        rintro e1 s2 ⟨rfl, rfl⟩
        cases e1 <;> first | exact ⟨rfl, rfl⟩ | exact absurd h (hne _ _)
    | label l => simp only [stepX, Option.some.injEq, Prod.mk.injEq] at h; obtain ⟨rfl, rfl⟩ := h; exact SWp.label ⟨rfl, rfl⟩
    | ret => simp only [stepX, Option.some.injEq, Prod.mk.injEq] at h; obtain ⟨rfl, rfl⟩ := h; exact SWp.ret ⟨rfl, rfl⟩
    | _ => cases h
theorem Spec.eval (hK : KSound P K) (n : Nat) (inl : Nat → Bool) {f : Nat} {ys : List V} {x : V} (h : runV P (fun _ _ => none) (exX P K inl n) f ys = some x) : Spec P f ys x := by
  exact runV_sound (K := fun _ _ => none) (exX_sound hK n) (fun _ _ _ h => by cases h) h
end
end Go.Proofs.YtpodnbcdddcdmaaGreatDoor

/- slices.Clone by value. -/
namespace Go.Proofs.YtpodnbcdddcdmaaGreatDoor
open Go.RowKit
theorem clone_s (cs : List V) (hc : cs.all clo = true) (h1 : cs.all V.one = true) (hn : cs.length ≤ 1000000000000) : Spec Tryz.prog 78 [.im cs cs.length] (.im cs cs.length) := by
  refine Spec.run Tryz.func78 rfl Tryz.ntmps78 (by simp) (by simp (disch := omega) only [go_sem]; rfl) fun B hB => ?_
  (repeat (first | refine DO.nil (by kernel_rfl) ?_ | (with_reducible refine SC.condB (by simp (disch := omega) only [go_sem, ↓reduceIte, Nat.reduceEqDiff, Nat.reduceLT, Nat.reduceLeDiff, Nat.reduceAdd, Nat.reduceMul, Nat.reduceSub, reduceCtorEq, Nat.reduceBEq, Int.reduceToNat, Int.reducePow, if_pos, if_neg]; rfl) ?_; first | with_reducible refine pickT ?_ | with_reducible refine pickF ?_) | (with_reducible refine oz (by constructor <;> decide) ?_) | ((with_reducible apply SC.region); (focus (simp (disch := omega) only [go_sem, ↓reduceIte, reduceCtorEq]; rfl))) | (with_reducible refine SC.draw Tab.mixed rfl ?_; (repeat (refine DO.run (by simp (disch := omega) only [go_sem, ↓reduceIte, Nat.reduceEqDiff, Nat.reduceLT, Nat.reduceLeDiff, Nat.reduceAdd, Nat.reduceMul, Nat.reduceSub, reduceCtorEq, Nat.reduceBEq, Int.reduceToNat, Int.reducePow, if_pos, if_neg]; rfl) ?_)); refine DO.nil (by kernel_rfl) ?_)))
  refine SC.ops ?_
  refine SO.run (by simp (disch := omega) only [go_sem, ↓reduceIte, reduceCtorEq]; rfl) ?_
  by_cases h0 : cs.length = 0
  · have hnil : cs = [] := List.eq_nil_of_length_eq_zero h0
    subst hnil
    refine SO.nilq (by simp (disch := omega) only [go_sem]) (by simp (disch := omega) only [go_sem, ↓reduceIte]; rfl) (by simp (disch := omega) only [go_sem]) ⟨by simp (disch := omega) only [go_sem], by simp (disch := omega) only [go_sem]⟩ fun b => ?_
    cases b
    · (repeat (first | refine DO.nil (by kernel_rfl) ?_ | (with_reducible refine SC.condB (by simp (disch := omega) only [go_sem, ↓reduceIte]; rfl) ?_; first | with_reducible refine pickT ?_ | with_reducible refine pickF ?_) | (with_reducible refine oz (by constructor <;> decide) ?_) | ((with_reducible apply SC.region); (focus (simp (disch := omega) only [go_sem, ↓reduceIte, Nat.reduceEqDiff, Nat.reduceLT, Nat.reduceLeDiff, Nat.reduceAdd, reduceCtorEq]; rfl))) | (with_reducible refine SC.draw Tab.mixed rfl ?_; (repeat (refine DO.run (by simp (disch := omega) only [go_sem, ↓reduceIte, Nat.reduceEqDiff, Nat.reduceLT, Nat.reduceLeDiff, Nat.reduceAdd, Nat.reduceMul, Nat.reduceSub, reduceCtorEq, Nat.reduceBEq, Int.reduceToNat, Int.reducePow, if_pos, if_neg]; rfl) ?_)); refine DO.nil (by kernel_rfl) ?_)))
      exact retQ_ret Tryz.results78 (by simp (disch := omega) only [go_sem, ↓reduceIte]; rfl) (by simp (disch := omega) only [go_sem, ↓reduceIte, Nat.reduceLeDiff]; rfl) rfl
    · (repeat (first | refine DO.nil (by kernel_rfl) ?_ | (with_reducible refine SC.condB (by simp (disch := omega) only [go_sem, ↓reduceIte]; rfl) ?_; first | with_reducible refine pickT ?_ | with_reducible refine pickF ?_) | (with_reducible refine oz (by constructor <;> decide) ?_) | ((with_reducible apply SC.region); (focus (simp (disch := omega) only [go_sem, ↓reduceIte]; rfl))) | (with_reducible refine SC.draw Tab.mixed rfl ?_; (repeat (refine DO.run (by simp (disch := omega) only [go_sem, ↓reduceIte, Nat.reduceEqDiff, Nat.reduceLT, Nat.reduceLeDiff, Nat.reduceAdd, Nat.reduceMul, Nat.reduceSub, reduceCtorEq, Nat.reduceBEq, Int.reduceToNat, Int.reducePow, if_pos, if_neg]; rfl) ?_)); refine DO.nil (by kernel_rfl) ?_)))
      exact retQ_ret Tryz.results78 (by simp (disch := omega) only [go_sem, ↓reduceIte]; rfl) (by simp (disch := omega) only [go_sem]; rfl) rfl
  · (repeat (refine SO.run (by simp (disch := omega) only [go_sem, ↓reduceIte, if_pos]; rfl) ?_))
    (repeat (first | refine DO.nil (by kernel_rfl) ?_ | (with_reducible refine SC.condB (by simp (disch := omega) only [go_sem, ↓reduceIte]; rfl) ?_; first | with_reducible refine pickT ?_ | with_reducible refine pickF ?_) | (with_reducible refine oz (by constructor <;> decide) ?_) | ((with_reducible apply SC.region); (focus (simp (disch := omega) only [go_sem, ↓reduceIte, Nat.reduceEqDiff, Nat.reduceLT, Nat.reduceLeDiff, Nat.reduceAdd, reduceCtorEq, if_pos, h1]; rfl))) | (with_reducible refine SC.draw Tab.mixed rfl ?_; (repeat (refine DO.run (by simp (disch := omega) only [go_sem, ↓reduceIte, Nat.reduceEqDiff, Nat.reduceLT, Nat.reduceLeDiff, Nat.reduceAdd, Nat.reduceMul, Nat.reduceSub, reduceCtorEq, Nat.reduceBEq, Int.reduceToNat, Int.reducePow, if_pos, if_neg, h1]; rfl) ?_)); refine DO.nil (by kernel_rfl) ?_)))
    exact retQ_ret Tryz.results78 (by simp (disch := omega) only [go_sem, ↓reduceIte]; rfl) (by simp (disch := omega) only [go_sem, ↓reduceIte, if_pos, hc, List.take_length]; rfl) rfl
end Go.Proofs.YtpodnbcdddcdmaaGreatDoor
