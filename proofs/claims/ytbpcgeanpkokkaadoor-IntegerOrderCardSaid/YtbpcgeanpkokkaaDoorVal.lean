/- Plain facts on limbs: the value of a list of limbs. No program in sight. -/
import Derived.Test.YtbpcgeanpkokkaaDoorBase
namespace Go.Proofs.YtbpcgeanpkokkaaDoor

/-- the value of limbs, the least significant one first -/
def val : List Nat → Nat
  | [] => 0
  | x :: l => x + 4294967296 * val l

def limbs (l : List Nat) : Prop := ∀ x ∈ l, x < 4294967296

theorem limbs_cons {x : Nat} {l : List Nat} (h : limbs (x :: l)) : x < 4294967296 ∧ limbs l := ⟨h x (by simp), fun y hy => h y (by simp [hy])⟩
theorem limbs_getD {l : List Nat} (h : limbs l) (i : Nat) : l.getD i 0 < 4294967296 := by
  rw [List.getD_eq_getElem?_getD]
  by_cases hi : i < l.length
  · simp [hi]; exact h _ (List.getElem_mem hi)
  · simp [hi]
theorem val_append (a b : List Nat) : val (a ++ b) = val a + 4294967296 ^ a.length * val b := by
  induction a with
  | nil => simp [val]
  | cons x a ih => simp only [List.cons_append, val, ih, List.length_cons, Nat.pow_succ]; grind
theorem val_lt {l : List Nat} (h : limbs l) : val l < 4294967296 ^ l.length := by
  induction l with
  | nil => simp [val]
  | cons x l ih =>
    obtain ⟨hx, hl⟩ := limbs_cons h
    have := ih hl
    simp only [val, List.length_cons, Nat.pow_succ]
    omega
theorem val_take_succ {l : List Nat} {k : Nat} (h : k < l.length) : val (l.take (k + 1)) = val (l.take k) + 4294967296 ^ k * l.getD k 0 := by
  rw [List.take_succ_eq_append_getElem h, val_append]
  simp [val, h, Nat.min_eq_left (Nat.le_of_lt h)]
theorem limbs_take {l : List Nat} (h : limbs l) (k : Nat) : limbs (l.take k) := fun x hx => h x (List.mem_of_mem_take hx)
theorem limbs_drop {l : List Nat} (h : limbs l) (k : Nat) : limbs (l.drop k) := fun x hx => h x (List.mem_of_mem_drop hx)
theorem val_split (l : List Nat) (k : Nat) (h : k ≤ l.length) : val l = val (l.take k) + 4294967296 ^ k * val (l.drop k) := by
  conv => lhs; rw [← List.take_append_drop k l]
  rw [val_append]; simp [Nat.min_eq_left h]

/-- comparison from the top: one limb more -/
theorem val_lt_step {a b : List Nat} {k : Nat} (ha : limbs a) (hb : limbs b) (hka : k < a.length) (hkb : k < b.length) :
    (a.getD k 0 = b.getD k 0 → (val (a.take (k + 1)) < val (b.take (k + 1)) ↔ val (a.take k) < val (b.take k))) ∧
    (a.getD k 0 ≠ b.getD k 0 → (val (a.take (k + 1)) < val (b.take (k + 1)) ↔ a.getD k 0 < b.getD k 0)) := by
  have h1 := val_lt (limbs_take ha k)
  have h2 := val_lt (limbs_take hb k)
  rw [List.length_take, Nat.min_eq_left (Nat.le_of_lt hka)] at h1
  rw [List.length_take, Nat.min_eq_left (Nat.le_of_lt hkb)] at h2
  rw [val_take_succ hka, val_take_succ hkb]
  generalize val (a.take k) = x at *
  generalize val (b.take k) = y at *
  generalize a.getD k 0 = c
  generalize b.getD k 0 = d
  generalize 4294967296 ^ k = p at *
  refine ⟨fun h => by subst h; omega, fun h => ?_⟩
  rcases Nat.lt_or_gt_of_ne h with h' | h'
  · have : p * (c + 1) ≤ p * d := Nat.mul_le_mul_left _ h'
    rw [Nat.mul_add] at this
    constructor
    · intro _; exact h'
    · intro _; omega
  · have : p * (d + 1) ≤ p * c := Nat.mul_le_mul_left _ h'
    rw [Nat.mul_add] at this
    constructor
    · intro _; omega
    · intro _; omega

/-- the reference's 'less' -/
def lessL (a b : List Nat) : Bool := if a.length = b.length then decide (val a < val b) else decide (a.length < b.length)

/-- no zero limb at the end -/
def canon (l : List Nat) : Prop := ∀ h : l ≠ [], l.getLast h ≠ 0

theorem canon_ge {l : List Nat} (h : canon l) (hn : l ≠ []) : 4294967296 ^ (l.length - 1) ≤ val l := by
  have e := List.dropLast_concat_getLast hn
  have h1 := h hn
  conv => rhs; rw [← e]
  rw [val_append]
  simp only [List.length_dropLast, val]
  have : 4294967296 ^ (l.length - 1) * 1 ≤ 4294967296 ^ (l.length - 1) * (l.getLast hn + 4294967296 * 0) := Nat.mul_le_mul_left _ (by omega)
  omega

theorem lessL_eq {a b : List Nat} (ha : limbs a) (hb : limbs b) (ca : canon a) (cb : canon b) : lessL a b = decide (val a < val b) := by
  unfold lessL
  split
  · rfl
  · rename_i hne
    have key : ∀ {a b : List Nat}, limbs a → canon b → a.length < b.length → val a < val b := by
      intro a b ha cb h
      have h1 := val_lt ha
      have h2 := canon_ge cb (by intro e; subst e; simp at h)
      have h3 : 4294967296 ^ a.length ≤ 4294967296 ^ (b.length - 1) := Nat.pow_le_pow_right (by omega) (by omega)
      omega
    rcases Nat.lt_or_gt_of_ne hne with h | h
    · simp [h, key ha cb h]
    · have := key hb ca h
      rw [Bool.eq_iff_iff]; simp; omega

theorem val_inj {a b : List Nat} (ha : limbs a) (hb : limbs b) (h : a.length = b.length) (e : val a = val b) : a = b := by
  induction a generalizing b with
  | nil => cases b with | nil => rfl | cons => simp at h
  | cons x a ih =>
    cases b with
    | nil => simp at h
    | cons y b =>
      obtain ⟨hx, ha⟩ := limbs_cons ha
      obtain ⟨hy, hb⟩ := limbs_cons hb
      simp only [val] at e
      have h1 : x = y := by omega
      have h2 : val a = val b := by omega
      rw [h1, ih ha hb (by simpa using h) h2]

theorem canon_inj {a b : List Nat} (ha : limbs a) (hb : limbs b) (ca : canon a) (cb : canon b) (e : val a = val b) : a = b := by
  have h1 := lessL_eq ha hb ca cb
  have h2 := lessL_eq hb ha cb ca
  unfold lessL at h1 h2
  have hl : a.length = b.length := by
    by_cases hl : a.length = b.length
    · exact hl
    · rw [if_neg hl] at h1
      rw [if_neg (fun h => hl h.symm)] at h2
      simp [e] at h1 h2
      omega
  exact val_inj ha hb hl e


theorem val_take_succ' (l : List Nat) (k : Nat) : val (l.take (k + 1)) = val (l.take k) + 4294967296 ^ k * l.getD k 0 := by
  by_cases h : k < l.length
  · exact val_take_succ h
  · rw [List.take_of_length_le (by omega), List.take_of_length_le (by omega)]
    simp [List.getD_eq_getElem?_getD, List.getElem?_eq_none (Nat.le_of_not_lt h)]
theorem getD_ge {l : List Nat} {k : Nat} (h : ¬ k < l.length) : l.getD k 0 = 0 := by
  simp [List.getD_eq_getElem?_getD, List.getElem?_eq_none (Nat.le_of_not_lt h)]
theorem limbs_snoc {l : List Nat} (h : limbs l) {x : Nat} (hx : x < 4294967296) : limbs (l ++ [x]) := by
  intro y hy
  rcases List.mem_append.1 hy with hy | hy
  · exact h y hy
  · simp at hy; omega
theorem u32s_snoc (l : List Nat) (s : Nat) (E : Int) (h : E = (s : Int)) : u32s l ++ [.int .u32 (E % 4294967296)] = u32s (l ++ [s % 4294967296]) := by
  subst h; simp [u32s]

def plusInv (a b : List Nat) (k c : Nat) (l : List Nat) : Prop := l.length = k ∧ limbs l ∧ val l + 4294967296 ^ k * c = val (a.take k) + val (b.take k)
theorem plusInv.step {a b l : List Nat} {k c : Nat} (h : plusInv a b k c l) (x y : Nat) (hx : a.getD k 0 = x) (hy : b.getD k 0 = y) : plusInv a b (k + 1) ((c + x + y) / 4294967296) (l ++ [(c + x + y) % 4294967296]) := by
  obtain ⟨h1, h2, h3⟩ := h
  refine ⟨by simp [h1], limbs_snoc h2 (by omega), ?_⟩
  rw [val_take_succ', val_take_succ', val_append, hx, hy, h1, Nat.pow_succ]
  simp only [val]
  have hd := Nat.div_add_mod (c + x + y) 4294967296
  generalize 4294967296 ^ k = p at *
  generalize (c + x + y) / 4294967296 = d at *
  generalize (c + x + y) % 4294967296 = m at *
  have : p * (c + x + y) = p * (4294967296 * d + m) := by rw [hd]
  grind
theorem plusInv.done {a b l : List Nat} {k : Nat} (h : plusInv a b k 0 l) (ha : a.length ≤ k) (hb : b.length ≤ k) : val l = val a + val b := by
  obtain ⟨h1, h2, h3⟩ := h
  rw [List.take_of_length_le ha, List.take_of_length_le hb] at h3
  simpa using h3

theorem val_set {z : List Nat} {j : Nat} (h : j < z.length) (x : Nat) : val (z.set j x) + 4294967296 ^ j * z.getD j 0 = val z + 4294967296 ^ j * x := by
  induction z generalizing j with
  | nil => simp at h
  | cons y z ih =>
    cases j with
    | zero => simp [val]; omega
    | succ j =>
      have := ih (j := j) (by simpa using h)
      simp only [List.set_cons_succ, val, List.getD_cons_succ, Nat.pow_succ] at *
      grind
theorem limbs_set {z : List Nat} (h : limbs z) (j : Nat) {x : Nat} (hx : x < 4294967296) : limbs (z.set j x) := by
  intro y hy
  rcases List.mem_or_eq_of_mem_set hy with hy | rfl
  · exact h y hy
  · exact hx
theorem u32s_set (z : List Nat) (j x : Nat) (E : Int) (h : E = (x : Int)) : (u32s z).set j (.int .u32 E) = u32s (z.set j x) := by
  subst h; simp [u32s, List.map_set]
theorem limbs_replicate (n : Nat) : limbs (List.replicate n 0) := by intro x hx; simp at hx; omega
theorem val_replicate (n : Nat) : val (List.replicate n 0) = 0 := by induction n with | zero => rfl | succ n ih => simp [List.replicate_succ, val, ih]
theorem u32s_replicate (n : Nat) : List.replicate n (Value.int .u32 0) = u32s (List.replicate n 0) := by simp [u32s]

/-- the product loops: what holds of the limbs z at row i, column k, with the carry c -/
def mulInv (a b : List Nat) (i k c : Nat) (z : List Nat) : Prop :=
  z.length = a.length + b.length + 1 ∧ limbs z ∧ val z + 4294967296 ^ (i + k) * c = val (a.take i) * val b + 4294967296 ^ i * (a.getD i 0 * val (b.take k))
theorem mulInv.step {a b z : List Nat} {i k c : Nat} (h : mulInv a b i k c z) (hj : i + k < z.length) (x y t : Nat) (hx : a.getD i 0 = x) (hy : b.getD k 0 = y) (ht : z.getD (i + k) 0 = t) :
    mulInv a b i (k + 1) ((c + t + x * y) / 4294967296) (z.set (i + k) ((c + t + x * y) % 4294967296)) := by
  obtain ⟨h1, h2, h3⟩ := h
  refine ⟨by simp [h1], limbs_set h2 _ (by omega), ?_⟩
  have h4 := val_set hj ((c + t + x * y) % 4294967296)
  rw [val_take_succ', hx, hy] at *
  rw [ht] at h4
  have hd := Nat.div_add_mod (c + t + x * y) 4294967296
  rw [show i + (k + 1) = i + k + 1 from rfl, Nat.pow_succ]
  generalize hD : (c + t + x * y) / 4294967296 = d at *
  generalize hM : (c + t + x * y) % 4294967296 = m at *
  generalize val (z.set (i + k) m) = V at *
  have e1 : 4294967296 ^ (i + k) = 4294967296 ^ i * 4294967296 ^ k := Nat.pow_add _ _ _
  generalize 4294967296 ^ (i + k) = p at *
  generalize 4294967296 ^ i = q at *
  generalize 4294967296 ^ k = r at *
  subst e1
  have : q * r * (c + t + x * y) = q * r * (4294967296 * d + m) := by rw [hd]
  grind
/-- behind the last column there is no carry -/
theorem mulInv.noCarry {a b z : List Nat} {i c : Nat} (h : mulInv a b i (b.length + 1) c z) (ha : limbs a) (hb : limbs b) (hi : i < a.length) : c = 0 := by
  obtain ⟨h1, h2, h3⟩ := h
  rw [List.take_of_length_le (l := b) (by omega)] at h3
  have e : val (a.take (i + 1)) * val b = val (a.take i) * val b + 4294967296 ^ i * (a.getD i 0 * val b) := by
    rw [val_take_succ', Nat.add_mul, Nat.mul_assoc]
  have hA := val_lt (limbs_take ha (i + 1))
  have hB := val_lt hb
  rw [List.length_take, Nat.min_eq_left hi] at hA
  have hP : val (a.take (i + 1)) * val b < 4294967296 ^ (i + (b.length + 1)) := by
    rw [show i + (b.length + 1) = (i + 1) + b.length by omega, Nat.pow_add]
    exact Nat.mul_lt_mul'' hA hB
  rcases Nat.eq_zero_or_pos c with h0 | h0
  · exact h0
  · have : 4294967296 ^ (i + (b.length + 1)) * 1 ≤ 4294967296 ^ (i + (b.length + 1)) * c := Nat.mul_le_mul_left _ h0
    omega
theorem mulInv.row {a b z : List Nat} {i k : Nat} (h : mulInv a b i k 0 z) (hk : b.length ≤ k) : mulInv a b (i + 1) 0 0 z := by
  obtain ⟨h1, h2, h3⟩ := h
  refine ⟨h1, h2, ?_⟩
  rw [List.take_of_length_le (l := b) hk, Nat.mul_zero, Nat.add_zero] at h3
  rw [val_take_succ', Nat.add_mul, h3, Nat.mul_zero, List.take_zero, Nat.mul_assoc, show val [] = 0 from rfl, Nat.mul_zero, Nat.mul_zero]
theorem mulInv.done {a b z : List Nat} {i : Nat} (h : mulInv a b i 0 0 z) (hi : a.length ≤ i) : val z = val a * val b := by
  obtain ⟨h1, h2, h3⟩ := h
  rw [List.take_of_length_le (l := a) hi, Nat.mul_zero, List.take_zero, show val [] = 0 from rfl, Nat.mul_zero, Nat.mul_zero] at h3
  exact h3
def minusInv (a b : List Nat) (k c : Nat) (l : List Nat) : Prop := l.length = k ∧ limbs l ∧ val l + val (b.take k) = val (a.take k) + 4294967296 ^ k * c
theorem minusInv.step {a b l : List Nat} {k c : Nat} (h : minusInv a b k c l) (x y d c' : Nat) (hx : a.getD k 0 = x) (hy : b.getD k 0 = y) (hd : d < 4294967296) (he : (d : Int) = x - c - y + 4294967296 * c') : minusInv a b (k + 1) c' (l ++ [d]) := by
  obtain ⟨h1, h2, h3⟩ := h
  refine ⟨by simp [h1], limbs_snoc h2 hd, ?_⟩
  rw [val_take_succ', val_take_succ', val_append, hx, hy, h1, Nat.pow_succ]
  simp only [val]
  have he' : d + c + y = x + 4294967296 * c' := by omega
  generalize 4294967296 ^ k = p at *
  have : p * (d + c + y) = p * (x + 4294967296 * c') := by rw [he']
  grind
theorem minusInv.done {a b l : List Nat} {c : Nat} (h : minusInv a b a.length c l) (hc : c ≤ 1) (ha : limbs a) (hb : b.length ≤ a.length) (hab : val b ≤ val a) : val l = val a - val b := by
  obtain ⟨h1, h2, h3⟩ := h
  rw [List.take_of_length_le (Nat.le_refl _), List.take_of_length_le hb] at h3
  have h4 := val_lt h2
  rw [h1] at h4
  have h5 := val_lt ha
  have : c = 0 := by
    rcases Nat.lt_or_ge c 1 with hh | hh
    · omega
    · have : c = 1 := by omega
      subst this
      omega
  subst this
  omega
/-- with a sign -/
def sgn (neg : Bool) (m : Nat) : Int := if neg then -(m : Int) else m
theorem sgn_natAbs (neg : Bool) (m : Nat) : (sgn neg m).natAbs = m := by cases neg <;> simp [sgn]

/-- at most K limbs -/
def Fits (K : Nat) (n : Int) : Prop := n.natAbs < 4294967296 ^ K
theorem Fits.mono {K L : Nat} {n : Int} (h : Fits K n) (hl : K ≤ L) : Fits L n := Nat.lt_of_lt_of_le h (Nat.pow_le_pow_right (by omega) hl)
theorem Fits.neg {K : Nat} {n : Int} (h : Fits K n) : Fits K (-n) := by unfold Fits at *; rwa [Int.natAbs_neg]
theorem Fits.add {K : Nat} {a b : Int} (ha : Fits K a) (hb : Fits K b) : Fits (K + 1) (a + b) := by
  unfold Fits at *; rw [Nat.pow_succ]; generalize 4294967296 ^ K = p at *; omega
theorem Fits.sub {K : Nat} {a b : Int} (ha : Fits K a) (hb : Fits K b) : Fits (K + 1) (a - b) := by
  have := Fits.add ha hb.neg; rwa [← Int.sub_eq_add_neg] at this
theorem Fits.mul {K L : Nat} {a b : Int} (ha : Fits K a) (hb : Fits L b) : Fits (K + L) (a * b) := by
  unfold Fits at *; rw [Int.natAbs_mul, Nat.pow_add]; exact Nat.mul_lt_mul'' ha hb
theorem Fits.of_natAbs_le {K : Nat} {a b : Int} (h : Fits K b) (hl : a.natAbs ≤ b.natAbs) : Fits K a := Nat.lt_of_le_of_lt hl h
theorem fits_one {n : Int} (h : n.natAbs < 4294967296) : Fits 1 n := by simpa [Fits] using h
theorem fits_two {n : Int} (h : n.natAbs < 18446744073709551616) : Fits 2 n := by simpa [Fits] using h

theorem fits_val {l : List Nat} (h : limbs l) (neg : Bool) : Fits l.length (sgn neg (val l)) := by
  unfold Fits; rw [sgn_natAbs]; exact val_lt h
theorem canon_len {l : List Nat} {K : Nat} (hc : canon l) (h : val l < 4294967296 ^ K) : l.length ≤ K := by
  by_cases hn : l = []
  · subst hn; simp
  · have h1 := canon_ge hc hn
    by_cases hk : l.length ≤ K
    · exact hk
    · have h2 : 4294967296 ^ K ≤ 4294967296 ^ (l.length - 1) := Nat.pow_le_pow_right (by omega) (by omega)
      omega

end Go.Proofs.YtbpcgeanpkokkaaDoor
