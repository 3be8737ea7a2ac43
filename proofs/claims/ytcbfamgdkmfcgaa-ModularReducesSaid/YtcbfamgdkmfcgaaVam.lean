/- Plain laws of limbs: division by one limb, the estimate, the division. -/
import Derived.Test.YtcbfamgdkmfcgaaVal
namespace Go.Proofs.Ytcbfamgdkmfcgaa

theorem val_two (m : Nat) : val [m % 4294967296, m / 4294967296] = m := by
  simp only [val]; omega
theorem limbs_two (m : Nat) (hm : m < 18446744073709551616) : limbs [m % 4294967296, m / 4294967296] := by
  intro x hx; simp at hx; omega
theorem drop_cons {l : List Nat} {k : Nat} (h : k < l.length) : l.drop k = l.getD k 0 :: l.drop (k + 1) := by
  rw [List.drop_eq_getElem_cons h, List.getD_eq_getElem?_getD, List.getElem?_eq_getElem h]; rfl
theorem drop_set_cons {l : List Nat} {k x : Nat} (h : k < l.length) : (l.set k x).drop k = x :: l.drop (k + 1) := by
  rw [List.drop_eq_getElem_cons (by simpa using h)]
  simp [List.drop_set]
def shortInv (a : List Nat) (d k r : Nat) (z : List Nat) : Prop := z.length = a.length ∧ limbs z ∧ r < d ∧ val (a.drop k) = val (z.drop k) * d + r
theorem shortInv.step {a z : List Nat} {d k r x : Nat} (h : shortInv a d (k + 1) r z) (hk : k < a.length) (hx : a.getD k 0 = x) (hx2 : x < 4294967296) : shortInv a d k ((r * 4294967296 + x) % d) (z.set k ((r * 4294967296 + x) / d)) ∧ (r * 4294967296 + x) / d < 4294967296 := by
  obtain ⟨h1, h2, h3, h4⟩ := h
  have hq : (r * 4294967296 + x) / d < 4294967296 := by
    rw [Nat.div_lt_iff_lt_mul (by omega)]
    have : (r + 1) * 4294967296 ≤ d * 4294967296 := Nat.mul_le_mul_right _ h3
    rw [Nat.mul_comm 4294967296 d]; omega
  refine ⟨⟨by simp [h1], limbs_set h2 _ hq, Nat.mod_lt _ (by omega), ?_⟩, hq⟩
  rw [drop_cons hk, drop_set_cons (by omega), hx]
  simp only [val]
  rw [h4]
  have hd := Nat.div_add_mod (r * 4294967296 + x) d
  generalize (r * 4294967296 + x) / d = q at *
  generalize (r * 4294967296 + x) % d = m at *
  grind
theorem shortInv.done {a z : List Nat} {d r : Nat} (h : shortInv a d 0 r z) : val z = val a / d ∧ r = val a % d := by
  obtain ⟨h1, h2, h3, h4⟩ := h
  simp only [List.drop_zero] at h4
  rw [h4, Nat.mul_comm]
  exact ⟨by rw [Nat.mul_add_div (by omega), Nat.div_eq_of_lt h3]; rfl, by rw [Nat.mul_add_mod, Nat.mod_eq_of_lt h3]⟩
theorem smallInv {l : List Nat} {k r x : Nat} (h : r = val (l.drop (k + 1))) (hk : k < l.length) (hx : l.getD k 0 = x) : r * 4294967296 + x = val (l.drop k) := by
  rw [drop_cons hk, hx, h]; simp only [val]; omega
theorem le_two_lt {l : List Nat} (h : limbs l) (hl : l.length ≤ 2) (k : Nat) : val (l.drop k) < 18446744073709551616 := by
  have h1 := val_lt (limbs_drop h k)
  have h2 : 4294967296 ^ (l.drop k).length ≤ 4294967296 ^ 2 := Nat.pow_le_pow_right (by omega) (by simp; omega)
  omega
theorem est_zero {r d : List Nat} {n : Nat} (hd : limbs d) (hl : r.length = d.length) (hn : d.length = n + 1) (hle : val d ≤ val r) (x y : Nat) (hx : r.getD n 0 = x) (hy : d.getD n 0 = y) :
    0 < max 1 (x / (y + 1)) ∧ max 1 (x / (y + 1)) * val d ≤ val r := by
  refine ⟨by omega, ?_⟩
  rcases Nat.lt_or_ge (x / (y + 1)) 1 with h | h
  · rw [Nat.max_eq_left (by omega)]; omega
  · rw [Nat.max_eq_right h]
    have e1 := val_split r n (by omega)
    have e2 := val_split d n (by omega)
    rw [drop_cons (show n < r.length by omega), hx] at e1
    rw [drop_cons (show n < d.length by omega), hy] at e2
    rw [List.drop_of_length_le (by omega)] at e1 e2
    have h3 := val_lt (limbs_take hd n)
    rw [List.length_take, Nat.min_eq_left (by omega)] at h3
    simp only [val, Nat.mul_zero, Nat.add_zero] at e1 e2
    rw [e1, e2]
    have h4 := Nat.div_mul_le_self x (y + 1)
    generalize x / (y + 1) = q at *
    generalize 4294967296 ^ n = p at *
    have h5 : q * (val (d.take n) + p * y) ≤ q * (p * (y + 1)) := Nat.mul_le_mul_left _ (by rw [Nat.mul_add]; omega)
    have h6 : p * (q * (y + 1)) ≤ p * x := Nat.mul_le_mul_left _ h4
    have h7 : q * (p * (y + 1)) = p * (q * (y + 1)) := by grind
    omega
theorem est_more {r d : List Nat} {n k : Nat} (hd : limbs d) (hn : d.length = n + 2) (hk : r.length = n + 2 + k + 1) (x z y : Nat) (hx : r.getD (n + k + 2) 0 = x) (hz : r.getD (n + k + 1) 0 = z) (hy : d.getD (n + 1) 0 = y) (hx0 : x ≠ 0) (hyb : y < 4294967296) :
    0 < (x * 4294967296 + z) / (y + 1) ∧ (x * 4294967296 + z) / (y + 1) * 4294967296 ^ k * val d ≤ val r := by
  have hq : 0 < (x * 4294967296 + z) / (y + 1) := Nat.div_pos (by omega) (by omega)
  refine ⟨hq, ?_⟩
  have e1 := val_split r (n + k + 1) (by omega)
  have e2 := val_split d (n + 1) (by omega)
  rw [drop_cons (show n + k + 1 < r.length by omega), hz, drop_cons (show n + k + 1 + 1 < r.length by omega), hx] at e1
  rw [drop_cons (show n + 1 < d.length by omega), hy] at e2
  rw [List.drop_of_length_le (by omega)] at e1 e2
  have h3 := val_lt (limbs_take hd (n + 1))
  rw [List.length_take, Nat.min_eq_left (by omega)] at h3
  simp only [val, Nat.mul_zero, Nat.add_zero] at e1 e2
  rw [e1, e2]
  have h4 := Nat.div_mul_le_self (x * 4294967296 + z) (y + 1)
  generalize (x * 4294967296 + z) / (y + 1) = q at *
  rw [show n + k + 1 = k + (n + 1) by omega, Nat.pow_add 4294967296 k (n + 1)]
  generalize 4294967296 ^ (n + 1) = p at *
  generalize 4294967296 ^ k = s at *
  have h5 : q * s * (val (d.take (n + 1)) + p * y) ≤ q * s * (p * (y + 1)) := Nat.mul_le_mul_left _ (by rw [Nat.mul_add]; omega)
  have h6 : s * p * (q * (y + 1)) ≤ s * p * (x * 4294967296 + z) := Nat.mul_le_mul_left _ h4
  have h7 : q * s * (p * (y + 1)) = s * p * (q * (y + 1)) := by grind
  have h8 : s * p * (z + 4294967296 * x) = s * p * (x * 4294967296 + z) := by grind
  omega
theorem val_one (x : Nat) : val [x] = x := by simp [val]
theorem limbs_one {x : Nat} (h : x < 4294967296) : limbs [x] := by intro y hy; simp at hy; omega
def divInv (A D R q : Nat) : Prop := A = R + q * D
theorem divInv.step {A D R q e : Nat} (h : divInv A D R q) (he : e * D ≤ R) : divInv A D (R - e * D) (q + e) := by
  unfold divInv at *; rw [Nat.add_mul]; omega
theorem divInv.done {a b s R q : Nat} (h : divInv (a * s) (b * s) R q) (hs : 0 < s) (hb : 0 < b) (hR : R < b * s) : q = a / b ∧ R / s = a % b := by
  unfold divInv at h
  have h1 : a * s / (b * s) = q := by
    rw [h, Nat.add_mul_div_right _ _ (Nat.mul_pos hb hs), Nat.div_eq_of_lt hR, Nat.zero_add]
  have h2 : a * s % (b * s) = R := by
    rw [h, Nat.add_mul_mod_self_right, Nat.mod_eq_of_lt hR]
  rw [Nat.mul_div_mul_right _ _ hs] at h1
  rw [Nat.mul_mod_mul_right] at h2
  refine ⟨h1.symm, ?_⟩
  rw [← h2, Nat.mul_div_cancel _ hs]
theorem divInv.le {A D R q : Nat} (h : divInv A D R q) (hD : 0 < D) : R ≤ A ∧ q ≤ A := by
  unfold divInv at h
  have : q * 1 ≤ q * D := Nat.mul_le_mul_left _ hD
  omega
theorem divmod_spec (na nb : Bool) (A B : Nat) (hB : 0 < B) :
    (if na ≠ nb then -((if na = true ∧ 0 < A % B then ((A / B : Nat) : Int) + 1 else ((A / B : Nat) : Int))) else (if na = true ∧ 0 < A % B then ((A / B : Nat) : Int) + 1 else ((A / B : Nat) : Int))) = sgn na A / sgn nb B ∧
    (if na = true ∧ 0 < A % B then (B : Int) - ((A % B : Nat) : Int) else ((A % B : Nat) : Int)) = sgn na A % sgn nb B := by
  have hd := Nat.div_add_mod A B
  have hm := Nat.mod_lt A hB
  have hB' : (0 : Int) < B := by omega
  have hd' : (B : Int) * ((A / B : Nat) : Int) + ((A % B : Nat) : Int) = A := by
    have := congrArg (fun n : Nat => (n : Int)) hd
    simpa using this
  generalize hq : A / B = q at *
  generalize hr : A % B = r at *
  have key : ∀ (x Q R : Int), R + (B : Int) * Q = x → 0 ≤ R → R < B → x / (B : Int) = Q ∧ x % (B : Int) = R := fun x Q R h1 h2 h3 => (Int.ediv_emod_unique hB').2 ⟨h1, h2, h3⟩
  cases na
  · have h := key (A : Int) q r (by omega) (by omega) (by omega)
    cases nb
    · simp [sgn, h.1, h.2]
    · simp [sgn, h.1, h.2, Int.ediv_neg, Int.emod_neg]
  · by_cases h0 : 0 < r
    · have h := key (-(A : Int)) (-((q : Int) + 1)) ((B : Int) - r) (by rw [← hd', Int.mul_neg, Int.mul_add]; omega) (by omega) (by omega)
      cases nb
      · simp [sgn, h.1, h.2, h0]
      · simp [sgn, h.1, h.2, h0, Int.ediv_neg, Int.emod_neg]
    · have hr0 : r = 0 := by omega
      subst hr0
      have h := key (-(A : Int)) (-(q : Int)) 0 (by rw [← hd', Int.mul_neg]; omega) (by omega) (by omega)
      cases nb
      · simp [sgn, h.1, h.2]
      · simp [sgn, h.1, h.2, Int.ediv_neg, Int.emod_neg]
/-- the remainder of an integer, from the highest limb on -/
theorem red_step (p r x : Nat) (l : List Nat) (k : Nat) (hk : k < l.length) (hx : l.getD k 0 = x) (h : r = val (l.drop (k + 1)) % p) : (r * 4294967296 + x) % p = val (l.drop k) % p := by
  rw [drop_cons hk, hx, h]
  simp only [val]
  rw [Nat.add_comm x, Nat.add_mod, Nat.mul_mod, Nat.mod_mod, ← Nat.mul_mod, ← Nat.add_mod, Nat.mul_comm]

theorem sgn_mod (neg : Bool) (m p r : Nat) (hp : 0 < p) (hr : r = m % p) : sgn neg m % (p : Int) = if neg = true ∧ 0 < r then (p : Int) - r else r := by
  have hB : (0 : Int) < p := by omega
  have hd : (p : Int) * ((m / p : Nat) : Int) + r = m := by
    have := congrArg (fun n : Nat => (n : Int)) (Nat.div_add_mod m p)
    rw [← hr] at this
    simpa using this
  have hlt : r < p := by rw [hr]; exact Nat.mod_lt _ hp
  generalize m / p = q at *
  cases neg
  · simp only [sgn, Bool.false_eq_true, if_false, false_and]
    exact ((Int.ediv_emod_unique (a := (m : Int)) (r := r) (q := q) hB).2 ⟨by omega, by omega, by omega⟩).2
  · by_cases h0 : 0 < r
    · simp only [sgn, if_true, h0, and_self]
      exact ((Int.ediv_emod_unique (a := -(m : Int)) (r := (p : Int) - r) (q := -((q : Int) + 1)) hB).2 ⟨by rw [← hd, Int.mul_neg, Int.mul_add]; omega, by omega, by omega⟩).2
    · simp only [sgn, if_true, h0, and_false, if_false]
      exact ((Int.ediv_emod_unique (a := -(m : Int)) (r := (r : Int)) (q := -(q : Int)) hB).2 ⟨by rw [← hd, Int.mul_neg]; omega, by omega, by omega⟩).2
end Go.Proofs.Ytcbfamgdkmfcgaa
