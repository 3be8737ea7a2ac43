/- Fermat's little theorem, and that fifteen numbers are prime. -/
import Derived.KernelRfl
namespace Go.Proofs.Ytcbfamgdkmfcgaa

def sm (f : Nat → Nat) : Nat → Nat
  | 0 => 0
  | n + 1 => sm f n + f n
theorem sm_left (f : Nat → Nat) : ∀ n, sm f (n + 1) = f 0 + sm (fun k => f (k + 1)) n
  | 0 => by simp [sm]
  | n + 1 => by rw [sm, sm_left f n, sm]; omega
theorem sm_add (f g : Nat → Nat) : ∀ n, sm (fun k => f k + g k) n = sm f n + sm g n
  | 0 => rfl
  | n + 1 => by simp only [sm]; rw [sm_add f g n]; omega
theorem sm_mul (c : Nat) (f : Nat → Nat) : ∀ n, sm (fun k => c * f k) n = c * sm f n
  | 0 => by simp [sm]
  | n + 1 => by simp only [sm]; rw [sm_mul c f n, Nat.mul_add]
theorem sm_dvd {p : Nat} {f : Nat → Nat} : ∀ {n}, (∀ k, k < n → p ∣ f k) → p ∣ sm f n
  | 0, _ => Nat.dvd_zero p
  | n + 1, h => Nat.dvd_add (sm_dvd fun k hk => h k (by omega)) (h n (by omega))

def ch : Nat → Nat → Nat
  | _, 0 => 1
  | 0, _ + 1 => 0
  | n + 1, k + 1 => ch n k + ch n (k + 1)
theorem ch_zero (n : Nat) : ch n 0 = 1 := by cases n <;> rfl
theorem ch_over : ∀ (n k : Nat), n < k → ch n k = 0
  | 0, 0, h => by omega
  | 0, k + 1, _ => rfl
  | n + 1, 0, h => by omega
  | n + 1, k + 1, h => by rw [ch, ch_over n k (by omega), ch_over n (k + 1) (by omega)]
theorem ch_self : ∀ n, ch n n = 1
  | 0 => rfl
  | n + 1 => by rw [ch, ch_self n, ch_over n (n + 1) (by omega)]
theorem ch_mul : ∀ (n k : Nat), (k + 1) * ch (n + 1) (k + 1) = (n + 1) * ch n k
  | 0, 0 => rfl
  | 0, k + 1 => by simp [ch]
  | n + 1, 0 => by
    have h := ch_mul n 0
    have e : ch (n + 1 + 1) (0 + 1) = ch (n + 1) 0 + ch (n + 1) (0 + 1) := rfl
    rw [e, ch_zero]
    rw [ch_zero] at h
    simp only [Nat.zero_add, Nat.one_mul, Nat.mul_one] at h ⊢
    omega
  | n + 1, k + 1 => by
    have h1 := ch_mul n k
    have h2 := ch_mul n (k + 1)
    have e1 : ch (n + 1 + 1) (k + 1 + 1) = ch (n + 1) (k + 1) + ch (n + 1) (k + 1 + 1) := rfl
    have e2 : ch (n + 1) (k + 1) = ch n k + ch n (k + 1) := rfl
    rw [e1, Nat.mul_add, h2, Nat.add_mul (k + 1) 1, h1, Nat.one_mul, e2, Nat.mul_add (n + 1 + 1), Nat.add_mul (n + 1) 1, Nat.add_mul (n + 1) 1]
    omega
theorem binom (a : Nat) : ∀ n, (a + 1) ^ n = sm (fun k => ch n k * a ^ k) (n + 1)
  | 0 => by simp [sm, ch]
  | n + 1 => by
    have e1 : sm (fun k => ch (n + 1) (k + 1) * a ^ (k + 1)) (n + 1) = a * sm (fun k => ch n k * a ^ k) (n + 1) + sm (fun k => ch n (k + 1) * a ^ (k + 1)) (n + 1) := by
      rw [← sm_mul, ← sm_add]
      congr 1
      funext k
      have : ch (n + 1) (k + 1) = ch n k + ch n (k + 1) := rfl
      rw [this, Nat.add_mul, Nat.pow_succ, ← Nat.mul_assoc, Nat.mul_comm (ch n k * a ^ k) a]
    have e2 : sm (fun k => ch n k * a ^ k) (n + 1 + 1) = 1 + sm (fun k => ch n (k + 1) * a ^ (k + 1)) (n + 1) := by
      rw [sm_left, ch_zero]; simp
    have e3 : sm (fun k => ch n k * a ^ k) (n + 1 + 1) = sm (fun k => ch n k * a ^ k) (n + 1) := by
      rw [sm, ch_over n (n + 1) (by omega)]; simp
    rw [sm_left, ch_zero, e1, Nat.pow_succ, binom a n, Nat.mul_add, Nat.mul_one, Nat.mul_comm _ a]
    rw [e3] at e2
    simp only [Nat.pow_zero, Nat.mul_one]
    omega

/-- all numbers between 0 and p have nothing in common with p -/
def Pr (p : Nat) : Prop := 1 < p ∧ ∀ k, 0 < k → k < p → Nat.Coprime p k

theorem Pr.ch {p k : Nat} (h : Pr p) (h1 : 0 < k) (h2 : k < p) : p ∣ ch p k := by
  obtain ⟨q, rfl⟩ : ∃ q, p = q + 1 := ⟨p - 1, by have := h.1; omega⟩
  obtain ⟨j, rfl⟩ : ∃ j, k = j + 1 := ⟨k - 1, by omega⟩
  exact (h.2 (j + 1) h1 h2).dvd_of_dvd_mul_left (ch_mul q j ▸ Nat.dvd_mul_right _ _)
theorem Pr.step {p : Nat} (h : Pr p) (a : Nat) : (a + 1) ^ p % p = (a ^ p + 1) % p := by
  obtain ⟨q, rfl⟩ : ∃ q, p = q + 1 := ⟨p - 1, by have := h.1; omega⟩
  rw [binom a (q + 1), sm, sm_left, ch_self, ch_zero]
  have : q + 1 ∣ sm (fun k => Go.Proofs.Ytcbfamgdkmfcgaa.ch (q + 1) (k + 1) * a ^ (k + 1)) q := sm_dvd fun k hk => Nat.dvd_trans (h.ch (by omega) (by omega)) (Nat.dvd_mul_right _ _)
  obtain ⟨c, hc⟩ := this
  rw [hc]
  simp only [Nat.pow_zero, Nat.mul_one, Nat.one_mul]
  rw [show 1 + (q + 1) * c + a ^ (q + 1) = a ^ (q + 1) + 1 + (q + 1) * c by omega, Nat.add_mul_mod_self_left]
theorem Pr.fermat {p : Nat} (h : Pr p) : ∀ a, a ^ p % p = a % p
  | 0 => by rw [Nat.zero_pow (by have := h.1; omega)]
  | a + 1 => by rw [h.step, Nat.add_mod, h.fermat a, ← Nat.add_mod]
theorem Pr.one {p a : Nat} (h : Pr p) (h1 : 0 < a) (h2 : a < p) : a ^ (p - 1) % p = 1 := by
  have hp := h.1
  have hf := h.fermat a
  have e : a ^ p = a * a ^ (p - 1) := by rw [show p = (p - 1) + 1 by omega, Nat.pow_succ, Nat.mul_comm]; simp
  have hpos : 0 < a ^ (p - 1) := Nat.pow_pos h1
  have hd : p ∣ a * (a ^ (p - 1) - 1) := by
    rw [Nat.mul_sub, Nat.mul_one, ← e]
    exact Nat.dvd_of_mod_eq_zero (Nat.sub_mod_eq_zero_of_mod_eq hf)
  obtain ⟨c, hc⟩ := (h.2 a h1 h2).dvd_of_dvd_mul_left hd
  rw [show a ^ (p - 1) = 1 + p * c by omega, Nat.add_mul_mod_self_left, Nat.mod_eq_of_lt hp]

/-- the product of the odd numbers 2 lo + 1 and on, 2 ^ n of them -/
def po : Nat → Nat → Nat
  | lo, 0 => 2 * lo + 1
  | lo, n + 1 => po lo n * po (lo + 2 ^ n) n
theorem po_dvd : ∀ (n lo i : Nat), lo ≤ i → i < lo + 2 ^ n → 2 * i + 1 ∣ po lo n
  | 0, lo, i, h1, h2 => by
    have : i = lo := by simp at h2; omega
    subst this; exact Nat.dvd_refl _
  | n + 1, lo, i, h1, h2 => by
    rw [po]
    rcases Nat.lt_or_ge i (lo + 2 ^ n) with h | h
    · exact Nat.dvd_trans (po_dvd n lo i h1 h) (Nat.dvd_mul_right _ _)
    · exact Nat.dvd_trans (po_dvd n _ i h (by rw [Nat.pow_succ] at h2; omega)) (Nat.dvd_mul_left _ _)
theorem Pr.of {p n : Nat} (h1 : 1 < p) (h2 : p % 2 = 1) (h3 : Nat.gcd p (po 1 n) = 1) (h4 : p < (2 * 2 ^ n + 2) * (2 * 2 ^ n + 2)) : Pr p := by
  have no : ∀ d e, d * e = p → 1 < d → d ≤ e → False := by
    intro d e hde hd hle
    have hodd : d % 2 = 1 := by
      rcases Nat.mod_two_eq_zero_or_one d with h | h
      · have : p % 2 = 0 := by rw [← hde, Nat.mul_mod, h]; simp
        omega
      · exact h
    have hlt : d < 2 * 2 ^ n + 2 := by
      rcases Nat.lt_or_ge d (2 * 2 ^ n + 2) with h | h
      · exact h
      · have : (2 * 2 ^ n + 2) * (2 * 2 ^ n + 2) ≤ d * e := Nat.mul_le_mul h (Nat.le_trans h hle)
        omega
    have hdv : d ∣ po 1 n := by
      have := po_dvd n 1 (d / 2) (by omega) (by omega)
      rwa [show 2 * (d / 2) + 1 = d by omega] at this
    have : d ∣ Nat.gcd p (po 1 n) := Nat.dvd_gcd ⟨e, hde.symm⟩ hdv
    rw [h3] at this
    have := Nat.le_of_dvd (by omega) this
    omega
  refine ⟨h1, fun k hk1 hk2 => ?_⟩
  obtain ⟨e, he⟩ := Nat.gcd_dvd_left p k
  have hg : 0 < Nat.gcd p k := Nat.gcd_pos_of_pos_right _ hk1
  have hle : Nat.gcd p k ≤ k := Nat.gcd_le_right _ hk1
  show Nat.gcd p k = 1
  rcases Nat.lt_or_ge (Nat.gcd p k) 2 with h | h
  · omega
  · exfalso
    rcases Nat.le_total (Nat.gcd p k) e with hc | hc
    · exact no _ e he.symm h hc
    · have he1 : 1 < e := by
        rcases Nat.lt_or_ge 1 e with h' | h'
        · exact h'
        · have : Nat.gcd p k * e ≤ Nat.gcd p k * 1 := Nat.mul_le_mul_left _ h'
          omega
      exact no e _ (by rw [Nat.mul_comm]; exact he.symm) he1 hc

theorem gcds : (Nat.gcd 1000003 (po 1 15) == 1 && Nat.gcd 2147483549 (po 1 15) == 1 && Nat.gcd 2147483563 (po 1 15) == 1 && Nat.gcd 2147483579 (po 1 15) == 1 && Nat.gcd 2147483587 (po 1 15) == 1 && Nat.gcd 2147483629 (po 1 15) == 1 && Nat.gcd 2147483647 (po 1 15) == 1) = true := by kernel_rfl
theorem gcds2 : (Nat.gcd 65521 (po 1 8) == 1 && Nat.gcd 65537 (po 1 8) == 1) = true := by kernel_rfl
theorem pr2 : Pr 2 := by
  refine ⟨by omega, fun k h1 h2 => ?_⟩
  obtain rfl : k = 1 := by omega
  decide
theorem pr3 : Pr 3 := by
  refine ⟨by omega, fun k h1 h2 => ?_⟩
  have : k = 1 ∨ k = 2 := by omega
  rcases this with rfl | rfl <;> decide
theorem prs : ∀ i, i < 15 → Pr ([2, 3, 5, 7, 11, 101, 65521, 65537, 1000003, 2147483549, 2147483563, 2147483579, 2147483587, 2147483629, 2147483647].getD i 0) := by
  have g := gcds
  have g2 := gcds2
  simp only [Bool.and_eq_true, beq_iff_eq] at g g2
  obtain ⟨⟨⟨⟨⟨⟨a1, a2⟩, a3⟩, a4⟩, a5⟩, a6⟩, a7⟩ := g
  obtain ⟨b1, b2⟩ := g2
  intro i hi
  match i with
  | 0 => exact pr2
  | 1 => exact pr3
  | 2 => exact Pr.of (n := 0) (by decide) (by decide) (by decide) (by decide)
  | 3 => exact Pr.of (n := 0) (by decide) (by decide) (by decide) (by decide)
  | 4 => exact Pr.of (n := 1) (by decide) (by decide) (by decide) (by decide)
  | 5 => exact Pr.of (n := 3) (by decide) (by decide) (by decide) (by decide)
  | 6 => exact Pr.of (n := 8) (by decide) (by decide) b1 (by decide)
  | 7 => exact Pr.of (n := 8) (by decide) (by decide) b2 (by decide)
  | 8 => exact Pr.of (n := 15) (by decide) (by decide) a1 (by decide)
  | 9 => exact Pr.of (n := 15) (by decide) (by decide) a2 (by decide)
  | 10 => exact Pr.of (n := 15) (by decide) (by decide) a3 (by decide)
  | 11 => exact Pr.of (n := 15) (by decide) (by decide) a4 (by decide)
  | 12 => exact Pr.of (n := 15) (by decide) (by decide) a5 (by decide)
  | 13 => exact Pr.of (n := 15) (by decide) (by decide) a6 (by decide)
  | 14 => exact Pr.of (n := 15) (by decide) (by decide) a7 (by decide)
  | n + 15 => omega
end Go.Proofs.Ytcbfamgdkmfcgaa
