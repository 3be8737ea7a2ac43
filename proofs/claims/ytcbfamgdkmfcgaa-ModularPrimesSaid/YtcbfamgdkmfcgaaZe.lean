/- Texts joined: Nt Wa Wb Wc. -/
import Derived.KernelRfl
import Derived.Test.YtcbfamgdkmfcgaaZc
set_option linter.all false
/- Fermat's little theorem, and that fifteen numbers are prime. -/
namespace Go.Proofs.Ytcbfamgdkmfcgaa

def sm (f : Nat → Nat) : Nat → Nat
  | 0 => 0
  | n + 1 => sm f n + f n
theorem sm_left (f : Nat → Nat) : ∀ n, sm f (n + 1) = f 0 + sm (fun k => f (k + 1)) n
  | 0 => by simp [sm]
  | n + 1 => by rw [sm, sm_left f n, sm]; omega
theorem sm_add (f g : Nat → Nat) : ∀ n, sm (fun k => f k + g k) n = sm f n + sm g n
  | 0 => rfl
  | n + 1 => by simp only [sm]; rw [sm_add f g n]; omega
theorem sm_mul (c : Nat) (f : Nat → Nat) : ∀ n, sm (fun k => c * f k) n = c * sm f n
  | 0 => by simp [sm]
  | n + 1 => by simp only [sm]; rw [sm_mul c f n, Nat.mul_add]
theorem sm_dvd {p : Nat} {f : Nat → Nat} : ∀ {n}, (∀ k, k < n → p ∣ f k) → p ∣ sm f n
  | 0, _ => Nat.dvd_zero p
  | n + 1, h => Nat.dvd_add (sm_dvd fun k hk => h k (by omega)) (h n (by omega))

def ch : Nat → Nat → Nat
  | _, 0 => 1
  | 0, _ + 1 => 0
  | n + 1, k + 1 => ch n k + ch n (k + 1)
theorem ch_zero (n : Nat) : ch n 0 = 1 := by cases n <;> rfl
theorem ch_over : ∀ (n k : Nat), n < k → ch n k = 0
  | 0, 0, h => by omega
  | 0, k + 1, _ => rfl
  | n + 1, 0, h => by omega
  | n + 1, k + 1, h => by rw [ch, ch_over n k (by omega), ch_over n (k + 1) (by omega)]
theorem ch_self : ∀ n, ch n n = 1
  | 0 => rfl
  | n + 1 => by rw [ch, ch_self n, ch_over n (n + 1) (by omega)]
theorem ch_mul : ∀ (n k : Nat), (k + 1) * ch (n + 1) (k + 1) = (n + 1) * ch n k
  | 0, 0 => rfl
  | 0, k + 1 => by simp [ch]
  | n + 1, 0 => by
    have h := ch_mul n 0
    have e : ch (n + 1 + 1) (0 + 1) = ch (n + 1) 0 + ch (n + 1) (0 + 1) := rfl
    rw [e, ch_zero]
    rw [ch_zero] at h
    simp only [Nat.zero_add, Nat.one_mul, Nat.mul_one] at h ⊢
    omega
  | n + 1, k + 1 => by
    have h1 := ch_mul n k
    have h2 := ch_mul n (k + 1)
    have e1 : ch (n + 1 + 1) (k + 1 + 1) = ch (n + 1) (k + 1) + ch (n + 1) (k + 1 + 1) := rfl
    have e2 : ch (n + 1) (k + 1) = ch n k + ch n (k + 1) := rfl
    rw [e1, Nat.mul_add, h2, Nat.add_mul (k + 1) 1, h1, Nat.one_mul, e2, Nat.mul_add (n + 1 + 1), Nat.add_mul (n + 1) 1, Nat.add_mul (n + 1) 1]
    omega
theorem binom (a : Nat) : ∀ n, (a + 1) ^ n = sm (fun k => ch n k * a ^ k) (n + 1)
  | 0 => by simp [sm, ch]
  | n + 1 => by
    have e1 : sm (fun k => ch (n + 1) (k + 1) * a ^ (k + 1)) (n + 1) = a * sm (fun k => ch n k * a ^ k) (n + 1) + sm (fun k => ch n (k + 1) * a ^ (k + 1)) (n + 1) := by
      rw [← sm_mul, ← sm_add]
      congr 1
      funext k
      have : ch (n + 1) (k + 1) = ch n k + ch n (k + 1) := rfl
      rw [this, Nat.add_mul, Nat.pow_succ, ← Nat.mul_assoc, Nat.mul_comm (ch n k * a ^ k) a]
    have e2 : sm (fun k => ch n k * a ^ k) (n + 1 + 1) = 1 + sm (fun k => ch n (k + 1) * a ^ (k + 1)) (n + 1) := by
      rw [sm_left, ch_zero]; simp
    have e3 : sm (fun k => ch n k * a ^ k) (n + 1 + 1) = sm (fun k => ch n k * a ^ k) (n + 1) := by
      rw [sm, ch_over n (n + 1) (by omega)]; simp
    rw [sm_left, ch_zero, e1, Nat.pow_succ, binom a n, Nat.mul_add, Nat.mul_one, Nat.mul_comm _ a]
    rw [e3] at e2
    simp only [Nat.pow_zero, Nat.mul_one]
    omega

/-- all numbers between 0 and p have nothing in common with p -/
def Pr (p : Nat) : Prop := 1 < p ∧ ∀ k, 0 < k → k < p → Nat.Coprime p k

theorem Pr.ch {p k : Nat} (h : Pr p) (h1 : 0 < k) (h2 : k < p) : p ∣ ch p k := by
  obtain ⟨q, rfl⟩ : ∃ q, p = q + 1 := ⟨p - 1, by have := h.1; omega⟩
  obtain ⟨j, rfl⟩ : ∃ j, k = j + 1 := ⟨k - 1, by omega⟩
  exact (h.2 (j + 1) h1 h2).dvd_of_dvd_mul_left (ch_mul q j ▸ Nat.dvd_mul_right _ _)
theorem Pr.step {p : Nat} (h : Pr p) (a : Nat) : (a + 1) ^ p % p = (a ^ p + 1) % p := by
  obtain ⟨q, rfl⟩ : ∃ q, p = q + 1 := ⟨p - 1, by have := h.1; omega⟩
  rw [binom a (q + 1), sm, sm_left, ch_self, ch_zero]
  have : q + 1 ∣ sm (fun k => Go.Proofs.Ytcbfamgdkmfcgaa.ch (q + 1) (k + 1) * a ^ (k + 1)) q := sm_dvd fun k hk => Nat.dvd_trans (h.ch (by omega) (by omega)) (Nat.dvd_mul_right _ _)
  obtain ⟨c, hc⟩ := this
  rw [hc]
  simp only [Nat.pow_zero, Nat.mul_one, Nat.one_mul]
  rw [show 1 + (q + 1) * c + a ^ (q + 1) = a ^ (q + 1) + 1 + (q + 1) * c by omega, Nat.add_mul_mod_self_left]
theorem Pr.fermat {p : Nat} (h : Pr p) : ∀ a, a ^ p % p = a % p
  | 0 => by rw [Nat.zero_pow (by have := h.1; omega)]
  | a + 1 => by rw [h.step, Nat.add_mod, h.fermat a, ← Nat.add_mod]
theorem Pr.one {p a : Nat} (h : Pr p) (h1 : 0 < a) (h2 : a < p) : a ^ (p - 1) % p = 1 := by
  have hp := h.1
  have hf := h.fermat a
  have e : a ^ p = a * a ^ (p - 1) := by rw [show p = (p - 1) + 1 by omega, Nat.pow_succ, Nat.mul_comm]; simp
  have hpos : 0 < a ^ (p - 1) := Nat.pow_pos h1
  have hd : p ∣ a * (a ^ (p - 1) - 1) := by
    rw [Nat.mul_sub, Nat.mul_one, ← e]
    exact Nat.dvd_of_mod_eq_zero (Nat.sub_mod_eq_zero_of_mod_eq hf)
  obtain ⟨c, hc⟩ := (h.2 a h1 h2).dvd_of_dvd_mul_left hd
  rw [show a ^ (p - 1) = 1 + p * c by omega, Nat.add_mul_mod_self_left, Nat.mod_eq_of_lt hp]

/-- the product of the odd numbers 2 lo + 1 and on, 2 ^ n of them -/
def po : Nat → Nat → Nat
  | lo, 0 => 2 * lo + 1
  | lo, n + 1 => po lo n * po (lo + 2 ^ n) n
theorem po_dvd : ∀ (n lo i : Nat), lo ≤ i → i < lo + 2 ^ n → 2 * i + 1 ∣ po lo n
  | 0, lo, i, h1, h2 => by
    have : i = lo := by simp at h2; omega
    subst this; exact Nat.dvd_refl _
  | n + 1, lo, i, h1, h2 => by
    rw [po]
    rcases Nat.lt_or_ge i (lo + 2 ^ n) with h | h
    · exact Nat.dvd_trans (po_dvd n lo i h1 h) (Nat.dvd_mul_right _ _)
    · exact Nat.dvd_trans (po_dvd n _ i h (by rw [Nat.pow_succ] at h2; omega)) (Nat.dvd_mul_left _ _)
theorem Pr.of {p n : Nat} (h1 : 1 < p) (h2 : p % 2 = 1) (h3 : Nat.gcd p (po 1 n) = 1) (h4 : p < (2 * 2 ^ n + 2) * (2 * 2 ^ n + 2)) : Pr p := by
  have no : ∀ d e, d * e = p → 1 < d → d ≤ e → False := by
    intro d e hde hd hle
    have hodd : d % 2 = 1 := by
      rcases Nat.mod_two_eq_zero_or_one d with h | h
      · have : p % 2 = 0 := by rw [← hde, Nat.mul_mod, h]; simp
        omega
      · exact h
    have hlt : d < 2 * 2 ^ n + 2 := by
      rcases Nat.lt_or_ge d (2 * 2 ^ n + 2) with h | h
      · exact h
      · have : (2 * 2 ^ n + 2) * (2 * 2 ^ n + 2) ≤ d * e := Nat.mul_le_mul h (Nat.le_trans h hle)
        omega
    have hdv : d ∣ po 1 n := by
      have := po_dvd n 1 (d / 2) (by omega) (by omega)
      rwa [show 2 * (d / 2) + 1 = d by omega] at this
    have : d ∣ Nat.gcd p (po 1 n) := Nat.dvd_gcd ⟨e, hde.symm⟩ hdv
    rw [h3] at this
    have := Nat.le_of_dvd (by omega) this
    omega
  refine ⟨h1, fun k hk1 hk2 => ?_⟩
  obtain ⟨e, he⟩ := Nat.gcd_dvd_left p k
  have hg : 0 < Nat.gcd p k := Nat.gcd_pos_of_pos_right _ hk1
  have hle : Nat.gcd p k ≤ k := Nat.gcd_le_right _ hk1
  show Nat.gcd p k = 1
  rcases Nat.lt_or_ge (Nat.gcd p k) 2 with h | h
  · omega
  · exfalso
    rcases Nat.le_total (Nat.gcd p k) e with hc | hc
    · exact no _ e he.symm h hc
    · have he1 : 1 < e := by
        rcases Nat.lt_or_ge 1 e with h' | h'
        · exact h'
        · have : Nat.gcd p k * e ≤ Nat.gcd p k * 1 := Nat.mul_le_mul_left _ h'
          omega
      exact no e _ (by rw [Nat.mul_comm]; exact he.symm) he1 hc

theorem gcds : (Nat.gcd 1000003 (po 1 15) == 1 && Nat.gcd 2147483549 (po 1 15) == 1 && Nat.gcd 2147483563 (po 1 15) == 1 && Nat.gcd 2147483579 (po 1 15) == 1 && Nat.gcd 2147483587 (po 1 15) == 1 && Nat.gcd 2147483629 (po 1 15) == 1 && Nat.gcd 2147483647 (po 1 15) == 1) = true := by kernel_rfl
theorem gcds2 : (Nat.gcd 65521 (po 1 8) == 1 && Nat.gcd 65537 (po 1 8) == 1) = true := by kernel_rfl
theorem pr2 : Pr 2 := by
  refine ⟨by omega, fun k h1 h2 => ?_⟩
  obtain rfl : k = 1 := by omega
  decide
theorem pr3 : Pr 3 := by
  refine ⟨by omega, fun k h1 h2 => ?_⟩
  have : k = 1 ∨ k = 2 := by omega
  rcases this with rfl | rfl <;> decide
theorem prs : ∀ i, i < 15 → Pr ([2, 3, 5, 7, 11, 101, 65521, 65537, 1000003, 2147483549, 2147483563, 2147483579, 2147483587, 2147483629, 2147483647].getD i 0) := by
  have g := gcds
  have g2 := gcds2
  simp only [Bool.and_eq_true, beq_iff_eq] at g g2
  obtain ⟨⟨⟨⟨⟨⟨a1, a2⟩, a3⟩, a4⟩, a5⟩, a6⟩, a7⟩ := g
  obtain ⟨b1, b2⟩ := g2
  intro i hi
  match i with
  | 0 => exact pr2
  | 1 => exact pr3
  | 2 => exact Pr.of (n := 0) (by decide) (by decide) (by decide) (by decide)
  | 3 => exact Pr.of (n := 0) (by decide) (by decide) (by decide) (by decide)
  | 4 => exact Pr.of (n := 1) (by decide) (by decide) (by decide) (by decide)
  | 5 => exact Pr.of (n := 3) (by decide) (by decide) (by decide) (by decide)
  | 6 => exact Pr.of (n := 8) (by decide) (by decide) b1 (by decide)
  | 7 => exact Pr.of (n := 8) (by decide) (by decide) b2 (by decide)
  | 8 => exact Pr.of (n := 15) (by decide) (by decide) a1 (by decide)
  | 9 => exact Pr.of (n := 15) (by decide) (by decide) a2 (by decide)
  | 10 => exact Pr.of (n := 15) (by decide) (by decide) a3 (by decide)
  | 11 => exact Pr.of (n := 15) (by decide) (by decide) a4 (by decide)
  | 12 => exact Pr.of (n := 15) (by decide) (by decide) a5 (by decide)
  | 13 => exact Pr.of (n := 15) (by decide) (by decide) a6 (by decide)
  | 14 => exact Pr.of (n := 15) (by decide) (by decide) a7 (by decide)
  | n + 15 => omega
end Go.Proofs.Ytcbfamgdkmfcgaa

/- Numbers: prime factors, orders, powers that the kernel reckons quickly. -/
namespace Go.Proofs.Ytcbfamgdkmfcgaa

theorem of_blt {a b : Nat} (h : Nat.blt a b = true) : a < b := Nat.le_of_ble_eq_true h
theorem beq_of {a b : Nat} (h : a = b) : Nat.beq a b = true := by subst h; exact Nat.beq_refl a
theorem Pr.two {p : Nat} (h : Pr p) : 2 ≤ p := h.1
theorem Pr.div {p d : Nat} (h : Pr p) (hd : d ∣ p) : d = 1 ∨ d = p := by
  obtain ⟨h1, h2⟩ := h
  have hle := Nat.le_of_dvd (by omega) hd
  rcases Nat.lt_or_ge d p with hlt | hge
  · left
    have h0 : 0 < d := Nat.pos_of_dvd_of_pos hd (by omega)
    have := h2 d h0 hlt
    unfold Nat.Coprime at this
    rw [Nat.gcd_comm, Nat.gcd_eq_left hd] at this
    exact this
  · right; omega
theorem Pr.mk' {p : Nat} (h1 : 2 ≤ p) (h : ∀ d, d ∣ p → d = 1 ∨ d = p) : Pr p := by
  refine ⟨h1, fun k hk hlt => ?_⟩
  rcases h _ (Nat.gcd_dvd_left p k) with e | e
  · exact e
  · have := Nat.le_of_dvd hk (Nat.gcd_dvd_right p k); omega
theorem Pr.coprime {p a : Nat} (h : Pr p) (hn : ¬ p ∣ a) : Nat.Coprime p a := by
  rcases h.div (Nat.gcd_dvd_left p a) with e | e
  · exact e
  · exact absurd (e ▸ Nat.gcd_dvd_right p a) hn
theorem Pr.dvd_mul {p a b : Nat} (h : Pr p) (hd : p ∣ a * b) : p ∣ a ∨ p ∣ b := by
  by_cases ha : p ∣ a
  · exact .inl ha
  · exact .inr ((h.coprime ha).dvd_of_dvd_mul_left hd)
theorem Pr.dvd_pow {p a n : Nat} (h : Pr p) (hd : p ∣ a ^ n) : p ∣ a := by
  induction n with
  | zero => rw [Nat.pow_zero] at hd; have := Nat.le_of_dvd (by omega) hd; have := h.1; omega
  | succ n ih => rw [Nat.pow_succ] at hd; exact (h.dvd_mul hd).elim ih id
theorem exists_pr (n : Nat) : 2 ≤ n → ∃ p, Pr p ∧ p ∣ n := by
  induction n using Nat.strongRecOn with
  | _ n ih =>
    intro h2
    by_cases h : ∃ d, d ∣ n ∧ d ≠ 1 ∧ d ≠ n
    · obtain ⟨d, hd, h1, hn⟩ := h
      have h0 := Nat.pos_of_dvd_of_pos hd (by omega)
      have hle := Nat.le_of_dvd (by omega) hd
      obtain ⟨p, hp, hpd⟩ := ih d (by omega) (by omega)
      exact ⟨p, hp, Nat.dvd_trans hpd hd⟩
    · exact ⟨n, Pr.mk' h2 fun d hd => by
        by_cases h1 : d = 1
        · exact .inl h1
        · by_cases hn : d = n
          · exact .inr hn
          · exact absurd ⟨d, hd, h1, hn⟩ h, Nat.dvd_refl _⟩
theorem exists_max (n : Nat) : 2 ≤ n → ∃ p, Pr p ∧ p ∣ n ∧ ∀ q, Pr q → q ∣ n → q ≤ p := by
  intro h2
  have key : ∀ k, (∃ p, Pr p ∧ p ∣ n ∧ n - k ≤ p) → ∃ p, Pr p ∧ p ∣ n ∧ ∀ q, Pr q → q ∣ n → q ≤ p := by
    intro k
    induction k with
    | zero =>
      rintro ⟨p, hp, hd, hle⟩
      exact ⟨p, hp, hd, fun q _ hq => by have := Nat.le_of_dvd (by omega) hq; omega⟩
    | succ k ih =>
      rintro ⟨p, hp, hd, hle⟩
      by_cases h : ∃ q, Pr q ∧ q ∣ n ∧ n - k ≤ q
      · exact ih h
      · refine ⟨p, hp, hd, fun q hq hqd => Nat.le_of_not_lt fun hlt => h ⟨q, hq, hqd, by omega⟩⟩
  obtain ⟨p, hp, hd⟩ := exists_pr n h2
  exact key n ⟨p, hp, hd, by omega⟩

/-! ### exponents -/
/-- b to the e is 1 modulo m -/
def U (m b e : Nat) : Prop := b ^ e % m = 1 % m
theorem U.mul {m b x : Nat} (h : U m b x) (k : Nat) : U m b (x * k) := by
  unfold U at *
  rw [Nat.pow_mul, Nat.pow_mod, h, ← Nat.pow_mod, Nat.one_pow]
theorem U.add {m b x y : Nat} (hx : U m b x) (hy : U m b (x + y)) : U m b y := by
  unfold U at *
  rw [Nat.pow_add, Nat.mul_mod, hx, ← Nat.mul_mod, Nat.one_mul] at hy
  exact hy
theorem U.mod {m b x y : Nat} (hx : U m b x) (hy : U m b y) : U m b (y % x) := by
  have h := Nat.div_add_mod y x
  exact (hx.mul (y / x)).add (by rw [h]; exact hy)
theorem U.gcd {m b : Nat} (x y : Nat) : U m b x → U m b y → U m b (Nat.gcd x y) := by
  induction x, y using Nat.gcd.induction with
  | H0 y => intro _ hy; rw [Nat.gcd_zero_left]; exact hy
  | H1 x y hx ih => intro h1 h2; rw [Nat.gcd_rec]; exact ih (h1.mod h2) h1
theorem U.down {m d b e : Nat} (h : U m b e) (hd : d ∣ m) : U d b e := by
  unfold U at *
  have := congrArg (· % d) h
  simp only [Nat.mod_mod_of_dvd _ hd] at this
  exact this
/-- the four bases -/
def U4 (m e : Nat) : Prop := U m 2 e ∧ U m 3 e ∧ U m 5 e ∧ U m 7 e
theorem U4.gcd {m x y : Nat} (h : U4 m x) (k : U4 m y) : U4 m (Nat.gcd x y) := ⟨h.1.gcd _ _ k.1, h.2.1.gcd _ _ k.2.1, h.2.2.1.gcd _ _ k.2.2.1, h.2.2.2.gcd _ _ k.2.2.2⟩
theorem U4.mul {m x : Nat} (h : U4 m x) (k : Nat) : U4 m (x * k) := ⟨h.1.mul k, h.2.1.mul k, h.2.2.1.mul k, h.2.2.2.mul k⟩
theorem U4.add {m x y : Nat} (h : U4 m x) (k : U4 m (x + y)) : U4 m y := ⟨h.1.add k.1, h.2.1.add k.2.1, h.2.2.1.add k.2.2.1, h.2.2.2.add k.2.2.2⟩
theorem U4.down {m d e : Nat} (h : U4 m e) (hd : d ∣ m) : U4 d e := ⟨h.1.down hd, h.2.1.down hd, h.2.2.1.down hd, h.2.2.2.down hd⟩
theorem Pr.U4 {p : Nat} (h : Pr p) (h7 : 7 < p) : Go.Proofs.Ytcbfamgdkmfcgaa.U4 p (p - 1) := by
  have key : ∀ b, 0 < b → b < p → U p b (p - 1) := fun b h1 h2 => by
    unfold U; rw [h.one h1 h2, Nat.mod_eq_of_lt h.1]
  exact ⟨key 2 (by omega) (by omega), key 3 (by omega) (by omega), key 5 (by omega) (by omega), key 7 (by omega) (by omega)⟩

/-! ### powers by chunks -/
def st (b n x c : Nat) : Nat := Nat.mod (Nat.mul (Nat.pow x 256) (Nat.pow b c)) n
def mp (b n e : Nat) : Nat := st b n (st b n (st b n (Nat.mod (Nat.pow b (Nat.div e 16777216)) n) (Nat.mod (Nat.div e 65536) 256)) (Nat.mod (Nat.div e 256) 256)) (Nat.mod e 256)
theorem st_eq (b n e c : Nat) : st b n (b ^ e % n) c = b ^ (e * 256 + c) % n := by
  show (b ^ e % n) ^ 256 * b ^ c % n = _
  rw [Nat.mul_mod, ← Nat.pow_mod, ← Nat.mul_mod, ← Nat.pow_mul, ← Nat.pow_add]
theorem mp_eq (b n e : Nat) : mp b n e = b ^ e % n := by
  show st b n (st b n (st b n (b ^ (e / 16777216) % n) (e / 65536 % 256)) (e / 256 % 256)) (e % 256) = _
  rw [st_eq, st_eq, st_eq]
  congr 2; omega
/-- U, as the kernel reckons it -/
def uB (m b e : Nat) : Bool := Nat.beq (mp b m e) (Nat.mod 1 m)
theorem uB_iff {m b e : Nat} (_h : e < 68719476736) : uB m b e = true ↔ U m b e := by
  unfold uB U
  rw [mp_eq, Nat.beq_eq]; rfl
def u4B (m e : Nat) : Bool := uB m 2 e && (uB m 3 e && (uB m 5 e && uB m 7 e))
theorem u4B_iff {m e : Nat} (h : e < 68719476736) : u4B m e = true ↔ U4 m e := by
  unfold u4B U4
  simp only [Bool.and_eq_true, uB_iff h]

/-! ### the prime factors of a number, the exponents that the four bases want -/
def pf : Nat → Nat → Nat → Option (List Nat)
  | 0, _, _ => none
  | f + 1, d, x => if Nat.blt x (Nat.mul d d) then some [x] else if Nat.beq (Nat.mod x d) 0 then (pf f d (Nat.div x d)).map (d :: ·) else pf f (Nat.succ d) x
theorem pf_all : ∀ (f d x : Nat) (rs : List Nat), 2 ≤ d → pf f d x = some rs → (∀ r, Pr r → r ∣ x → d ≤ r) → ∀ q, Pr q → q ∣ x → 0 < x → q ∈ rs
  | 0, _, _, _, _, h, _ => by simp [pf] at h
  | f + 1, d, x, rs, h2, h, hd => by
    intro q hq hqx hx
    unfold pf at h
    split at h
    · rename_i hlt
      have hlt : x < d * d := of_blt hlt
      simp only [Option.some.injEq] at h
      subst h
      obtain ⟨k, rfl⟩ := hqx
      have hq2 := hq.two
      have hdq := hd q hq ⟨k, rfl⟩
      rcases Nat.lt_or_ge k 2 with hk | hk
      · have : k = 1 := by
          rcases Nat.eq_zero_or_pos k with e | e
          · subst e; omega
          · omega
        subst this; simp
      · obtain ⟨r, hr, hrk⟩ := exists_pr k hk
        have h1 := hd r hr (Nat.dvd_trans hrk ⟨q, by rw [Nat.mul_comm]⟩)
        have h3 := Nat.le_of_dvd (by omega) hrk
        have := Nat.mul_le_mul hdq (Nat.le_trans h1 h3)
        omega
    · split at h
      · rename_i hm
        have hm : x % d = 0 := Nat.eq_of_beq_eq_true hm
        have hdx := Nat.dvd_of_mod_eq_zero hm
        obtain ⟨k, rfl⟩ := hdx
        have hk : Nat.div (d * k) d = k := Nat.mul_div_cancel_left k (by omega)
        rw [hk] at h
        cases hp : pf f d k with
        | none => rw [hp] at h; cases h
        | some l =>
          rw [hp] at h
          simp only [Option.map_some, Option.some.injEq] at h
          subst h
          have hk0 : 0 < k := by
            rcases Nat.eq_zero_or_pos k with e | e
            · subst e; omega
            · exact e
          rcases hq.dvd_mul hqx with h1 | h1
          · have h3 := Nat.le_of_dvd (by omega) h1
            have h4 := hd q hq hqx
            have : q = d := by omega
            subst this; simp
          · exact List.mem_cons_of_mem _ (pf_all f d k l h2 hp (fun r hr hrk => hd r hr (Nat.dvd_trans hrk ⟨d, by rw [Nat.mul_comm]⟩)) q hq h1 hk0)
      · rename_i hm
        refine pf_all f (d + 1) x rs (by omega) h (fun r hr hrx => ?_) q hq hqx hx
        have h1 := hd r hr hrx
        rcases Nat.eq_or_lt_of_le h1 with e | e
        · subst e
          exact absurd (beq_of (Nat.mod_eq_zero_of_dvd hrx) : Nat.beq (Nat.mod x d) 0 = true) hm
        · omega

/-- L is the least exponent: no greater divisor will do -/
def ordBW (m L : Nat) : List Nat → Bool
  | [] => true
  | r :: t => (!(Nat.beq (Nat.mod L r) 0) || !(u4B m (Nat.div L r))) && ordBW m L t
theorem ordB_all {m L : Nat} : ∀ {rs : List Nat}, ordBW m L rs = true → ∀ r ∈ rs, L % r = 0 → u4B m (L / r) = false
  | [], _, r, hr => by simp at hr
  | s :: t, h, r, hr => by
    simp only [ordBW, Bool.and_eq_true] at h
    intro h0
    rcases List.mem_cons.1 hr with rfl | hr
    · have h1 := h.1
      rw [show Nat.beq (Nat.mod L r) 0 = true from beq_of h0] at h1
      have h2 : u4B m (Nat.div L r) = false := by simpa using h1
      exact h2
    · exact ordB_all h.2 r hr h0
theorem ord_dvd {m L e : Nat} {rs : List Nat} (hL : U4 m L) (h0 : 0 < L) (hb : L < 68719476736) (hr : ∀ q, Pr q → q ∣ L → q ∈ rs) (ho : ordBW m L rs = true) (he : U4 m e) : L ∣ e := by
  have hd := hL.gcd he
  have hdL := Nat.gcd_dvd_left L e
  by_cases h : Nat.gcd L e = L
  · rw [← h]; exact Nat.gcd_dvd_right L e
  · exfalso
    obtain ⟨k, hk⟩ := hdL
    have hk2 : 2 ≤ k := by
      rcases Nat.lt_or_ge k 2 with hlt | hge
      · have : k = 0 ∨ k = 1 := by omega
        rcases this with rfl | rfl
        · omega
        · omega
      · exact hge
    obtain ⟨q, hq, j, hj⟩ := exists_pr k hk2
    have hqL : q ∣ L := ⟨Nat.gcd L e * j, by rw [hk, hj]; simp only [← hk, ← hj]; conv => lhs; rw [hk, hj]
                                             ac_rfl⟩
    have hmem := hr q hq hqL
    have hdiv : L / q = Nat.gcd L e * j := by
      have : L = q * (Nat.gcd L e * j) := by conv => lhs; rw [hk, hj]
                                             ac_rfl
      conv => lhs; rw [this]
      exact Nat.mul_div_cancel_left _ (by have := hq.1; omega)
    have hu := hd.mul j
    rw [← hdiv] at hu
    have := ordB_all ho q hmem (Nat.mod_eq_zero_of_dvd hqL)
    rw [(u4B_iff (Nat.lt_of_le_of_lt (Nat.div_le_self _ _) hb)).2 hu] at this
    cases this
end Go.Proofs.Ytcbfamgdkmfcgaa

/- Composite numbers below 2^31 do not pass the strong tests: the search, and that it finds all. -/
namespace Go.Proofs.Ytcbfamgdkmfcgaa

/-! ### the program's test, as the kernel reckons it -/
def spK (n b o t : Nat) : Bool := mp b n o == 1 || mp b n o == n - 1 || sqLoop n (t - 1) (mp b n o)
def basesK (n o t : Nat) : List Nat → Bool
  | [] => true
  | b :: r => if n = b then true else if spK n b o t then basesK n o t r else false
def primeK (n : Nat) : Bool := if n < 2 ∨ 2147483648 ≤ n then false else if n % 2 = 0 then n == 2 else basesK n (oddTwos 64 (n - 1)).1 (oddTwos 64 (n - 1)).2 [2, 3, 5, 7]
theorem oddTwos_leW : ∀ f m, (oddTwos f m).1 ≤ m
  | 0, m => Nat.le_refl m
  | f + 1, m => by
    unfold oddTwos
    split
    · exact Nat.le_trans (oddTwos_leW f (m / 2)) (Nat.div_le_self _ _)
    · exact Nat.le_refl m
theorem basesK_eq {n o t : Nat} (h : o < 68719476736) : ∀ l, basesK n o t l = basesB n o t l
  | [] => rfl
  | b :: r => by
    have e : spK n b o t = spB n b o t := by
      unfold spK spB pm
      rw [mp_eq]
    simp only [basesK, basesB, e, basesK_eq h r]
theorem primeK_eq (n : Nat) : primeK n = primeB n := by
  unfold primeK primeB
  split
  · rfl
  · rename_i h
    split
    · rfl
    · exact basesK_eq (by have := oddTwos_leW 64 (n - 1); omega) _

/-- a number that is told not to be prime -/
def okc (n : Nat) : Bool := Nat.ble 2147483648 n || (Nat.ble n 1500 || (!(uB n 2 (Nat.pred n)) || !(primeK n)))
/-- the numbers that are looked for -/
structure Psp (n : Nat) : Prop where
  lt : n < 2147483648
  big : 1500 < n
  fer : U4 n (n - 1)
theorem okc_sound {n : Nat} (h : okc n = true) (hn : Psp n) : primeB n = false := by
  unfold okc at h
  have h1 : Nat.ble 2147483648 n = false := by
    rw [Bool.eq_false_iff]; intro e; have := Nat.le_of_ble_eq_true e; have := hn.lt; omega
  have h2 : Nat.ble n 1500 = false := by
    rw [Bool.eq_false_iff]; intro e; have := Nat.le_of_ble_eq_true e; have := hn.big; omega
  have h3 : uB n 2 (Nat.pred n) = true := (uB_iff (by have := hn.lt; show n - 1 < _; omega)).2 hn.fer.1
  rw [h1, h2, h3, primeK_eq] at h
  simpa using h

/-! ### all numbers r + j L, times A -/
noncomputable def cand (A L r c : Nat) : Bool := Nat.rec (motive := fun _ => Bool) (okc (Nat.mul A r)) (fun j ih => bif okc (Nat.mul A (Nat.add r (Nat.mul (Nat.succ j) L))) then ih else false) c
theorem cand_zero (A L r : Nat) : cand A L r 0 = okc (Nat.mul A r) := rfl
theorem cand_succ (A L r j : Nat) : cand A L r (j + 1) = (okc (Nat.mul A (Nat.add r (Nat.mul (Nat.succ j) L))) && cand A L r j) := by
  show (bif okc _ then cand A L r j else false) = _
  cases okc (Nat.mul A (Nat.add r (Nat.mul (Nat.succ j) L))) <;> rfl
theorem cand_all {A L r : Nat} : ∀ {c j : Nat}, cand A L r c = true → j ≤ c → okc (A * (r + j * L)) = true
  | 0, j, h, hj => by
    have : j = 0 := by omega
    subst this
    rw [Nat.zero_mul, Nat.add_zero]; exact h
  | c + 1, j, h, hj => by
    simp only [cand_succ, Bool.and_eq_true] at h
    rcases Nat.eq_or_lt_of_le hj with e | e
    · subst e; exact h.1
    · exact cand_all h.2 (by omega)
noncomputable def inv (f : Nat) : Nat → Nat → Nat := Nat.rec (motive := fun _ => Nat → Nat → Nat) (fun _ _ => 0) (fun _ ih a m => bif Nat.ble a 1 then 1 else Nat.div (Nat.succ (Nat.mul m (Nat.sub a (ih (Nat.mod m a) a)))) a) f
noncomputable def leafR (A L r : Nat) : Bool := Nat.beq (Nat.mod (Nat.mul A r) L) (Nat.mod 1 L) && (Nat.blt r L && cand A L r (Nat.div 2147483647 (Nat.mul A L)))
theorem leafR_sound {A L r n m : Nat} (h : leafR A L r = true) (hg : Nat.gcd A L = 1) (hn : n = A * m) (hp : Psp n) (hL : L ∣ n - 1) (hA : 0 < A) (h0 : 0 < L) : primeB n = false := by
  simp only [leafR, Bool.and_eq_true] at h
  obtain ⟨h1, h2, h3⟩ := h
  have h1 : A * r % L = 1 % L := Nat.eq_of_beq_eq_true h1
  have h2 : r < L := of_blt h2
  have hb := hp.big
  have hm1 : A * m % L = 1 % L := by
    obtain ⟨k, hk⟩ := hL
    rw [← hn, show n = 1 + L * k by omega, Nat.add_mul_mod_self_left]
  have hco : Nat.Coprime L A := by unfold Nat.Coprime; rw [Nat.gcd_comm]; exact hg
  have hmod : m % L = r := by
    have e : A * m % L = A * r % L := by rw [hm1, h1]
    rcases Nat.le_total m r with hle | hle
    · have : L ∣ A * (r - m) := by
        rw [Nat.mul_sub]
        exact Nat.dvd_of_mod_eq_zero (Nat.sub_mod_eq_zero_of_mod_eq e.symm)
      have := hco.dvd_of_dvd_mul_left this
      rcases Nat.eq_zero_or_pos (r - m) with e0 | e0
      · have : m = r := by omega
        rw [this]; exact Nat.mod_eq_of_lt h2
      · have := Nat.le_of_dvd e0 this; omega
    · have : L ∣ A * (m - r) := by
        rw [Nat.mul_sub]
        exact Nat.dvd_of_mod_eq_zero (Nat.sub_mod_eq_zero_of_mod_eq e)
      obtain ⟨j, hj⟩ := hco.dvd_of_dvd_mul_left this
      rw [show m = r + L * j by omega, Nat.add_mul_mod_self_left]
      exact Nat.mod_eq_of_lt h2
  have hmm : m = r + (m / L) * L := by have := Nat.div_add_mod m L; rw [hmod, Nat.mul_comm] at this; omega
  have hj : m / L ≤ 2147483647 / (A * L) := by
    rw [Nat.le_div_iff_mul_le (Nat.mul_pos hA h0)]
    have h4 : m / L * L ≤ m := Nat.div_mul_le_self m L
    have h5 := Nat.mul_le_mul_left A h4
    have e : m / L * (A * L) = A * (m / L * L) := by ac_rfl
    have := hp.lt
    rw [e]; omega
  have := cand_all h3 hj
  rw [← hmm, ← hn] at this
  exact okc_sound this hp
def brl (nd : Nat → Nat → List (Nat × Nat) → Bool) (A L : Nat) : List (Nat × Nat) → Bool
  | [] => true
  | (q, l) :: t => (Nat.ble 2147483648 (Nat.mul A q) || nd (Nat.mul A q) (Nat.div (Nat.mul L l) (Nat.gcd L l)) t) && brl nd A L t
theorem brl_all {nd : Nat → Nat → List (Nat × Nat) → Bool} {A L q l : Nat} {t2 : List (Nat × Nat)} : ∀ {t1 : List (Nat × Nat)}, brl nd A L (t1 ++ (q, l) :: t2) = true → A * q < 2147483648 → nd (A * q) (Nat.lcm L l) t2 = true
  | [], h, hq => by
    simp only [List.nil_append, brl, Bool.and_eq_true, Bool.or_eq_true] at h
    rcases h.1 with e | e
    · have := Nat.le_of_ble_eq_true e
      exact absurd this (Nat.not_le.2 hq)
    · exact e
  | (a, b) :: t1, h, hq => by
    simp only [List.cons_append, brl, Bool.and_eq_true] at h
    exact brl_all h.2 hq
noncomputable def node : Nat → Nat → Nat → List (Nat × Nat) → Bool
  | 0, _, _, _ => false
  | f + 1, A, L, t => !(Nat.beq (Nat.gcd A L) 1) || (bif Nat.ble (Nat.div 2147483647 (Nat.mul A L)) 1000 then leafR A L (inv 60 (Nat.mod A L) L) else okc A && brl (node f) A L t)
/-- the list descends -/
def Desc (t : List (Nat × Nat)) : Prop := t.Pairwise fun a b => b.1 < a.1
theorem node_sound {n : Nat} (hp : Psp n) (hsq : ∀ q, Pr q → q ∣ n → ¬ q * q ∣ n) : ∀ (f A L : Nat) (t : List (Nat × Nat)), node f A L t = true → Desc t → (∀ q l, (q, l) ∈ t → 0 < l ∧ (q ∣ n → l ∣ n - 1)) →
    ∀ m, n = A * m → L ∣ n - 1 → 0 < A → 0 < L → (∀ q, Pr q → q ∣ m → ∃ l, (q, l) ∈ t) → primeB n = false
  | 0, _, _, _, h, _, _, _, _, _, _, _, _ => by simp [node] at h
  | f + 1, A, L, t, h, hd, hl, m, hn, hL, hA, h0, hm => by
    have hb := hp.big
    have hg : Nat.gcd A L = 1 := by
      by_cases h2 : 2 ≤ Nat.gcd A L
      · exfalso
        obtain ⟨q, hq, hqg⟩ := exists_pr _ h2
        have h3 : q ∣ n := Nat.dvd_trans (Nat.dvd_trans hqg (Nat.gcd_dvd_left A L)) ⟨m, hn⟩
        have h4 : q ∣ n - 1 := Nat.dvd_trans (Nat.dvd_trans hqg (Nat.gcd_dvd_right A L)) hL
        have h5 := (Nat.dvd_sub h3 h4)
        rw [show n - (n - 1) = 1 by omega] at h5
        have := Nat.le_of_dvd (by omega) h5
        have := hq.1; omega
      · have : 0 < Nat.gcd A L := Nat.gcd_pos_of_pos_left _ hA
        omega
    unfold node at h
    rw [show Nat.beq (Nat.gcd A L) 1 = true from beq_of hg] at h
    simp only [Bool.not_true, Bool.false_or, Bool.cond_eq_ite] at h
    split at h
    · exact leafR_sound h hg hn hp hL hA h0
    · simp only [Bool.and_eq_true] at h
      rcases Nat.lt_or_ge m 2 with hm2 | hm2
      · have : m = 1 := by
          rcases Nat.eq_zero_or_pos m with e | e
          · subst e; omega
          · omega
        subst this
        rw [Nat.mul_one] at hn
        subst hn
        exact okc_sound h.1 hp
      · obtain ⟨q, hq, ⟨j, hj⟩, hmax⟩ := exists_max m hm2
        obtain ⟨l, hlm⟩ := hm q hq ⟨j, hj⟩
        obtain ⟨t1, t2, rfl⟩ := List.append_of_mem hlm
        have hqn : q ∣ n := ⟨A * j, by rw [hn, hj]; ac_rfl⟩
        obtain ⟨hl0, hl1⟩ := hl q l hlm
        have hAq : A * q < 2147483648 := by
          have hjp : 0 < j := by
            rcases Nat.eq_zero_or_pos j with e | e
            · subst e; omega
            · exact e
          have := Nat.mul_le_mul_left (A * q) hjp
          have e : n = A * q * j := by rw [hn, hj]; ac_rfl
          have := hp.lt; omega
        have hd2 := List.pairwise_append.1 hd
        have hd3 := List.pairwise_cons.1 hd2.2.1
        refine node_sound hp hsq f (A * q) (Nat.lcm L l) t2 (brl_all h.2 hAq) hd3.2 (fun a b hab => hl a b (List.mem_append.2 (.inr (List.mem_cons_of_mem _ hab)))) j (by rw [hn, hj]; ac_rfl) (Nat.lcm_dvd hL (hl1 hqn)) (Nat.mul_pos hA (by have := hq.1; omega)) (Nat.lcm_pos h0 hl0) ?_
        intro r hr hrj
        obtain ⟨b, hb⟩ := hm r hr (hj ▸ Nat.dvd_trans hrj ⟨q, by rw [Nat.mul_comm]⟩)
        have hle := hmax r hr (hj ▸ Nat.dvd_trans hrj ⟨q, by rw [Nat.mul_comm]⟩)
        have hne : r ≠ q := by
          intro e; subst e
          obtain ⟨i, hi⟩ := hrj
          exact hsq r hr hqn ⟨A * i, by rw [hn, hj, hi]; ac_rfl⟩
        rcases List.mem_append.1 hb with h5 | h5
        · have := hd2.2.2 _ h5 _ (List.mem_cons_self ..)
          simp at this; omega
        · rcases List.mem_cons.1 h5 with h6 | h6
          · exact absurd (congrArg Prod.fst h6) hne
          · exact ⟨b, h6⟩

/-! ### one great prime factor up to 65536 -/
def strip (m r : Nat) : Nat → Nat → Nat
  | 0, e => e
  | f + 1, e => bif Nat.beq (Nat.mod e r) 0 && u4B m (Nat.div e r) then strip m r f (Nat.div e r) else e
def lam (m : Nat) : Nat → List Nat → Nat
  | e, [] => e
  | e, r :: t => lam m (strip m r 20 e) t
noncomputable def cnd (m L c : Nat) : Bool := Nat.rec (motive := fun _ => Bool) true (fun j ih => bif okc (Nat.mul m (Nat.succ (Nat.mul (Nat.succ j) L))) then ih else false) c
theorem cnd_succ (m L j : Nat) : cnd m L (j + 1) = (okc (Nat.mul m (Nat.succ (Nat.mul (Nat.succ j) L))) && cnd m L j) := by
  show (bif okc _ then cnd m L j else false) = _
  cases okc (Nat.mul m (Nat.succ (Nat.mul (Nat.succ j) L))) <;> rfl
theorem cnd_all {m L : Nat} : ∀ {c j : Nat}, cnd m L c = true → 1 ≤ j → j ≤ c → okc (m * (1 + j * L)) = true
  | 0, j, _, h1, hj => by omega
  | c + 1, j, h, h1, hj => by
    simp only [cnd_succ, Bool.and_eq_true] at h
    rcases Nat.eq_or_lt_of_le hj with e | e
    · subst e; rw [Nat.add_comm 1]; exact h.1
    · exact cnd_all h.2 h1 (by omega)
noncomputable def chkL (m : Nat) (rs : List Nat) (L : Nat) : Bool := Nat.blt 0 L && (Nat.beq (Nat.mod (Nat.pred m) L) 0 && (u4B m L && (ordBW m L rs && cnd m L (Nat.div 2147483647 (Nat.mul m L)))))
noncomputable def chkP (m : Nat) : Bool := match pf 300 2 (Nat.pred m) with
  | none => false
  | some rs => chkL m rs (lam m (Nat.pred m) rs)
theorem chkP_sound {p k n : Nat} (h : chkP p = true) (hP : Pr p) (h7 : 7 < p) (hb : p < 2147483648) (hn : n = p * k) (hk : 2 ≤ k) (hp : Psp n) : primeB n = false := by
  unfold chkP at h
  split at h
  · cases h
  · rename_i rs hrs
    generalize lam p (Nat.pred p) rs = L at h
    simp only [chkL, Bool.and_eq_true] at h
    obtain ⟨h1, h2, h3, h4, h5⟩ := h
    have h1 : 0 < L := of_blt h1
    have h2 : L ∣ p - 1 := Nat.dvd_of_mod_eq_zero (Nat.eq_of_beq_eq_true h2)
    have hLb : L < 68719476736 := by have := Nat.le_of_dvd (by omega) h2; omega
    have h3 := (u4B_iff hLb).1 h3
    have hall := pf_all 300 2 (p - 1) rs (Nat.le_refl 2) hrs (fun r hr _ => hr.1)
    have hU := hp.fer.down ⟨k, hn⟩
    have hd := ord_dvd h3 h1 hLb (fun q hq hqL => hall q hq (Nat.dvd_trans hqL h2) (by omega)) h4 hU
    have hdk : L ∣ k - 1 := by
      have e : n - 1 = k * (p - 1) + (k - 1) := by
        rw [hn, Nat.mul_sub, Nat.mul_one, Nat.mul_comm p k]
        have : k ≤ k * p := Nat.le_mul_of_pos_right k (by omega)
        omega
      rw [e] at hd
      exact (Nat.dvd_add_right (Nat.dvd_trans h2 ⟨k, by rw [Nat.mul_comm]⟩)).1 hd
    obtain ⟨j, hj⟩ := hdk
    have hkk : k = 1 + j * L := by rw [Nat.mul_comm j]; omega
    have hj1 : 1 ≤ j := by
      rcases Nat.eq_zero_or_pos j with e | e
      · subst e; omega
      · exact e
    have hjc : j ≤ 2147483647 / (p * L) := by
      rw [Nat.le_div_iff_mul_le (Nat.mul_pos (by omega) h1)]
      have e : n = p + j * (p * L) := by rw [hn, hkk, Nat.mul_add, Nat.mul_one]; congr 1; ac_rfl
      have := hp.lt; omega
    have := cnd_all h5 hj1 hjc
    rw [← hkk, ← hn] at this
    exact okc_sound this hp

/-! ### a prime factor above 65536 -/
/-- the product of 2^f numbers from lo on -/
def rp : Nat → Nat → Nat
  | 0, lo => lo
  | f + 1, lo => Nat.mul (rp f lo) (rp f (Nat.add lo (Nat.pow 2 f)))
theorem rp_lt {p : Nat} (hp : Pr p) : ∀ f lo, 0 < lo → p ∣ rp f lo → p < lo + 2 ^ f
  | 0, lo, h0, h => by have := Nat.le_of_dvd h0 h; rw [Nat.pow_zero]; omega
  | f + 1, lo, h0, h => by
    have h2 : 2 ^ (f + 1) = 2 ^ f + 2 ^ f := by rw [Nat.pow_succ]; omega
    have hpow : 0 < 2 ^ f := Nat.pow_pos (by omega)
    rcases hp.dvd_mul (show p ∣ rp f lo * rp f (lo + 2 ^ f) from h) with e | e
    · have := rp_lt hp f lo h0 e; omega
    · have := rp_lt hp f (lo + 2 ^ f) (by omega) e; omega
def WW : Nat := rp 16 1
def gk (k : Nat) : Nat := Nat.gcd (Nat.gcd (Nat.gcd (Nat.sub (Nat.pow 2 (Nat.pred k)) 1) (Nat.sub (Nat.pow 3 (Nat.pred k)) 1)) (Nat.sub (Nat.pow 5 (Nat.pred k)) 1)) (Nat.sub (Nat.pow 7 (Nat.pred k)) 1)
def exL (k R : Nat) : Nat → Bool
  | 0 => true
  | s + 1 => (!(Nat.beq (Nat.mod R (Nat.succ s)) 0) || okc (Nat.mul k (Nat.div R (Nat.succ s)))) && exL k R s
theorem exL_all {k R : Nat} : ∀ {c s : Nat}, exL k R c = true → 1 ≤ s → s ≤ c → R % s = 0 → okc (k * (R / s)) = true
  | 0, s, _, h1, h2, _ => by omega
  | c + 1, s, h, h1, h2, h3 => by
    simp only [exL, Bool.and_eq_true, Bool.or_eq_true] at h
    rcases Nat.eq_or_lt_of_le h2 with e | e
    · subst e
      rcases h.1 with h4 | h4
      · rw [show Nat.beq (Nat.mod R (Nat.succ c)) 0 = true from beq_of h3] at h4
        simp at h4
      · exact h4
    · exact exL_all h.2 h1 (by omega) h3
def rK (k R : Nat) : Bool := Nat.beq R 1 || exL k R (Nat.div R 65537)
def chkK (k : Nat) : Bool := !(Nat.beq (Nat.gcd k 210) 1) || rK k (Nat.div (gk k) (Nat.gcd (gk k) WW))
theorem U.dvd {p b e : Nat} (h : U p b e) (hp : 1 < p) : p ∣ b ^ e - 1 := by
  unfold U at h
  rw [Nat.mod_eq_of_lt hp] at h
  have := Nat.div_add_mod (b ^ e) p
  rw [h] at this
  exact ⟨b ^ e / p, by omega⟩
theorem no_base {n b : Nat} (hb : Pr b) (hn : 2 ≤ n) (h : U n b (n - 1)) : ¬ b ∣ n := by
  intro hd
  have h1 := (h.down hd).dvd hb.1
  have h2 : b ∣ b ^ (n - 1) := by
    rw [show n - 1 = (n - 2) + 1 by omega, Nat.pow_succ]; exact Nat.dvd_mul_left _ _
  have h3 := Nat.dvd_sub h2 h1
  have hpos : 0 < b ^ (n - 1) := Nat.pow_pos (by have := hb.1; omega)
  rw [show b ^ (n - 1) - (b ^ (n - 1) - 1) = 1 by omega] at h3
  have := Nat.le_of_dvd (by omega) h3
  have := hb.1; omega
theorem chkK_sound {p k n : Nat} (h : chkK k = true) (hP : Pr p) (h7 : 65536 < p) (hn : n = p * k) (hk : 2 ≤ k) (hp : Psp n) (hg : Nat.gcd k 210 = 1) : primeB n = false := by
  unfold chkK at h
  rw [show Nat.beq (Nat.gcd k 210) 1 = true from beq_of hg] at h
  simp only [Bool.not_true, Bool.false_or] at h
  have hU : U4 p (k - 1) := by
    have h1 := hp.fer.down ⟨k, hn⟩
    have e : n - 1 = (p - 1) * k + (k - 1) := by
      rw [hn, Nat.sub_mul, Nat.one_mul]
      have : k ≤ p * k := Nat.le_mul_of_pos_left k (by omega)
      omega
    rw [e] at h1
    exact ((hP.U4 (by omega)).mul k).add h1
  have hdg : p ∣ gk k := Nat.dvd_gcd (Nat.dvd_gcd (Nat.dvd_gcd (hU.1.dvd hP.1) (hU.2.1.dvd hP.1)) (hU.2.2.1.dvd hP.1)) (hU.2.2.2.dvd hP.1)
  have hg0 : 0 < gk k := by
    refine Nat.gcd_pos_of_pos_left _ (Nat.gcd_pos_of_pos_left _ (Nat.gcd_pos_of_pos_left _ ?_))
    show 0 < 2 ^ (k - 1) - 1
    have : 2 ^ 1 ≤ 2 ^ (k - 1) := Nat.pow_le_pow_right (by omega) (by omega)
    omega
  have hw : ¬ p ∣ WW := fun hd => by have := rp_lt hP 16 1 (by omega) hd; omega
  obtain ⟨R, hR⟩ := Nat.gcd_dvd_left (gk k) WW
  have hgp : 0 < Nat.gcd (gk k) WW := Nat.gcd_pos_of_pos_left _ hg0
  have hdiv : Nat.div (gk k) (Nat.gcd (gk k) WW) = R := by
    show gk k / Nat.gcd (gk k) WW = R
    conv => lhs; lhs; rw [hR]
    exact Nat.mul_div_cancel_left R hgp
  rw [hdiv] at h
  have hpR : p ∣ R := by
    rw [hR] at hdg
    rcases hP.dvd_mul hdg with e | e
    · exact absurd (Nat.dvd_trans e (Nat.gcd_dvd_right _ _)) hw
    · exact e
  have hR0 : 0 < R := by
    rcases Nat.eq_zero_or_pos R with e | e
    · rw [e, Nat.mul_zero] at hR; omega
    · exact e
  simp only [rK, Bool.or_eq_true] at h
  rcases h with h | h
  · have : R = 1 := Nat.eq_of_beq_eq_true h
    subst this
    have := Nat.le_of_dvd (by omega) hpR
    omega
  · obtain ⟨s, rfl⟩ := hpR
    have hs1 : 1 ≤ s := by
      rcases Nat.eq_zero_or_pos s with e | e
      · subst e; omega
      · exact e
    have hs2 : s ≤ p * s / 65537 := (Nat.le_div_iff_mul_le (by omega)).2 (by rw [Nat.mul_comm]; exact Nat.mul_le_mul_right _ (by omega))
    have := exL_all h hs1 hs2 (Nat.mul_mod_left _ _)
    rw [Nat.mul_div_cancel _ hs1, Nat.mul_comm k p, ← hn] at this
    exact okc_sound this hp

/-! ### the lists -/
/-- the primes from 11 to 1500, with the exponents that the four bases want -/
def PL : List (Nat × Nat) := [
  (1499, 1498), (1493, 1492), (1489, 1488), (1487, 1486), (1483, 1482), (1481, 1480), (1471, 1470), (1459, 1458),
  (1453, 1452), (1451, 1450), (1447, 1446), (1439, 1438), (1433, 1432), (1429, 1428), (1427, 1426), (1423, 1422),
  (1409, 1408), (1399, 1398), (1381, 1380), (1373, 1372), (1367, 1366), (1361, 1360), (1327, 1326), (1321, 1320),
  (1319, 659), (1307, 1306), (1303, 1302), (1301, 1300), (1297, 1296), (1291, 1290), (1289, 1288), (1283, 1282),
  (1279, 1278), (1277, 1276), (1259, 1258), (1249, 1248), (1237, 1236), (1231, 1230), (1229, 1228), (1223, 1222),
  (1217, 1216), (1213, 1212), (1201, 600), (1193, 1192), (1187, 1186), (1181, 1180), (1171, 1170), (1163, 1162),
  (1153, 1152), (1151, 575), (1129, 564), (1123, 1122), (1117, 1116), (1109, 1108), (1103, 1102), (1097, 1096),
  (1093, 1092), (1091, 1090), (1087, 1086), (1069, 1068), (1063, 1062), (1061, 1060), (1051, 1050), (1049, 1048),
  (1039, 1038), (1033, 1032), (1031, 1030), (1021, 1020), (1019, 1018), (1013, 1012), (1009, 504), (997, 996),
  (991, 990), (983, 982), (977, 976), (971, 970), (967, 966), (953, 952), (947, 946), (941, 940),
  (937, 936), (929, 928), (919, 918), (911, 910), (907, 906), (887, 886), (883, 882), (881, 880),
  (877, 876), (863, 862), (859, 858), (857, 856), (853, 852), (839, 419), (829, 828), (827, 826),
  (823, 822), (821, 820), (811, 810), (809, 808), (797, 796), (787, 786), (773, 772), (769, 768),
  (761, 760), (757, 756), (751, 750), (743, 742), (739, 738), (733, 732), (727, 726), (719, 359),
  (709, 708), (701, 700), (691, 690), (683, 682), (677, 676), (673, 672), (661, 660), (659, 658),
  (653, 652), (647, 646), (643, 642), (641, 640), (631, 630), (619, 618), (617, 616), (613, 612),
  (607, 606), (601, 600), (599, 598), (593, 592), (587, 586), (577, 576), (571, 570), (569, 568),
  (563, 562), (557, 556), (547, 546), (541, 540), (523, 522), (521, 520), (509, 508), (503, 502),
  (499, 498), (491, 490), (487, 486), (479, 239), (467, 466), (463, 462), (461, 460), (457, 456),
  (449, 448), (443, 442), (439, 438), (433, 432), (431, 430), (421, 420), (419, 418), (409, 408),
  (401, 400), (397, 396), (389, 388), (383, 382), (379, 378), (373, 372), (367, 366), (359, 358),
  (353, 352), (349, 348), (347, 346), (337, 336), (331, 330), (317, 316), (313, 312), (311, 155),
  (307, 306), (293, 292), (283, 282), (281, 280), (277, 276), (271, 270), (269, 268), (263, 262),
  (257, 256), (251, 250), (241, 240), (239, 238), (233, 232), (229, 228), (227, 226), (223, 222),
  (211, 210), (199, 198), (197, 196), (193, 192), (191, 190), (181, 180), (179, 178), (173, 172),
  (167, 166), (163, 162), (157, 156), (151, 150), (149, 148), (139, 138), (137, 136), (131, 130),
  (127, 126), (113, 112), (109, 108), (107, 106), (103, 102), (101, 100), (97, 96), (89, 88),
  (83, 82), (79, 78), (73, 72), (71, 70), (67, 66), (61, 60), (59, 58), (53, 52),
  (47, 46), (43, 42), (41, 40), (37, 36), (31, 30), (29, 28), (23, 22), (19, 18),
  (17, 16), (13, 12), (11, 10)]
end Go.Proofs.Ytcbfamgdkmfcgaa

/- The search, run by the kernel. -/
namespace Go.Proofs.Ytcbfamgdkmfcgaa

/-- the search below the primes number lo to lo + c of a list -/
noncomputable def topB (t : List (Nat × Nat)) (lo : Nat) : Nat → Bool
  | 0 => true
  | j + 1 => (match t.drop (Nat.add lo j) with
    | [] => true
    | (q, l) :: t2 => node 9 q l t2) && topB t lo j
theorem topB_all {t t1 t2 : List (Nat × Nat)} {lo q l : Nat} (ht : t = t1 ++ (q, l) :: t2) : ∀ {c : Nat}, topB t lo c = true → lo ≤ t1.length → t1.length < lo + c → node 9 q l t2 = true
  | 0, _, h1, h2 => by omega
  | c + 1, h, h1, h2 => by
    simp only [topB, Bool.and_eq_true] at h
    rcases Nat.eq_or_lt_of_le (show t1.length ≤ lo + c by omega) with e | e
    · have h3 := h.1
      rw [show Nat.add lo c = t1.length from e.symm, ht, List.drop_left] at h3
      exact h3
    · exact topB_all ht h.2 h1 e
/-- the product of the numbers up to 256 -/
def WS : Nat := rp 8 1
theorem WS_no {p : Nat} (hp : Pr p) (h : 256 < p) : Nat.gcd p WS = 1 :=
  hp.coprime fun hd => by have := rp_lt hp 8 1 (by omega) hd; omega
noncomputable def lpB (lo : Nat) : Nat → Bool
  | 0 => true
  | j + 1 => (!(Nat.beq (Nat.gcd (Nat.add lo (Nat.mul 2 j)) WS) 1) || chkP (Nat.add lo (Nat.mul 2 j))) && lpB lo j
theorem lpB_all {lo p : Nat} (hp : Pr p) (h : 256 < p) : ∀ {c : Nat}, lpB lo c = true → ∀ j, j < c → p = lo + 2 * j → chkP p = true
  | 0, _, j, hj, _ => by omega
  | c + 1, hc, j, hj, e => by
    simp only [lpB, Bool.and_eq_true] at hc
    rcases Nat.eq_or_lt_of_le (Nat.le_of_lt_succ hj) with e2 | e2
    · subst e2
      have h1 := hc.1
      rw [show Nat.add lo (Nat.mul 2 j) = p from e.symm, WS_no hp h] at h1
      simpa using h1
    · exact lpB_all hp h hc.2 j e2 e
def kLB (lo : Nat) : Nat → Bool
  | 0 => true
  | j + 1 => chkK (Nat.add lo j) && kLB lo j
theorem kLB_all {lo k : Nat} : ∀ {c : Nat}, kLB lo c = true → lo ≤ k → k < lo + c → chkK k = true
  | 0, _, h1, h2 => by omega
  | c + 1, h, h1, h2 => by
    simp only [kLB, Bool.and_eq_true] at h
    rcases Nat.eq_or_lt_of_le (show k ≤ lo + c by omega) with e | e
    · subst e; exact h.1
    · exact kLB_all h.2 h1 e
def plOne (q l : Nat) : Bool := match pf 60 2 l, pf 60 2 q with
  | some rs, some [x] => Nat.beq x q && (Nat.blt 0 l && (Nat.blt l 100000 && (Nat.blt 10 q && (Nat.ble q 1500 && (u4B q l && (ordBW q l rs && (u4B (Nat.mul q q) (Nat.mul q l) && ordBW (Nat.mul q q) (Nat.mul q l) (q :: rs))))))))
  | _, _ => false
def plB : List (Nat × Nat) → Bool
  | [] => true
  | (q, l) :: t => plOne q l && plB t
def descB : List (Nat × Nat) → Bool
  | [] => true
  | a :: t => (t.all fun b => Nat.blt b.1 a.1) && descB t
theorem plB_mem : ∀ {t : List (Nat × Nat)}, plB t = true → ∀ q l, (q, l) ∈ t → plOne q l = true
  | [], _, q, l, h => by simp at h
  | (a, b) :: t, h, q, l, hm => by
    simp only [plB, Bool.and_eq_true] at h
    rcases List.mem_cons.1 hm with e | e
    · cases e; exact h.1
    · exact plB_mem h.2 q l e
theorem descB_desc : ∀ {t : List (Nat × Nat)}, descB t = true → Desc t
  | [], _ => List.Pairwise.nil
  | a :: t, h => by
    simp only [descB, Bool.and_eq_true, List.all_eq_true] at h
    exact List.Pairwise.cons (fun b hb => by exact of_blt (h.1 b hb)) (descB_desc h.2)
def memB (m : Nat) : List (Nat × Nat) → Bool
  | [] => false
  | (q, _) :: t => Nat.beq m q || memB m t
theorem memB_mem {m : Nat} : ∀ {t : List (Nat × Nat)}, memB m t = true → ∃ l, (m, l) ∈ t
  | [], h => by simp [memB] at h
  | (q, l) :: t, h => by
    simp only [memB, Bool.or_eq_true] at h
    rcases h with h | h
    · exact ⟨l, by rw [Nat.eq_of_beq_eq_true h]; exact List.mem_cons_self ..⟩
    · obtain ⟨b, hb⟩ := memB_mem h
      exact ⟨b, List.mem_cons_of_mem _ hb⟩
/-- the product of the numbers up to 37 -/
def W37 : Nat := Nat.mul (Nat.mul (rp 5 1) (rp 2 33)) 37
def smB (m : Nat) : Bool := memB m PL || ((Nat.blt 37 m && !(Nat.beq (Nat.gcd m W37) 1)) || (Nat.beq (Nat.mod m 2) 0 || (Nat.beq (Nat.mod m 3) 0 || Nat.beq (Nat.mod m 5) 0)))
def smL : Nat → Bool
  | 0 => true
  | j + 1 => (smB (Nat.add 11 j) && (!(primeK (Nat.add 11 j)) || memB (Nat.add 11 j) PL)) && smL j
theorem smL_all : ∀ {c m : Nat}, smL c = true → 11 ≤ m → m < 11 + c → smB m = true ∧ (primeB m = true → ∃ l, (m, l) ∈ PL)
  | 0, m, _, h1, h2 => by omega
  | c + 1, m, h, h1, h2 => by
    simp only [smL, Bool.and_eq_true] at h
    rcases Nat.eq_or_lt_of_le (show m ≤ 11 + c by omega) with e | e
    · subst e
      refine ⟨h.1.1, fun hp => memB_mem ?_⟩
      have h3 := h.1.2
      rw [primeK_eq] at h3
      rw [show primeB (Nat.add 11 c) = true from hp] at h3
      simpa using h3
    · exact smL_all h.2 h1 e
theorem smB_mem {m : Nat} (hp : Pr m) (h11 : 11 ≤ m) (h : smB m = true) : ∃ l, (m, l) ∈ PL := by
  simp only [smB, Bool.or_eq_true, Bool.and_eq_true] at h
  have no : ∀ b, 2 ≤ b → b < 11 → ¬ Nat.beq (Nat.mod m b) 0 = true := fun b h1 h2 e => by
    rcases hp.div (Nat.dvd_of_mod_eq_zero (Nat.eq_of_beq_eq_true e)) with e2 | e2 <;> omega
  rcases h with h | ⟨h1, h2⟩ | h | h | h
  · exact memB_mem h
  · exfalso
    have h1 : 37 < m := of_blt h1
    have hg : Nat.gcd m W37 = 1 := by
      refine hp.coprime fun hd => ?_
      rcases hp.dvd_mul (show m ∣ rp 5 1 * rp 2 33 * 37 from hd) with e | e
      · rcases hp.dvd_mul e with e | e
        · have := rp_lt hp 5 1 (by omega) e; omega
        · have := rp_lt hp 2 33 (by omega) e; omega
      · have := Nat.le_of_dvd (by omega) e; omega
    rw [hg] at h2
    simp at h2
  · exact absurd h (no 2 (by omega) (by omega))
  · exact absurd h (no 3 (by omega) (by omega))
  · exact absurd h (no 5 (by omega) (by omega))

end Go.Proofs.Ytcbfamgdkmfcgaa
