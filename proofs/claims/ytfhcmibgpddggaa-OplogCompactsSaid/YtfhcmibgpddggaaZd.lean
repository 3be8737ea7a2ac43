/- Texts joined: Sn T2 Nt La Lb Lc Ld Gl Op. -/
import Derived.WalkSmall
import Derived.KernelRfl
import Derived.WalkKit
import Derived.ProofKit
import Derived.OpenShut
import Derived.Carry
import Derived.Test.YtfhcmibgpddggaaZa
import Derived.Test.YtfhcmibgpddggaaZb
import Derived.Test.YtfhcmibgpddggaaZc
set_option linter.all false
open Nat renaming reduceEqDiff → zn1, reduceLT → zn2, reduceLeDiff → zn3, reduceAdd → zn4, reduceMul → zn5, reduceSub → zn6, reduceBEq → zn7
open Int renaming reduceToNat → zi1, reducePow → zi2
namespace Go.Proofs.Ytfhcmibgpddggaa
open Go.RowKit
@[go_sem high] theorem wi64 (n : Int) (h1 : -9223372036854775808 ≤ n) (h2 : n ≤ 9223372036854775807) : IntKind.i64.wrap n = n := IntWalk.i64_in n ⟨h1, h2⟩
@[go_sem high] theorem wi32 (n : Int) (h1 : -2147483648 ≤ n) (h2 : n ≤ 2147483647) : IntKind.i32.wrap n = n := IntWalk.i32_in n ⟨h1, h2⟩
@[go_sem high] theorem wi8 (n : Int) (h1 : -128 ≤ n) (h2 : n ≤ 127) : IntKind.i8.wrap n = n := IntWalk.i8_in n ⟨h1, h2⟩
@[go_sem high] theorem wu64 (n : Int) (h1 : 0 ≤ n) (h2 : n ≤ 18446744073709551615) : IntKind.u64.wrap n = n := IntWalk.u64_in n ⟨h1, h2⟩
@[go_sem high] theorem wu32 (n : Int) (h1 : 0 ≤ n) (h2 : n ≤ 4294967295) : IntKind.u32.wrap n = n := IntWalk.u32_in n ⟨h1, h2⟩
@[go_sem high] theorem wu16 (n : Int) (h1 : 0 ≤ n) (h2 : n ≤ 65535) : IntKind.u16.wrap n = n := IntWalk.u16_in n ⟨h1, h2⟩
@[go_sem high] theorem wu8 (n : Int) (h1 : 0 ≤ n) (h2 : n ≤ 255) : IntKind.u8.wrap n = n := IntWalk.u8_in n ⟨h1, h2⟩
@[go_sem low] theorem wu32m (n : Int) : IntKind.u32.wrap n = n % 4294967296 := IntKind.wrap_u32 n
@[go_sem low] theorem wu8m (n : Int) : IntKind.u8.wrap n = n % 256 := IntKind.wrap_u8 n
@[go_sem] theorem tmod_nn (x y : Int) (h : 0 ≤ x) : x.tmod y = x % y := Int.tmod_eq_emod_of_nonneg h
@[go_sem] theorem tdiv_nn (x y : Int) (h : 0 ≤ x) : x.tdiv y = x / y := Int.tdiv_eq_ediv_of_nonneg h
@[go_sem] theorem bits_u64 : IntKind.u64.bits = 64 := rfl
@[go_sem] theorem bits_i64 : IntKind.i64.bits = 64 := rfl
@[go_sem] theorem bits_u32 : IntKind.u32.bits = 32 := rfl
@[go_sem] theorem bits_u8 : IntKind.u8.bits = 8 := rfl
theorem fdiv_pow (x : Int) (k : Nat) : x.fdiv (2 ^ k) = x / 2 ^ k := Int.fdiv_eq_ediv_of_nonneg _ (Int.le_of_lt (Int.pow_pos (by omega)))
attribute [go_sem] fdiv_pow
@[go_sem] theorem and1_u64 (n : Int) (h0 : 0 ≤ n) (h1 : n ≤ 18446744073709551615) : bits .and .u64 n 1 = n % 2 := and_one_u64 n h0 h1
end Go.Proofs.Ytfhcmibgpddggaa
namespace Go.Proofs.Ytfhcmibgpddggaa
open Go.RowKit
end Go.Proofs.Ytfhcmibgpddggaa
namespace Go.Proofs.Ytfhcmibgpddggaa
def sm (f : Nat → Nat) : Nat → Nat
  | 0 => 0
  | n + 1 => sm f n + f n
theorem sm_left (f : Nat → Nat) : ∀ n, sm f (n + 1) = f 0 + sm (fun k => f (k + 1)) n
  | 0 => by simp [sm]
  | n + 1 => by rw [sm, sm_left f n, sm]; omega
theorem sm_add (f g : Nat → Nat) : ∀ n, sm (fun k => f k + g k) n = sm f n + sm g n
  | 0 => rfl
  | n + 1 => by simp only [sm]; rw [sm_add f g n]; omega
theorem sm_mul (c : Nat) (f : Nat → Nat) : ∀ n, sm (fun k => c * f k) n = c * sm f n
  | 0 => by simp [sm]
  | n + 1 => by simp only [sm]; rw [sm_mul c f n, Nat.mul_add]
theorem sm_dvd {p : Nat} {f : Nat → Nat} : ∀ {n}, (∀ k, k < n → p ∣ f k) → p ∣ sm f n
  | 0, _ => Nat.dvd_zero p
  | n + 1, h => Nat.dvd_add (sm_dvd fun k hk => h k (by omega)) (h n (by omega))
def ch : Nat → Nat → Nat
  | _, 0 => 1
  | 0, _ + 1 => 0
  | n + 1, k + 1 => ch n k + ch n (k + 1)
theorem ch_zero (n : Nat) : ch n 0 = 1 := by cases n <;> rfl
theorem ch_over : ∀ (n k : Nat), n < k → ch n k = 0
  | 0, 0, h => by omega
  | 0, k + 1, _ => rfl
  | n + 1, 0, h => by omega
  | n + 1, k + 1, h => by rw [ch, ch_over n k (by omega), ch_over n (k + 1) (by omega)]
theorem ch_self : ∀ n, ch n n = 1
  | 0 => rfl
  | n + 1 => by rw [ch, ch_self n, ch_over n (n + 1) (by omega)]
theorem ch_mul : ∀ (n k : Nat), (k + 1) * ch (n + 1) (k + 1) = (n + 1) * ch n k
  | 0, 0 => rfl
  | 0, k + 1 => by simp [ch]
  | n + 1, 0 => by
    have h := ch_mul n 0
    have e : ch (n + 1 + 1) (0 + 1) = ch (n + 1) 0 + ch (n + 1) (0 + 1) := rfl
    rw [e, ch_zero]
    rw [ch_zero] at h
    simp only [Nat.zero_add, Nat.one_mul, Nat.mul_one] at h ⊢
    omega
  | n + 1, k + 1 => by
    have h1 := ch_mul n k
    have h2 := ch_mul n (k + 1)
    have e1 : ch (n + 1 + 1) (k + 1 + 1) = ch (n + 1) (k + 1) + ch (n + 1) (k + 1 + 1) := rfl
    have e2 : ch (n + 1) (k + 1) = ch n k + ch n (k + 1) := rfl
    rw [e1, Nat.mul_add, h2, Nat.add_mul (k + 1) 1, h1, Nat.one_mul, e2, Nat.mul_add (n + 1 + 1), Nat.add_mul (n + 1) 1, Nat.add_mul (n + 1) 1]
    omega
theorem binom (a : Nat) : ∀ n, (a + 1) ^ n = sm (fun k => ch n k * a ^ k) (n + 1)
  | 0 => by simp [sm, ch]
  | n + 1 => by
    have e1 : sm (fun k => ch (n + 1) (k + 1) * a ^ (k + 1)) (n + 1) = a * sm (fun k => ch n k * a ^ k) (n + 1) + sm (fun k => ch n (k + 1) * a ^ (k + 1)) (n + 1) := by
      rw [← sm_mul, ← sm_add]
      congr 1
      funext k
      have : ch (n + 1) (k + 1) = ch n k + ch n (k + 1) := rfl
      rw [this, Nat.add_mul, Nat.pow_succ, ← Nat.mul_assoc, Nat.mul_comm (ch n k * a ^ k) a]
    have e2 : sm (fun k => ch n k * a ^ k) (n + 1 + 1) = 1 + sm (fun k => ch n (k + 1) * a ^ (k + 1)) (n + 1) := by
      rw [sm_left, ch_zero]; simp
    have e3 : sm (fun k => ch n k * a ^ k) (n + 1 + 1) = sm (fun k => ch n k * a ^ k) (n + 1) := by
      rw [sm, ch_over n (n + 1) (by omega)]; simp
    rw [sm_left, ch_zero, e1, Nat.pow_succ, binom a n, Nat.mul_add, Nat.mul_one, Nat.mul_comm _ a]
    rw [e3] at e2
    simp only [Nat.pow_zero, Nat.mul_one]
    omega
def Pr (p : Nat) : Prop := 1 < p ∧ ∀ k, 0 < k → k < p → Nat.Coprime p k
theorem Pr.ch {p k : Nat} (h : Pr p) (h1 : 0 < k) (h2 : k < p) : p ∣ ch p k := by
  obtain ⟨q, rfl⟩ : ∃ q, p = q + 1 := ⟨p - 1, by have := h.1; omega⟩
  obtain ⟨j, rfl⟩ : ∃ j, k = j + 1 := ⟨k - 1, by omega⟩
  exact (h.2 (j + 1) h1 h2).dvd_of_dvd_mul_left (ch_mul q j ▸ Nat.dvd_mul_right _ _)
theorem Pr.step {p : Nat} (h : Pr p) (a : Nat) : (a + 1) ^ p % p = (a ^ p + 1) % p := by
  obtain ⟨q, rfl⟩ : ∃ q, p = q + 1 := ⟨p - 1, by have := h.1; omega⟩
  rw [binom a (q + 1), sm, sm_left, ch_self, ch_zero]
  have : q + 1 ∣ sm (fun k => Go.Proofs.Ytfhcmibgpddggaa.ch (q + 1) (k + 1) * a ^ (k + 1)) q := sm_dvd fun k hk => Nat.dvd_trans (h.ch (by omega) (by omega)) (Nat.dvd_mul_right _ _)
  obtain ⟨c, hc⟩ := this
  rw [hc]
  simp only [Nat.pow_zero, Nat.mul_one, Nat.one_mul]
  rw [show 1 + (q + 1) * c + a ^ (q + 1) = a ^ (q + 1) + 1 + (q + 1) * c by omega, Nat.add_mul_mod_self_left]
theorem Pr.fermat {p : Nat} (h : Pr p) : ∀ a, a ^ p % p = a % p
  | 0 => by rw [Nat.zero_pow (by have := h.1; omega)]
  | a + 1 => by rw [h.step, Nat.add_mod, h.fermat a, ← Nat.add_mod]
theorem Pr.one {p a : Nat} (h : Pr p) (h1 : 0 < a) (h2 : a < p) : a ^ (p - 1) % p = 1 := by
  have hp := h.1
  have hf := h.fermat a
  have e : a ^ p = a * a ^ (p - 1) := by rw [show p = (p - 1) + 1 by omega, Nat.pow_succ, Nat.mul_comm]; simp
  have hpos : 0 < a ^ (p - 1) := Nat.pow_pos h1
  have hd : p ∣ a * (a ^ (p - 1) - 1) := by
    rw [Nat.mul_sub, Nat.mul_one, ← e]
    exact Nat.dvd_of_mod_eq_zero (Nat.sub_mod_eq_zero_of_mod_eq hf)
  obtain ⟨c, hc⟩ := (h.2 a h1 h2).dvd_of_dvd_mul_left hd
  rw [show a ^ (p - 1) = 1 + p * c by omega, Nat.add_mul_mod_self_left, Nat.mod_eq_of_lt hp]
def po : Nat → Nat → Nat
  | lo, 0 => 2 * lo + 1
  | lo, n + 1 => po lo n * po (lo + 2 ^ n) n
theorem po_dvd : ∀ (n lo i : Nat), lo ≤ i → i < lo + 2 ^ n → 2 * i + 1 ∣ po lo n
  | 0, lo, i, h1, h2 => by
    have : i = lo := by simp at h2; omega
    subst this; exact Nat.dvd_refl _
  | n + 1, lo, i, h1, h2 => by
    rw [po]
    rcases Nat.lt_or_ge i (lo + 2 ^ n) with h | h
    · exact Nat.dvd_trans (po_dvd n lo i h1 h) (Nat.dvd_mul_right _ _)
    · exact Nat.dvd_trans (po_dvd n _ i h (by rw [Nat.pow_succ] at h2; omega)) (Nat.dvd_mul_left _ _)
theorem Pr.of {p n : Nat} (h1 : 1 < p) (h2 : p % 2 = 1) (h3 : Nat.gcd p (po 1 n) = 1) (h4 : p < (2 * 2 ^ n + 2) * (2 * 2 ^ n + 2)) : Pr p := by
  have no : ∀ d e, d * e = p → 1 < d → d ≤ e → False := by
    intro d e hde hd hle
    have hodd : d % 2 = 1 := by
      rcases Nat.mod_two_eq_zero_or_one d with h | h
      · have : p % 2 = 0 := by rw [← hde, Nat.mul_mod, h]; simp
        omega
      · exact h
    have hlt : d < 2 * 2 ^ n + 2 := by
      rcases Nat.lt_or_ge d (2 * 2 ^ n + 2) with h | h
      · exact h
      · have : (2 * 2 ^ n + 2) * (2 * 2 ^ n + 2) ≤ d * e := Nat.mul_le_mul h (Nat.le_trans h hle)
        omega
    have hdv : d ∣ po 1 n := by
      have := po_dvd n 1 (d / 2) (by omega) (by omega)
      rwa [show 2 * (d / 2) + 1 = d by omega] at this
    have : d ∣ Nat.gcd p (po 1 n) := Nat.dvd_gcd ⟨e, hde.symm⟩ hdv
    rw [h3] at this
    have := Nat.le_of_dvd (by omega) this
    omega
  refine ⟨h1, fun k hk1 hk2 => ?_⟩
  obtain ⟨e, he⟩ := Nat.gcd_dvd_left p k
  have hg : 0 < Nat.gcd p k := Nat.gcd_pos_of_pos_right _ hk1
  have hle : Nat.gcd p k ≤ k := Nat.gcd_le_right _ hk1
  show Nat.gcd p k = 1
  rcases Nat.lt_or_ge (Nat.gcd p k) 2 with h | h
  · omega
  · exfalso
    rcases Nat.le_total (Nat.gcd p k) e with hc | hc
    · exact no _ e he.symm h hc
    · have he1 : 1 < e := by
        rcases Nat.lt_or_ge 1 e with h' | h'
        · exact h'
        · have : Nat.gcd p k * e ≤ Nat.gcd p k * 1 := Nat.mul_le_mul_left _ h'
          omega
      exact no e _ (by rw [Nat.mul_comm]; exact he.symm) he1 hc
end Go.Proofs.Ytfhcmibgpddggaa
namespace Go.Proofs.Ytfhcmibgpddggaa
section lin
variable {K : Type} [Lean.Grind.CommRing K]
def sg (f : Nat → K) : Nat → K
  | 0 => 0
  | n + 1 => sg f n + f n
theorem sg_congr {f g : Nat → K} : ∀ {n : Nat}, (∀ i, i < n → f i = g i) → sg f n = sg g n
  | 0, _ => rfl
  | n + 1, h => by rw [sg, sg, sg_congr fun i hi => h i (by omega), h n (by omega)]
theorem sg_add (f g : Nat → K) : ∀ n : Nat, sg (fun i => f i + g i) n = sg f n + sg g n
  | 0 => by simp only [sg]; grind
  | n + 1 => by rw [sg, sg, sg, sg_add f g n]; grind
theorem sg_mul (a : K) (f : Nat → K) : ∀ n : Nat, sg (fun i => a * f i) n = a * sg f n
  | 0 => by simp only [sg]; grind
  | n + 1 => by rw [sg, sg, sg_mul a f n]; grind
theorem sg_zero : ∀ {n : Nat} {f : Nat → K}, (∀ i, i < n → f i = 0) → sg f n = 0
  | 0, _, _ => rfl
  | n + 1, f, h => by rw [sg, sg_zero fun i hi => h i (by omega), h n (by omega)]; grind
theorem sg_one : ∀ {n k : Nat} {f : Nat → K}, k < n → (∀ i, i < n → i ≠ k → f i = 0) → sg f n = f k
  | 0, k, f, hk, _ => by omega
  | n + 1, k, f, hk, h => by
    rw [sg]
    by_cases e : k = n
    · subst e; rw [sg_zero fun i hi => h i (by omega) (by omega)]; grind
    · rw [sg_one (k := k) (by omega) fun i hi hn => h i (by omega) hn, h n (by omega) (by omega)]; grind
theorem sg_split (f : Nat → K) (n : Nat) : ∀ m : Nat, sg f (n + m) = sg f n + sg (fun i => f (n + i)) m
  | 0 => by simp only [sg, Nat.add_zero]; grind
  | m + 1 => by rw [← Nat.add_assoc, sg, sg_split f n m, sg]; grind
def Sp (n m : Nat) (A : Nat → Nat → K) (v : Nat → K) : Prop := ∃ x : Nat → K, ∀ j, j < m → v j = sg (fun i => x i * A i j) n
variable {n m n' : Nat} {A B : Nat → Nat → K} {u v : Nat → K}
theorem Sp.row {i : Nat} (hi : i < n) : Sp n m A (A i) := ⟨fun k => if k = i then 1 else 0, fun j _ => by
  rw [sg_one (k := i) hi fun k _ hk => by dsimp only; rw [if_neg hk]; grind]
  dsimp only
  rw [if_pos rfl]; grind⟩
theorem Sp.zero (h : ∀ j, j < m → v j = 0) : Sp n m A v := ⟨fun _ => 0, fun j hj => by
  rw [h j hj, sg_zero]; intro i _; grind⟩
theorem Sp.add (h : Sp n m A u) (k : Sp n m A v) : Sp n m A (fun j => u j + v j) := by
  obtain ⟨x, hx⟩ := h
  obtain ⟨y, hy⟩ := k
  refine ⟨fun i => x i + y i, fun j hj => ?_⟩
  dsimp only
  rw [hx j hj, hy j hj, ← sg_add]
  exact sg_congr fun i _ => by grind
theorem Sp.smul (a : K) (h : Sp n m A u) : Sp n m A (fun j => a * u j) := by
  obtain ⟨x, hx⟩ := h
  refine ⟨fun i => a * x i, fun j hj => ?_⟩
  dsimp only
  rw [hx j hj, ← sg_mul]
  exact sg_congr fun i _ => by grind
theorem Sp.congr (h : Sp n m A u) (e : ∀ j, j < m → v j = u j) : Sp n m A v := by
  obtain ⟨x, hx⟩ := h
  exact ⟨x, fun j hj => (e j hj).trans (hx j hj)⟩
theorem Sp.sum {f : Nat → Nat → K} : ∀ {k : Nat}, (∀ i, i < k → Sp n m A (f i)) → Sp n m A (fun j => sg (fun i => f i j) k)
  | 0, _ => Sp.zero fun _ _ => rfl
  | k + 1, h => (Sp.add (Sp.sum fun i hi => h i (by omega)) (h k (by omega))).congr fun _ _ => rfl
theorem Sp.trans (h : ∀ i, i < n' → Sp n m A (B i)) (hv : Sp n' m B v) : Sp n m A v := by
  obtain ⟨y, hy⟩ := hv
  exact (Sp.sum (f := fun i j => y i * B i j) fun i hi => (h i hi).smul (y i)).congr hy
structure Ech (r m : Nat) (R : Nat → Nat → K) (c : Nat → Nat) : Prop where
  lt : ∀ i, i < r → c i < m
  inc : ∀ i k, i < k → k < r → c i < c k
  piv : ∀ i k, i < r → k < r → R i (c k) = if i = k then 1 else 0
  low : ∀ i j, i < r → j < c i → R i j = 0
variable {r r' : Nat} {R R' : Nat → Nat → K} {c c' : Nat → Nat}
theorem Ech.coef (h : Ech r m R c) (hv : Sp r m R v) : ∀ j, j < m → v j = sg (fun k => v (c k) * R k j) r := by
  obtain ⟨x, hx⟩ := hv
  have hk : ∀ k, k < r → v (c k) = x k := by
    intro k hk
    rw [hx _ (h.lt k hk), sg_one (k := k) hk fun i hi hne => by rw [h.piv i k hi hk, if_neg hne]; grind]
    rw [h.piv k k hk hk, if_pos rfl]; grind
  intro j hj
  rw [hx j hj]
  exact sg_congr fun k hk' => by rw [hk k hk']
theorem Ech.lead (h : Ech r m R c) (hv : Sp r m R v) : (∀ j, j < m → v j = 0) ∨ ∃ k, k < r ∧ v (c k) ≠ 0 ∧ ∀ j, j < c k → v j = 0 := by
  have hc := h.coef hv
  have key : ∀ q, q ≤ r → (∀ k, k < q → v (c k) = 0) ∨ ∃ k, k < q ∧ v (c k) ≠ 0 ∧ ∀ i, i < k → v (c i) = 0 := by
    intro q
    induction q with
    | zero => intro _; exact .inl fun k hk => by omega
    | succ q ih =>
      intro hq
      rcases ih (by omega) with h1 | ⟨k, h1, h2, h3⟩
      · by_cases e : v (c q) = 0
        · left
          intro k hk
          rcases Nat.lt_or_ge k q with g | g
          · exact h1 k g
          · rw [show k = q by omega]; exact e
        · exact .inr ⟨q, by omega, e, h1⟩
      · exact .inr ⟨k, by omega, h2, h3⟩
  rcases key r (Nat.le_refl _) with h1 | ⟨k, h1, h2, h3⟩
  · left
    intro j hj
    rw [hc j hj]
    exact sg_zero fun k hk => by rw [h1 k hk]; grind
  · refine .inr ⟨k, h1, h2, fun j hj => ?_⟩
    have := h.lt k h1
    rw [hc j (by omega)]
    refine sg_zero fun i hi => ?_
    rcases Nat.lt_or_ge i k with g | g
    · rw [h3 i g]; grind
    · have hle : c k ≤ c i := by
        rcases Nat.lt_or_ge k i with g2 | g2
        · exact Nat.le_of_lt (h.inc k i g2 hi)
        · rw [show i = k by omega]; exact Nat.le_refl _
      rw [h.low i j hi (by omega)]; grind
theorem Ech.pivots_in (h10 : (1 : K) ≠ 0) (h : Ech r m R c) (h' : Ech r' m R' c') (hs : ∀ i, i < r → Sp r' m R' (R i)) : ∀ i, i < r → ∃ k, k < r' ∧ c' k = c i := by
  intro i hi
  have e1 : R i (c i) = 1 := by rw [h.piv i i hi hi, if_pos rfl]
  rcases h'.lead (hs i hi) with h1 | ⟨k, h1, h2, h3⟩
  · have := h1 _ (h.lt i hi)
    rw [e1] at this; exact absurd this h10
  · refine ⟨k, h1, ?_⟩
    rcases Nat.lt_trichotomy (c' k) (c i) with g | g | g
    · exact absurd (h.low i _ hi g) h2
    · exact g
    · have := h3 _ g
      rw [e1] at this; exact absurd this h10
theorem Ech.inj (h : Ech r m R c) {i k : Nat} (hi : i < r) (hk : k < r) (e : c i = c k) : i = k := by
  rcases Nat.lt_trichotomy i k with g | g | g
  · have := h.inc i k g hk; omega
  · exact g
  · have := h.inc k i g hi; omega
theorem Ech.rows_eq (h : Ech r m R c) (h' : Ech r m R' c') (hc : ∀ i, i < r → c i = c' i) (hs : ∀ i, i < r → Sp r m R' (R i)) : ∀ i j, i < r → j < m → R i j = R' i j := by
  intro i j hi hj
  rw [h'.coef (hs i hi) j hj, sg_one (k := i) hi fun k hk hne => by rw [← hc k hk, h.piv i k hi hk, if_neg (fun e => hne e.symm)]; grind]
  rw [← hc i hi, h.piv i i hi hi, if_pos rfl]; grind
theorem Ech.full (h10 : (1 : K) ≠ 0) (h : Ech r m R c) (h' : Ech r m R' c') (hs : ∀ i, i < r → Sp r m R' (R i)) : ∀ i j, i < r → j < m → R i j = R' i j := by
  have h1 := h.pivots_in h10 h' hs
  have hc : ∀ i, i < r → c i = c' i := by
    have up : ∀ q, q < r → c' q ≤ c q := by
      intro q
      induction q with
      | zero =>
        intro hq
        obtain ⟨k, k1, k2⟩ := h1 0 hq
        rw [← k2]
        rcases Nat.eq_zero_or_pos k with g | g
        · rw [g]; exact Nat.le_refl _
        · exact Nat.le_of_lt (h'.inc 0 k g k1)
      | succ q ih =>
        intro hq
        obtain ⟨k, k1, k2⟩ := h1 (q + 1) hq
        have a := ih (by omega)
        have b := h.inc q (q + 1) (by omega) hq
        rcases Nat.lt_or_ge k (q + 1) with g | g
        · rcases Nat.lt_or_ge k q with g2 | g2
          · have := h'.inc k q g2 (by omega); omega
          · rw [show k = q by omega] at k2; omega
        · rw [← k2]
          rcases Nat.lt_or_ge (q + 1) k with g2 | g2
          · exact Nat.le_of_lt (h'.inc _ k g2 k1)
          · rw [show k = q + 1 by omega]; exact Nat.le_refl _
    have down : ∀ d q, q < r → r - 1 - q = d → c q ≤ c' q := by
      intro d
      induction d with
      | zero =>
        intro q hq hd
        obtain ⟨k, k1, k2⟩ := h1 q hq
        rw [← k2]
        rcases Nat.lt_or_ge k q with g | g
        · exact Nat.le_of_lt (h'.inc k q g hq)
        · rw [show k = q by omega]; exact Nat.le_refl _
      | succ d ih =>
        intro q hq hd
        obtain ⟨k, k1, k2⟩ := h1 q hq
        have a := ih (q + 1) (by omega) (by omega)
        have b := h.inc q (q + 1) (by omega) (by omega)
        rcases Nat.lt_or_ge k (q + 1) with g | g
        · rw [← k2]
          rcases Nat.lt_or_ge k q with g2 | g2
          · exact Nat.le_of_lt (h'.inc k q g2 hq)
          · rw [show k = q by omega]; exact Nat.le_refl _
        · have : c' (q + 1) ≤ c' k := by
            rcases Nat.lt_or_ge (q + 1) k with g2 | g2
            · exact Nat.le_of_lt (h'.inc _ k g2 k1)
            · rw [show k = q + 1 by omega]; exact Nat.le_refl _
          omega
    intro i hi
    have := up i hi
    have := down _ i hi rfl
    omega
  exact h.rows_eq h' hc hs
end lin
end Go.Proofs.Ytfhcmibgpddggaa
namespace Go.Proofs.Ytfhcmibgpddggaa
section lin
variable {K : Type} [Lean.Grind.CommRing K]
structure EInv (n w : Nat) (A0 : Nat → Nat → K) (c k : Nat) (A : Nat → Nat → K) (pv : Nat → Nat) : Prop where
  kn : k ≤ n
  lt : ∀ i, i < k → pv i < c
  inc : ∀ i l, i < l → l < k → pv i < pv l
  piv : ∀ i l, i < n → l < k → A i (pv l) = if i = l then 1 else 0
  low : ∀ i j, i < k → j < pv i → A i j = 0
  rest : ∀ i j, k ≤ i → i < n → j < c → A i j = 0
  s1 : ∀ i, i < n → Sp n w A0 (A i)
  s2 : ∀ i, i < n → Sp n w A (A0 i)
variable {n w c k : Nat} {A0 A : Nat → Nat → K} {pv : Nat → Nat}
theorem EInv.start : EInv n w A0 0 0 A0 pv where
  kn := Nat.zero_le _
  lt := fun i hi => by omega
  inc := fun i l _ hl => by omega
  piv := fun i l _ hl => by omega
  low := fun i j hi _ => by omega
  rest := fun i j _ _ hj => by omega
  s1 := fun i hi => Sp.row hi
  s2 := fun i hi => Sp.row hi
theorem EInv.skip (h : EInv n w A0 c k A pv) (hz : ∀ i, k ≤ i → i < n → A i c = 0) : EInv n w A0 (c + 1) k A pv where
  kn := h.kn
  lt := fun i hi => by have := h.lt i hi; omega
  inc := h.inc
  piv := h.piv
  low := h.low
  rest := fun i j hi hn hj => by
    rcases Nat.lt_or_ge j c with g | g
    · exact h.rest i j hi hn g
    · rw [show j = c by omega]; exact hz i hi hn
  s1 := h.s1
  s2 := h.s2
theorem EInv.step {q : Nat} {b : K} {A' : Nat → Nat → K} {pv' : Nat → Nat} (h : EInv n w A0 c k A pv) (hc : c < w) (hk : k ≤ q) (hq : q < n) (hb : b * A q c = 1)
    (hA : ∀ i j, i < n → j < w → A' i j = if i = k then b * A q j else (if i = q then A k j else A i j) - (if i = q then A k c else A i c) * (b * A q j))
    (hp : ∀ i, i < k → pv' i = pv i) (hpk : pv' k = c) : EInv n w A0 (c + 1) (k + 1) A' pv' := by
  have hkn : k < n := by omega
  have hlt : ∀ i, i < k → pv i < w := fun i hi => by have := h.lt i hi; omega
  have old : ∀ l, l < k → ∀ i, i < n → A' i (pv l) = if i = l then 1 else 0 := by
    intro l hl i hi
    rw [hA i _ hi (hlt l hl)]
    have e1 : A q (pv l) = 0 := by rw [h.piv q l hq hl, if_neg (by omega)]
    rw [e1]
    by_cases e : i = k
    · rw [if_pos e, if_neg (by omega)]; grind
    · rw [if_neg e]
      by_cases e2 : i = q
      · rw [if_pos e2, if_pos e2, h.piv k l hkn hl, if_neg (by omega), if_neg (by omega)]; grind
      · rw [if_neg e2, if_neg e2, h.piv i l hi hl]; grind
  have new : ∀ i, i < n → A' i c = if i = k then 1 else 0 := by
    intro i hi
    rw [hA i c hi hc, hb]
    by_cases e : i = k
    · rw [if_pos e, if_pos e]
    · rw [if_neg e, if_neg e]; grind
  have z0 : ∀ j, j < c → A q j = 0 := fun j hj => h.rest q j hk hq hj
  exact {
    kn := by omega
    lt := fun i hi => by
      by_cases e : i = k
      · rw [e, hpk]; omega
      · rw [hp i (by omega)]; have := h.lt i (by omega); omega
    inc := fun i l hil hl => by
      by_cases e : l = k
      · rw [e, hpk, hp i (by omega)]; exact h.lt i (by omega)
      · rw [hp i (by omega), hp l (by omega)]; exact h.inc i l hil (by omega)
    piv := fun i l hi hl => by
      by_cases e : l = k
      · rw [e, hpk]; exact new i hi
      · rw [hp l (by omega)]; exact old l (by omega) i hi
    low := fun i j hi hj => by
      by_cases e : i = k
      · rw [e, hpk] at hj
        rw [e, hA k j hkn (by omega), if_pos rfl, z0 j hj]; grind
      · rw [hp i (by omega)] at hj
        have hj2 := h.lt i (by omega)
        rw [hA i j (by omega) (by omega), if_neg e, z0 j (by omega), if_neg (by omega), if_neg (by omega), h.low i j (by omega) hj]; grind
    rest := fun i j hi hn hj => by
      by_cases e : j = c
      · rw [e, new i hn, if_neg (by omega)]
      · rw [hA i j hn (by omega), if_neg (by omega), z0 j (by omega)]
        by_cases e2 : i = q
        · rw [if_pos e2, if_pos e2, h.rest k j (Nat.le_refl _) hkn (by omega)]; grind
        · rw [if_neg e2, if_neg e2, h.rest i j (by omega) hn (by omega)]; grind
    s1 := fun i hi => by
      by_cases e : i = k
      · exact ((h.s1 q hq).smul b).congr fun j hj => by rw [hA i j hi hj, if_pos e]
      · by_cases e2 : i = q
        · exact ((h.s1 k hkn).add ((h.s1 q hq).smul (-(A k c * b)))).congr fun j hj => by rw [hA i j hi hj, if_neg e, if_pos e2, if_pos e2]; grind
        · exact ((h.s1 i hi).add ((h.s1 q hq).smul (-(A i c * b)))).congr fun j hj => by rw [hA i j hi hj, if_neg e, if_neg e2, if_neg e2]; grind
    s2 := fun i hi => by
      refine Sp.trans (n' := n) (B := A) (fun l hl => ?_) (h.s2 i hi)
      by_cases e : l = q
      · refine ((Sp.row (A := A') hkn).smul (A q c)).congr fun j hj => ?_
        rw [hA k j hkn hj, if_pos rfl, e]
        have : A q j = (b * A q c) * A q j := by rw [hb]; grind
        rw [this]; grind
      · by_cases e2 : l = k
        · have hqk : q ≠ k := fun e3 => e (e2.trans e3.symm)
          refine ((Sp.row (A := A') hq).add ((Sp.row (A := A') hkn).smul (A k c))).congr fun j hj => ?_
          rw [hA q j hq hj, hA k j hkn hj, if_neg hqk, if_pos rfl, if_pos rfl, if_pos rfl, e2]; grind
        · refine ((Sp.row (A := A') hl).add ((Sp.row (A := A') hkn).smul (A l c))).congr fun j hj => ?_
          rw [hA l j hl hj, hA k j hkn hj, if_neg e2, if_neg e, if_neg e, if_pos rfl]; grind }
structure EEnd (n w : Nat) (A0 : Nat → Nat → K) (cols k : Nat) (A : Nat → Nat → K) (pv : Nat → Nat) : Prop where
  kn : k ≤ n
  lt : ∀ i, i < k → pv i < cols
  inc : ∀ i l, i < l → l < k → pv i < pv l
  piv : ∀ i l, i < n → l < k → A i (pv l) = if i = l then 1 else 0
  low : ∀ i j, i < k → j < pv i → A i j = 0
  rest : ∀ i j, k ≤ i → i < n → j < cols → A i j = 0
  s1 : ∀ i, i < n → Sp n w A0 (A i)
  s2 : ∀ i, i < n → Sp n w A (A0 i)
theorem EInv.done {cols : Nat} (h : EInv n w A0 c k A pv) (hc : c ≤ cols) (he : c = cols ∨ k = n) : EEnd n w A0 cols k A pv where
  kn := h.kn
  lt := fun i hi => by have := h.lt i hi; omega
  inc := h.inc
  piv := h.piv
  low := h.low
  rest := fun i j hi hn hj => by
    rcases he with e | e
    · exact h.rest i j hi hn (by omega)
    · omega
  s1 := h.s1
  s2 := h.s2
variable {cols : Nat}
def Ann (n cols : Nat) (M : Nat → Nat → K) (x : Nat → K) : Prop := ∀ j, j < cols → sg (fun i => x i * M i j) n = 0
structure Wide (n cols : Nat) (M A0 : Nat → Nat → K) : Prop where
  left : ∀ i j, i < n → j < cols → A0 i j = M i j
  right : ∀ i l, i < n → l < n → A0 i (cols + l) = if i = l then 1 else 0
variable {M : Nat → Nat → K}
theorem Wide.coef {v x : Nat → K} (h : Wide n cols M A0) (hx : ∀ j, j < cols + n → v j = sg (fun i => x i * A0 i j) n) : (∀ l, l < n → v (cols + l) = x l) ∧ ∀ j, j < cols → v j = sg (fun i => v (cols + i) * M i j) n := by
  have h1 : ∀ l, l < n → v (cols + l) = x l := by
    intro l hl
    rw [hx _ (by omega), sg_one (k := l) hl fun i hi hne => by rw [h.right i l hi hl, if_neg hne]; grind]
    rw [h.right l l hl hl, if_pos rfl]; grind
  refine ⟨h1, fun j hj => ?_⟩
  rw [hx j (by omega)]
  exact sg_congr fun i hi => by rw [h1 i hi, h.left i j hi hj]
theorem Wide.mem {v : Nat → K} (h : Wide n cols M A0) (hv : Sp n (cols + n) A0 v) : ∀ j, j < cols → v j = sg (fun i => v (cols + i) * M i j) n := by
  obtain ⟨x, hx⟩ := hv
  exact (h.coef hx).2
theorem Wide.in {v : Nat → K} (h : Wide n cols M A0) (hv : ∀ j, j < cols → v j = sg (fun i => v (cols + i) * M i j) n) : Sp n (cols + n) A0 v := by
  refine ⟨fun i => v (cols + i), fun j hj => ?_⟩
  rcases Nat.lt_or_ge j cols with g | g
  · rw [hv j g]
    exact sg_congr fun i hi => by rw [h.left i j hi g]
  · obtain ⟨l, rfl⟩ : ∃ l, j = cols + l := ⟨j - cols, by omega⟩
    rw [sg_one (k := l) (by omega) fun i hi hne => by rw [h.right i l hi (by omega), if_neg hne]; grind]
    rw [h.right l l (by omega) (by omega), if_pos rfl]; grind
theorem EEnd.kernel (h : EEnd n (cols + n) A0 cols k A pv) (hW : Wide n cols M A0) :
    (∀ i, i < n - k → Ann n cols M (fun l => A (k + i) (cols + l))) ∧ ∀ x, Ann n cols M x → Sp (n - k) n (fun i l => A (k + i) (cols + l)) x := by
  refine ⟨fun i hi j hj => ?_, fun x hx => ?_⟩
  · have := hW.mem (h.s1 (k + i) (by omega)) j hj
    rw [← this]; exact h.rest _ j (by omega) (by omega) hj
  · let v : Nat → K := fun j => if j < cols then 0 else x (j - cols)
    have hv : Sp n (cols + n) A0 v := hW.in fun j hj => by
      simp only [v]
      rw [if_pos hj, sg_congr (g := fun i => x i * M i j) fun i _ => by rw [if_neg (by omega), Nat.add_sub_cancel_left]]
      exact (hx j hj).symm
    obtain ⟨y, hy⟩ := Sp.trans h.s2 hv
    have y0 : ∀ l, l < k → y l = 0 := by
      intro l hl
      have hp := h.lt l hl
      have hkn := h.kn
      have := hy (pv l) (by omega)
      rw [sg_one (k := l) (by omega) fun i hi hne => by rw [h.piv i l hi hl, if_neg hne]; grind] at this
      rw [h.piv l l (by omega) hl, if_pos rfl] at this
      simp only [v] at this
      rw [if_pos hp] at this
      grind
    refine ⟨fun i => y (k + i), fun l hl => ?_⟩
    have := hy (cols + l) (by omega)
    simp only [v] at this
    rw [if_neg (by omega), Nat.add_sub_cancel_left] at this
    have hkn := h.kn
    rw [this, show n = k + (n - k) by omega, sg_split, sg_zero (f := fun i => y i * A i (cols + l)) fun i hi => by rw [y0 i hi]; grind]
    rw [show k + (n - k) - k = n - k by omega]; grind
theorem Ech.kernel {r s : Nat} {E : Nat → Nat → K} {c : Nat → Nat} (h : Ech r (cols + n) E c) (hW : Wide n cols M A0) (h1 : ∀ i, i < n → Sp r (cols + n) E (A0 i)) (h2 : ∀ i, i < r → Sp n (cols + n) A0 (E i)) (hs : s ≤ r) (hlo : ∀ i, i < s → c i < cols) (hhi : ∀ i, s ≤ i → i < r → cols ≤ c i) :
    Ech (r - s) n (fun i l => E (s + i) (cols + l)) (fun i => c (s + i) - cols) ∧ (∀ i, i < r - s → Ann n cols M (fun l => E (s + i) (cols + l))) ∧ ∀ x, Ann n cols M x → Sp (r - s) n (fun i l => E (s + i) (cols + l)) x := by
  refine ⟨{ lt := fun i hi => ?_, inc := fun i l hil hl => ?_, piv := fun i l hi hl => ?_, low := fun i j hi hj => ?_ }, fun i hi j hj => ?_, fun x hx => ?_⟩
  · have := h.lt (s + i) (by omega)
    have := hhi (s + i) (by omega) (by omega)
    show c (s + i) - cols < n
    omega
  · have := h.inc (s + i) (s + l) (by omega) (by omega)
    have := hhi (s + i) (by omega) (by omega)
    show c (s + i) - cols < c (s + l) - cols
    omega
  · have := hhi (s + l) (by omega) (by omega)
    show E (s + i) (cols + (c (s + l) - cols)) = _
    rw [show cols + (c (s + l) - cols) = c (s + l) by omega, h.piv _ _ (by omega) (by omega)]
    by_cases e : i = l
    · rw [if_pos e, if_pos (by omega)]
    · rw [if_neg e, if_neg (by omega)]
  · have := hhi (s + i) (by omega) (by omega)
    have hj' : j < c (s + i) - cols := hj
    exact h.low _ _ (by omega) (by omega)
  · have := hW.mem (h2 (s + i) (by omega)) j hj
    rw [← this]
    have := hhi (s + i) (by omega) (by omega)
    exact h.low _ _ (by omega) (by omega)
  · let v : Nat → K := fun j => if j < cols then 0 else x (j - cols)
    have hv : Sp n (cols + n) A0 v := hW.in fun j hj => by
      simp only [v]
      rw [if_pos hj, sg_congr (g := fun i => x i * M i j) fun i _ => by rw [if_neg (by omega), Nat.add_sub_cancel_left]]
      exact (hx j hj).symm
    have hc := h.coef (Sp.trans h1 hv)
    refine ⟨fun i => v (c (s + i)), fun l hl => ?_⟩
    have := hc (cols + l) (by omega)
    simp only [v] at this
    rw [if_neg (by omega), Nat.add_sub_cancel_left] at this
    rw [this, show r = s + (r - s) by omega, sg_split, sg_zero (f := fun k => (if c k < cols then 0 else x (c k - cols)) * E k (cols + l)) fun i hi => by rw [if_pos (hlo i hi)]; grind]
    rw [show s + (r - s) - s = r - s by omega]; simp only [v]; grind
end lin
end Go.Proofs.Ytfhcmibgpddggaa
namespace Go.Proofs.Ytfhcmibgpddggaa
section fz
variable {p : Nat} [NeZero p]
def fz (p : Nat) [NeZero p] (x : Nat) : Fin p := Fin.ofNat p x
end fz
def ent (M : List (List Nat)) (i j : Nat) : Nat := (M.getD i []).getD j 0
def Rw (p w : Nat) (r : List Nat) : Prop := r.length = w ∧ ∀ x ∈ r, x < p
def MV (p n w : Nat) (M : List (List Nat)) : Prop := M.length = n ∧ ∀ r ∈ M, Rw p w r
section mv
variable {p n w : Nat} {M : List (List Nat)}
theorem getD_mem {α : Type} {l : List α} {i : Nat} {d : α} (h : i < l.length) : l.getD i d ∈ l := by
  rw [List.getD_eq_getElem?_getD, List.getElem?_eq_getElem h]; exact List.getElem_mem h
theorem MV.get (h : MV p n w M) {i : Nat} (hi : i < n) : Rw p w (M.getD i []) := h.2 _ (getD_mem (by rw [h.1]; exact hi))
theorem Rw.lt {r : List Nat} (h : Rw p w r) {j : Nat} (hj : j < w) : r.getD j 0 < p := h.2 _ (getD_mem (by rw [h.1]; exact hj))
theorem MV.lt (h : MV p n w M) {i j : Nat} (hi : i < n) (hj : j < w) : ent M i j < p := (h.get hi).lt hj
theorem MV.set (h : MV p n w M) {i : Nat} {r : List Nat} (hr : Rw p w r) : MV p n w (M.set i r) :=
  ⟨by rw [List.length_set]; exact h.1, fun q hq => by
    rcases List.mem_or_eq_of_mem_set hq with g | g
    · exact h.2 q g
    · exact g ▸ hr⟩
theorem getD_set {α : Type} {l : List α} {i k : Nat} {x d : α} (hk : k < l.length) : (l.set k x).getD i d = if i = k then x else l.getD i d := by
  rw [List.getD_eq_getElem?_getD, List.getElem?_set, List.getD_eq_getElem?_getD]
  by_cases e : k = i
  · subst e; rw [if_pos rfl, if_pos rfl, if_pos hk]; rfl
  · rw [if_neg e, if_neg fun e' => e e'.symm]
end mv
section rows
variable {p w : Nat} {a b : List Nat}
end rows
def swapL (M : List (List Nat)) (k q : Nat) : List (List Nat) := (M.set k (M.getD q [])).set q (M.getD k [])
section step
variable {p n w k q c h : Nat} {M : List (List Nat)} {rk : List Nat}
variable [NeZero p]
def fM (p : Nat) [NeZero p] (M : List (List Nat)) (i j : Nat) : Fin p := fz p (ent M i j)
end step
def Same (p w : Nat) [NeZero p] (M R : List (List Nat)) : Prop := (∀ i, i < M.length → Sp R.length w (fM p R) (fM p M i)) ∧ ∀ i, i < R.length → Sp M.length w (fM p M) (fM p R i)
section form
variable {p n w : Nat} {M R R' : List (List Nat)} {pv pv' : List Nat} [NeZero p]
theorem Same.refl : Same p w M M := ⟨fun _ hi => Sp.row hi, fun _ hi => Sp.row hi⟩
theorem Same.symm (h : Same p w M R) : Same p w R M := ⟨h.2, h.1⟩
theorem Same.trans (h : Same p w M R) (h' : Same p w R R') : Same p w M R' := ⟨fun i hi => Sp.trans h'.1 (h.1 i hi), fun i hi => Sp.trans h.2 (h'.2 i hi)⟩
end form
end Go.Proofs.Ytfhcmibgpddggaa
namespace Go.Proofs.Ytfhcmibgpddggaa
section widen
variable {p n w : Nat} {M : List (List Nat)}
variable [NeZero p]
end widen
section left
variable {p n w : Nat} {M L L' : List (List Nat)} [NeZero p]
end left
section left2
variable {p n w : Nat} {M : List (List Nat)} [NeZero p]
end left2
section solv
variable {p n w : Nat} {M : List (List Nat)} {b : List Nat} [NeZero p]
end solv
section turn
variable {p n w : Nat} {M : List (List Nat)}
variable [NeZero p]
end turn
end Go.Proofs.Ytfhcmibgpddggaa
namespace Go.Proofs.Ytfhcmibgpddggaa
open Go.ChangeShapes Go.WideShapes Go.ChangeAt Go.RowKit
section
variable {H : Type} {enc : TypeId × Value → H} {P : Program} {W W' : World}
theorem trodAll_below (hl : laidOutB P = true) (hb : Below W.heap.size W W') : ∀ {ts : List TypeId} {vs : List Value} {ds : List (DataW H)} {ps : List MemPlace}, (ts.all fun t => P.readableRec t && decide (t < P.types.size)) = true → (∀ x ∈ ps, x.block < W.heap.size) →
    DataW.TrodAll enc P W 0 (fun _ => true) true ts vs ds ps → DataW.TrodAll enc P W' 0 (fun b => decide (b < W.heap.size)) true ts vs ds ps
  | [], vs, ds, ps, _, _, h => by obtain ⟨rfl, rfl, rfl⟩ := trodAll_nil h; exact trodAll_mk0
  | t :: ts, vs, ds, ps, hr, hlt, h => by
    obtain ⟨v, vs', d, ds', p, q, rfl, rfl, rfl, h1, h2⟩ := trodAll_cons h
    simp only [List.all_cons, Bool.and_eq_true, decide_eq_true_eq] at hr
    exact trodAll_cons_mk (Below.trod hl hr.1.1 hr.1.2 h1 hb fun x hx => hlt x (List.mem_append.2 (.inl hx))) (trodAll_below hl hb hr.2 (fun x hx => hlt x (List.mem_append.2 (.inr hx))) h2)
theorem law_post {f : Func} {s : ChangeSpec} {args : Array Value} {ds gs : List (DataW H)} {before : List MemPlace} {tb : TypeId} (hl : laidOutB P = true) (hr : (f.params.toList.all fun t => P.readableRec t && decide (t < P.types.size)) = true) (hres : f.resultTypes = #[tb])
    (htb : P.underlying tb = some .bool) (hvars : s.vars = []) (hs : s.fn H ds = { results := [.lit (.bool true)], args := ds }) (hW : DataW.Whole enc P f.params.toList s.vars false W args.toList ds gs before) (hb : Below W.heap.size W W') :
    s.post enc P f false true false false W args (.bool true) W' := by
  have hW' := hW
  obtain ⟨p, q, hA, hV, rfl, hz, hn⟩ := hW
  have hlt := hW'.lt
  rw [hvars] at hV
  obtain ⟨rfl, rfl⟩ := trodVars_none hV
  have e : s.fn H (ds ++ []) = { results := [.lit (.bool true)], args := ds } := by rw [List.append_nil]; exact hs
  refine ⟨ds, [], p ++ [], [], p, [], hW', ?_, ?_, ?_, hb.frame _, fun h => by cases h⟩
  · rw [e, hres]; exact trodAll_mk1 (shut_bool htb true)
  · rw [e]; exact trodAll_below hl hb hr (fun x hx => hlt x (List.mem_append.2 (.inl hx))) hA
  · rw [e, hvars]; exact rfl
theorem Rc.sc (S : Nat → Prop) (w : World) (v : Value) : Rc S w (.sc v) v := R.sc v
theorem Rc.scs (S : Nat → Prop) (w : World) (l : List Value) : Rc S w (.ag (l.map .sc)) (.agg l.toArray) :=
  R.ag (by simp) fun i x u hx hu => by
    rw [List.getElem?_map] at hx
    rw [List.getElem?_toArray] at hu
    rw [hu] at hx
    cases hx; exact .sc _
theorem AllC.nil (S : Nat → Prop) (w : World) : AllC S w [] [] := ⟨rfl, fun i x u hx => by simp at hx⟩
theorem AllC.cons {S : Nat → Prop} {w : World} {x : V} {v : Value} {xs : List V} {vs : List Value} (h : Rc S w x v) (k : AllC S w xs vs) : AllC S w (x :: xs) (v :: vs) :=
  ⟨by simp [k.1], fun i y u hy hu => by
    cases i with
    | zero => simp at hy hu; subst hy; subst hu; exact h
    | succ i => simp at hy hu; exact k.2 i y u hy hu⟩
theorem Spec.law {f : Nat} {xs : List V} {args : Array Value} (h : Spec P f xs (.sc (.bool true))) (ht : TabOK (fun b => b < W.heap.size) W) (ha : AllC (fun b => b < W.heap.size) W xs args.toList) : Calls P f args W fun e W' => e = .returned (.bool true) ∧ Below W.heap.size W W' := by
  refine (h _ W args (fun _ h => h) ht ha).mono ?_
  rintro e W' ⟨v, rfl, hg, hx⟩
  have : v = .bool true := by
    generalize hq : V.sc (.bool true) = q at hx
    cases hx <;> cases hq
    rfl
  exact ⟨by rw [this], hg.os, hg.tape, hg.output, hg.size, hg.block⟩
theorem u8_wf (n : Int) (h : (Lit.int .u8 n).wf = true) : 0 ≤ n ∧ n ≤ (255 : Nat) := by
  have h1 : IntKind.u8.min = 0 := rfl
  have h2 : IntKind.u8.max = 255 := rfl
  simp [Lit.wf] at h
  omega
end
end Go.Proofs.Ytfhcmibgpddggaa
namespace Go.Proofs.Ytfhcmibgpddggaa
open Go.ChangeShapes Go.WideShapes Go.ChangeAt Go.RowKit
inductive Shp where
  | int (k : IntKind) | bool | str
  | arr (n : Nat) (s : Shp)
  | slc (s : Shp)
  | st (l : List Shp)
mutual
/-- the cells of a value of the shape, as trees -/
def Shp.Rep : Shp → List V → Prop
  | .int k, ys => ∃ n : Int, ys = [.sc (.int k n)] ∧ (Lit.int k n).wf = true
  | .bool, ys => ∃ b, ys = [.sc (.bool b)]
  | .str, ys => ∃ s : ByteArray, ys = [.sc (.string s)] ∧ s.size ≤ maxLen
  | .arr n s, ys => ∃ yss : List (List V), yss.length = n ∧ ys = yss.flatten ∧ ∀ z ∈ yss, s.Rep z
  | .slc s, ys => ∃ yss : List (List V), yss.length ≤ maxLen ∧ ys = [.im yss.flatten yss.length] ∧ ∀ z ∈ yss, s.Rep z
  | .st l, ys => Shp.Reps l ys
def Shp.Reps : List Shp → List V → Prop
  | [], ys => ys = []
  | s :: r, ys => ∃ a b, ys = a ++ b ∧ s.Rep a ∧ Shp.Reps r b
end
mutual
/-- the type has the shape -/
def Shp.ok (P : Program) : Shp → TypeId → Bool
  | .int k, t => match P.underlying t with
    | some (.int k') => k' == k && P.cellsOf t == 1
    | _ => false
  | .bool, t => match P.underlying t with
    | some .bool => P.cellsOf t == 1
    | _ => false
  | .str, t => match P.underlying t with
    | some .string => P.cellsOf t == 1
    | _ => false
  | .arr n s, t => match P.underlying t with
    | some (.array m e) => m == n && s.ok P e && P.cellsOf t == n * P.cellsOf e
    | _ => false
  | .slc s, t => match P.underlying t with
    | some (.slice e) => s.ok P e && P.cellsOf t == 1
    | _ => false
  | .st l, t => match P.underlying t with
    | some (.struct fs) => Shp.oks P l fs.toList 0 (P.cellsOf t)
    | _ => false
def Shp.oks (P : Program) : List Shp → List Field → Nat → Nat → Bool
  | [], fs, off, n => fs.isEmpty && off == n
  | s :: r, fs, off, n => match fs with
    | f :: fs => f.offset == off && s.ok P f.type && Shp.oks P r fs (off + P.cellsOf f.type) n
    | [] => false
end
section
variable {S : Nat → Prop} {w : World}
theorem AllC.append {xs ys : List V} {vs us : List Value} (h : AllC S w xs vs) (k : AllC S w ys us) : AllC S w (xs ++ ys) (vs ++ us) := by
  refine ⟨by simp [h.1, k.1], fun i x u hx hu => ?_⟩
  have hl := h.1
  rw [List.getElem?_append] at hx hu
  by_cases hi : i < xs.length
  · rw [if_pos hi] at hx; rw [if_pos (by omega)] at hu
    exact h.2 i x u hx hu
  · rw [if_neg hi] at hx; rw [if_neg (by omega), ← hl] at hu
    exact k.2 _ x u hx hu
theorem AllC.rows {Q : List V → Prop} {sz : Nat} : ∀ (n : Nat) (cs : List Value), cs.length = n * sz → (∀ i, i < n → ∃ ys, Q ys ∧ AllC S w ys ((cs.drop (i * sz)).take sz)) → ∃ yss : List (List V), yss.length = n ∧ (∀ z ∈ yss, Q z) ∧ AllC S w yss.flatten cs
  | 0, cs, hl, _ => by
    have : cs = [] := List.eq_nil_of_length_eq_zero (by simpa using hl)
    subst this
    exact ⟨[], rfl, fun z hz => by simp at hz, AllC.nil _ _⟩
  | n + 1, cs, hl, h => by
    obtain ⟨ys, hq, ha⟩ := h 0 (by omega)
    rw [Nat.zero_mul, List.drop_zero] at ha
    have hl' : cs.length = n * sz + sz := by rw [hl, Nat.add_mul, Nat.one_mul]
    obtain ⟨yss, h1, h2, h3⟩ := AllC.rows (Q := Q) (sz := sz) n (cs.drop sz) (by simp [hl']) fun i hi => by
      obtain ⟨zs, hz, hb⟩ := h (i + 1) (by omega)
      refine ⟨zs, hz, ?_⟩
      rwa [List.drop_drop, show sz + i * sz = (i + 1) * sz by rw [Nat.add_mul]; omega]
    refine ⟨ys :: yss, by simp [h1], fun z hz => ?_, ?_⟩
    · rcases List.mem_cons.1 hz with rfl | hz
      · exact hq
      · exact h2 z hz
    · have := ha.append h3
      rwa [List.take_append_drop] at this
end
theorem addr_add (a : Addr) (i j : Nat) : (a.add i).add j = a.add (i + j) := by
  unfold Addr.add
  by_cases hj : j = 0
  · subst hj; simp
  · by_cases hi : i = 0
    · subst hi; simp
    · rw [if_neg hj, if_neg hi, if_neg (by omega)]; simp; omega
section
variable {H : Type} {enc : TypeId × Value → H} {P : Program} {w : World} {base : Nat} {sp : Nat → Bool} {held : Bool}
mutual
theorem open_rep : ∀ (s : Shp) {t : TypeId} {fuel : Nat} {cs : List Value} {x : DataW H × List MemPlace}, s.ok P t = true → DataW.trod enc P w base sp held fuel t cs = some x → cs.length = P.cellsOf t ∧ ∃ ys, s.Rep ys ∧ AllC (fun b => b < w.heap.size) w ys cs
  | .int k, t, fuel, cs, x, ho, h => by
    simp only [Shp.ok] at ho
    split at ho
    · rename_i k' hu
      simp only [Bool.and_eq_true, beq_iff_eq] at ho
      obtain ⟨rfl, hc⟩ := ho
      obtain ⟨n, rfl, _, hw⟩ := DataW.trod_int hu h
      exact ⟨hc.symm, _, ⟨n, rfl, hw⟩, AllC.cons (Rc.sc _ _ _) (AllC.nil _ _)⟩
    · cases ho
  | .bool, t, fuel, cs, x, ho, h => by
    simp only [Shp.ok] at ho
    split at ho
    · rename_i hu
      simp only [beq_iff_eq] at ho
      obtain ⟨n, rfl, _⟩ := DataW.trod_bool hu h
      exact ⟨ho.symm, _, ⟨n, rfl⟩, AllC.cons (Rc.sc _ _ _) (AllC.nil _ _)⟩
    · cases ho
  | .str, t, fuel, cs, x, ho, h => by
    simp only [Shp.ok] at ho
    split at ho
    · rename_i hu
      simp only [beq_iff_eq] at ho
      obtain ⟨n, rfl, _, hl⟩ := DataW.trod_string hu h
      exact ⟨ho.symm, _, ⟨n, rfl, hl⟩, AllC.cons (Rc.sc _ _ _) (AllC.nil _ _)⟩
    · cases ho
  | .arr n s, t, fuel, cs, x, ho, h => by
    simp only [Shp.ok] at ho
    split at ho
    · rename_i m e hu
      simp only [Bool.and_eq_true, beq_iff_eq] at ho
      obtain ⟨⟨rfl, ho⟩, hc⟩ := ho
      obtain ⟨xs, q, _, _, hl, hn, hel⟩ := DataW.trod_array hu h
      refine ⟨hl, ?_⟩
      obtain ⟨yss, h1, h2, h3⟩ := AllC.rows (S := fun b => b < w.heap.size) (w := w) (Q := s.Rep) m cs (by rw [hl, hc]) fun i hi => by
        have := hel i hi
        rw [List.getElem?_eq_getElem (by omega)] at this
        exact (open_rep s ho this).2
      exact ⟨_, ⟨yss, h1, rfl, h2⟩, h3⟩
    · cases ho
  | .slc s, t, fuel, cs, x, ho, h => by
    simp only [Shp.ok] at ho
    split at ho
    · rename_i e hu
      simp only [Bool.and_eq_true, beq_iff_eq] at ho
      obtain ⟨ho, hc⟩ := ho
      rcases DataW.trod_slice hu h with ⟨rfl, _⟩ | ⟨a, len, cap, elems, rest, n, _, rfl, _, hb, hl, hm, hlen, hel, _, _⟩
      · exact ⟨hc.symm, _, ⟨[], by simp, rfl, fun z hz => by simp at hz⟩, AllC.cons (.im0 (Nat.le_refl _) (by unfold maxLen; omega) (fun _ => rfl)) (AllC.nil _ _)⟩
      · refine ⟨hc.symm, ?_⟩
        obtain ⟨f, hf⟩ : ∃ f : Nat → Value, f = fun i => (w.cell? (a.add i)).getD undef := ⟨_, rfl⟩
        have each : ∀ i, i < len → w.cells? base (a.add (i * P.cellsOf e)) (P.cellsOf e) = some ((((List.range (len * P.cellsOf e)).map f).drop (i * P.cellsOf e)).take (P.cellsOf e)) ∧ ∃ y, DataW.trod enc P w base sp held n e ((((List.range (len * P.cellsOf e)).map f).drop (i * P.cellsOf e)).take (P.cellsOf e)) = some y := by
          intro i hi
          have h1 := hel i hi
          rw [List.getElem?_eq_getElem (by omega), Option.bind_eq_some_iff] at h1
          obtain ⟨cs', h2, h3⟩ := h1
          obtain ⟨_, h4, h5⟩ := World.cells?_some h2
          have hle : i * P.cellsOf e + P.cellsOf e ≤ len * P.cellsOf e := by
            have := Nat.mul_le_mul_right (P.cellsOf e) (show i + 1 ≤ len by omega)
            rwa [Nat.add_mul, Nat.one_mul] at this
          have he : cs' = (((List.range (len * P.cellsOf e)).map f).drop (i * P.cellsOf e)).take (P.cellsOf e) := by
            refine List.ext_getElem? fun j => ?_
            rw [List.getElem?_take]
            split
            · rename_i hj
              have h6 := h5 j hj
              rw [addr_add] at h6
              rw [List.getElem?_drop, List.getElem?_map, List.getElem?_range (by omega), Option.map_some, hf]
              simp only
              rw [h6, List.getElem?_eq_getElem (by omega)]; rfl
            · rw [List.getElem?_eq_none (by omega)]
          rw [← he]
          exact ⟨h2, _, h3⟩
        obtain ⟨yss, h1, h2, h3⟩ := AllC.rows (S := fun b => b < w.heap.size) (w := w) (Q := s.Rep) (sz := P.cellsOf e) len ((List.range (len * P.cellsOf e)).map f) (by simp) fun i hi => by
          obtain ⟨_, y, hy⟩ := each i hi
          exact (open_rep s ho hy).2
        refine ⟨_, ⟨yss, by omega, rfl, h2⟩, AllC.cons ?_ (AllC.nil _ _)⟩
        rw [h1]
        by_cases h0 : yss.flatten = []
        · rw [h0]; exact .im0 hl hm (fun h => by cases h)
        · have hpos : 0 < len * P.cellsOf e := by
            have h4 := h3.1
            simp only [List.length_map, List.length_range] at h4
            rw [← h4]
            exact List.length_pos_iff.2 h0
          have cell : ∀ i, i < len * P.cellsOf e → w.cell? (a.add i) = some (f i) := by
            intro i hi
            have hsz : 0 < P.cellsOf e := Nat.pos_of_ne_zero fun h => by rw [h, Nat.mul_zero] at hpos; omega
            have hd : i / P.cellsOf e < len := (Nat.div_lt_iff_lt_mul hsz).2 hi
            obtain ⟨h4, _⟩ := each (i / P.cellsOf e) hd
            obtain ⟨_, _, h5⟩ := World.cells?_some h4
            have h6 := h5 (i % P.cellsOf e) (Nat.mod_lt _ hsz)
            rw [addr_add, Nat.mul_comm, Nat.div_add_mod, List.getElem?_take, if_pos (Nat.mod_lt _ hsz), List.getElem?_drop, Nat.mul_comm, Nat.mul_comm, List.getElem?_map] at h6
            rw [h6, Nat.div_add_mod, List.getElem?_range hi]; rfl
          have c0 := cell 0 hpos
          rw [show a.add 0 = a by simp [Addr.add]] at c0
          obtain ⟨b, off, spot⟩ := a
          have hsp : spot = none := by
            cases spot with
            | none => rfl
            | some _ =>
              simp only [World.cell?] at c0
              split at c0
              · simp at c0
              · cases c0
          subst hsp
          have hbl : b < w.heap.size := by
            simp only [World.cell?] at c0
            split at c0
            · rename_i hb'; exact (Array.getElem?_eq_some_iff.1 hb').1
            · cases c0
          refine .im1 f hl hm hbl (fun i x hx => ?_) (fun i x hx => ?_)
          · have hi : i < len * P.cellsOf e := by
              have := (List.getElem?_eq_some_iff.1 hx).1
              have h4 := h3.1
              simp only [List.length_map, List.length_range] at h4
              omega
            have := cell i hi
            unfold Addr.add at this
            split at this
            · rename_i hi0; subst hi0; exact this
            · exact this
          · have hi : i < len * P.cellsOf e := by
              have := (List.getElem?_eq_some_iff.1 hx).1
              have h4 := h3.1
              simp only [List.length_map, List.length_range] at h4
              omega
            exact h3.2 i x (f i) hx (by rw [List.getElem?_map, List.getElem?_range hi]; rfl)
    · cases ho
  | .st l, t, fuel, cs, x, ho, h => by
    simp only [Shp.ok] at ho
    split at ho
    · rename_i fs hu
      obtain ⟨xs, n, _, _, hl, hn, hel⟩ := DataW.trod_struct hu h
      refine ⟨hl, ?_⟩
      obtain ⟨ys, h1, h2⟩ := open_reps l (fs := fs.toList) (off := 0) (cs := cs) (n := n) (m := P.cellsOf t) ho hl (fun i f hf => by
        have := hel i f (by simpa using hf)
        have hi := (List.getElem?_eq_some_iff.1 hf).1
        rw [List.getElem?_eq_getElem (by rw [hn]; simpa using hi)] at this
        exact ⟨_, this⟩)
      rw [List.drop_zero] at h2
      exact ⟨ys, h1, h2⟩
    · cases ho
theorem open_reps : ∀ (l : List Shp) {fs : List Field} {off n m : Nat} {cs : List Value}, Shp.oks P l fs off m = true → cs.length = m → (∀ (i : Nat) (f : Field), fs[i]? = some f → ∃ x : DataW H × List MemPlace, DataW.trod enc P w base sp held n f.type ((cs.drop f.offset).take (P.cellsOf f.type)) = some x) →
    ∃ ys, Shp.Reps l ys ∧ AllC (fun b => b < w.heap.size) w ys (cs.drop off)
  | [], fs, off, n, m, cs, ho, hl, h => by
    simp only [Shp.oks, Bool.and_eq_true, beq_iff_eq] at ho
    refine ⟨[], rfl, ?_⟩
    rw [List.drop_of_length_le (by omega)]
    exact AllC.nil _ _
  | s :: r, [], off, n, m, cs, ho, hl, h => by simp [Shp.oks] at ho
  | s :: r, f :: fs, off, n, m, cs, ho, hl, h => by
    simp only [Shp.oks, Bool.and_eq_true, beq_iff_eq] at ho
    obtain ⟨⟨h1, h2⟩, h3⟩ := ho
    obtain ⟨x, hx⟩ := h 0 f rfl
    obtain ⟨hlen, ys, h4, h5⟩ := open_rep s h2 hx
    obtain ⟨zs, h6, h7⟩ := open_reps r h3 hl fun i g hg => h (i + 1) g (by simpa using hg)
    refine ⟨ys ++ zs, ⟨ys, zs, rfl, h4, h6⟩, ?_⟩
    have := h5.append h7
    rwa [h1, ← List.drop_drop, List.take_append_drop] at this
end
def Shp.Val : Shp → V → Prop
  | .arr n s, x => ∃ ys, x = .ag ys ∧ (Shp.arr n s).Rep ys
  | .st l, x => ∃ ys, x = .ag ys ∧ Shp.Reps l ys
  | .int k, x => ∃ n : Int, x = .sc (.int k n) ∧ (Lit.int k n).wf = true
  | .bool, x => ∃ b, x = .sc (.bool b)
  | .str, x => ∃ s : ByteArray, x = .sc (.string s) ∧ s.size ≤ maxLen
  | .slc s, x => ∃ yss : List (List V), yss.length ≤ maxLen ∧ x = .im yss.flatten yss.length ∧ ∀ z ∈ yss, s.Rep z
def Shp.Vals : List Shp → List V → Prop
  | [], xs => xs = []
  | s :: r, xs => ∃ x ys, xs = x :: ys ∧ s.Val x ∧ Shp.Vals r ys
theorem rc_agg {S : Nat → Prop} {ys : List V} {cs : Array Value} (h : AllC S w ys cs.toList) : Rc S w (.ag ys) (.agg cs) :=
  .ag (by have := h.1; simpa using this) fun i x u hx hu => h.2 i x u hx (by simpa using hu)
theorem open_arg (s : Shp) {t : TypeId} {v : Value} {d : DataW H} {ps : List MemPlace} (ho : s.ok P t = true) (hval : Value.okWide P w .any 0 t v) (hd : DataW.Trod enc P w 0 (fun _ => true) true t v d ps) : ∃ x, s.Val x ∧ Rc (fun b => b < w.heap.size) w x v := by
  obtain ⟨fuel, hf⟩ := hd
  obtain ⟨_, ys, h1, h2⟩ := open_rep s ho hf
  have one : ∀ {y : V}, (∀ cs, v ≠ .agg cs) → ys = [y] → Rc (fun b => b < w.heap.size) w y v := by
    intro y hv e
    subst e
    have hc : v.cells.toList = [v] := by cases v <;> first | rfl | exact absurd rfl (hv _)
    rw [hc] at h2
    exact h2.2 0 y v rfl rfl
  cases s with
  | int k =>
    obtain ⟨n, rfl, hw⟩ := h1
    simp only [Shp.ok] at ho
    split at ho
    · rename_i hu
      obtain ⟨m, rfl⟩ := okWide_int hu hval
      exact ⟨_, ⟨n, rfl, hw⟩, one (fun cs e => by cases e) rfl⟩
    · cases ho
  | bool =>
    obtain ⟨b, rfl⟩ := h1
    simp only [Shp.ok] at ho
    split at ho
    · rename_i hu
      obtain ⟨m, rfl⟩ := okWide_bool hu hval
      exact ⟨_, ⟨b, rfl⟩, one (fun cs e => by cases e) rfl⟩
    · cases ho
  | str =>
    obtain ⟨b, rfl, hl⟩ := h1
    simp only [Shp.ok] at ho
    split at ho
    · rename_i hu
      refine ⟨_, ⟨b, rfl, hl⟩, one (fun cs e => ?_) rfl⟩
      subst e
      simp [Value.okWide, Cell.okWide, Cell.ok, hu] at hval
    · cases ho
  | slc s =>
    obtain ⟨yss, h3, rfl, h4⟩ := h1
    simp only [Shp.ok] at ho
    split at ho
    · rename_i hu
      refine ⟨_, ⟨yss, h3, rfl, h4⟩, one (fun cs e => ?_) rfl⟩
      subst e
      simp [Value.okWide, Cell.okWide, Cell.ok, hu] at hval
    · cases ho
  | arr n s =>
    have ho' := ho
    simp only [Shp.ok] at ho
    split at ho
    · rename_i hu
      obtain ⟨cs, rfl, _⟩ : ∃ cs, v = .agg cs ∧ cs.size = P.cellsOf t ∧ Row.okWide P w .any 0 t cs := by simpa [Value.okWide, hu] using hval
      exact ⟨_, ⟨ys, rfl, h1⟩, rc_agg h2⟩
    · cases ho
  | st l =>
    simp only [Shp.ok] at ho
    split at ho
    · rename_i hu
      obtain ⟨cs, rfl, _⟩ : ∃ cs, v = .agg cs ∧ cs.size = P.cellsOf t ∧ Row.okWide P w .any 0 t cs := by simpa [Value.okWide, hu] using hval
      exact ⟨_, ⟨ys, rfl, h1⟩, rc_agg h2⟩
    · cases ho
def Shp.okL (P : Program) : List Shp → List TypeId → Bool
  | [], [] => true
  | s :: r, t :: ts => s.ok P t && Shp.okL P r ts
  | _, _ => false
theorem open_args : ∀ (ss : List Shp) {ts : List TypeId} {vs : List Value} {ds : List (DataW H)} {ps : List MemPlace}, Shp.okL P ss ts = true → (∀ (j : Nat) t v, ts[j]? = some t → vs[j]? = some v → Value.okWide P w .any 0 t v) → DataW.TrodAll enc P w 0 (fun _ => true) true ts vs ds ps →
    ∃ xs, Shp.Vals ss xs ∧ AllC (fun b => b < w.heap.size) w xs vs ∧ ds.length = ts.length
  | [], [], vs, ds, ps, _, _, h => by obtain ⟨rfl, rfl, rfl⟩ := trodAll_nil h; exact ⟨[], rfl, AllC.nil _ _, rfl⟩
  | [], t :: ts, _, _, _, ho, _, _ => by cases ho
  | s :: r, [], _, _, _, ho, _, _ => by cases ho
  | s :: r, t :: ts, vs, ds, ps, ho, hv, h => by
    simp only [Shp.okL, Bool.and_eq_true] at ho
    obtain ⟨v, vs', d, ds', p, q, rfl, rfl, rfl, h1, h2⟩ := trodAll_cons h
    obtain ⟨x, h3, h4⟩ := open_arg s ho.1 (hv 0 t v rfl rfl) h1
    obtain ⟨xs, h5, h6, h7⟩ := open_args r ho.2 (fun j t v a b => hv (j + 1) t v (by simpa using a) (by simpa using b)) h2
    exact ⟨x :: xs, ⟨x, xs, rfl, h3, h5⟩, AllC.cons h4 h6, by simp [h7]⟩
theorem law_calls {f : Nat} {fn : Func} (ss : List Shp) {args : Array Value} {ds : List (DataW H)} {p : List MemPlace} (hok : Shp.okL P ss fn.params.toList = true)
    (hval : ∀ (j : Nat) t v, fn.params[j]? = some t → args[j]? = some v → Value.okWide P w .any 0 t v) (hA : DataW.TrodAll enc P w 0 (fun _ => true) true fn.params.toList args.toList ds p)
    (ht : TabOK (fun b => b < w.heap.size) w) (hs : ∀ xs, Shp.Vals ss xs → Spec P f xs (.sc (.bool true))) : ds.length = fn.params.size ∧ Calls P f args w fun e w' => e = .returned (.bool true) ∧ Below w.heap.size w w' := by
  obtain ⟨xs, h1, h2, h3⟩ := open_args ss hok (fun j t v a b => hval j t v (by simpa using a) (by simpa using b)) hA
  exact ⟨by simpa using h3, Spec.law (hs xs h1) ht h2⟩
theorem wf_nat {k : IntKind} {M : Nat} (hk : ∀ n, (Lit.int k n).wf = true → 0 ≤ n ∧ n ≤ M) {n : Int} (h : (Lit.int k n).wf = true) : ∃ m : Nat, n = m ∧ m ≤ M := by
  obtain ⟨h1, h2⟩ := hk n h
  exact ⟨n.toNat, by omega, by omega⟩
end
end Go.Proofs.Ytfhcmibgpddggaa
