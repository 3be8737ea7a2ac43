/- Walks: the reference's arithmetic modulo primes; inverses. -/
import Derived.Test.YtcbfamgdkmfcgaaMa
namespace Go.Proofs.Ytcbfamgdkmfcgaa
open Go.RowKit

theorem rAdd_any (p a b : Nat) (w : World) (hp : 0 < p) (hp2 : p ≤ 2147483648) (ha : a < p) (hb : b < p) :
    Calls Try.prog 23 #[.int .u64 p, .int .u64 a, .int .u64 b] w fun e w' => e = .returned (.int .u64 ((a + b) % p : Nat)) ∧ w = w' := by
  have h0 : (((p : Int) == 0) = false) := by simp; omega
  go_enter Try.func23, Try.ntmps23
  go_wp2
  go_ret
  exact ⟨by simp, rfl⟩

theorem rSub_any (p a b : Nat) (w : World) (hp : 0 < p) (hp2 : p ≤ 2147483648) (ha : a < p) (hb : b < p) :
    Calls Try.prog 30 #[.int .u64 p, .int .u64 a, .int .u64 b] w fun e w' => e = .returned (.int .u64 ((a + p - b) % p : Nat)) ∧ w = w' := by
  have h0 : (((p : Int) == 0) = false) := by simp; omega
  go_enter Try.func30, Try.ntmps30
  go_wp2
  go_ret
  exact ⟨by rw [show (a : Int) + p - b = ((a + p - b : Nat) : Int) by omega]; simp, rfl⟩

theorem rMul_any (p a b : Nat) (w : World) (hp : 0 < p) (hp2 : p ≤ 2147483648) (ha : a < p) (hb : b < p)  :
    Calls Try.prog 25 #[.int .u64 p, .int .u64 a, .int .u64 b] w fun e w' => e = .returned (.int .u64 (a * b % p : Nat)) ∧ w = w' := by
  have h4 : (((p : Int) == 0) = false) := by simp; omega
  have h0 : a * b < 4294967296 * 4294967296 := Nat.mul_lt_mul'' (by omega) (by omega)
  have h1 : ((a : Int) * (b : Int)) = ((a * b : Nat) : Int) := by simp
  have h2 : IntKind.u64.wrap ((a : Int) * (b : Int)) = (a : Int) * (b : Int) := by rw [h1]; exact IntWalk.u64_in _ (by omega)
  have h3 : 0 ≤ (a : Int) * (b : Int) := by rw [h1]; omega
  clear h0 h1
  go_enter Try.func25, Try.ntmps25
  go_wp2
  go_ret
  exact ⟨by simp, rfl⟩

theorem div_two_pow (e k : Nat) : e / 2 ^ k = 2 * (e / 2 ^ (k + 1)) + e / 2 ^ k % 2 := by
  rw [Nat.pow_succ, ← Nat.div_div_eq_div_mul]; omega

set_option maxHeartbeats 400000 in
theorem rPow_any (p a e : Nat) (w : World) (hp : 1 < p) (hp2 : p ≤ 2147483648) (ha : a < p) (he : e ≤ 18446744073709551615) :
    Calls Try.prog 33 #[.int .u64 p, .int .u64 a, .int .u64 e] w fun en w' => en = .returned (.int .u64 (pm p a e)) ∧ w = w' := by
  have h4 : (((p : Int) == 0) = false) := by simp; omega
  have h5 : (1 : Int) % (p : Int) = 1 := Int.emod_eq_of_lt (by omega) (by omega)
  go_enter Try.func33, Try.ntmps33
  go_wp2_with fail
  have H5 := hid h5
  clear h5 h4
  go_loopg [7, 8] 64 (fun k ov bv wr => ov = .int .u64 (pm p a (e / 2 ^ k)) ∧ bv = .int .i64 ((k : Int) - 1) ∧ k ≤ 64 ∧ wr = w)
  case atStart => exact ⟨by rw [Nat.div_eq_of_lt (by omega), pm_zero, Nat.mod_eq_of_lt hp, H5.out]; rfl, rfl, by omega, rfl⟩
  case round =>
    obtain ⟨rfl, rfl, hk, rfl⟩ := hrel
    cases gk with
    | zero =>
      have hf : decide ((0 : Int) ≤ ((0 : Nat) : Int) - 1) = false := by simp
      go_wp2
      go_ret
      exact ⟨by simp, rfl⟩
    | succ k =>
      have e1 : ((k + 1 : Nat) : Int) - 1 = (k : Int) := by omega
      rw [e1]
      clear e1
      have hlt := pm_lt (p := p) (a := a) (e := e / 2 ^ (k + 1)) (by omega)
      have hsq := pm_mul p a (e / 2 ^ (k + 1)) (e / 2 ^ (k + 1))
      have hsq2 := pm_mul p a (2 * (e / 2 ^ (k + 1))) 1
      rw [pm_one ha] at hsq2
      have hdv := div_two_pow e k
      have HSQ := hid hsq
      have HSQ2 := hid hsq2
      have HDV := hid hdv
      clear hsq hsq2 hdv
      generalize pm p a (e / 2 ^ (k + 1)) = x at *
      go_wp2_with fail
      refine (rMul_any p x x _ (by omega) hp2 hlt hlt).mono ?_
      rintro en w' ⟨rfl, rfl⟩
      have hylt : x * x % p < p := Nat.mod_lt _ (by omega)
      generalize x * x % p = y at *
      have hb2 : ((e : Int) / 2 ^ k) = ((e / 2 ^ k : Nat) : Int) := by simp
      have hble : e / 2 ^ k ≤ e := Nat.div_le_self _ _
      have hand := and_one_u64 ((e : Int) / 2 ^ k) (by rw [hb2]; exact Int.natCast_nonneg _) (by rw [hb2]; exact Int.ofNat_le.2 (Nat.le_trans hble he))
      have HB2 := hid hb2
      clear hb2
      by_cases hb : e / 2 ^ k % 2 = 1
      · have hand' : bits BinOp.and IntKind.u64 ((e : Int) / 2 ^ k) 1 = 1 := by rw [hand, HB2.out]; generalize e / 2 ^ k = z at hb ⊢; omega
        have HB := hid hb
        clear hand hb hble
        go_wp2_with fail
        refine (rMul_any p y a _ (by omega) hp2 hylt ha).mono ?_
        rintro en w' ⟨rfl, rfl⟩
        go_wp2_with fail
        go_roundg k
        case measure => omega
        case rel =>
          refine ⟨?_, rfl, by omega, rfl⟩
          rw [HDV.out, HB.out, ← HSQ2.out, Nat.two_mul, ← HSQ.out]
          simp
      · have hand' : bits BinOp.and IntKind.u64 ((e : Int) / 2 ^ k) 1 = 0 := by rw [hand, HB2.out]; generalize e / 2 ^ k = z at hb ⊢; omega
        have HB := hid (show e / 2 ^ k % 2 = 0 by omega)
        clear hand hb hble
        go_wp2_with fail
        go_roundg k
        case measure => omega
        case rel =>
          refine ⟨?_, rfl, by omega, rfl⟩
          rw [HDV.out, HB.out, Nat.add_zero, Nat.two_mul, ← HSQ.out]

theorem mInv_any (p a : Nat) (w : World) (hp : 1 < p) (hp2 : p ≤ 2147483648) (ha : a < p) :
    Calls Try.prog 26 #[.int .u64 p, .int .u64 a] w fun en w' => en = .returned (.tuple #[.int .u64 (if a = 0 then 0 else pm p a (p - 2) : Nat), .int .i64 (if a = 0 then 30 else 0)]) ∧ w = w' := by
  by_cases h0 : a = 0
  · subst h0
    go_enter Try.func26, Try.ntmps26
    go_wp2
    go_ret2
    exact ⟨rfl, rfl⟩
  · have hz : (((a : Int) == 0)) = false := by simp; omega
    have hm : (p : Int) - 2 = ((p - 2 : Nat) : Int) := by omega
    have H0 := hid h0
    clear h0
    go_enter Try.func26, Try.ntmps26
    go_wp2_with fail
    refine (mPow_any p a (p - 2) _ hp hp2 ha (by omega)).mono ?_
    rintro en w' ⟨rfl, rfl⟩
    go_wp2
    go_ret2
    first | exact ⟨rfl, rfl⟩ | exact ⟨by rw [if_neg H0.out, if_neg H0.out]; rfl, rfl⟩

theorem rInv_any (p a : Nat) (w : World) (hp : 1 < p) (hp2 : p ≤ 2147483648) (ha : a < p) :
    Calls Try.prog 27 #[.int .u64 p, .int .u64 a] w fun en w' => en = .returned (.tuple #[.int .u64 (if a = 0 then 0 else pm p a (p - 2) : Nat), .int .i64 (if a = 0 then 30 else 0)]) ∧ w = w' := by
  have hpz : (((p : Int) == 0)) = false := by simp; omega
  have hmod : (a : Int) % (p : Int) = (a : Int) := Int.emod_eq_of_lt (by omega) (by omega)
  by_cases h0 : a = 0
  · subst h0
    go_enter Try.func27, Try.ntmps27
    go_wp2
    go_ret2
    exact ⟨rfl, rfl⟩
  · have hz : (((a : Int) == 0)) = false := by simp; omega
    have hm : (p : Int) - 2 = ((p - 2 : Nat) : Int) := by omega
    have H0 := hid h0
    clear h0
    go_enter Try.func27, Try.ntmps27
    go_wp2_with fail
    refine (rPow_any p a (p - 2) _ hp hp2 ha (by omega)).mono ?_
    rintro en w' ⟨rfl, rfl⟩
    go_wp2
    go_ret2
    first | exact ⟨rfl, rfl⟩ | exact ⟨by rw [if_neg H0.out, if_neg H0.out]; rfl, rfl⟩
end Go.Proofs.Ytcbfamgdkmfcgaa
