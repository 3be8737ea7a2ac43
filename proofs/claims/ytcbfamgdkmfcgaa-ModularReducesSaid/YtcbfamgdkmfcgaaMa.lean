/- Walks: arithmetic modulo primes, the program's and the reference's. -/
import Derived.Test.YtcbfamgdkmfcgaaBase
import Derived.Test.YtcbfamgdkmfcgaaProg
import Derived.WalkSmall
namespace Go.Proofs.Ytcbfamgdkmfcgaa
open Go.RowKit

/-- a to the power e modulo p; behind a name, so that nothing reckons it -/
def pm (p a e : Nat) : Nat := a ^ e % p

theorem pm_lt {p a e : Nat} (h : 0 < p) : pm p a e < p := Nat.mod_lt _ h
theorem pm_zero (p a : Nat) : pm p a 0 = 1 % p := by simp [pm]
theorem pm_mul (p a e f : Nat) : pm p a e * pm p a f % p = pm p a (e + f) := by
  unfold pm; rw [← Nat.mul_mod, Nat.pow_add]
theorem pm_one {p a : Nat} (h : a < p) : pm p a 1 = a := by simp [pm, Nat.mod_eq_of_lt h]
/-- a step of the program's loop -/
theorem pm_step (p a e r : Nat) : r * pm p a e % p = (if e % 2 = 1 then (r * a % p) * pm p (a * a % p) (e / 2) % p else r * pm p (a * a % p) (e / 2) % p) := by
  have h1 : pm p (a * a % p) (e / 2) = pm p a (2 * (e / 2)) := by
    unfold pm; rw [← Nat.pow_mod, Nat.pow_mul, Nat.pow_two]
  rw [h1]
  split
  · rename_i h
    have e1 : e = 1 + 2 * (e / 2) := by omega
    conv => lhs; rw [e1]
    unfold pm
    rw [Nat.pow_add, Nat.pow_one]
    simp only [Nat.mul_mod_mod, Nat.mod_mul_mod, Nat.mul_assoc]
  · rename_i h
    have e1 : e = 2 * (e / 2) := by omega
    conv => lhs; rw [e1]

theorem rem_any (x p : Int) (w : World) (hp : 0 < p) (hx : 0 ≤ x) :
    Calls Try.prog 41 #[.int .u64 x, .int .u64 p] w fun e w' => e = .returned (.int .u64 (x % p)) ∧ w = w' := by
  have h0 : ((p == 0) = false) := by simp; omega
  go_enter Try.func41, Try.ntmps41
  go_wp2
  go_ret
  exact ⟨rfl, rfl⟩

theorem mAdd_any (p a b : Nat) (w : World) (hp : 0 < p) (hp2 : p ≤ 2147483648) (ha : a < p) (hb : b < p) :
    Calls Try.prog 28 #[.int .u64 p, .int .u64 a, .int .u64 b] w fun e w' => e = .returned (.int .u64 ((a + b) % p : Nat)) ∧ w = w' := by
  go_enter Try.func28, Try.ntmps28
  go_wp2_with fail
  refine (rem_any _ _ _ (by omega) (by omega)).mono ?_
  rintro e w' ⟨rfl, rfl⟩
  go_wp2
  go_ret
  exact ⟨by simp, rfl⟩

theorem mSub_any (p a b : Nat) (w : World) (hp : 0 < p) (hp2 : p ≤ 2147483648) (ha : a < p) (hb : b < p) :
    Calls Try.prog 29 #[.int .u64 p, .int .u64 a, .int .u64 b] w fun e w' => e = .returned (.int .u64 ((a + p - b) % p : Nat)) ∧ w = w' := by
  go_enter Try.func29, Try.ntmps29
  go_wp2_with fail
  refine (rem_any _ _ _ (by omega) (by omega)).mono ?_
  rintro e w' ⟨rfl, rfl⟩
  go_wp2
  go_ret
  exact ⟨by rw [show (a : Int) + p - b = ((a + p - b : Nat) : Int) by omega]; simp, rfl⟩

theorem mMul_any (p a b : Nat) (w : World) (hp : 0 < p) (hp2 : p ≤ 2147483648) (ha : a < p) (hb : b < p)  :
    Calls Try.prog 31 #[.int .u64 p, .int .u64 a, .int .u64 b] w fun e w' => e = .returned (.int .u64 (a * b % p : Nat)) ∧ w = w' := by
  have h0 : a * b < 4294967296 * 4294967296 := Nat.mul_lt_mul'' (by omega) (by omega)
  have h1 : ((a : Int) * (b : Int)) = ((a * b : Nat) : Int) := by simp
  have h2 : IntKind.u64.wrap ((a : Int) * (b : Int)) = (a : Int) * (b : Int) := by rw [h1]; exact IntWalk.u64_in _ (by omega)
  have h3 : 0 ≤ (a : Int) * (b : Int) := by rw [h1]; omega
  clear h0 h1
  go_enter Try.func31, Try.ntmps31
  go_wp2_with fail
  refine (rem_any _ _ _ (by omega) h3).mono ?_
  rintro e w' ⟨rfl, rfl⟩
  go_wp2
  go_ret
  exact ⟨by simp, rfl⟩

set_option maxHeartbeats 400000 in
theorem mPow_any (p a e : Nat) (w : World) (hp : 1 < p) (hp2 : p ≤ 2147483648) (ha : a < p) (he : e ≤ 18446744073709551615) :
    Calls Try.prog 32 #[.int .u64 p, .int .u64 a, .int .u64 e] w fun en w' => en = .returned (.int .u64 (pm p a e)) ∧ w = w' := by
  go_enter Try.func32, Try.ntmps32
  go_wp2_with fail
  refine (rem_any _ _ _ (by omega) (by omega)).mono ?_
  rintro en w' ⟨rfl, rfl⟩
  rw [show (1 : Int) % (p : Int) = 1 from Int.emod_eq_of_lt (by omega) (by omega)]
  go_wp2_with fail
  go_loop [1, 2, 7] (fun va ve vr => ∃ a' e' r' : Nat, va = .int .u64 a' ∧ ve = .int .u64 e' ∧ vr = .int .u64 r' ∧ a' < p ∧ r' < p ∧ e' ≤ 18446744073709551615 ∧ Hid (r' * pm p a' e' % p = pm p a e)) (fun _ ve _ => (intOf ve).toNat)
  case atStart => exact ⟨a, e, 1, rfl, rfl, rfl, ha, hp, he, by show _ = _; rw [Nat.one_mul]; exact Nat.mod_eq_of_lt (pm_lt (by omega))⟩
  case round =>
    obtain ⟨a', e', r', rfl, rfl, rfl, ha', hr', he', HE⟩ := hrel
    by_cases h0 : 0 < e'
    · have hand := and_one_u64 (e' : Int) (by omega) (by omega)
      have hst := pm_step p a' e' r'
      by_cases hb : e' % 2 = 1
      · have hb' : (((e' : Int) % 2) == 1) = true := by rw [beq_iff_eq]; omega
        rw [if_pos hb] at hst
        have HS := hid hst
        have hlt1 : r' * a' % p < p := Nat.mod_lt _ (by omega)
        have hlt2 : a' * a' % p < p := Nat.mod_lt _ (by omega)
        clear hst hb
        go_wp2_with fail
        refine (mMul_any p r' a' _ (by omega) hp2 hr' ha').mono ?_
        rintro en w' ⟨rfl, rfl⟩
        generalize hx : r' * a' % p = r2 at *
        generalize hy : a' * a' % p = a2 at *
        have HY := hid hy
        clear hx hy
        go_wp2_with fail
        refine (mMul_any p a' a' _ (by omega) hp2 ha' ha').mono ?_
        rintro en w' ⟨rfl, rfl⟩
        rw [HY.out]
        go_wp2
        go_round
        case rel => exact ⟨a2, e' / 2, r2, rfl, by go_num, rfl, hlt2, hlt1, by omega, by show _ = _; rw [← HE.out, HS.out]⟩
        case measure => simp [intOf]; omega
      · have hb' : (((e' : Int) % 2) == 1) = false := by rw [beq_eq_false_iff_ne]; omega
        rw [if_neg hb] at hst
        have HS := hid hst
        have hlt2 : a' * a' % p < p := Nat.mod_lt _ (by omega)
        clear hst hb
        go_wp2_with fail
        refine (mMul_any p a' a' _ (by omega) hp2 ha' ha').mono ?_
        rintro en w' ⟨rfl, rfl⟩
        generalize hy : a' * a' % p = a2 at *
        clear hy
        go_wp2
        go_round
        case rel => exact ⟨a2, e' / 2, r', rfl, by go_num, rfl, hlt2, hr', by omega, by show _ = _; rw [← HE.out, HS.out]⟩
        case measure => simp [intOf]; omega
    · have h0' : e' = 0 := by omega
      subst h0'
      have HF : Hid (r' = pm p a e) := by show _ = _; rw [← HE.out, pm_zero, Nat.mod_eq_of_lt hp, Nat.mul_one, Nat.mod_eq_of_lt hr']
      go_wp2
      go_ret
      exact ⟨by rw [← HF.out]; rfl, rfl⟩
end Go.Proofs.Ytcbfamgdkmfcgaa
