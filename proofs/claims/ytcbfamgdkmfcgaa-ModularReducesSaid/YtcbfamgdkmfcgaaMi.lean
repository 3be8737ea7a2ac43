/- The fixed examples of the law's package: a closed run. -/
import Derived.Test.YtcbfamgdkmfcgaaMh
import Derived.Test.YtcbfamgdkmfcgaaSv
import Derived.Test.YtcbfamgdkmfcgaaTab
namespace Go.Proofs.Ytcbfamgdkmfcgaa
open Go.RowKit

/-! ### powers and the test of primality, to be reckoned -/
def pmF : Nat → Nat → Nat → Nat → Nat
  | 0, p, _, _ => 1 % p
  | f + 1, p, a, e => match e with
    | 0 => 1 % p
    | e + 1 => if (e + 1) % 2 = 1 then a * pmF f p (a * a % p) ((e + 1) / 2) % p else pmF f p (a * a % p) ((e + 1) / 2)
theorem pm_eq (f : Nat) : ∀ (p a e : Nat), e < 2 ^ f → pm p a e = pmF f p a e := by
  induction f with
  | zero => intro p a e h; have : e = 0 := by simp at h; exact h
            subst this; rw [pm_zero]; rfl
  | succ f ih =>
    intro p a e h
    cases e with
    | zero => rw [pm_zero]; rfl
    | succ e =>
      have hs := pm_step p a (e + 1) 1
      rw [Nat.one_mul, Nat.one_mul] at hs
      have hlt : (e + 1) / 2 < 2 ^ f := by rw [Nat.pow_succ] at h; omega
      have hm : pm p a (e + 1) % p = pm p a (e + 1) := by unfold pm; rw [Nat.mod_mod]
      have hm2 : pm p (a * a % p) ((e + 1) / 2) % p = pm p (a * a % p) ((e + 1) / 2) := by unfold pm; rw [Nat.mod_mod]
      rw [hm] at hs
      rw [hs, pmF]
      split
      · rw [ih p (a * a % p) _ hlt, Nat.mod_mul_mod]
      · rw [Nat.one_mul, hm2, ih p (a * a % p) _ hlt]
def spF (n b o t : Nat) : Bool := pmF 32 n b o == 1 || pmF 32 n b o == n - 1 || sqLoop n (t - 1) (pmF 32 n b o)
def basesF (n o t : Nat) : List Nat → Bool
  | [] => true
  | b :: r => if n = b then true else if spF n b o t then basesF n o t r else false
def primeF (n : Nat) : Bool := if n < 2 ∨ 2147483648 ≤ n then false else if n % 2 = 0 then n == 2 else basesF n (oddTwos 64 (n - 1)).1 (oddTwos 64 (n - 1)).2 [2, 3, 5, 7]
theorem basesF_eq (n o t : Nat) (h : o < 2 ^ 32) : ∀ l, basesB n o t l = basesF n o t l
  | [] => rfl
  | b :: r => by
    have : spB n b o t = spF n b o t := by unfold spB spF; rw [pm_eq 32 n b o h]
    rw [basesB, basesF, this, basesF_eq n o t h r]
theorem oddTwos_le : ∀ (f m : Nat), (oddTwos f m).1 ≤ m
  | 0, m => Nat.le_refl _
  | f + 1, m => by
    simp only [oddTwos]
    split
    · exact Nat.le_trans (oddTwos_le f (m / 2)) (Nat.div_le_self _ _)
    · exact Nat.le_refl _
theorem primeF_eq (n : Nat) : primeB n = primeF n := by
  unfold primeB primeF
  split
  · rfl
  · rename_i h
    split
    · rfl
    · rw [basesF_eq]
      exact Nat.lt_of_le_of_lt (oddTwos_le 64 (n - 1)) (by omega)

theorem ups_cons (n k : Nat) : ups n (k + 1) = (n + 1) :: ups (n + 1) k := by
  refine List.ext_getElem (by simp [ups]) fun i h1 h2 => ?_
  cases i with
  | zero => simp [ups]
  | succ i => simp [ups]; omega
theorem downs_cons (n k : Nat) : downs n (k + 1) = (n - 1) :: downs (n - 1) k := by
  refine List.ext_getElem (by simp [downs]) fun i h1 h2 => ?_
  cases i with
  | zero => simp [downs]
  | succ i => simp [downs]; omega
theorem firstB_cons (x : Nat) (l : List Nat) : firstB (x :: l) = if primeF x then x else firstB l := by
  rw [← primeF_eq]
  unfold firstB
  rw [List.find?_cons]
  cases primeB x <;> rfl

theorem next_c1 : firstB (ups 2147483628 19) = 2147483629 := by rw [show (19 : Nat) = 18 + 1 by rfl, ups_cons, firstB_cons, if_pos (by kernel_rfl)]
theorem next_c2 : firstB (ups 2147483647 0) = 0 := rfl
theorem next_c3 : firstB (ups 0 2147483647) = 2 := by
  have h1 : ¬ primeF (0 + 1) = true := by
    have : primeF (0 + 1) = false := by kernel_rfl
    rw [this]; simp
  have h2 : primeF (0 + 1 + 1) = true := by kernel_rfl
  rw [show (2147483647 : Nat) = 2147483645 + 1 + 1 by rfl, ups_cons, firstB_cons, if_neg h1, ups_cons, firstB_cons, if_pos h2]
theorem before_c1 : firstB (downs 2 2) = 0 := by kernel_rfl
theorem before_c2 : firstB (downs 3 3) = 2 := by rw [show (3 : Nat) = 2 + 1 by rfl, downs_cons, firstB_cons, if_pos (by kernel_rfl)]
theorem before_c3 : firstB (downs 2147483648 2147483648) = 2147483647 := by
  have : downs 2147483648 (2147483647 + 1) = (2147483648 - 1) :: downs (2147483648 - 1) 2147483647 := downs_cons _ _
  rw [show downs 2147483648 2147483648 = downs 2147483648 (2147483647 + 1) by rfl, this, firstB_cons, if_pos (by kernel_rfl)]

/-- what is known of calls -/
def K03 : Nat → List V → Option V
  | 9, [.sc (.int .u64 (.ofNat n))] => if n ≤ 18446744073709551615 then some (.sc (.bool (primeF n))) else none
  | 11, [.sc (.int .u64 (.ofNat n))] => if n = 2147483628 then some (.sc (.int .u64 2147483629)) else if n = 2147483647 then some (.sc (.int .u64 0)) else if n = 0 then some (.sc (.int .u64 2)) else none
  | 13, [.sc (.int .u64 (.ofNat n))] => if n = 2 then some (.sc (.int .u64 0)) else if n = 3 then some (.sc (.int .u64 2)) else if n = 1099511627776 then some (.sc (.int .u64 2147483647)) else none
  | _, _ => none
theorem K03_sound : KSound Try.prog K03 := by
  intro f ys x h
  unfold K03 at h
  split at h
  · rename_i n
    split at h
    · rename_i hn
      cases h
      have := Spec.same (P := Try.prog) (f := 9) (vs := [.int .u64 n]) (v := .bool (primeB n)) fun w => Prime_any n w hn
      rw [primeF_eq] at this
      exact this
    · cases h
  · rename_i n
    have key : ∀ M r : Nat, 2147483647 - n = M → n ≤ 18446744073709551615 → firstB (ups n M) = r → Spec Try.prog 11 [.sc (.int .u64 (.ofNat n))] (.sc (.int .u64 (r : Int))) := fun M r h1 h2 h3 =>
      Spec.scalars (P := Try.prog) (f := 11) (vs := [.int .u64 n]) (v := .int .u64 (r : Int)) fun w => by have := Next_any n M h1 h2 w; rw [h3] at this; exact this
    split at h
    · rename_i hn; subst hn; cases h; exact key 19 _ (by rfl) (by omega) next_c1
    · split at h
      · rename_i hn; subst hn; cases h; exact key 0 _ (by rfl) (by omega) next_c2
      · split at h
        · rename_i hn; subst hn; cases h; exact key 2147483647 _ (by rfl) (by omega) next_c3
        · cases h
  · rename_i n
    have key : ∀ M r : Nat, min n 2147483648 = M → n ≤ 18446744073709551615 → firstB (downs M M) = r → Spec Try.prog 13 [.sc (.int .u64 (.ofNat n))] (.sc (.int .u64 (r : Int))) := fun M r h1 h2 h3 =>
      Spec.scalars (P := Try.prog) (f := 13) (vs := [.int .u64 n]) (v := .int .u64 (r : Int)) fun w => by have := Before_any n M h1 h2 w; rw [h3] at this; exact this
    split at h
    · rename_i hn; subst hn; cases h; exact key 2 _ (by rfl) (by omega) before_c1
    · split at h
      · rename_i hn; subst hn; cases h; exact key 3 _ (by rfl) (by omega) before_c2
      · split at h
        · rename_i hn; subst hn; cases h; exact key 2147483648 _ (by rfl) (by omega) before_c3
        · cases h
  · cases h

set_option maxRecDepth 100000 in
theorem sanity_s : Spec Try.prog 8 [] (.sc (.bool true)) := Spec.eval K03_sound 500 (fun _ => false) (by kernel_rfl)
end Go.Proofs.Ytcbfamgdkmfcgaa
