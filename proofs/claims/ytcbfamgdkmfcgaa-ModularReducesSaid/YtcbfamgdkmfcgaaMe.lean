/- Walks: Prime. -/
import Derived.Test.YtcbfamgdkmfcgaaMa
namespace Go.Proofs.Ytcbfamgdkmfcgaa
open Go.RowKit

def oddTwos : Nat → Nat → Nat × Nat
  | 0, m => (m, 0)
  | f + 1, m => if m % 2 = 0 then ((oddTwos f (m / 2)).1, (oddTwos f (m / 2)).2 + 1) else (m, 0)
def sqLoop (n : Nat) : Nat → Nat → Bool
  | 0, _ => false
  | k + 1, x => if x * x % n = n - 1 then true else sqLoop n k (x * x % n)
def spB (n b o t : Nat) : Bool := pm n b o == 1 || pm n b o == n - 1 || sqLoop n (t - 1) (pm n b o)
def basesB (n o t : Nat) : List Nat → Bool
  | [] => true
  | b :: r => if n = b then true else if spB n b o t then basesB n o t r else false
/-- what the program's Prime answers -/
def primeB (n : Nat) : Bool := if n < 2 ∨ 2147483648 ≤ n then false else if n % 2 = 0 then n == 2 else basesB n (oddTwos 64 (n - 1)).1 (oddTwos 64 (n - 1)).2 [2, 3, 5, 7]

theorem oddTwos_even {f m : Nat} (h : m % 2 = 0) : (oddTwos (f + 1) m).1 = (oddTwos f (m / 2)).1 ∧ (oddTwos (f + 1) m).2 = (oddTwos f (m / 2)).2 + 1 := by simp [oddTwos, h]
theorem oddTwos_odd {f m : Nat} (h : ¬ m % 2 = 0) : oddTwos (f + 1) m = (m, 0) := by simp [oddTwos, h]

set_option maxHeartbeats 1000000 in
theorem Prime_any (n : Nat) (w : World) (hn : n ≤ 18446744073709551615) :
    Calls Try.prog 9 #[.int .u64 n] w fun e w' => e = .returned (.bool (primeB n)) ∧ w = w' := by
  by_cases h1 : n < 2
  · have HF : Hid (primeB n = false) := by show _ = _; unfold primeB; rw [if_pos (.inl h1)]
    have hd : decide ((n : Int) < 2) = true := by simp; omega
    clear h1
    go_enter Try.func9, Try.ntmps9
    go_wp2
    go_step3
    go_wp2
    rw [Exit.noGoto_ret]
    go_ret
    exact ⟨by rw [HF.out]; rfl, rfl⟩
  · have hd : decide ((n : Int) < 2) = false := by simp; omega
    by_cases h2 : 2147483648 ≤ n
    · have HF : Hid (primeB n = false) := by show _ = _; unfold primeB; rw [if_pos (.inr h2)]
      have hd2 : decide ((2147483648 : Int) ≤ (n : Int)) = true := by simp; omega
      clear h1 h2
      go_enter Try.func9, Try.ntmps9
      go_wp2
      go_step3
      go_wp2
      rw [Exit.noGoto_ret]
      go_ret
      exact ⟨by rw [HF.out]; rfl, rfl⟩
    · have hd2 : decide ((2147483648 : Int) ≤ (n : Int)) = false := by simp; omega
      have hc : ¬ (n < 2 ∨ 2147483648 ≤ n) := by omega
      by_cases h3 : n % 2 = 0
      · have HF : Hid (primeB n = (n == 2)) := by show _ = _; unfold primeB; rw [if_neg hc, if_pos h3]
        have hd3 : (((n : Int) % 2) == 0) = true := by rw [beq_iff_eq]; omega
        have HE : Hid ((((n : Int)) == 2) = (n == 2)) := by show _ = _; rw [Bool.eq_iff_iff]; simp; omega
        clear h1 h2 h3 hc
        go_enter Try.func9, Try.ntmps9
        go_wp2
        go_step3
        go_wp2
        rw [Exit.noGoto_ret]
        go_ret
        exact ⟨by rw [HF.out, ← HE.out]; rfl, rfl⟩
      · have hd3 : (((n : Int) % 2) == 0) = false := by rw [beq_eq_false_iff_ne]; omega
        obtain ⟨O, HO⟩ : ∃ O, Hid ((oddTwos 64 (n - 1)).1 = O) := ⟨_, rfl⟩
        obtain ⟨T, HT⟩ : ∃ T, Hid ((oddTwos 64 (n - 1)).2 = T) := ⟨_, rfl⟩
        have HF : Hid (primeB n = basesB n O T [2, 3, 5, 7]) := by show _ = _; unfold primeB; rw [if_neg hc, if_neg h3, HO.out, HT.out]
        have H3 := hid h3
        clear hc h3
        go_enter Try.func9, Try.ntmps9
        go_wp2
        go_step3
        go_wp2
        go_loopg [3, 4] 64 (fun f ov tv wr => ∃ o t : Nat, ov = .int .u64 o ∧ tv = .int .i64 t ∧ t + f = 64 ∧ 0 < o ∧ o < 2147483648 ∧ wr = w ∧ Hid (o < 2 ^ f ∧ (oddTwos f o).1 = O ∧ (oddTwos f o).2 + t = T))
        case atStart => exact ⟨n - 1, 0, by go_num, rfl, by omega, by omega, by omega, rfl, by omega, HO.out, HT.out⟩
        case round =>
          obtain ⟨o, t, rfl, rfl, htf, ho0, ho1, rfl, HI⟩ := hrel
          cases gk with
          | zero => have := HI.out.1; simp at this; omega
          | succ f =>
            by_cases he : o % 2 = 0
            · have hd4 : (((o : Int) % 2) == 0) = true := by rw [beq_iff_eq]; omega
              have hst := hid (oddTwos_even (f := f) he)
              have H4 := hid he
              clear he
              go_wp2
              go_roundg f
              case measure => omega
              case rel =>
                have h5 := HI.out
                have h6 := hst.out
                have h7 := H4.out
                exact ⟨o / 2, t + 1, by go_num, by go_num, by omega, by omega, by omega, rfl, by rw [Nat.pow_succ] at h5; omega, by rw [← h6.1]; exact h5.2.1, by rw [h6.2] at h5; omega⟩
            · have hd4 : (((o : Int) % 2) == 0) = false := by rw [beq_eq_false_iff_ne]; omega
              have h5 := HI.out
              rw [oddTwos_odd he] at h5
              obtain ⟨-, rfl, rfl⟩ := h5
              clear HI he HO HT
              have HF2 : Hid (primeB n = basesB n o t [2, 3, 5, 7]) := by have := HF.out; rw [show (o, 0).2 + t = t by simp] at this; exact this
              have hn3 : 3 ≤ n := by have := H3.out; omega
              have hn31 : n < 2147483648 := by omega
              clear HF h1 h2
              go_wp2
              go_step3
              go_wp2
              go_loopg [29] 4 (fun g iv wr' => ∃ i : Nat, iv = .int .i64 i ∧ g + i = 4 ∧ wr' = wr ∧ Hid (primeB n = basesB n o t ([2, 3, 5, 7].drop i)) ∧ Hid (∀ b ∈ [2, 3, 5, 7].take i, b < n))
              case atStart => exact ⟨0, rfl, by omega, rfl, HF2, by intro b hb; simp at hb⟩
              case round =>
                clear HF2
                obtain ⟨i, rfl, hgi, rfl, HF, HB⟩ := hrel
                obtain ⟨go, rfl⟩ : ∃ go : Nat, go = gk := ⟨_, rfl⟩
                by_cases hi : i < 4
                · obtain ⟨b, hb, hidx, hble, hbas, hnext⟩ : ∃ b : Nat, b ≤ 7 ∧ (∀ w, (Instr.index 52 (.agg #[.int .u64 2, .int .u64 3, .int .u64 5, .int .u64 7]) (.int .i64 i)).run Try.prog w = .ok (.int .u64 b) w) ∧ Hid (b ≤ n) ∧ Hid (primeB n = (if n = b then true else if spB n b o t then basesB n o t ([2, 3, 5, 7].drop (i + 1)) else false)) ∧ Hid (b < n → ∀ c ∈ [2, 3, 5, 7].take (i + 1), c < n) := by
                    have hB := HB.out
                    have hodd := H3.out
                    have hF := HF.out
                    rcases i with _ | _ | _ | _ | i
                    · exact ⟨2, by omega, fun w => by kernel_rfl, by show _ ≤ _; omega, hF, by intro h c hc; simp at hc; omega⟩
                    · exact ⟨3, by omega, fun w => by kernel_rfl, by show _ ≤ _; omega, hF, by intro h c hc; simp at hc; omega⟩
                    · have := hB 3 (by simp); exact ⟨5, by omega, fun w => by kernel_rfl, by show _ ≤ _; omega, hF, by intro h c hc; simp at hc; omega⟩
                    · have := hB 5 (by simp); exact ⟨7, by omega, fun w => by kernel_rfl, by show _ ≤ _; omega, hF, by intro h c hc; simp at hc; omega⟩
                    · omega
                  clear HF HB
                  have hlt4 : decide ((i : Int) < 4) = true := by simp; omega
                  by_cases hnb : n = b
                  · have hd5 : (((n : Int)) == (b : Int)) = true := by rw [hnb]; simp
                    have HFin : Hid (primeB n = true) := by show _ = _; rw [hbas.out, if_pos hnb]
                    clear hnb hbas hnext
                    go_wp2
                    try rw [Exit.noGoto_ret]
                    go_ret
                    exact ⟨by rw [HFin.out]; rfl, rfl⟩
                  · have hd5 : (((n : Int)) == (b : Int)) = false := by rw [beq_eq_false_iff_ne]; omega
                    have hbn : b < n := by have := hble.out; omega
                    have hb2 := hbas.out
                    rw [if_neg hnb] at hb2
                    have HB2 := hid hb2
                    have HN := hid (hnext.out hbn)
                    clear hnb hbas hnext hb2
                    obtain ⟨X, HX⟩ : ∃ X, Hid (pm n b o = X) := ⟨_, rfl⟩
                    have hXn : X < n := by rw [← HX.out]; exact pm_lt (by omega)
                    have HSP : Hid (spB n b o t = (X == 1 || X == n - 1 || sqLoop n (t - 1) X)) := by show _ = _; unfold spB; rw [HX.out]
                    have HM1 : Hid ((n : Int) - 1 = ((n - 1 : Nat) : Int)) := hid (by omega)
                    go_wp2_with fail
                    refine (mPow_any n b o _ (by omega) (by omega) hbn (by omega)).mono ?_
                    rintro e w' ⟨rfl, rfl⟩
                    rw [HX.out]
                    by_cases hx1 : X = 1 ∨ X = n - 1
                    · have HT : Hid (spB n b o t = true) := by show _ = _; rw [HSP.out]; rcases hx1 with h | h <;> simp [h]
                      rcases hx1 with h | h
                      · subst h
                        go_wp2_with fail
                        go_roundg (go - 1)
                        case measure => omega
                        case rel => exact ⟨i + 1, by go_num, by omega, rfl, by have := HB2.out; rw [HT.out] at this; exact this, HN.out⟩
                      · have e1 : (((X : Nat) : Int) == 1) = (((n : Int) - 1) == 1) := by rw [h, HM1.out]
                        have e2 : (((X : Nat) : Int) == ((n : Int) - 1)) = true := by rw [h, HM1.out]; simp
                        have e3 : (((n : Int) - 1) == 1) = false := by rw [beq_eq_false_iff_ne]; omega
                        rw [e3] at e1
                        clear h e3
                        go_wp2_with fail
                        go_roundg (go - 1)
                        case measure => omega
                        case rel => exact ⟨i + 1, by go_num, by omega, rfl, by have := HB2.out; rw [HT.out] at this; exact this, HN.out⟩
                    · have e1 : (((X : Nat) : Int) == 1) = false := by rw [beq_eq_false_iff_ne]; omega
                      have e2 : (((X : Nat) : Int) == ((n : Int) - 1)) = false := by rw [beq_eq_false_iff_ne]; omega
                      have HS : Hid (spB n b o t = sqLoop n (t - 1) X) := by
                        show _ = _; rw [HSP.out]
                        have h1 : (X == 1) = false := by rw [beq_eq_false_iff_ne]; omega
                        have h2 : (X == n - 1) = false := by rw [beq_eq_false_iff_ne]; omega
                        rw [h1, h2]; rfl
                      clear hx1 HSP HX
                      go_wp2_with fail
                      clear e1 e2
                      go_loopg [7, 49] t (fun g xv jv wr' => ∃ j x : Nat, xv = .int .u64 x ∧ jv = .int .i64 j ∧ g + j = t ∧ x < n ∧ wr' = wr ∧ Hid (spB n b o t = sqLoop n (t - 1 - j) x))
                      case atStart => exact ⟨0, X, rfl, rfl, by omega, hXn, rfl, HS⟩
                      case round =>
                        clear HS hXn
                        obtain ⟨j, x, rfl, rfl, hgj, hxn, rfl, HI⟩ := hrel
                        by_cases hj : j < t - 1
                        · have hd6 : decide ((j : Int) < (t : Int) - 1) = true := by simp; omega
                          have hk : t - 1 - j = (t - 1 - (j + 1)) + 1 := by omega
                          have hI := HI.out
                          rw [hk, sqLoop] at hI
                          have HI2 := hid hI
                          have hylt : x * x % n < n := Nat.mod_lt _ (by omega)
                          clear hI HI hk
                          go_wp2_with fail
                          refine (mMul_any n x x _ (by omega) (by omega) hxn hxn).mono ?_
                          rintro e w' ⟨rfl, rfl⟩
                          obtain ⟨y, HY⟩ : ∃ y, Hid (x * x % n = y) := ⟨_, rfl⟩
                          rw [HY.out] at hylt HI2 ⊢
                          by_cases hy : y = n - 1
                          · have e2 : (((y : Nat) : Int) == ((n : Int) - 1)) = true := by rw [hy, HM1.out]; simp
                            have HT : Hid (spB n b o t = true) := by show _ = _; rw [HI2.out, if_pos hy]
                            clear hy
                            go_wp2_with fail
                            go_roundg (go - 1)
                            case measure => omega
                            case rel => exact ⟨i + 1, by go_num, by omega, rfl, by have := HB2.out; rw [HT.out] at this; exact this, HN.out⟩
                          · have e2 : (((y : Nat) : Int) == ((n : Int) - 1)) = false := by rw [beq_eq_false_iff_ne]; omega
                            have HT : Hid (spB n b o t = sqLoop n (t - 1 - (j + 1)) y) := by show _ = _; rw [HI2.out, if_neg hy]
                            clear hy
                            go_wp2_with fail
                            go_roundg (gk - 1)
                            case measure => omega
                            case rel => exact ⟨j + 1, y, rfl, by go_num, by omega, hylt, rfl, HT⟩
                        · have hd6 : decide ((j : Int) < (t : Int) - 1) = false := by simp; omega
                          have hk : t - 1 - j = 0 := by omega
                          have hI := HI.out
                          rw [hk, sqLoop] at hI
                          have HFin : Hid (primeB n = false) := by show _ = _; have := HB2.out; rw [hI] at this; exact this
                          clear hI HI hk hj
                          go_wp2_with fail
                          try rw [Exit.noGoto_ret]
                          go_ret
                          exact ⟨by rw [HFin.out]; rfl, rfl⟩
                · have hi4 : i = 4 := by omega
                  have HFin : Hid (primeB n = true) := by show _ = _; have := HF.out; rw [hi4] at this; exact this
                  have hd7 : decide ((i : Int) < 4) = false := by simp; omega
                  clear hi4 HF HB
                  go_wp2_with fail
                  try rw [Exit.noGoto_ret]
                  go_ret
                  exact ⟨by rw [HFin.out]; rfl, rfl⟩
end Go.Proofs.Ytcbfamgdkmfcgaa
