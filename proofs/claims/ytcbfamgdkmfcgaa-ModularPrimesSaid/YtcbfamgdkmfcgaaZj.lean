/- Texts joined: Wg Wl Wm Wn. -/
import Derived.Test.YtcbfamgdkmfcgaaZc
import Derived.Test.YtcbfamgdkmfcgaaZd
import Derived.Test.YtcbfamgdkmfcgaaZf
import Derived.Test.YtcbfamgdkmfcgaaZf
import Derived.Test.YtcbfamgdkmfcgaaZg
import Derived.Test.YtcbfamgdkmfcgaaZg
import Derived.Test.YtcbfamgdkmfcgaaZh
import Derived.Test.YtcbfamgdkmfcgaaZh
import Derived.Test.YtcbfamgdkmfcgaaZi
set_option linter.all false
/- The strong tests at 2, 3, 5, 7 tell the primes below 2^31. -/
namespace Go.Proofs.Ytcbfamgdkmfcgaa

/-! ### what passes the tests passes Fermat's -/
theorem oddTwos_mul : ∀ f m, (oddTwos f m).1 * 2 ^ (oddTwos f m).2 = m
  | 0, m => by simp [oddTwos]
  | f + 1, m => by
    unfold oddTwos
    split
    · rename_i h
      have := oddTwos_mul f (m / 2)
      show (oddTwos f (m / 2)).1 * 2 ^ ((oddTwos f (m / 2)).2 + 1) = m
      rw [Nat.pow_succ, ← Nat.mul_assoc, this]; omega
    · simp
theorem sq_one {n : Nat} (h : 2 ≤ n) : (n - 1) * (n - 1) % n = 1 % n := by
  have : (n - 1) * (n - 1) = 1 + n * (n - 2) := by
    obtain ⟨k, rfl⟩ : ∃ k, n = k + 2 := ⟨n - 2, by omega⟩
    rw [show k + 2 - 1 = k + 1 by omega, show k + 2 - 2 = k by omega]
    grind
  rw [this, Nat.add_mul_mod_self_left]
theorem sqLoop_true {n : Nat} (hn : 2 ≤ n) : ∀ k x, sqLoop n k x = true → ∃ i, i < k ∧ x ^ (2 ^ (i + 1)) % n = n - 1
  | 0, x, h => by simp [sqLoop] at h
  | k + 1, x, h => by
    unfold sqLoop at h
    split at h
    · rename_i h1
      exact ⟨0, by omega, by rw [Nat.zero_add, Nat.pow_one, Nat.pow_two]; exact h1⟩
    · obtain ⟨i, hi, he⟩ := sqLoop_true hn k _ h
      refine ⟨i + 1, by omega, ?_⟩
      rw [← Nat.pow_mod, ← Nat.pow_two, ← Nat.pow_mul] at he
      rw [Nat.pow_succ 2 (i + 1), Nat.mul_comm]; exact he
theorem spB_fermat {n b o t : Nat} (hn : 2 ≤ n) (ht : 0 < t) (h : spB n b o t = true) : U n b (o * 2 ^ t) := by
  unfold spB pm at h
  simp only [Bool.or_eq_true, beq_iff_eq] at h
  have up : ∀ i, i < t → b ^ (o * 2 ^ i) % n = n - 1 → U n b (o * 2 ^ t) := fun i hi he => by
    have h2 : U n b (o * 2 ^ (i + 1)) := by
      unfold U
      rw [Nat.pow_succ, ← Nat.mul_assoc, Nat.pow_mul, Nat.pow_mod, he, Nat.pow_two]
      exact sq_one hn
    have := h2.mul (2 ^ (t - (i + 1)))
    rwa [Nat.mul_assoc, ← Nat.pow_add, show i + 1 + (t - (i + 1)) = t by omega] at this
  rcases h with (h | h) | h
  · have : U n b o := by unfold U; rw [h, Nat.mod_eq_of_lt (by omega)]
    exact this.mul _
  · exact up 0 ht (by rw [Nat.pow_zero, Nat.mul_one]; exact h)
  · obtain ⟨i, hi, he⟩ := sqLoop_true hn _ _ h
    rw [← Nat.pow_mod, ← Nat.pow_mul] at he
    exact up (i + 1) (by omega) he
theorem basesB_all {n o t : Nat} : ∀ l, basesB n o t l = true → (∀ b ∈ l, n ≠ b) → ∀ b ∈ l, spB n b o t = true
  | [], _, _, b, hb => by simp at hb
  | a :: r, h, hne, b, hb => by
    unfold basesB at h
    rw [if_neg (hne a (List.mem_cons_self ..))] at h
    split at h
    · rename_i h1
      rcases List.mem_cons.1 hb with rfl | hb
      · exact h1
      · exact basesB_all r h (fun c hc => hne c (List.mem_cons_of_mem _ hc)) b hb
    · cases h
theorem oddTwos_pos {m : Nat} (h : m % 2 = 0) : 0 < (oddTwos 64 m).2 := by
  rw [(oddTwos_even h).2]; omega
theorem primeB_fermat {n : Nat} (h : primeB n = true) (h7 : 7 < n) : n < 2147483648 ∧ n % 2 = 1 ∧ U4 n (n - 1) := by
  unfold primeB at h
  split at h
  · cases h
  · rename_i h1
    split at h
    · rename_i h2
      have : n = 2 := by simpa using h
      omega
    · rename_i h2
      have hs := basesB_all _ h (by intro b hb e; simp at hb; omega)
      have ht := oddTwos_pos (m := n - 1) (by omega)
      have hm := oddTwos_mul 64 (n - 1)
      have key : ∀ b, b ∈ [2, 3, 5, 7] → U n b (n - 1) := fun b hb => by
        have := spB_fermat (by omega) ht (hs b hb)
        rwa [hm] at this
      exact ⟨by omega, by omega, key 2 (by simp), key 3 (by simp), key 5 (by simp), key 7 (by simp)⟩

/-! ### what passes is prime -/
theorem pf_self {f q : Nat} (h : pf f 2 q = some [q]) (h2 : 2 ≤ q) : Pr q := by
  obtain ⟨r, hr, hrq⟩ := exists_pr q h2
  have := pf_all f 2 q [q] (Nat.le_refl 2) h (fun r hr _ => hr.1) r hr hrq (by omega)
  simp at this
  subst this; exact hr
structure PLone (q l : Nat) : Prop where
  pr : Pr q
  lo : 10 < q
  hi : q ≤ 1500
  pos : 0 < l
  one : ∀ e, U4 q e → l ∣ e
  two : ∀ e, U4 (q * q) e → q ∣ e
theorem pl_one {q l : Nat} (h : (q, l) ∈ PL) : PLone q l := by
  have hr := run_pl
  simp only [Bool.and_eq_true] at hr
  have h1 := plB_mem hr.1 q l h
  unfold plOne at h1
  split at h1
  · rename_i rs x hrs hx
    simp only [Bool.and_eq_true] at h1
    obtain ⟨a1, a2, a0, a3, a4, a5, a6, a7, a8⟩ := h1
    have a1 : x = q := Nat.eq_of_beq_eq_true a1
    subst a1
    have a2 : 0 < l := of_blt a2
    have hlx : l < 100000 := of_blt a0
    have a3 : 10 < x := of_blt a3
    have a4 : x ≤ 1500 := Nat.le_of_ble_eq_true a4
    have hP := pf_self hx (by omega)
    have hall := pf_all 60 2 l rs (Nat.le_refl 2) hrs (fun r hr _ => hr.1)
    refine ⟨hP, a3, a4, a2, fun e he => ?_, fun e he => ?_⟩
    · exact ord_dvd ((u4B_iff (by omega)).1 a5) a2 (by omega) (fun r hr hrl => hall r hr hrl a2) a6 he
    · have hxl : x * l < 68719476736 := by
        have := Nat.mul_le_mul a4 (Nat.le_of_lt hlx); omega
      have := ord_dvd (m := x * x) (L := x * l) ((u4B_iff hxl).1 a7) (Nat.mul_pos (by omega) a2) hxl (fun r hr hrl => by
        rcases hr.dvd_mul hrl with e | e
        · rcases hP.div e with e2 | e2
          · have := hr.1; omega
          · subst e2; exact List.mem_cons_self ..
        · exact List.mem_cons_of_mem _ (hall r hr e a2)) a8 he
      exact Nat.dvd_trans ⟨l, rfl⟩ this
  · cases h1
theorem run_tree {t1 t2 : List (Nat × Nat)} {q l : Nat} (ht : PL = t1 ++ (q, l) :: t2) : node 9 q l t2 = true := by
  have hlen : PL.length = 235 := by decide +kernel
  have : t1.length < 235 := by rw [ht] at hlen; simp at hlen; omega
  by_cases a1 : t1.length < 29
  · exact topB_all ht run_t1 (by omega) (by omega)
  by_cases a2 : t1.length < 57
  · exact topB_all ht run_t2 (by omega) (by omega)
  by_cases a3 : t1.length < 86
  · exact topB_all ht run_t3 (by omega) (by omega)
  by_cases a4 : t1.length < 115
  · exact topB_all ht run_t4 (by omega) (by omega)
  by_cases a5 : t1.length < 140
  · exact topB_all ht run_t5 (by omega) (by omega)
  by_cases a6 : t1.length < 159
  · exact topB_all ht run_t6 (by omega) (by omega)
  by_cases a7 : t1.length < 175
  · exact topB_all ht run_t7 (by omega) (by omega)
  by_cases a8 : t1.length < 187
  · exact topB_all ht run_t8 (by omega) (by omega)
  by_cases a9 : t1.length < 197
  · exact topB_all ht run_t9 (by omega) (by omega)
  by_cases a10 : t1.length < 206
  · exact topB_all ht run_t10 (by omega) (by omega)
  by_cases a11 : t1.length < 213
  · exact topB_all ht run_t11 (by omega) (by omega)
  by_cases a12 : t1.length < 220
  · exact topB_all ht run_t12 (by omega) (by omega)
  by_cases a13 : t1.length < 227
  · exact topB_all ht run_t13 (by omega) (by omega)
  exact topB_all ht run_t14 (by omega) (by omega)
theorem prime_of {n : Nat} (h : primeB n = true) : Pr n := by
  by_cases h7 : n ≤ 10
  · have key : ∀ m, m ≤ 10 → primeB m = true → m = 2 ∨ m = 3 ∨ m = 5 ∨ m = 7 := by
      intro m hm hp
      have : ∀ m, m ≤ 10 → primeK m = true → m = 2 ∨ m = 3 ∨ m = 5 ∨ m = 7 := by decide +kernel
      exact this m hm (by rw [primeK_eq]; exact hp)
    rcases key n h7 h with rfl | rfl | rfl | rfl
    · exact prs 0 (by omega)
    · exact prs 1 (by omega)
    · exact prs 2 (by omega)
    · exact prs 3 (by omega)
  · obtain ⟨hlt, hodd, hU⟩ := primeB_fermat h (by omega)
    by_cases hs : n ≤ 1500
    · obtain ⟨l, hl⟩ := (smL_all run_sm (by omega) (by omega)).2 h
      exact (pl_one hl).pr
    · have hp : Psp n := ⟨hlt, by omega, hU⟩
      obtain ⟨p, hP, ⟨k, hk⟩, hmax⟩ := exists_max n (by omega)
      by_cases hk1 : k = 1
      · subst hk1; rw [Nat.mul_one] at hk; subst hk; exact hP
      · exfalso
        have hk2 : 2 ≤ k := by
          rcases Nat.eq_zero_or_pos k with e | e
          · subst e; omega
          · omega
        have n2 := no_base (prs 0 (by omega)) (by omega) hU.1
        have n3 := no_base (prs 1 (by omega)) (by omega) hU.2.1
        have n5 := no_base (prs 2 (by omega)) (by omega) hU.2.2.1
        have n7 := no_base (prs 3 (by omega)) (by omega) hU.2.2.2
        simp only [List.getD_cons_zero, List.getD_cons_succ] at n2 n3 n5 n7
        have low : ∀ q, Pr q → q ∣ n → 11 ≤ q := by
          intro q hq hqn
          refine Nat.le_of_not_lt fun hlt => ?_
          have h2 := hq.1
          have no : ∀ d, d ∣ q → d = 1 ∨ d = q := fun d hd => hq.div hd
          have e : q = 2 ∨ q = 3 ∨ q = 4 ∨ q = 5 ∨ q = 6 ∨ q = 7 ∨ q = 8 ∨ q = 9 ∨ q = 10 := by omega
          rcases e with rfl | rfl | rfl | rfl | rfl | rfl | rfl | rfl | rfl
          · exact n2 hqn
          · exact n3 hqn
          · have := no 2 ⟨2, rfl⟩; omega
          · exact n5 hqn
          · have := no 2 ⟨3, rfl⟩; omega
          · exact n7 hqn
          · have := no 2 ⟨4, rfl⟩; omega
          · have := no 3 ⟨3, rfl⟩; omega
          · have := no 2 ⟨5, rfl⟩; omega
        have hf : primeB n = false := by
          have hpl := low p hP ⟨k, hk⟩
          by_cases c1 : 65536 < p
          · have hk65 : k < 32768 := by
              refine Nat.lt_of_not_le fun hge => ?_
              have := Nat.mul_le_mul (show 65537 ≤ p from c1) hge
              omega
            obtain ⟨q, hq, hqk⟩ := exists_pr k hk2
            have hq11 := low q hq (hk ▸ Nat.dvd_trans hqk ⟨p, by rw [Nat.mul_comm]⟩)
            have hk11 : 11 ≤ k := Nat.le_trans hq11 (Nat.le_of_dvd (by omega) hqk)
            have hg : Nat.gcd k 210 = 1 := by
              by_cases h2 : 2 ≤ Nat.gcd k 210
              · exfalso
                obtain ⟨q, hq, hqg⟩ := exists_pr _ h2
                have hqn : q ∣ n := hk ▸ Nat.dvd_trans (Nat.dvd_trans hqg (Nat.gcd_dvd_left k 210)) ⟨p, by rw [Nat.mul_comm]⟩
                have h11 := low q hq hqn
                have hd : q ∣ 210 := Nat.dvd_trans hqg (Nat.gcd_dvd_right k 210)
                rcases hq.dvd_mul (show q ∣ 14 * 15 from hd) with e | e
                · rcases hq.dvd_mul (show q ∣ 2 * 7 from e) with e | e
                  · have := Nat.le_of_dvd (by omega) e; omega
                  · have := Nat.le_of_dvd (by omega) e; omega
                · rcases hq.dvd_mul (show q ∣ 3 * 5 from e) with e | e
                  · have := Nat.le_of_dvd (by omega) e; omega
                  · have := Nat.le_of_dvd (by omega) e; omega
              · have : 0 < Nat.gcd k 210 := Nat.gcd_pos_of_pos_left _ (by omega)
                omega
            have hck : chkK k = true := by
              by_cases a0 : k < 5011
              · exact kLB_all run_k1 (by omega) (by omega)
              by_cases a1 : k < 10011
              · exact kLB_all run_k2 (by omega) (by omega)
              by_cases a2 : k < 14011
              · exact kLB_all run_k3 (by omega) (by omega)
              by_cases a3 : k < 17011
              · exact kLB_all run_k4 (by omega) (by omega)
              by_cases a4 : k < 20011
              · exact kLB_all run_k5 (by omega) (by omega)
              by_cases a5 : k < 22511
              · exact kLB_all run_k6 (by omega) (by omega)
              by_cases a6 : k < 25011
              · exact kLB_all run_k7 (by omega) (by omega)
              by_cases a7 : k < 27511
              · exact kLB_all run_k8 (by omega) (by omega)
              by_cases a8 : k < 30011
              · exact kLB_all run_k9 (by omega) (by omega)
              exact kLB_all run_k10 (by omega) (by omega)
            exact chkK_sound hck hP c1 hk hk2 hp hg
          · by_cases c2 : 1500 < p
            · have hpo : p % 2 = 1 := by
                rcases Nat.mod_two_eq_zero_or_one p with e | e
                · rcases hP.div (Nat.dvd_of_mod_eq_zero e) with e2 | e2 <;> omega
                · exact e
              have hcp : chkP p = true := by
                by_cases a0 : p < 2501
                · exact lpB_all hP (by omega) run_p1 ((p - 1501) / 2) (by omega) (by omega)
                by_cases a1 : p < 4501
                · exact lpB_all hP (by omega) run_p2 ((p - 2501) / 2) (by omega) (by omega)
                by_cases a2 : p < 10001
                · exact lpB_all hP (by omega) run_p3 ((p - 4501) / 2) (by omega) (by omega)
                by_cases a3 : p < 20001
                · exact lpB_all hP (by omega) run_p4 ((p - 10001) / 2) (by omega) (by omega)
                by_cases a4 : p < 32801
                · exact lpB_all hP (by omega) run_p5 ((p - 20001) / 2) (by omega) (by omega)
                by_cases a5 : p < 41001
                · exact lpB_all hP (by omega) run_p6 ((p - 32801) / 2) (by omega) (by omega)
                by_cases a6 : p < 49201
                · exact lpB_all hP (by omega) run_p7 ((p - 41001) / 2) (by omega) (by omega)
                by_cases a7 : p < 57401
                · exact lpB_all hP (by omega) run_p8 ((p - 49201) / 2) (by omega) (by omega)
                exact lpB_all hP (by omega) run_p9 ((p - 57401) / 2) (by omega) (by omega)
              exact chkP_sound hcp hP (by omega) (by omega) hk hk2 hp
            · have hin : ∀ q, Pr q → q ∣ n → ∃ l, (q, l) ∈ PL := fun q hq hqn => by
                have h1 := low q hq hqn
                have h2 := hmax q hq hqn
                exact smB_mem hq h1 (smL_all run_sm h1 (by omega)).1
              have hsq : ∀ q, Pr q → q ∣ n → ¬ q * q ∣ n := fun q hq hqn hqq => by
                obtain ⟨l, hl⟩ := hin q hq hqn
                have h1 := (pl_one hl).two (n - 1) (hU.down hqq)
                have h2 := Nat.dvd_sub hqn h1
                rw [show n - (n - 1) = 1 by omega] at h2
                have := Nat.le_of_dvd (by omega) h2
                have := hq.1; omega
              obtain ⟨l, hl⟩ := hin p hP ⟨k, hk⟩
              obtain ⟨t1, t2, ht⟩ := List.append_of_mem hl
              have hd : Desc PL := by
                have hr := run_pl
                simp only [Bool.and_eq_true] at hr
                exact descB_desc hr.2
              have hnode := run_tree ht
              rw [ht] at hd
              have hd2 := List.pairwise_append.1 hd
              have hd3 := List.pairwise_cons.1 hd2.2.1
              refine node_sound hp hsq 9 p l t2 hnode hd3.2 (fun q b hq => ?_) k hk ?_ (by omega) (pl_one hl).pos ?_
              · have hm : (q, b) ∈ PL := by rw [ht]; exact List.mem_append.2 (.inr (List.mem_cons_of_mem _ hq))
                exact ⟨(pl_one hm).pos, fun hqn => (pl_one hm).one _ (hU.down hqn)⟩
              · exact (pl_one hl).one _ (hU.down ⟨k, hk⟩)
              · intro q hq hqk
                have hqn : q ∣ n := hk ▸ Nat.dvd_trans hqk ⟨p, by rw [Nat.mul_comm]⟩
                obtain ⟨b, hb⟩ := hin q hq hqn
                have hle := hmax q hq hqn
                have hne : q ≠ p := by
                  intro e; subst e
                  obtain ⟨i, hi⟩ := hqk
                  exact hsq q hq hqn ⟨i, by rw [hk, hi]; ac_rfl⟩
                rw [ht] at hb
                rcases List.mem_append.1 hb with h5 | h5
                · have := hd2.2.2 _ h5 _ (List.mem_cons_self ..)
                  simp at this; omega
                · rcases List.mem_cons.1 h5 with h6 | h6
                  · exact absurd (congrArg Prod.fst h6) hne
                  · exact ⟨b, h6⟩
        rw [h] at hf; cases hf
end Go.Proofs.Ytcbfamgdkmfcgaa

/- The program's test tells the primes below 2^31. -/
namespace Go.Proofs.Ytcbfamgdkmfcgaa

theorem sqrt_one {n y : Nat} (hn : Pr n) (hy : y < n) (h : y * y % n = 1) : y = 1 ∨ y = n - 1 := by
  have h2 := hn.1
  have hy0 : 0 < y := by
    rcases Nat.eq_zero_or_pos y with e | e
    · subst e; simp at h
    · exact e
  have hd : n ∣ (y - 1) * (y + 1) := by
    have e : y * y - 1 = (y - 1) * (y + 1) := by
      obtain ⟨k, rfl⟩ : ∃ k, y = k + 1 := ⟨y - 1, by omega⟩
      rw [Nat.add_sub_cancel]
      have : (k + 1) * (k + 1) = k * (k + 1 + 1) + 1 := by grind
      omega
    rw [← e]
    have := Nat.div_add_mod (y * y) n
    exact ⟨y * y / n, by omega⟩
  rcases hn.dvd_mul hd with e | e
  · left
    rcases Nat.eq_zero_or_pos (y - 1) with e0 | e0
    · omega
    · have := Nat.le_of_dvd e0 e; omega
  · right
    have := Nat.le_of_dvd (by omega) e; omega
theorem sq_prime {n : Nat} (hn : Pr n) : ∀ t y, y < n → y ^ (2 ^ t) % n = 1 → y = 1 ∨ (0 < t ∧ (y = n - 1 ∨ sqLoop n (t - 1) y = true))
  | 0, y, hy, h => by
    rw [Nat.pow_zero, Nat.pow_one, Nat.mod_eq_of_lt hy] at h; exact .inl h
  | t + 1, y, hy, h => by
    have hz : y * y % n < n := Nat.mod_lt _ (by omega)
    have hpow : (y * y % n) ^ (2 ^ t) % n = 1 := by
      rw [← Nat.pow_mod, ← Nat.pow_two, ← Nat.pow_mul]
      rw [Nat.pow_succ, Nat.mul_comm] at h; exact h
    rcases sq_prime hn t _ hz hpow with e | ⟨h0, e⟩
    · rcases sqrt_one hn hy e with e | e
      · exact .inl e
      · exact .inr ⟨by omega, .inl e⟩
    · refine .inr ⟨by omega, .inr ?_⟩
      obtain ⟨s, rfl⟩ : ∃ s, t = s + 1 := ⟨t - 1, by omega⟩
      show sqLoop n (s + 1) y = true
      unfold sqLoop
      split
      · rfl
      · rename_i hne
        rcases e with e | e
        · exact absurd e hne
        · exact e
theorem spB_prime {n b o t : Nat} (hn : Pr n) (h0 : 0 < b) (hb : b < n) (ho : o * 2 ^ t = n - 1) : spB n b o t = true := by
  have hx : pm n b o < n := pm_lt (by omega)
  have hp : pm n b o ^ (2 ^ t) % n = 1 := by
    unfold pm
    rw [← Nat.pow_mod, ← Nat.pow_mul, ho]
    exact hn.one h0 hb
  unfold spB
  rcases sq_prime hn t _ hx hp with e | ⟨_, e | e⟩
  · rw [e]; rfl
  · rw [show (pm n b o == n - 1) = true by rw [beq_iff_eq]; exact e]; simp
  · rw [e]; simp
theorem primeB_of {n : Nat} (h : Pr n) (hlt : n < 2147483648) : primeB n = true := by
  have h2 := h.1
  by_cases h7 : n ≤ 7
  · have key : ∀ m, m ≤ 7 → (primeK m = true ∨ m < 2 ∨ m = 4 ∨ m = 6) := by decide +kernel
    rcases key n h7 with e | e | e | e
    · rw [← primeK_eq]; exact e
    · omega
    · subst e; have := h.div (show 2 ∣ 4 from ⟨2, rfl⟩); omega
    · subst e; have := h.div (show 2 ∣ 6 from ⟨3, rfl⟩); omega
  · have hodd : n % 2 = 1 := by
      rcases Nat.mod_two_eq_zero_or_one n with e | e
      · rcases h.div (Nat.dvd_of_mod_eq_zero e) with e2 | e2 <;> omega
      · exact e
    have hm := oddTwos_mul 64 (n - 1)
    unfold primeB
    rw [if_neg (by omega), if_neg (by omega)]
    simp only [basesB, spB_prime h (show 0 < 2 by omega) (by omega) hm, spB_prime h (show 0 < 3 by omega) (by omega) hm, spB_prime h (show 0 < 5 by omega) (by omega) hm, spB_prime h (show 0 < 7 by omega) (by omega) hm, if_true, ite_self]
theorem primeB_iff {n : Nat} : primeB n = true ↔ Pr n ∧ n < 2147483648 := by
  constructor
  · intro h
    refine ⟨prime_of h, ?_⟩
    unfold primeB at h
    split at h
    · cases h
    · omega
  · exact fun h => primeB_of h.1 h.2
#print axioms primeB_iff
end Go.Proofs.Ytcbfamgdkmfcgaa

/- The next prime, and the one before. -/
namespace Go.Proofs.Ytcbfamgdkmfcgaa

theorem find_ups (n : Nat) : ∀ k, match (ups n k).find? primeB with
    | none => ∀ i, i < k → primeB (n + 1 + i) = false
    | some x => ∃ i, i < k ∧ x = n + 1 + i ∧ primeB x = true ∧ ∀ j, j < i → primeB (n + 1 + j) = false
  | 0 => by simp [ups]
  | k + 1 => by
    have ih := find_ups n k
    rw [ups_succ, List.find?_append]
    cases h : (ups n k).find? primeB with
    | some x =>
      rw [h] at ih
      obtain ⟨i, h1, h2⟩ := ih
      exact ⟨i, by omega, h2⟩
    | none =>
      rw [h] at ih
      simp only [Option.none_or, List.find?_singleton]
      cases hp : primeB (n + 1 + k) with
      | true => exact ⟨k, by omega, rfl, hp, ih⟩
      | false =>
        intro i hi
        rcases Nat.eq_or_lt_of_le (Nat.le_of_lt_succ hi) with e | e
        · subst e; exact hp
        · exact ih i e
theorem find_downs (n : Nat) : ∀ k, match (downs n k).find? primeB with
    | none => ∀ i, i < k → primeB (n - 1 - i) = false
    | some x => ∃ i, i < k ∧ x = n - 1 - i ∧ primeB x = true ∧ ∀ j, j < i → primeB (n - 1 - j) = false
  | 0 => by simp [downs]
  | k + 1 => by
    have ih := find_downs n k
    rw [downs_succ, List.find?_append]
    cases h : (downs n k).find? primeB with
    | some x =>
      rw [h] at ih
      obtain ⟨i, h1, h2⟩ := ih
      exact ⟨i, by omega, h2⟩
    | none =>
      rw [h] at ih
      simp only [Option.none_or, List.find?_singleton]
      cases hp : primeB (n - 1 - k) with
      | true => exact ⟨k, by omega, rfl, hp, ih⟩
      | false =>
        intro i hi
        rcases Nat.eq_or_lt_of_le (Nat.le_of_lt_succ hi) with e | e
        · subst e; exact hp
        · exact ih i e
/-- what Next and Before answer -/
def nextB (n : Nat) : Nat := firstB (ups n (2147483647 - n))
def beforeB (n : Nat) : Nat := firstB (downs (min n 2147483648) (min n 2147483648))
theorem nextB_spec (n : Nat) : (nextB n = 0 ∧ ∀ x, n < x → primeB x = false) ∨ (n < nextB n ∧ nextB n < 2147483648 ∧ primeB (nextB n) = true ∧ ∀ x, n < x → x < nextB n → primeB x = false) := by
  have h := find_ups n (2147483647 - n)
  unfold nextB firstB
  cases hf : (ups n (2147483647 - n)).find? primeB with
  | none =>
    rw [hf] at h
    refine .inl ⟨rfl, fun x hx => ?_⟩
    by_cases hb : x < 2147483648
    · have := h (x - n - 1) (by omega)
      rwa [show n + 1 + (x - n - 1) = x by omega] at this
    · cases hp : primeB x with
      | false => rfl
      | true => have := (primeB_iff.1 hp).2; omega
  | some y =>
    rw [hf] at h
    obtain ⟨i, h1, h2, h3, h4⟩ := h
    refine .inr ⟨by simp; omega, by simp; omega, h3, fun x hx hy => ?_⟩
    simp at hy
    have := h4 (x - n - 1) (by omega)
    rwa [show n + 1 + (x - n - 1) = x by omega] at this
theorem beforeB_eq {n m : Nat} (h1 : m < n) (h2 : n ≤ 2147483648) (hp : primeB m = true) (hno : ∀ x, m < x → x < n → primeB x = false) : beforeB n = m := by
  have h := find_downs n n
  unfold beforeB firstB
  rw [Nat.min_eq_left h2]
  cases hf : (downs n n).find? primeB with
  | none =>
    rw [hf] at h
    have := h (n - 1 - m) (by omega)
    rw [show n - 1 - (n - 1 - m) = m by omega, hp] at this
    cases this
  | some y =>
    rw [hf] at h
    obtain ⟨i, h3, h4, h5, h6⟩ := h
    show y = m
    rcases Nat.lt_trichotomy y m with e | e | e
    · have := h6 (n - 1 - m) (by omega)
      rw [show n - 1 - (n - 1 - m) = m by omega, hp] at this
      cases this
    · exact e
    · have := hno y e (by omega)
      rw [h5] at this; cases this
theorem not_prime_mul {a b : Nat} (ha : 2 ≤ a) (hb : 2 ≤ b) : primeB (a * b) = false := by
  cases h : primeB (a * b) with
  | false => rfl
  | true =>
    have hP := (primeB_iff.1 h).1
    rcases hP.div ⟨b, rfl⟩ with e | e
    · omega
    · have : a * 2 ≤ a * b := Nat.mul_le_mul_left _ hb
      omega
end Go.Proofs.Ytcbfamgdkmfcgaa

/- The reference's Prime, Next, Before by value; the program's Next, Before. -/
namespace Go.Proofs.Ytcbfamgdkmfcgaa
open Go.RowKit

theorem pr_trial {n d : Nat} (h2 : 2 ≤ n) (hd : n < d * d) (h : ∀ e, 2 ≤ e → e < d → n % e ≠ 0) : Pr n := by
  refine Pr.mk' h2 fun e he => ?_
  obtain ⟨f, rfl⟩ := he
  by_cases e1 : e = 1
  · exact .inl e1
  right
  have e0 : e ≠ 0 := by intro e0; subst e0; omega
  by_cases hed : e < d
  · exact absurd (Nat.mul_mod_right e f) (h e (by omega) hed)
  · have hf : f < d := by
      rcases Nat.lt_or_ge f d with k | k
      · exact k
      · have := Nat.mul_le_mul (Nat.le_of_not_lt hed) k; omega
    have f0 : f ≠ 0 := by intro f0; subst f0; omega
    by_cases f1 : f = 1
    · rw [f1, Nat.mul_one]
    · exact absurd (Nat.mul_mod_left e f) (h f (by omega) hf)
theorem not_pr_div {n d : Nat} (h2 : 2 ≤ d) (hd : d * d ≤ n) (h : n % d = 0) : primeB n = false := by
  cases hp : primeB n with
  | false => rfl
  | true =>
    have hP := (primeB_iff.1 hp).1
    have h3 : d * 2 ≤ d * d := Nat.mul_le_mul_left _ h2
    rcases hP.div (Nat.dvd_of_mod_eq_zero h) with e | e
    · omega
    · omega
theorem nextB_none {n : Nat} (h : ∀ x, n < x → primeB x = false) : nextB n = 0 := by
  rcases nextB_spec n with ⟨e, _⟩ | ⟨h1, _, h3, _⟩
  · exact e
  · rw [h _ h1] at h3; cases h3
theorem nextB_some {n m : Nat} (h1 : n < m) (hp : primeB m = true) (hno : ∀ x, n < x → x < m → primeB x = false) : nextB n = m := by
  rcases nextB_spec n with ⟨_, e⟩ | ⟨h2, _, h3, h4⟩
  · rw [e m h1] at hp; cases hp
  · rcases Nat.lt_trichotomy (nextB n) m with e | e | e
    · rw [hno _ h2 e] at h3; cases h3
    · exact e
    · rw [h4 m h1 e] at hp; cases hp
theorem beforeB_min (n : Nat) : beforeB n = beforeB (min n 2147483648) := by
  unfold beforeB; rw [show min (min n 2147483648) 2147483648 = min n 2147483648 by omega]
theorem beforeB_none {n : Nat} (h : ∀ x, x < min n 2147483648 → primeB x = false) : beforeB n = 0 := by
  unfold beforeB
  refine firstB_none fun x hx => ?_
  unfold downs at hx
  obtain ⟨i, hi, rfl⟩ := List.mem_map.1 hx
  exact h _ (by have := List.mem_range.1 hi; omega)
theorem big_not (n : Nat) (h : 2147483648 ≤ n) : primeB n = false := by unfold primeB; rw [if_pos (.inr h)]

theorem rPrime_s (n : Nat) (hn : n ≤ 18446744073709551615) : Spec Try.prog 10 [.sc (.int .u64 n)] (.sc (.bool (primeB n))) := by
  refine Spec.run Try.func10 rfl Try.ntmps10 (by simp) (by simp (disch := omega) only [go_sem]; rfl) fun B hB => ?_
  by_cases h1 : n < 2
  · have q1 := decide_eq_true (p := (n : Int) < 2) (by omega)
    have hp : primeB n = false := by unfold primeB; rw [if_pos (.inl h1)]
    (repeat (first | refine DO.nil (by kernel_rfl) ?_ | with_reducible refine SC.seq ?_ | with_reducible refine SC.skip ?_ | with_reducible refine SC.label ?_ | with_reducible refine SC.block ?_ | with_reducible refine SC.scope ?_ | with_reducible refine SC.nil ?_ | with_reducible refine SC.exit ?_ | with_reducible refine SC.ret ?_ | with_reducible refine SO.nil ?_ | with_reducible refine tq_normal ?_ | with_reducible refine bq_normal ?_ | with_reducible refine bq_same ?_ | with_reducible refine bq_other (by decide) ?_ | with_reducible refine tq_exit ?_ | with_reducible refine tq_ret ?_ | with_reducible refine bq_ret ?_ | with_reducible refine sq_normal ?_ | with_reducible refine sq_exit ?_ | with_reducible refine sq_ret ?_ | ((with_reducible apply SC.condB); (focus (simp (disch := omega) only [go_sem, ↓reduceIte]; rfl)); (first | refine pickT ?_ | refine pickF ?_)) | ((with_reducible apply SC.region); (focus (simp (disch := omega) only [go_sem, ↓reduceIte, Nat.reduceEqDiff, reduceCtorEq, q1]; rfl))) | ((with_reducible refine SC.draw Tab.mixed ?_ ?_); (focus (first | rfl | simp (disch := omega) only [go_sem, ↓reduceIte, Nat.reduceEqDiff, Nat.reduceLT, Nat.reduceLeDiff, Nat.reduceAdd, Nat.reduceMul, Nat.reduceSub, reduceCtorEq, Nat.reduceBEq, Int.reduceToNat, Int.reducePow, if_pos, if_neg, q1]))) | (with_reducible refine SC.ops ?_) | ((first | apply SO.call | apply DO.call); (focus (simp (disch := omega) only [go_sem, ↓reduceIte, Nat.reduceEqDiff, Nat.reduceLT, Nat.reduceLeDiff, Nat.reduceAdd, Nat.reduceMul, Nat.reduceSub, reduceCtorEq, Nat.reduceBEq, Int.reduceToNat, Int.reducePow, if_pos, if_neg, q1])); (focus (simp (disch := omega) only [go_sem, ↓reduceIte, Nat.reduceEqDiff, Nat.reduceLT, Nat.reduceLeDiff, Nat.reduceAdd, Nat.reduceMul, Nat.reduceSub, reduceCtorEq, Nat.reduceBEq, Int.reduceToNat, Int.reducePow, if_pos, if_neg, q1]; rfl)); (focus (simp (disch := omega) only [go_sem, ↓reduceIte, Nat.reduceEqDiff, Nat.reduceLT, Nat.reduceLeDiff, Nat.reduceAdd, Nat.reduceMul, Nat.reduceSub, reduceCtorEq, Nat.reduceBEq, Int.reduceToNat, Int.reducePow, if_pos, if_neg, q1] <;> rfl)); (first | (apply SCall.of; (focus (first | assumption)); (focus (simp (disch := omega) only [go_sem, ↓reduceIte, Nat.reduceEqDiff, Nat.reduceLT, Nat.reduceLeDiff, Nat.reduceAdd, Nat.reduceMul, Nat.reduceSub, reduceCtorEq, Nat.reduceBEq, Int.reduceToNat, Int.reducePow, if_pos, if_neg, q1]; rfl))) | (apply DCall.of; (focus (first | assumption)); (focus (simp (disch := omega) only [go_sem, ↓reduceIte, Nat.reduceEqDiff, Nat.reduceLT, Nat.reduceLeDiff, Nat.reduceAdd, Nat.reduceMul, Nat.reduceSub, reduceCtorEq, Nat.reduceBEq, Int.reduceToNat, Int.reducePow, if_pos, if_neg, q1]; rfl))) | (apply SCall.ofF; (focus (first | assumption)); (focus (simp (disch := omega) only [go_sem, ↓reduceIte, Nat.reduceEqDiff, Nat.reduceLT, Nat.reduceLeDiff, Nat.reduceAdd, Nat.reduceMul, Nat.reduceSub, reduceCtorEq, Nat.reduceBEq, Int.reduceToNat, Int.reducePow, if_pos, if_neg, q1]; rfl))))) | ((first | with_reducible apply SO.run | with_reducible apply DO.run); (focus (simp (disch := omega) only [go_sem, ↓reduceIte, Nat.reduceEqDiff, Nat.reduceLT, Nat.reduceLeDiff, Nat.reduceAdd, Nat.reduceMul, Nat.reduceSub, reduceCtorEq, Nat.reduceBEq, Int.reduceToNat, Int.reducePow, if_pos, if_neg, q1]; rfl)))))
    exact retQ_ret Try.results10 (by simp (disch := omega) only [go_sem, ↓reduceIte]; rfl) (by simp (disch := omega) only [go_sem]; rfl) (by rw [hp])
  have q1 := decide_eq_false (p := (n : Int) < 2) (by omega)
  by_cases h2 : 2147483648 ≤ n
  · have q2 := decide_eq_true (p := (2147483648 : Int) ≤ (n : Int)) (by omega)
    have hp := big_not n h2
    (repeat (first | refine DO.nil (by kernel_rfl) ?_ | with_reducible refine SC.seq ?_ | with_reducible refine SC.skip ?_ | with_reducible refine SC.label ?_ | with_reducible refine SC.block ?_ | with_reducible refine SC.scope ?_ | with_reducible refine SC.nil ?_ | with_reducible refine SC.exit ?_ | with_reducible refine SC.ret ?_ | with_reducible refine SO.nil ?_ | with_reducible refine tq_normal ?_ | with_reducible refine bq_normal ?_ | with_reducible refine bq_same ?_ | with_reducible refine bq_other (by decide) ?_ | with_reducible refine tq_exit ?_ | with_reducible refine tq_ret ?_ | with_reducible refine bq_ret ?_ | with_reducible refine sq_normal ?_ | with_reducible refine sq_exit ?_ | with_reducible refine sq_ret ?_ | ((with_reducible apply SC.condB); (focus (simp (disch := omega) only [go_sem, ↓reduceIte]; rfl)); (first | refine pickT ?_ | refine pickF ?_)) | ((with_reducible apply SC.region); (focus (simp (disch := omega) only [go_sem, ↓reduceIte, Nat.reduceEqDiff, reduceCtorEq, q1, q2]; rfl))) | ((with_reducible refine SC.draw Tab.mixed ?_ ?_); (focus (first | rfl | simp (disch := omega) only [go_sem, ↓reduceIte, Nat.reduceEqDiff, Nat.reduceLT, Nat.reduceLeDiff, Nat.reduceAdd, Nat.reduceMul, Nat.reduceSub, reduceCtorEq, Nat.reduceBEq, Int.reduceToNat, Int.reducePow, if_pos, if_neg, q1, q2]))) | (with_reducible refine SC.ops ?_) | ((first | apply SO.call | apply DO.call); (focus (simp (disch := omega) only [go_sem, ↓reduceIte, Nat.reduceEqDiff, Nat.reduceLT, Nat.reduceLeDiff, Nat.reduceAdd, Nat.reduceMul, Nat.reduceSub, reduceCtorEq, Nat.reduceBEq, Int.reduceToNat, Int.reducePow, if_pos, if_neg, q1, q2])); (focus (simp (disch := omega) only [go_sem, ↓reduceIte, Nat.reduceEqDiff, Nat.reduceLT, Nat.reduceLeDiff, Nat.reduceAdd, Nat.reduceMul, Nat.reduceSub, reduceCtorEq, Nat.reduceBEq, Int.reduceToNat, Int.reducePow, if_pos, if_neg, q1, q2]; rfl)); (focus (simp (disch := omega) only [go_sem, ↓reduceIte, Nat.reduceEqDiff, Nat.reduceLT, Nat.reduceLeDiff, Nat.reduceAdd, Nat.reduceMul, Nat.reduceSub, reduceCtorEq, Nat.reduceBEq, Int.reduceToNat, Int.reducePow, if_pos, if_neg, q1, q2] <;> rfl)); (first | (apply SCall.of; (focus (first | assumption)); (focus (simp (disch := omega) only [go_sem, ↓reduceIte, Nat.reduceEqDiff, Nat.reduceLT, Nat.reduceLeDiff, Nat.reduceAdd, Nat.reduceMul, Nat.reduceSub, reduceCtorEq, Nat.reduceBEq, Int.reduceToNat, Int.reducePow, if_pos, if_neg, q1, q2]; rfl))) | (apply DCall.of; (focus (first | assumption)); (focus (simp (disch := omega) only [go_sem, ↓reduceIte, Nat.reduceEqDiff, Nat.reduceLT, Nat.reduceLeDiff, Nat.reduceAdd, Nat.reduceMul, Nat.reduceSub, reduceCtorEq, Nat.reduceBEq, Int.reduceToNat, Int.reducePow, if_pos, if_neg, q1, q2]; rfl))) | (apply SCall.ofF; (focus (first | assumption)); (focus (simp (disch := omega) only [go_sem, ↓reduceIte, Nat.reduceEqDiff, Nat.reduceLT, Nat.reduceLeDiff, Nat.reduceAdd, Nat.reduceMul, Nat.reduceSub, reduceCtorEq, Nat.reduceBEq, Int.reduceToNat, Int.reducePow, if_pos, if_neg, q1, q2]; rfl))))) | ((first | with_reducible apply SO.run | with_reducible apply DO.run); (focus (simp (disch := omega) only [go_sem, ↓reduceIte, Nat.reduceEqDiff, Nat.reduceLT, Nat.reduceLeDiff, Nat.reduceAdd, Nat.reduceMul, Nat.reduceSub, reduceCtorEq, Nat.reduceBEq, Int.reduceToNat, Int.reducePow, if_pos, if_neg, q1, q2]; rfl)))))
    exact retQ_ret Try.results10 (by simp (disch := omega) only [go_sem, ↓reduceIte]; rfl) (by simp (disch := omega) only [go_sem]; rfl) (by rw [hp])
  have q2 := decide_eq_false (p := (2147483648 : Int) ≤ (n : Int)) (by omega)
  (repeat (first | refine DO.nil (by kernel_rfl) ?_ | with_reducible refine SC.seq ?_ | with_reducible refine SC.skip ?_ | with_reducible refine SC.label ?_ | with_reducible refine SC.block ?_ | with_reducible refine SC.scope ?_ | with_reducible refine SC.nil ?_ | with_reducible refine SC.exit ?_ | with_reducible refine SC.ret ?_ | with_reducible refine SO.nil ?_ | with_reducible refine tq_normal ?_ | with_reducible refine bq_normal ?_ | with_reducible refine bq_same ?_ | with_reducible refine bq_other (by decide) ?_ | with_reducible refine tq_exit ?_ | with_reducible refine tq_ret ?_ | with_reducible refine bq_ret ?_ | with_reducible refine sq_normal ?_ | with_reducible refine sq_exit ?_ | with_reducible refine sq_ret ?_ | ((with_reducible apply SC.condB); (focus (simp (disch := omega) only [go_sem, ↓reduceIte]; rfl)); (first | refine pickT ?_ | refine pickF ?_)) | ((with_reducible apply SC.region); (focus (simp (disch := omega) only [go_sem, ↓reduceIte, Nat.reduceEqDiff, reduceCtorEq, q1, q2]; rfl))) | ((with_reducible refine SC.draw Tab.mixed ?_ ?_); (focus (first | rfl | simp (disch := omega) only [go_sem, ↓reduceIte, Nat.reduceEqDiff, Nat.reduceLT, Nat.reduceLeDiff, Nat.reduceAdd, Nat.reduceMul, Nat.reduceSub, reduceCtorEq, Nat.reduceBEq, Int.reduceToNat, Int.reducePow, if_pos, if_neg, q1, q2]))) | (with_reducible refine SC.ops ?_) | ((first | apply SO.call | apply DO.call); (focus (simp (disch := omega) only [go_sem, ↓reduceIte, Nat.reduceEqDiff, Nat.reduceLT, Nat.reduceLeDiff, Nat.reduceAdd, Nat.reduceMul, Nat.reduceSub, reduceCtorEq, Nat.reduceBEq, Int.reduceToNat, Int.reducePow, if_pos, if_neg, q1, q2])); (focus (simp (disch := omega) only [go_sem, ↓reduceIte, Nat.reduceEqDiff, Nat.reduceLT, Nat.reduceLeDiff, Nat.reduceAdd, Nat.reduceMul, Nat.reduceSub, reduceCtorEq, Nat.reduceBEq, Int.reduceToNat, Int.reducePow, if_pos, if_neg, q1, q2]; rfl)); (focus (simp (disch := omega) only [go_sem, ↓reduceIte, Nat.reduceEqDiff, Nat.reduceLT, Nat.reduceLeDiff, Nat.reduceAdd, Nat.reduceMul, Nat.reduceSub, reduceCtorEq, Nat.reduceBEq, Int.reduceToNat, Int.reducePow, if_pos, if_neg, q1, q2] <;> rfl)); (first | (apply SCall.of; (focus (first | assumption)); (focus (simp (disch := omega) only [go_sem, ↓reduceIte, Nat.reduceEqDiff, Nat.reduceLT, Nat.reduceLeDiff, Nat.reduceAdd, Nat.reduceMul, Nat.reduceSub, reduceCtorEq, Nat.reduceBEq, Int.reduceToNat, Int.reducePow, if_pos, if_neg, q1, q2]; rfl))) | (apply DCall.of; (focus (first | assumption)); (focus (simp (disch := omega) only [go_sem, ↓reduceIte, Nat.reduceEqDiff, Nat.reduceLT, Nat.reduceLeDiff, Nat.reduceAdd, Nat.reduceMul, Nat.reduceSub, reduceCtorEq, Nat.reduceBEq, Int.reduceToNat, Int.reducePow, if_pos, if_neg, q1, q2]; rfl))) | (apply SCall.ofF; (focus (first | assumption)); (focus (simp (disch := omega) only [go_sem, ↓reduceIte, Nat.reduceEqDiff, Nat.reduceLT, Nat.reduceLeDiff, Nat.reduceAdd, Nat.reduceMul, Nat.reduceSub, reduceCtorEq, Nat.reduceBEq, Int.reduceToNat, Int.reducePow, if_pos, if_neg, q1, q2]; rfl))))) | ((first | with_reducible apply SO.run | with_reducible apply DO.run); (focus (simp (disch := omega) only [go_sem, ↓reduceIte, Nat.reduceEqDiff, Nat.reduceLT, Nat.reduceLeDiff, Nat.reduceAdd, Nat.reduceMul, Nat.reduceSub, reduceCtorEq, Nat.reduceBEq, Int.reduceToNat, Int.reducePow, if_pos, if_neg, q1, q2]; rfl)))))
  refine SC.loop (fun d : Nat => ⟨[(0, .sc (.int .u64 n)), (3, .sc (.int .u64 d))], [], 0, 21⟩) (fun d => 2 ≤ d ∧ d ≤ 46342 ∧ ∀ e, 2 ≤ e → e < d → n % e ≠ 0) (fun d => 46342 - d) 2 ?_ ?_ ?_
  · (refine Le.of [] hB (by first | exact ⟨Nat.zero_le _, fun _ _ => Nat.zero_le _⟩ | (constructor <;> (try simp) <;> (try omega))) ?_ ?_ <;> (repeat' (first | exact leSl_nil | exact leHp_nil | refine leSl_cons (by simp (disch := omega) only [go_sem, ↓reduceIte, reduceCtorEq]; rfl) ?_ ?_ | refine leHp_cons (by simp (disch := omega) only [go_sem, ↓reduceIte, Nat.reduceEqDiff, Nat.reduceLT, Nat.reduceLeDiff, Nat.reduceAdd, Nat.reduceMul, Nat.reduceSub, reduceCtorEq, Nat.reduceBEq, Int.reduceToNat, Int.reducePow, if_pos, if_neg]; rfl) ?_ ?_ | exact VLe.junk _ | exact VLe.refl rfl | exact VLe.nil_sl _ _ _ | exact VLe.int (by first | rfl | omega | (dsimp only; omega)) | exact VLe.bool rfl | exact VLe.sl rfl (by first | rfl | omega | (dsimp only; omega) | (simp; done)) | exact VLe.cap rfl (by first | rfl | omega | (dsimp only; omega) | (simp; done)) | exact VLe.im rfl rfl | exact HLe.new rfl | exact HLe.same rfl (LLe.refl rfl) | refine HLe.same rfl ?_ | exact LLe.nil _ | exact LLe.refl rfl | refine LLe.cons ?_ ?_)))
  · exact ⟨by omega, by omega, fun e h3 h4 => by omega⟩
  · rintro d ⟨hd, hd2, hI⟩ K hK
    have hdd : d * d ≤ 46342 * 46342 := Nat.mul_le_mul hd2 hd2
    have hmul : (d : Int) * (d : Int) = ((d * d : Nat) : Int) := by simp
    by_cases hc : d * d ≤ n
    · have hd3 : d ≤ 46341 := by
        rcases Nat.lt_or_ge d 46342 with k | k
        · omega
        · have := Nat.mul_le_mul k k; omega
      have hx := fun h => not_pr_div hd hc h
      generalize d * d = D at *
      have q3 := decide_eq_true (p := (D : Int) ≤ (n : Int)) (by omega)
      by_cases hm : n % d = 0
      · have q4 : ((n : Int) % (d : Int) == 0) = true := by
          rw [beq_iff_eq, ← Int.natCast_emod, hm]; rfl
        (repeat (first | refine DO.nil (by kernel_rfl) ?_ | with_reducible refine SC.seq ?_ | with_reducible refine SC.skip ?_ | with_reducible refine SC.label ?_ | with_reducible refine SC.block ?_ | with_reducible refine SC.scope ?_ | with_reducible refine SC.nil ?_ | with_reducible refine SC.exit ?_ | with_reducible refine SC.ret ?_ | with_reducible refine SO.nil ?_ | with_reducible refine tq_normal ?_ | with_reducible refine bq_normal ?_ | with_reducible refine bq_same ?_ | with_reducible refine bq_other (by decide) ?_ | with_reducible refine tq_exit ?_ | with_reducible refine tq_ret ?_ | with_reducible refine bq_ret ?_ | with_reducible refine sq_normal ?_ | with_reducible refine sq_exit ?_ | with_reducible refine sq_ret ?_ | ((with_reducible apply SC.condB); (focus (simp (disch := omega) only [go_sem, ↓reduceIte]; rfl)); (first | refine pickT ?_ | refine pickF ?_)) | ((with_reducible apply SC.region); (focus (simp (disch := omega) only [go_sem, ↓reduceIte, Nat.reduceEqDiff, Nat.reduceLT, reduceCtorEq, if_neg, hmul, q3, q4]; rfl))) | ((with_reducible refine SC.draw Tab.mixed ?_ ?_); (focus (first | rfl | simp (disch := omega) only [go_sem, ↓reduceIte, Nat.reduceEqDiff, Nat.reduceLT, Nat.reduceLeDiff, Nat.reduceAdd, Nat.reduceMul, Nat.reduceSub, reduceCtorEq, Nat.reduceBEq, Int.reduceToNat, Int.reducePow, if_pos, if_neg, hmul, q3, q4]))) | (with_reducible refine SC.ops ?_) | ((first | apply SO.call | apply DO.call); (focus (simp (disch := omega) only [go_sem, ↓reduceIte, Nat.reduceEqDiff, Nat.reduceLT, Nat.reduceLeDiff, Nat.reduceAdd, Nat.reduceMul, Nat.reduceSub, reduceCtorEq, Nat.reduceBEq, Int.reduceToNat, Int.reducePow, if_pos, if_neg, hmul, q3, q4])); (focus (simp (disch := omega) only [go_sem, ↓reduceIte, Nat.reduceEqDiff, Nat.reduceLT, Nat.reduceLeDiff, Nat.reduceAdd, Nat.reduceMul, Nat.reduceSub, reduceCtorEq, Nat.reduceBEq, Int.reduceToNat, Int.reducePow, if_pos, if_neg, hmul, q3, q4]; rfl)); (focus (simp (disch := omega) only [go_sem, ↓reduceIte, Nat.reduceEqDiff, Nat.reduceLT, Nat.reduceLeDiff, Nat.reduceAdd, Nat.reduceMul, Nat.reduceSub, reduceCtorEq, Nat.reduceBEq, Int.reduceToNat, Int.reducePow, if_pos, if_neg, hmul, q3, q4] <;> rfl)); (first | (apply SCall.of; (focus (first | assumption)); (focus (simp (disch := omega) only [go_sem, ↓reduceIte, Nat.reduceEqDiff, Nat.reduceLT, Nat.reduceLeDiff, Nat.reduceAdd, Nat.reduceMul, Nat.reduceSub, reduceCtorEq, Nat.reduceBEq, Int.reduceToNat, Int.reducePow, if_pos, if_neg, hmul, q3, q4]; rfl))) | (apply DCall.of; (focus (first | assumption)); (focus (simp (disch := omega) only [go_sem, ↓reduceIte, Nat.reduceEqDiff, Nat.reduceLT, Nat.reduceLeDiff, Nat.reduceAdd, Nat.reduceMul, Nat.reduceSub, reduceCtorEq, Nat.reduceBEq, Int.reduceToNat, Int.reducePow, if_pos, if_neg, hmul, q3, q4]; rfl))) | (apply SCall.ofF; (focus (first | assumption)); (focus (simp (disch := omega) only [go_sem, ↓reduceIte, Nat.reduceEqDiff, Nat.reduceLT, Nat.reduceLeDiff, Nat.reduceAdd, Nat.reduceMul, Nat.reduceSub, reduceCtorEq, Nat.reduceBEq, Int.reduceToNat, Int.reducePow, if_pos, if_neg, hmul, q3, q4]; rfl))))) | ((first | with_reducible apply SO.run | with_reducible apply DO.run); (focus (simp (disch := omega) only [go_sem, ↓reduceIte, Nat.reduceEqDiff, Nat.reduceLT, Nat.reduceLeDiff, Nat.reduceAdd, Nat.reduceMul, Nat.reduceSub, reduceCtorEq, Nat.reduceBEq, Int.reduceToNat, Int.reducePow, if_pos, if_neg, hmul, q3, q4]; rfl)))))
        exact retQ_ret Try.results10 (by simp (disch := omega) only [go_sem, ↓reduceIte]; rfl) (by simp (disch := omega) only [go_sem]; rfl) (by rw [hx hm])
      · have q4 : ((n : Int) % (d : Int) == 0) = false := by
          rw [beq_eq_false_iff_ne, ← Int.natCast_emod]; omega
        (repeat (first | refine DO.nil (by kernel_rfl) ?_ | with_reducible refine SC.seq ?_ | with_reducible refine SC.skip ?_ | with_reducible refine SC.label ?_ | with_reducible refine SC.block ?_ | with_reducible refine SC.scope ?_ | with_reducible refine SC.nil ?_ | with_reducible refine SC.exit ?_ | with_reducible refine SC.ret ?_ | with_reducible refine SO.nil ?_ | with_reducible refine tq_normal ?_ | with_reducible refine bq_normal ?_ | with_reducible refine bq_same ?_ | with_reducible refine bq_other (by decide) ?_ | with_reducible refine tq_exit ?_ | with_reducible refine tq_ret ?_ | with_reducible refine bq_ret ?_ | with_reducible refine sq_normal ?_ | with_reducible refine sq_exit ?_ | with_reducible refine sq_ret ?_ | ((with_reducible apply SC.condB); (focus (simp (disch := omega) only [go_sem, ↓reduceIte]; rfl)); (first | refine pickT ?_ | refine pickF ?_)) | ((with_reducible apply SC.region); (focus (simp (disch := omega) only [go_sem, ↓reduceIte, Nat.reduceEqDiff, Nat.reduceLT, reduceCtorEq, if_neg, hmul, q3, q4]; rfl))) | ((with_reducible refine SC.draw Tab.mixed ?_ ?_); (focus (first | rfl | simp (disch := omega) only [go_sem, ↓reduceIte, Nat.reduceEqDiff, Nat.reduceLT, Nat.reduceLeDiff, Nat.reduceAdd, Nat.reduceMul, Nat.reduceSub, reduceCtorEq, Nat.reduceBEq, Int.reduceToNat, Int.reducePow, if_pos, if_neg, hmul, q3, q4]))) | (with_reducible refine SC.ops ?_) | ((first | apply SO.call | apply DO.call); (focus (simp (disch := omega) only [go_sem, ↓reduceIte, Nat.reduceEqDiff, Nat.reduceLT, Nat.reduceLeDiff, Nat.reduceAdd, Nat.reduceMul, Nat.reduceSub, reduceCtorEq, Nat.reduceBEq, Int.reduceToNat, Int.reducePow, if_pos, if_neg, hmul, q3, q4])); (focus (simp (disch := omega) only [go_sem, ↓reduceIte, Nat.reduceEqDiff, Nat.reduceLT, Nat.reduceLeDiff, Nat.reduceAdd, Nat.reduceMul, Nat.reduceSub, reduceCtorEq, Nat.reduceBEq, Int.reduceToNat, Int.reducePow, if_pos, if_neg, hmul, q3, q4]; rfl)); (focus (simp (disch := omega) only [go_sem, ↓reduceIte, Nat.reduceEqDiff, Nat.reduceLT, Nat.reduceLeDiff, Nat.reduceAdd, Nat.reduceMul, Nat.reduceSub, reduceCtorEq, Nat.reduceBEq, Int.reduceToNat, Int.reducePow, if_pos, if_neg, hmul, q3, q4] <;> rfl)); (first | (apply SCall.of; (focus (first | assumption)); (focus (simp (disch := omega) only [go_sem, ↓reduceIte, Nat.reduceEqDiff, Nat.reduceLT, Nat.reduceLeDiff, Nat.reduceAdd, Nat.reduceMul, Nat.reduceSub, reduceCtorEq, Nat.reduceBEq, Int.reduceToNat, Int.reducePow, if_pos, if_neg, hmul, q3, q4]; rfl))) | (apply DCall.of; (focus (first | assumption)); (focus (simp (disch := omega) only [go_sem, ↓reduceIte, Nat.reduceEqDiff, Nat.reduceLT, Nat.reduceLeDiff, Nat.reduceAdd, Nat.reduceMul, Nat.reduceSub, reduceCtorEq, Nat.reduceBEq, Int.reduceToNat, Int.reducePow, if_pos, if_neg, hmul, q3, q4]; rfl))) | (apply SCall.ofF; (focus (first | assumption)); (focus (simp (disch := omega) only [go_sem, ↓reduceIte, Nat.reduceEqDiff, Nat.reduceLT, Nat.reduceLeDiff, Nat.reduceAdd, Nat.reduceMul, Nat.reduceSub, reduceCtorEq, Nat.reduceBEq, Int.reduceToNat, Int.reducePow, if_pos, if_neg, hmul, q3, q4]; rfl))))) | ((first | with_reducible apply SO.run | with_reducible apply DO.run); (focus (simp (disch := omega) only [go_sem, ↓reduceIte, Nat.reduceEqDiff, Nat.reduceLT, Nat.reduceLeDiff, Nat.reduceAdd, Nat.reduceMul, Nat.reduceSub, reduceCtorEq, Nat.reduceBEq, Int.reduceToNat, Int.reducePow, if_pos, if_neg, hmul, q3, q4]; rfl)))))
        refine hK _ (d + 1) ?_ ⟨by omega, by omega, fun e h3 h4 => ?_⟩ (by omega)
        · (refine Le.of [] hB (by first | exact ⟨Nat.zero_le _, fun _ _ => Nat.zero_le _⟩ | (constructor <;> (try simp) <;> (try omega))) ?_ ?_ <;> (repeat' (first | exact leSl_nil | exact leHp_nil | refine leSl_cons (by simp (disch := omega) only [go_sem, ↓reduceIte, reduceCtorEq]; rfl) ?_ ?_ | refine leHp_cons (by simp (disch := omega) only [go_sem, ↓reduceIte, Nat.reduceEqDiff, Nat.reduceLT, Nat.reduceLeDiff, Nat.reduceAdd, Nat.reduceMul, Nat.reduceSub, reduceCtorEq, Nat.reduceBEq, Int.reduceToNat, Int.reducePow, if_pos, if_neg]; rfl) ?_ ?_ | exact VLe.junk _ | exact VLe.refl rfl | exact VLe.nil_sl _ _ _ | exact VLe.int (by first | rfl | omega | (dsimp only; omega)) | exact VLe.bool rfl | exact VLe.sl rfl (by first | rfl | omega | (dsimp only; omega) | (simp; done)) | exact VLe.cap rfl (by first | rfl | omega | (dsimp only; omega) | (simp; done)) | exact VLe.im rfl rfl | exact HLe.new rfl | exact HLe.same rfl (LLe.refl rfl) | refine HLe.same rfl ?_ | exact LLe.nil _ | exact LLe.refl rfl | refine LLe.cons ?_ ?_)))
        · rcases Nat.lt_or_ge e d with k | k
          · exact hI e h3 k
          · have : e = d := by omega
            subst this; exact hm
    · have hp : primeB n = true := primeB_iff.2 ⟨pr_trial (d := d) (by omega) (by omega) hI, by omega⟩
      generalize d * d = D at *
      have q3 := decide_eq_false (p := (D : Int) ≤ (n : Int)) (by omega)
      (repeat (first | refine DO.nil (by kernel_rfl) ?_ | with_reducible refine SC.seq ?_ | with_reducible refine SC.skip ?_ | with_reducible refine SC.label ?_ | with_reducible refine SC.block ?_ | with_reducible refine SC.scope ?_ | with_reducible refine SC.nil ?_ | with_reducible refine SC.exit ?_ | with_reducible refine SC.ret ?_ | with_reducible refine SO.nil ?_ | with_reducible refine tq_normal ?_ | with_reducible refine bq_normal ?_ | with_reducible refine bq_same ?_ | with_reducible refine bq_other (by decide) ?_ | with_reducible refine tq_exit ?_ | with_reducible refine tq_ret ?_ | with_reducible refine bq_ret ?_ | with_reducible refine sq_normal ?_ | with_reducible refine sq_exit ?_ | with_reducible refine sq_ret ?_ | ((with_reducible apply SC.condB); (focus (simp (disch := omega) only [go_sem, ↓reduceIte]; rfl)); (first | refine pickT ?_ | refine pickF ?_)) | ((with_reducible apply SC.region); (focus (simp (disch := omega) only [go_sem, ↓reduceIte, Nat.reduceEqDiff, reduceCtorEq, hmul, q3]; rfl))) | ((with_reducible refine SC.draw Tab.mixed ?_ ?_); (focus (first | rfl | simp (disch := omega) only [go_sem, ↓reduceIte, Nat.reduceEqDiff, Nat.reduceLT, Nat.reduceLeDiff, Nat.reduceAdd, Nat.reduceMul, Nat.reduceSub, reduceCtorEq, Nat.reduceBEq, Int.reduceToNat, Int.reducePow, if_pos, if_neg, hmul, q3]))) | (with_reducible refine SC.ops ?_) | ((first | apply SO.call | apply DO.call); (focus (simp (disch := omega) only [go_sem, ↓reduceIte, Nat.reduceEqDiff, Nat.reduceLT, Nat.reduceLeDiff, Nat.reduceAdd, Nat.reduceMul, Nat.reduceSub, reduceCtorEq, Nat.reduceBEq, Int.reduceToNat, Int.reducePow, if_pos, if_neg, hmul, q3])); (focus (simp (disch := omega) only [go_sem, ↓reduceIte, Nat.reduceEqDiff, Nat.reduceLT, Nat.reduceLeDiff, Nat.reduceAdd, Nat.reduceMul, Nat.reduceSub, reduceCtorEq, Nat.reduceBEq, Int.reduceToNat, Int.reducePow, if_pos, if_neg, hmul, q3]; rfl)); (focus (simp (disch := omega) only [go_sem, ↓reduceIte, Nat.reduceEqDiff, Nat.reduceLT, Nat.reduceLeDiff, Nat.reduceAdd, Nat.reduceMul, Nat.reduceSub, reduceCtorEq, Nat.reduceBEq, Int.reduceToNat, Int.reducePow, if_pos, if_neg, hmul, q3] <;> rfl)); (first | (apply SCall.of; (focus (first | assumption)); (focus (simp (disch := omega) only [go_sem, ↓reduceIte, Nat.reduceEqDiff, Nat.reduceLT, Nat.reduceLeDiff, Nat.reduceAdd, Nat.reduceMul, Nat.reduceSub, reduceCtorEq, Nat.reduceBEq, Int.reduceToNat, Int.reducePow, if_pos, if_neg, hmul, q3]; rfl))) | (apply DCall.of; (focus (first | assumption)); (focus (simp (disch := omega) only [go_sem, ↓reduceIte, Nat.reduceEqDiff, Nat.reduceLT, Nat.reduceLeDiff, Nat.reduceAdd, Nat.reduceMul, Nat.reduceSub, reduceCtorEq, Nat.reduceBEq, Int.reduceToNat, Int.reducePow, if_pos, if_neg, hmul, q3]; rfl))) | (apply SCall.ofF; (focus (first | assumption)); (focus (simp (disch := omega) only [go_sem, ↓reduceIte, Nat.reduceEqDiff, Nat.reduceLT, Nat.reduceLeDiff, Nat.reduceAdd, Nat.reduceMul, Nat.reduceSub, reduceCtorEq, Nat.reduceBEq, Int.reduceToNat, Int.reducePow, if_pos, if_neg, hmul, q3]; rfl))))) | ((first | with_reducible apply SO.run | with_reducible apply DO.run); (focus (simp (disch := omega) only [go_sem, ↓reduceIte, Nat.reduceEqDiff, Nat.reduceLT, Nat.reduceLeDiff, Nat.reduceAdd, Nat.reduceMul, Nat.reduceSub, reduceCtorEq, Nat.reduceBEq, Int.reduceToNat, Int.reducePow, if_pos, if_neg, hmul, q3]; rfl)))))
      exact retQ_ret Try.results10 (by simp (disch := omega) only [go_sem, ↓reduceIte]; rfl) (by simp (disch := omega) only [go_sem]; rfl) (by rw [hp])

theorem rNext_s (n : Nat) (hn : n ≤ 18446744073709551615) : Spec Try.prog 12 [.sc (.int .u64 n)] (.sc (.int .u64 (nextB n : Nat))) := by
  refine Spec.run Try.func12 rfl Try.ntmps12 (by simp) (by simp (disch := omega) only [go_sem]; rfl) fun B hB => ?_
  (repeat (first | refine DO.nil (by kernel_rfl) ?_ | with_reducible refine SC.seq ?_ | with_reducible refine SC.skip ?_ | with_reducible refine SC.label ?_ | with_reducible refine SC.block ?_ | with_reducible refine SC.scope ?_ | with_reducible refine SC.nil ?_ | with_reducible refine SC.exit ?_ | with_reducible refine SC.ret ?_ | with_reducible refine SO.nil ?_ | with_reducible refine tq_normal ?_ | with_reducible refine bq_normal ?_ | with_reducible refine bq_same ?_ | with_reducible refine bq_other (by decide) ?_ | with_reducible refine tq_exit ?_ | with_reducible refine tq_ret ?_ | with_reducible refine bq_ret ?_ | with_reducible refine sq_normal ?_ | with_reducible refine sq_exit ?_ | with_reducible refine sq_ret ?_ | ((with_reducible apply SC.condB); (focus (simp (disch := omega) only [go_sem, ↓reduceIte, Nat.reduceEqDiff, Nat.reduceLT, Nat.reduceLeDiff, Nat.reduceAdd, Nat.reduceMul, Nat.reduceSub, reduceCtorEq, Nat.reduceBEq, Int.reduceToNat, Int.reducePow, if_pos, if_neg]; rfl)); (first | refine pickT ?_ | refine pickF ?_)) | ((with_reducible apply SC.region); (focus (simp (disch := omega) only [go_sem, ↓reduceIte, reduceCtorEq]; rfl))) | ((with_reducible refine SC.draw Tab.mixed ?_ ?_); (focus (first | rfl | simp (disch := omega) only [go_sem, ↓reduceIte, Nat.reduceEqDiff, Nat.reduceLT, Nat.reduceLeDiff, Nat.reduceAdd, Nat.reduceMul, Nat.reduceSub, reduceCtorEq, Nat.reduceBEq, Int.reduceToNat, Int.reducePow, if_pos, if_neg]))) | (with_reducible refine SC.ops ?_) | ((first | apply SO.call | apply DO.call); (focus (simp (disch := omega) only [go_sem, ↓reduceIte, Nat.reduceEqDiff, Nat.reduceLT, Nat.reduceLeDiff, Nat.reduceAdd, Nat.reduceMul, Nat.reduceSub, reduceCtorEq, Nat.reduceBEq, Int.reduceToNat, Int.reducePow, if_pos, if_neg])); (focus (simp (disch := omega) only [go_sem, ↓reduceIte, Nat.reduceEqDiff, Nat.reduceLT, Nat.reduceLeDiff, Nat.reduceAdd, Nat.reduceMul, Nat.reduceSub, reduceCtorEq, Nat.reduceBEq, Int.reduceToNat, Int.reducePow, if_pos, if_neg]; rfl)); (focus (simp (disch := omega) only [go_sem, ↓reduceIte, Nat.reduceEqDiff, Nat.reduceLT, Nat.reduceLeDiff, Nat.reduceAdd, Nat.reduceMul, Nat.reduceSub, reduceCtorEq, Nat.reduceBEq, Int.reduceToNat, Int.reducePow, if_pos, if_neg] <;> rfl)); (first | (apply SCall.of; (focus (first | assumption)); (focus (simp (disch := omega) only [go_sem, ↓reduceIte, Nat.reduceEqDiff, Nat.reduceLT, Nat.reduceLeDiff, Nat.reduceAdd, Nat.reduceMul, Nat.reduceSub, reduceCtorEq, Nat.reduceBEq, Int.reduceToNat, Int.reducePow, if_pos, if_neg]; rfl))) | (apply DCall.of; (focus (first | assumption)); (focus (simp (disch := omega) only [go_sem, ↓reduceIte, Nat.reduceEqDiff, Nat.reduceLT, Nat.reduceLeDiff, Nat.reduceAdd, Nat.reduceMul, Nat.reduceSub, reduceCtorEq, Nat.reduceBEq, Int.reduceToNat, Int.reducePow, if_pos, if_neg]; rfl))) | (apply SCall.ofF; (focus (first | assumption)); (focus (simp (disch := omega) only [go_sem, ↓reduceIte, Nat.reduceEqDiff, Nat.reduceLT, Nat.reduceLeDiff, Nat.reduceAdd, Nat.reduceMul, Nat.reduceSub, reduceCtorEq, Nat.reduceBEq, Int.reduceToNat, Int.reducePow, if_pos, if_neg]; rfl))))) | ((first | with_reducible apply SO.run | with_reducible apply DO.run); (focus (simp (disch := omega) only [go_sem, ↓reduceIte, Nat.reduceEqDiff, Nat.reduceLT, Nat.reduceLeDiff, Nat.reduceAdd, Nat.reduceMul, Nat.reduceSub, reduceCtorEq, Nat.reduceBEq, Int.reduceToNat, Int.reducePow, if_pos, if_neg]; rfl)))))
  refine SC.loop (fun m : Nat => ⟨[(0, .sc (.int .u64 n)), (3, .sc (.int .u64 m))], [], 0, 14⟩) (fun m => n ≤ m ∧ m ≤ 18446744073709551615 ∧ ∀ x, n < x → x ≤ m → primeB x = false) (fun m => 2147483648 - m) n ?_ ?_ ?_
  · (refine Le.of [] hB (by first | exact ⟨Nat.zero_le _, fun _ _ => Nat.zero_le _⟩ | (constructor <;> (try simp) <;> (try omega))) ?_ ?_ <;> (repeat' (first | exact leSl_nil | exact leHp_nil | refine leSl_cons (by simp (disch := omega) only [go_sem, ↓reduceIte, reduceCtorEq]; rfl) ?_ ?_ | refine leHp_cons (by simp (disch := omega) only [go_sem, ↓reduceIte, Nat.reduceEqDiff, Nat.reduceLT, Nat.reduceLeDiff, Nat.reduceAdd, Nat.reduceMul, Nat.reduceSub, reduceCtorEq, Nat.reduceBEq, Int.reduceToNat, Int.reducePow, if_pos, if_neg]; rfl) ?_ ?_ | exact VLe.junk _ | exact VLe.refl rfl | exact VLe.nil_sl _ _ _ | exact VLe.int (by first | rfl | omega | (dsimp only; omega)) | exact VLe.bool rfl | exact VLe.sl rfl (by first | rfl | omega | (dsimp only; omega) | (simp; done)) | exact VLe.cap rfl (by first | rfl | omega | (dsimp only; omega) | (simp; done)) | exact VLe.im rfl rfl | exact HLe.new rfl | exact HLe.same rfl (LLe.refl rfl) | refine HLe.same rfl ?_ | exact LLe.nil _ | exact LLe.refl rfl | refine LLe.cons ?_ ?_)))
  · exact ⟨by omega, by omega, fun e h3 h4 => by omega⟩
  · rintro m ⟨hm, hm2, hI⟩ K hK
    by_cases hc : m < 2147483648
    · have q1 := decide_eq_true (p := (m : Int) < 2147483648) (by omega)
      have e1 : (m : Int) + 1 = ((m + 1 : Nat) : Int) := by omega
      have c1 := rPrime_s (m + 1) (by omega)
      cases hp : primeB (m + 1) with
      | true =>
        rw [hp] at c1
        (repeat (first | refine DO.nil (by kernel_rfl) ?_ | with_reducible refine SC.seq ?_ | with_reducible refine SC.skip ?_ | with_reducible refine SC.label ?_ | with_reducible refine SC.block ?_ | with_reducible refine SC.scope ?_ | with_reducible refine SC.nil ?_ | with_reducible refine SC.exit ?_ | with_reducible refine SC.ret ?_ | with_reducible refine SO.nil ?_ | with_reducible refine tq_normal ?_ | with_reducible refine bq_normal ?_ | with_reducible refine bq_same ?_ | with_reducible refine bq_other (by decide) ?_ | with_reducible refine tq_exit ?_ | with_reducible refine tq_ret ?_ | with_reducible refine bq_ret ?_ | with_reducible refine sq_normal ?_ | with_reducible refine sq_exit ?_ | with_reducible refine sq_ret ?_ | ((with_reducible apply SC.condB); (focus (simp (disch := omega) only [go_sem, ↓reduceIte]; rfl)); (first | refine pickT ?_ | refine pickF ?_)) | ((with_reducible apply SC.region); (focus (simp (disch := omega) only [go_sem, ↓reduceIte, Nat.reduceEqDiff, Nat.reduceLT, reduceCtorEq, q1, e1]; rfl))) | ((with_reducible refine SC.draw Tab.mixed ?_ ?_); (focus (first | rfl | simp (disch := omega) only [go_sem, ↓reduceIte, Nat.reduceEqDiff, Nat.reduceLT, Nat.reduceLeDiff, Nat.reduceAdd, Nat.reduceMul, Nat.reduceSub, reduceCtorEq, Nat.reduceBEq, Int.reduceToNat, Int.reducePow, if_pos, if_neg, q1, e1]))) | (with_reducible refine SC.ops ?_) | ((first | apply SO.call | apply DO.call); (focus (simp (disch := omega) only [go_sem])); (focus (simp (disch := omega) only [go_sem, ↓reduceIte]; rfl)); (focus (simp (disch := omega) only [go_sem] <;> rfl)); (first | (apply SCall.of; (focus (first | assumption)); (focus (simp (disch := omega) only [go_sem]; rfl))) | (apply DCall.of; (focus (first | assumption)); (focus (simp (disch := omega) only [go_sem, ↓reduceIte, Nat.reduceEqDiff, Nat.reduceLT, Nat.reduceLeDiff, Nat.reduceAdd, Nat.reduceMul, Nat.reduceSub, reduceCtorEq, Nat.reduceBEq, Int.reduceToNat, Int.reducePow, if_pos, if_neg, q1, e1]; rfl))) | (apply SCall.ofF; (focus (first | assumption)); (focus (simp (disch := omega) only [go_sem, ↓reduceIte, Nat.reduceEqDiff, Nat.reduceLT, Nat.reduceLeDiff, Nat.reduceAdd, Nat.reduceMul, Nat.reduceSub, reduceCtorEq, Nat.reduceBEq, Int.reduceToNat, Int.reducePow, if_pos, if_neg, q1, e1]; rfl))))) | ((first | with_reducible apply SO.run | with_reducible apply DO.run); (focus (simp (disch := omega) only [go_sem, ↓reduceIte]; rfl)))))
        exact retQ_ret Try.results12 (by simp (disch := omega) only [go_sem, ↓reduceIte]; rfl) (by simp (disch := omega) only [go_sem]; rfl) (by rw [nextB_some (by omega) hp (fun x h3 h4 => hI x h3 (by omega))])
      | false =>
        rw [hp] at c1
        (repeat (first | refine DO.nil (by kernel_rfl) ?_ | with_reducible refine SC.seq ?_ | with_reducible refine SC.skip ?_ | with_reducible refine SC.label ?_ | with_reducible refine SC.block ?_ | with_reducible refine SC.scope ?_ | with_reducible refine SC.nil ?_ | with_reducible refine SC.exit ?_ | with_reducible refine SC.ret ?_ | with_reducible refine SO.nil ?_ | with_reducible refine tq_normal ?_ | with_reducible refine bq_normal ?_ | with_reducible refine bq_same ?_ | with_reducible refine bq_other (by decide) ?_ | with_reducible refine tq_exit ?_ | with_reducible refine tq_ret ?_ | with_reducible refine bq_ret ?_ | with_reducible refine sq_normal ?_ | with_reducible refine sq_exit ?_ | with_reducible refine sq_ret ?_ | ((with_reducible apply SC.condB); (focus (simp (disch := omega) only [go_sem, ↓reduceIte]; rfl)); (first | refine pickT ?_ | refine pickF ?_)) | ((with_reducible apply SC.region); (focus (simp (disch := omega) only [go_sem, ↓reduceIte, Nat.reduceEqDiff, reduceCtorEq, q1, e1]; rfl))) | ((with_reducible refine SC.draw Tab.mixed ?_ ?_); (focus (first | rfl | simp (disch := omega) only [go_sem, ↓reduceIte, Nat.reduceEqDiff, Nat.reduceLT, Nat.reduceLeDiff, Nat.reduceAdd, Nat.reduceMul, Nat.reduceSub, reduceCtorEq, Nat.reduceBEq, Int.reduceToNat, Int.reducePow, if_pos, if_neg, q1, e1]))) | (with_reducible refine SC.ops ?_) | ((first | apply SO.call | apply DO.call); (focus (simp (disch := omega) only [go_sem])); (focus (simp (disch := omega) only [go_sem, ↓reduceIte]; rfl)); (focus (simp (disch := omega) only [go_sem] <;> rfl)); (first | (apply SCall.of; (focus (first | assumption)); (focus (simp (disch := omega) only [go_sem]; rfl))) | (apply DCall.of; (focus (first | assumption)); (focus (simp (disch := omega) only [go_sem, ↓reduceIte, Nat.reduceEqDiff, Nat.reduceLT, Nat.reduceLeDiff, Nat.reduceAdd, Nat.reduceMul, Nat.reduceSub, reduceCtorEq, Nat.reduceBEq, Int.reduceToNat, Int.reducePow, if_pos, if_neg, q1, e1]; rfl))) | (apply SCall.ofF; (focus (first | assumption)); (focus (simp (disch := omega) only [go_sem, ↓reduceIte, Nat.reduceEqDiff, Nat.reduceLT, Nat.reduceLeDiff, Nat.reduceAdd, Nat.reduceMul, Nat.reduceSub, reduceCtorEq, Nat.reduceBEq, Int.reduceToNat, Int.reducePow, if_pos, if_neg, q1, e1]; rfl))))) | ((first | with_reducible apply SO.run | with_reducible apply DO.run); (focus (simp (disch := omega) only [go_sem, ↓reduceIte]; rfl)))))
        refine hK _ (m + 1) ?_ ⟨by omega, by omega, fun x h3 h4 => ?_⟩ (by omega)
        · (refine Le.of [] hB (by first | exact ⟨Nat.zero_le _, fun _ _ => Nat.zero_le _⟩ | (constructor <;> (try simp) <;> (try omega))) ?_ ?_ <;> (repeat' (first | exact leSl_nil | exact leHp_nil | refine leSl_cons (by simp (disch := omega) only [go_sem, ↓reduceIte, Nat.reduceEqDiff, reduceCtorEq]; rfl) ?_ ?_ | refine leHp_cons (by simp (disch := omega) only [go_sem, ↓reduceIte, Nat.reduceEqDiff, Nat.reduceLT, Nat.reduceLeDiff, Nat.reduceAdd, Nat.reduceMul, Nat.reduceSub, reduceCtorEq, Nat.reduceBEq, Int.reduceToNat, Int.reducePow, if_pos, if_neg]; rfl) ?_ ?_ | exact VLe.junk _ | exact VLe.refl rfl | exact VLe.nil_sl _ _ _ | exact VLe.int (by first | rfl | omega | (dsimp only; omega)) | exact VLe.bool rfl | exact VLe.sl rfl (by first | rfl | omega | (dsimp only; omega) | (simp; done)) | exact VLe.cap rfl (by first | rfl | omega | (dsimp only; omega) | (simp; done)) | exact VLe.im rfl rfl | exact HLe.new rfl | exact HLe.same rfl (LLe.refl rfl) | refine HLe.same rfl ?_ | exact LLe.nil _ | exact LLe.refl rfl | refine LLe.cons ?_ ?_)))
        · rcases Nat.lt_or_ge m x with k | k
          · have : x = m + 1 := by omega
            subst this; exact hp
          · exact hI x h3 k
    · have q1 := decide_eq_false (p := (m : Int) < 2147483648) (by omega)
      (repeat (first | refine DO.nil (by kernel_rfl) ?_ | with_reducible refine SC.seq ?_ | with_reducible refine SC.skip ?_ | with_reducible refine SC.label ?_ | with_reducible refine SC.block ?_ | with_reducible refine SC.scope ?_ | with_reducible refine SC.nil ?_ | with_reducible refine SC.exit ?_ | with_reducible refine SC.ret ?_ | with_reducible refine SO.nil ?_ | with_reducible refine tq_normal ?_ | with_reducible refine bq_normal ?_ | with_reducible refine bq_same ?_ | with_reducible refine bq_other (by decide) ?_ | with_reducible refine tq_exit ?_ | with_reducible refine tq_ret ?_ | with_reducible refine bq_ret ?_ | with_reducible refine sq_normal ?_ | with_reducible refine sq_exit ?_ | with_reducible refine sq_ret ?_ | ((with_reducible apply SC.condB); (focus (simp (disch := omega) only [go_sem, ↓reduceIte]; rfl)); (first | refine pickT ?_ | refine pickF ?_)) | ((with_reducible apply SC.region); (focus (simp (disch := omega) only [go_sem, ↓reduceIte, reduceCtorEq, q1]; rfl))) | ((with_reducible refine SC.draw Tab.mixed ?_ ?_); (focus (first | rfl | simp (disch := omega) only [go_sem, ↓reduceIte, Nat.reduceEqDiff, Nat.reduceLT, Nat.reduceLeDiff, Nat.reduceAdd, Nat.reduceMul, Nat.reduceSub, reduceCtorEq, Nat.reduceBEq, Int.reduceToNat, Int.reducePow, if_pos, if_neg, q1]))) | (with_reducible refine SC.ops ?_) | ((first | apply SO.call | apply DO.call); (focus (simp (disch := omega) only [go_sem, ↓reduceIte, Nat.reduceEqDiff, Nat.reduceLT, Nat.reduceLeDiff, Nat.reduceAdd, Nat.reduceMul, Nat.reduceSub, reduceCtorEq, Nat.reduceBEq, Int.reduceToNat, Int.reducePow, if_pos, if_neg, q1])); (focus (simp (disch := omega) only [go_sem, ↓reduceIte, Nat.reduceEqDiff, Nat.reduceLT, Nat.reduceLeDiff, Nat.reduceAdd, Nat.reduceMul, Nat.reduceSub, reduceCtorEq, Nat.reduceBEq, Int.reduceToNat, Int.reducePow, if_pos, if_neg, q1]; rfl)); (focus (simp (disch := omega) only [go_sem, ↓reduceIte, Nat.reduceEqDiff, Nat.reduceLT, Nat.reduceLeDiff, Nat.reduceAdd, Nat.reduceMul, Nat.reduceSub, reduceCtorEq, Nat.reduceBEq, Int.reduceToNat, Int.reducePow, if_pos, if_neg, q1] <;> rfl)); (first | (apply SCall.of; (focus (first | assumption)); (focus (simp (disch := omega) only [go_sem, ↓reduceIte, Nat.reduceEqDiff, Nat.reduceLT, Nat.reduceLeDiff, Nat.reduceAdd, Nat.reduceMul, Nat.reduceSub, reduceCtorEq, Nat.reduceBEq, Int.reduceToNat, Int.reducePow, if_pos, if_neg, q1]; rfl))) | (apply DCall.of; (focus (first | assumption)); (focus (simp (disch := omega) only [go_sem, ↓reduceIte, Nat.reduceEqDiff, Nat.reduceLT, Nat.reduceLeDiff, Nat.reduceAdd, Nat.reduceMul, Nat.reduceSub, reduceCtorEq, Nat.reduceBEq, Int.reduceToNat, Int.reducePow, if_pos, if_neg, q1]; rfl))) | (apply SCall.ofF; (focus (first | assumption)); (focus (simp (disch := omega) only [go_sem, ↓reduceIte, Nat.reduceEqDiff, Nat.reduceLT, Nat.reduceLeDiff, Nat.reduceAdd, Nat.reduceMul, Nat.reduceSub, reduceCtorEq, Nat.reduceBEq, Int.reduceToNat, Int.reducePow, if_pos, if_neg, q1]; rfl))))) | ((first | with_reducible apply SO.run | with_reducible apply DO.run); (focus (simp (disch := omega) only [go_sem, ↓reduceIte, Nat.reduceEqDiff, Nat.reduceLT, Nat.reduceLeDiff, Nat.reduceAdd, Nat.reduceMul, Nat.reduceSub, reduceCtorEq, Nat.reduceBEq, Int.reduceToNat, Int.reducePow, if_pos, if_neg, q1]; rfl)))))
      refine retQ_ret Try.results12 (by simp (disch := omega) only [go_sem, ↓reduceIte]; rfl) (by simp (disch := omega) only [go_sem]; rfl) ?_
      rw [nextB_none fun x hx => by
        rcases Nat.lt_or_ge m x with k | k
        · exact big_not x (by omega)
        · exact hI x hx k]
      rfl

theorem rBefore_s (n : Nat) (hn : n ≤ 18446744073709551615) : Spec Try.prog 14 [.sc (.int .u64 n)] (.sc (.int .u64 (beforeB n : Nat))) := by
  obtain ⟨M, hM⟩ : ∃ M, M = min n 2147483648 := ⟨_, rfl⟩
  have q0 : (if (2147483648 : Int) < (n : Int) then (2147483648 : Int) else (n : Int)) = (M : Int) := by split <;> omega
  rw [beforeB_min, ← hM]
  refine Spec.run Try.func14 rfl Try.ntmps14 (by simp) (by simp (disch := omega) only [go_sem]; rfl) fun B hB => ?_
  (repeat (first | refine DO.nil (by kernel_rfl) ?_ | with_reducible refine SC.seq ?_ | with_reducible refine SC.skip ?_ | with_reducible refine SC.label ?_ | with_reducible refine SC.block ?_ | with_reducible refine SC.scope ?_ | with_reducible refine SC.nil ?_ | with_reducible refine SC.exit ?_ | with_reducible refine SC.ret ?_ | with_reducible refine SO.nil ?_ | with_reducible refine tq_normal ?_ | with_reducible refine bq_normal ?_ | with_reducible refine bq_same ?_ | with_reducible refine bq_other (by decide) ?_ | with_reducible refine tq_exit ?_ | with_reducible refine tq_ret ?_ | with_reducible refine bq_ret ?_ | with_reducible refine sq_normal ?_ | with_reducible refine sq_exit ?_ | with_reducible refine sq_ret ?_ | ((with_reducible apply SC.condB); (focus (simp (disch := omega) only [go_sem, ↓reduceIte, Nat.reduceEqDiff, Nat.reduceLT, Nat.reduceLeDiff, Nat.reduceAdd, Nat.reduceMul, Nat.reduceSub, reduceCtorEq, Nat.reduceBEq, Int.reduceToNat, Int.reducePow, if_pos, if_neg, q0]; rfl)); (first | refine pickT ?_ | refine pickF ?_)) | ((with_reducible apply SC.region); (focus (simp (disch := omega) only [go_sem, ↓reduceIte, reduceCtorEq, q0]; rfl))) | ((with_reducible refine SC.draw Tab.mixed ?_ ?_); (focus (first | rfl | simp (disch := omega) only [go_sem, ↓reduceIte, Nat.reduceEqDiff, Nat.reduceLT, Nat.reduceLeDiff, Nat.reduceAdd, Nat.reduceMul, Nat.reduceSub, reduceCtorEq, Nat.reduceBEq, Int.reduceToNat, Int.reducePow, if_pos, if_neg, q0]))) | (with_reducible refine SC.ops ?_) | ((first | apply SO.call | apply DO.call); (focus (simp (disch := omega) only [go_sem, ↓reduceIte, Nat.reduceEqDiff, Nat.reduceLT, Nat.reduceLeDiff, Nat.reduceAdd, Nat.reduceMul, Nat.reduceSub, reduceCtorEq, Nat.reduceBEq, Int.reduceToNat, Int.reducePow, if_pos, if_neg, q0])); (focus (simp (disch := omega) only [go_sem, ↓reduceIte, Nat.reduceEqDiff, Nat.reduceLT, Nat.reduceLeDiff, Nat.reduceAdd, Nat.reduceMul, Nat.reduceSub, reduceCtorEq, Nat.reduceBEq, Int.reduceToNat, Int.reducePow, if_pos, if_neg, q0]; rfl)); (focus (simp (disch := omega) only [go_sem, ↓reduceIte, Nat.reduceEqDiff, Nat.reduceLT, Nat.reduceLeDiff, Nat.reduceAdd, Nat.reduceMul, Nat.reduceSub, reduceCtorEq, Nat.reduceBEq, Int.reduceToNat, Int.reducePow, if_pos, if_neg, q0] <;> rfl)); (first | (apply SCall.of; (focus (first | assumption)); (focus (simp (disch := omega) only [go_sem, ↓reduceIte, Nat.reduceEqDiff, Nat.reduceLT, Nat.reduceLeDiff, Nat.reduceAdd, Nat.reduceMul, Nat.reduceSub, reduceCtorEq, Nat.reduceBEq, Int.reduceToNat, Int.reducePow, if_pos, if_neg, q0]; rfl))) | (apply DCall.of; (focus (first | assumption)); (focus (simp (disch := omega) only [go_sem, ↓reduceIte, Nat.reduceEqDiff, Nat.reduceLT, Nat.reduceLeDiff, Nat.reduceAdd, Nat.reduceMul, Nat.reduceSub, reduceCtorEq, Nat.reduceBEq, Int.reduceToNat, Int.reducePow, if_pos, if_neg, q0]; rfl))) | (apply SCall.ofF; (focus (first | assumption)); (focus (simp (disch := omega) only [go_sem, ↓reduceIte, Nat.reduceEqDiff, Nat.reduceLT, Nat.reduceLeDiff, Nat.reduceAdd, Nat.reduceMul, Nat.reduceSub, reduceCtorEq, Nat.reduceBEq, Int.reduceToNat, Int.reducePow, if_pos, if_neg, q0]; rfl))))) | ((first | with_reducible apply SO.run | with_reducible apply DO.run); (focus (simp (disch := omega) only [go_sem, ↓reduceIte, Nat.reduceEqDiff, Nat.reduceLT, Nat.reduceLeDiff, Nat.reduceAdd, Nat.reduceMul, Nat.reduceSub, reduceCtorEq, Nat.reduceBEq, Int.reduceToNat, Int.reducePow, if_pos, if_neg, q0]; rfl)))))
  refine SC.loop (fun m : Nat => ⟨[(3, .sc (.int .u64 m))], [], 0, 15⟩) (fun m => m ≤ M ∧ ∀ x, m ≤ x → x < M → primeB x = false) (fun m => m) M ?_ ?_ ?_
  · (refine Le.of [] hB (by first | exact ⟨Nat.zero_le _, fun _ _ => Nat.zero_le _⟩ | (constructor <;> (try simp) <;> (try omega))) ?_ ?_ <;> (repeat' (first | exact leSl_nil | exact leHp_nil | refine leSl_cons (by simp (disch := omega) only [go_sem, ↓reduceIte]; rfl) ?_ ?_ | refine leHp_cons (by simp (disch := omega) only [go_sem, ↓reduceIte, Nat.reduceEqDiff, Nat.reduceLT, Nat.reduceLeDiff, Nat.reduceAdd, Nat.reduceMul, Nat.reduceSub, reduceCtorEq, Nat.reduceBEq, Int.reduceToNat, Int.reducePow, if_pos, if_neg]; rfl) ?_ ?_ | exact VLe.junk _ | exact VLe.refl rfl | exact VLe.nil_sl _ _ _ | exact VLe.int (by first | rfl | omega | (dsimp only; omega)) | exact VLe.bool rfl | exact VLe.sl rfl (by first | rfl | omega | (dsimp only; omega) | (simp; done)) | exact VLe.cap rfl (by first | rfl | omega | (dsimp only; omega) | (simp; done)) | exact VLe.im rfl rfl | exact HLe.new rfl | exact HLe.same rfl (LLe.refl rfl) | refine HLe.same rfl ?_ | exact LLe.nil _ | exact LLe.refl rfl | refine LLe.cons ?_ ?_)))
  · exact ⟨by omega, fun e h3 h4 => by omega⟩
  · rintro m ⟨hm, hI⟩ K hK
    by_cases hc : 0 < m
    · have q1 := decide_eq_true (p := (0 : Int) < (m : Int)) (by omega)
      have e1 : (m : Int) - 1 = ((m - 1 : Nat) : Int) := by omega
      have c1 := rPrime_s (m - 1) (by omega)
      cases hp : primeB (m - 1) with
      | true =>
        rw [hp] at c1
        (repeat (first | refine DO.nil (by kernel_rfl) ?_ | with_reducible refine SC.seq ?_ | with_reducible refine SC.skip ?_ | with_reducible refine SC.label ?_ | with_reducible refine SC.block ?_ | with_reducible refine SC.scope ?_ | with_reducible refine SC.nil ?_ | with_reducible refine SC.exit ?_ | with_reducible refine SC.ret ?_ | with_reducible refine SO.nil ?_ | with_reducible refine tq_normal ?_ | with_reducible refine bq_normal ?_ | with_reducible refine bq_same ?_ | with_reducible refine bq_other (by decide) ?_ | with_reducible refine tq_exit ?_ | with_reducible refine tq_ret ?_ | with_reducible refine bq_ret ?_ | with_reducible refine sq_normal ?_ | with_reducible refine sq_exit ?_ | with_reducible refine sq_ret ?_ | ((with_reducible apply SC.condB); (focus (simp (disch := omega) only [go_sem, ↓reduceIte]; rfl)); (first | refine pickT ?_ | refine pickF ?_)) | ((with_reducible apply SC.region); (focus (simp (disch := omega) only [go_sem, ↓reduceIte, Nat.reduceEqDiff, Nat.reduceLT, q1, e1]; rfl))) | ((with_reducible refine SC.draw Tab.mixed ?_ ?_); (focus (first | rfl | simp (disch := omega) only [go_sem, ↓reduceIte, Nat.reduceEqDiff, Nat.reduceLT, Nat.reduceLeDiff, Nat.reduceAdd, Nat.reduceMul, Nat.reduceSub, reduceCtorEq, Nat.reduceBEq, Int.reduceToNat, Int.reducePow, if_pos, if_neg, q1, e1]))) | (with_reducible refine SC.ops ?_) | ((first | apply SO.call | apply DO.call); (focus (simp (disch := omega) only [go_sem])); (focus (simp (disch := omega) only [go_sem, ↓reduceIte]; rfl)); (focus (simp (disch := omega) only [go_sem] <;> rfl)); (first | (apply SCall.of; (focus (first | assumption)); (focus (simp (disch := omega) only [go_sem]; rfl))) | (apply DCall.of; (focus (first | assumption)); (focus (simp (disch := omega) only [go_sem, ↓reduceIte, Nat.reduceEqDiff, Nat.reduceLT, Nat.reduceLeDiff, Nat.reduceAdd, Nat.reduceMul, Nat.reduceSub, reduceCtorEq, Nat.reduceBEq, Int.reduceToNat, Int.reducePow, if_pos, if_neg, q1, e1]; rfl))) | (apply SCall.ofF; (focus (first | assumption)); (focus (simp (disch := omega) only [go_sem, ↓reduceIte, Nat.reduceEqDiff, Nat.reduceLT, Nat.reduceLeDiff, Nat.reduceAdd, Nat.reduceMul, Nat.reduceSub, reduceCtorEq, Nat.reduceBEq, Int.reduceToNat, Int.reducePow, if_pos, if_neg, q1, e1]; rfl))))) | ((first | with_reducible apply SO.run | with_reducible apply DO.run); (focus (simp (disch := omega) only [go_sem, ↓reduceIte]; rfl)))))
        exact retQ_ret Try.results14 (by simp (disch := omega) only [go_sem, ↓reduceIte]; rfl) (by simp (disch := omega) only [go_sem]; rfl) (by rw [beforeB_eq (by omega) (by omega) hp (fun x h3 h4 => hI x (by omega) h4)])
      | false =>
        rw [hp] at c1
        (repeat (first | refine DO.nil (by kernel_rfl) ?_ | with_reducible refine SC.seq ?_ | with_reducible refine SC.skip ?_ | with_reducible refine SC.label ?_ | with_reducible refine SC.block ?_ | with_reducible refine SC.scope ?_ | with_reducible refine SC.nil ?_ | with_reducible refine SC.exit ?_ | with_reducible refine SC.ret ?_ | with_reducible refine SO.nil ?_ | with_reducible refine tq_normal ?_ | with_reducible refine bq_normal ?_ | with_reducible refine bq_same ?_ | with_reducible refine bq_other (by decide) ?_ | with_reducible refine tq_exit ?_ | with_reducible refine tq_ret ?_ | with_reducible refine bq_ret ?_ | with_reducible refine sq_normal ?_ | with_reducible refine sq_exit ?_ | with_reducible refine sq_ret ?_ | ((with_reducible apply SC.condB); (focus (simp (disch := omega) only [go_sem, ↓reduceIte]; rfl)); (first | refine pickT ?_ | refine pickF ?_)) | ((with_reducible apply SC.region); (focus (simp (disch := omega) only [go_sem, ↓reduceIte, Nat.reduceEqDiff, q1, e1]; rfl))) | ((with_reducible refine SC.draw Tab.mixed ?_ ?_); (focus (first | rfl | simp (disch := omega) only [go_sem, ↓reduceIte, Nat.reduceEqDiff, Nat.reduceLT, Nat.reduceLeDiff, Nat.reduceAdd, Nat.reduceMul, Nat.reduceSub, reduceCtorEq, Nat.reduceBEq, Int.reduceToNat, Int.reducePow, if_pos, if_neg, q1, e1]))) | (with_reducible refine SC.ops ?_) | ((first | apply SO.call | apply DO.call); (focus (simp (disch := omega) only [go_sem])); (focus (simp (disch := omega) only [go_sem, ↓reduceIte]; rfl)); (focus (simp (disch := omega) only [go_sem] <;> rfl)); (first | (apply SCall.of; (focus (first | assumption)); (focus (simp (disch := omega) only [go_sem]; rfl))) | (apply DCall.of; (focus (first | assumption)); (focus (simp (disch := omega) only [go_sem, ↓reduceIte, Nat.reduceEqDiff, Nat.reduceLT, Nat.reduceLeDiff, Nat.reduceAdd, Nat.reduceMul, Nat.reduceSub, reduceCtorEq, Nat.reduceBEq, Int.reduceToNat, Int.reducePow, if_pos, if_neg, q1, e1]; rfl))) | (apply SCall.ofF; (focus (first | assumption)); (focus (simp (disch := omega) only [go_sem, ↓reduceIte, Nat.reduceEqDiff, Nat.reduceLT, Nat.reduceLeDiff, Nat.reduceAdd, Nat.reduceMul, Nat.reduceSub, reduceCtorEq, Nat.reduceBEq, Int.reduceToNat, Int.reducePow, if_pos, if_neg, q1, e1]; rfl))))) | ((first | with_reducible apply SO.run | with_reducible apply DO.run); (focus (simp (disch := omega) only [go_sem, ↓reduceIte]; rfl)))))
        refine hK _ (m - 1) ?_ ⟨by omega, fun x h3 h4 => ?_⟩ (by omega)
        · (refine Le.of [] hB (by first | exact ⟨Nat.zero_le _, fun _ _ => Nat.zero_le _⟩ | (constructor <;> (try simp) <;> (try omega))) ?_ ?_ <;> (repeat' (first | exact leSl_nil | exact leHp_nil | refine leSl_cons (by simp (disch := omega) only [go_sem, ↓reduceIte, Nat.reduceEqDiff]; rfl) ?_ ?_ | refine leHp_cons (by simp (disch := omega) only [go_sem, ↓reduceIte, Nat.reduceEqDiff, Nat.reduceLT, Nat.reduceLeDiff, Nat.reduceAdd, Nat.reduceMul, Nat.reduceSub, reduceCtorEq, Nat.reduceBEq, Int.reduceToNat, Int.reducePow, if_pos, if_neg]; rfl) ?_ ?_ | exact VLe.junk _ | exact VLe.refl rfl | exact VLe.nil_sl _ _ _ | exact VLe.int (by first | rfl | omega | (dsimp only; omega)) | exact VLe.bool rfl | exact VLe.sl rfl (by first | rfl | omega | (dsimp only; omega) | (simp; done)) | exact VLe.cap rfl (by first | rfl | omega | (dsimp only; omega) | (simp; done)) | exact VLe.im rfl rfl | exact HLe.new rfl | exact HLe.same rfl (LLe.refl rfl) | refine HLe.same rfl ?_ | exact LLe.nil _ | exact LLe.refl rfl | refine LLe.cons ?_ ?_)))
        · rcases Nat.lt_or_ge x m with k | k
          · have : x = m - 1 := by omega
            subst this; exact hp
          · exact hI x k h4
    · have q1 := decide_eq_false (p := (0 : Int) < (m : Int)) (by omega)
      (repeat (first | refine DO.nil (by kernel_rfl) ?_ | with_reducible refine SC.seq ?_ | with_reducible refine SC.skip ?_ | with_reducible refine SC.label ?_ | with_reducible refine SC.block ?_ | with_reducible refine SC.scope ?_ | with_reducible refine SC.nil ?_ | with_reducible refine SC.exit ?_ | with_reducible refine SC.ret ?_ | with_reducible refine SO.nil ?_ | with_reducible refine tq_normal ?_ | with_reducible refine bq_normal ?_ | with_reducible refine bq_same ?_ | with_reducible refine bq_other (by decide) ?_ | with_reducible refine tq_exit ?_ | with_reducible refine tq_ret ?_ | with_reducible refine bq_ret ?_ | with_reducible refine sq_normal ?_ | with_reducible refine sq_exit ?_ | with_reducible refine sq_ret ?_ | ((with_reducible apply SC.condB); (focus (simp (disch := omega) only [go_sem, ↓reduceIte]; rfl)); (first | refine pickT ?_ | refine pickF ?_)) | ((with_reducible apply SC.region); (focus (simp (disch := omega) only [go_sem, ↓reduceIte, q1]; rfl))) | ((with_reducible refine SC.draw Tab.mixed ?_ ?_); (focus (first | rfl | simp (disch := omega) only [go_sem, ↓reduceIte, Nat.reduceEqDiff, Nat.reduceLT, Nat.reduceLeDiff, Nat.reduceAdd, Nat.reduceMul, Nat.reduceSub, reduceCtorEq, Nat.reduceBEq, Int.reduceToNat, Int.reducePow, if_pos, if_neg, q1]))) | (with_reducible refine SC.ops ?_) | ((first | apply SO.call | apply DO.call); (focus (simp (disch := omega) only [go_sem, ↓reduceIte, Nat.reduceEqDiff, Nat.reduceLT, Nat.reduceLeDiff, Nat.reduceAdd, Nat.reduceMul, Nat.reduceSub, reduceCtorEq, Nat.reduceBEq, Int.reduceToNat, Int.reducePow, if_pos, if_neg, q1])); (focus (simp (disch := omega) only [go_sem, ↓reduceIte, Nat.reduceEqDiff, Nat.reduceLT, Nat.reduceLeDiff, Nat.reduceAdd, Nat.reduceMul, Nat.reduceSub, reduceCtorEq, Nat.reduceBEq, Int.reduceToNat, Int.reducePow, if_pos, if_neg, q1]; rfl)); (focus (simp (disch := omega) only [go_sem, ↓reduceIte, Nat.reduceEqDiff, Nat.reduceLT, Nat.reduceLeDiff, Nat.reduceAdd, Nat.reduceMul, Nat.reduceSub, reduceCtorEq, Nat.reduceBEq, Int.reduceToNat, Int.reducePow, if_pos, if_neg, q1] <;> rfl)); (first | (apply SCall.of; (focus (first | assumption)); (focus (simp (disch := omega) only [go_sem, ↓reduceIte, Nat.reduceEqDiff, Nat.reduceLT, Nat.reduceLeDiff, Nat.reduceAdd, Nat.reduceMul, Nat.reduceSub, reduceCtorEq, Nat.reduceBEq, Int.reduceToNat, Int.reducePow, if_pos, if_neg, q1]; rfl))) | (apply DCall.of; (focus (first | assumption)); (focus (simp (disch := omega) only [go_sem, ↓reduceIte, Nat.reduceEqDiff, Nat.reduceLT, Nat.reduceLeDiff, Nat.reduceAdd, Nat.reduceMul, Nat.reduceSub, reduceCtorEq, Nat.reduceBEq, Int.reduceToNat, Int.reducePow, if_pos, if_neg, q1]; rfl))) | (apply SCall.ofF; (focus (first | assumption)); (focus (simp (disch := omega) only [go_sem, ↓reduceIte, Nat.reduceEqDiff, Nat.reduceLT, Nat.reduceLeDiff, Nat.reduceAdd, Nat.reduceMul, Nat.reduceSub, reduceCtorEq, Nat.reduceBEq, Int.reduceToNat, Int.reducePow, if_pos, if_neg, q1]; rfl))))) | ((first | with_reducible apply SO.run | with_reducible apply DO.run); (focus (simp (disch := omega) only [go_sem, ↓reduceIte, Nat.reduceEqDiff, Nat.reduceLT, Nat.reduceLeDiff, Nat.reduceAdd, Nat.reduceMul, Nat.reduceSub, reduceCtorEq, Nat.reduceBEq, Int.reduceToNat, Int.reducePow, if_pos, if_neg, q1]; rfl)))))
      refine retQ_ret Try.results14 (by simp (disch := omega) only [go_sem, ↓reduceIte]; rfl) (by simp (disch := omega) only [go_sem]; rfl) ?_
      rw [beforeB_none fun x hx => hI x (by omega) (by omega)]
      rfl

theorem mPrime_s (n : Nat) (hn : n ≤ 18446744073709551615) : Spec Try.prog 9 [.sc (.int .u64 n)] (.sc (.bool (primeB n))) :=
  Spec.same (vs := [.int .u64 n]) fun w => Prime_any n w hn
theorem mNext_s (n : Nat) (hn : n ≤ 18446744073709551615) : Spec Try.prog 11 [.sc (.int .u64 n)] (.sc (.int .u64 (nextB n : Nat))) :=
  Spec.scalars (vs := [.int .u64 n]) fun w => Next_any n _ rfl hn w
theorem mBefore_s (n : Nat) (hn : n ≤ 18446744073709551615) : Spec Try.prog 13 [.sc (.int .u64 n)] (.sc (.int .u64 (beforeB n : Nat))) :=
  Spec.scalars (vs := [.int .u64 n]) fun w => Before_any n _ rfl hn w
end Go.Proofs.Ytcbfamgdkmfcgaa
