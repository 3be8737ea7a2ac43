/- Texts joined: Lm Ln Lo Lp Lq. -/
import Derived.Test.YtpbomhmflllemaaZc
import Derived.Test.YtpbomhmflllemaaZd
import Derived.Test.YtpbomhmflllemaaZd
set_option linter.all false
/- Contracts by value: arithmetic modulo primes, the program's and the reference's; the fifteen primes. -/
namespace Go.Proofs.Ytpbomhmflllemaa
open Go.RowKit
theorem mAdd_s (p a b : Nat) (hp : 0 < p) (hp2 : p ≤ 2147483648) (ha : a < p) (hb : b < p) : Spec Try.prog 81 [.sc (.int .u64 p), .sc (.int .u64 a), .sc (.int .u64 b)] (.sc (.int .u64 ((a + b) % p : Nat))) := by
  have c1 := rem_s (a + b) p hp
  have e1 : (a : Int) + (b : Int) = ((a + b : Nat) : Int) := by simp
  generalize (a + b) % p = r at *
  have h1 : a + b ≤ 4294967296 := by omega
  generalize a + b = s at *
  refine Spec.run Try.func81 rfl Try.ntmps81 (by simp) (by simp (disch := omega) only [go_sem, Nat.reduceAdd]; rfl) fun B hB => ?_
  (repeat (first | refine DO.nil (by kernel_rfl) ?_ | (with_reducible first | apply oz1 | apply oz2 | apply oz3 | apply oz4 | apply oz5 | apply oz6 | apply oz7 | apply oz8 | apply oz9 | apply ozb | apply ozc | apply oze | apply ozf | apply ozg | apply ozh | apply ozi | apply ozj | apply ozk | refine ozd (by decide) ?_) | ((first | apply SO.call | apply DO.call); (iterate 3 (focus (simp (disch := omega) only [go_sem, ↓reduceIte, Nat.reduceEqDiff, Nat.reduceLT] <;> rfl))); (first | apply SCall.ofX | apply DCall.ofX); (focus (first | assumption)); (focus (simp (disch := omega) only [go_sem] <;> rfl))) | ((with_reducible first | apply SC.condB | apply SC.region | apply SO.run | apply DO.run); (focus (simp (disch := omega) only [go_sem, ↓reduceIte, Nat.reduceEqDiff, Nat.reduceLT, reduceCtorEq, e1] <;> rfl)); (first | refine pickT ?_ | refine pickF ?_ | fail_if_success with_reducible refine pickA ?_)) | ((with_reducible refine SC.draw Tab.mixed ?_ ?_); (focus (first | rfl | simp (disch := omega) only [go_sem, ↓reduceIte, Nat.reduceEqDiff, Nat.reduceLT, Nat.reduceLeDiff, Nat.reduceAdd, Nat.reduceMul, Nat.reduceSub, reduceCtorEq, Nat.reduceBEq, Int.reduceToNat, Int.reducePow, if_pos, if_neg, e1]))) | (with_reducible apply SC.ops)))
  exact retQ_ret Try.results81 (by simp (disch := omega) only [go_sem, ↓reduceIte]; rfl) (by simp (disch := omega) only [go_sem]; rfl) rfl
theorem mSub_s (p a b : Nat) (hp : 0 < p) (hp2 : p ≤ 2147483648) (ha : a < p) (hb : b < p) : Spec Try.prog 55 [.sc (.int .u64 p), .sc (.int .u64 a), .sc (.int .u64 b)] (.sc (.int .u64 ((a + p - b) % p : Nat))) := by
  have c1 := rem_s (a + p - b) p hp
  have e1 : (a : Int) + (p : Int) - (b : Int) = ((a + p - b : Nat) : Int) := by omega
  generalize (a + p - b) % p = r at *
  have h1 : a + p - b ≤ 4294967296 := by omega
  generalize a + p - b = s at *
  refine Spec.run Try.func55 rfl Try.ntmps55 (by simp) (by simp (disch := omega) only [go_sem, Nat.reduceAdd]; rfl) fun B hB => ?_
  (repeat (first | refine DO.nil (by kernel_rfl) ?_ | (with_reducible first | apply oz1 | apply oz2 | apply oz3 | apply oz4 | apply oz5 | apply oz6 | apply oz7 | apply oz8 | apply oz9 | apply ozb | apply ozc | apply oze | apply ozf | apply ozg | apply ozh | apply ozi | apply ozj | apply ozk | refine ozd (by decide) ?_) | ((first | apply SO.call | apply DO.call); (iterate 3 (focus (simp (disch := omega) only [go_sem, ↓reduceIte, Nat.reduceEqDiff, Nat.reduceLT] <;> rfl))); (first | apply SCall.ofX | apply DCall.ofX); (focus (first | assumption)); (focus (simp (disch := omega) only [go_sem] <;> rfl))) | ((with_reducible first | apply SC.condB | apply SC.region | apply SO.run | apply DO.run); (focus (simp (disch := omega) only [go_sem, ↓reduceIte, Nat.reduceEqDiff, Nat.reduceLT, reduceCtorEq, e1] <;> rfl)); (first | refine pickT ?_ | refine pickF ?_ | fail_if_success with_reducible refine pickA ?_)) | ((with_reducible refine SC.draw Tab.mixed ?_ ?_); (focus (first | rfl | simp (disch := omega) only [go_sem, ↓reduceIte, Nat.reduceEqDiff, Nat.reduceLT, Nat.reduceLeDiff, Nat.reduceAdd, Nat.reduceMul, Nat.reduceSub, reduceCtorEq, Nat.reduceBEq, Int.reduceToNat, Int.reducePow, if_pos, if_neg, e1]))) | (with_reducible apply SC.ops)))
  exact retQ_ret Try.results55 (by simp (disch := omega) only [go_sem, ↓reduceIte]; rfl) (by simp (disch := omega) only [go_sem]; rfl) rfl
theorem mSub0_s (p b : Nat) (hp : 0 < p) (hp2 : p ≤ 2147483648) (hb : b < p) : Spec Try.prog 55 [.sc (.int .u64 p), .sc (.int .u64 0), .sc (.int .u64 b)] (.sc (.int .u64 ((0 + p - b) % p : Nat))) := mSub_s p 0 b hp hp2 hp hb
theorem mInv_s (p a : Nat) (hp : 1 < p) (hp2 : p ≤ 2147483648) (ha : a < p) (h0 : a ≠ 0) : Spec Try.prog 57 [.sc (.int .u64 p), .sc (.int .u64 a)] (.tu [.sc (.int .u64 (a ^ (p - 2) % p : Nat)), .sc (.int .i64 0)]) := by
  have c1 := mPow_s p a (p - 2) hp hp2 ha (by omega)
  unfold pm at c1
  have e1 : (p : Int) - 2 = ((p - 2 : Nat) : Int) := by omega
  have q1 : ((a : Int) == 0) = false := by rw [beq_eq_false_iff_ne]; omega
  generalize a ^ (p - 2) % p = r at *
  have h1 : p - 2 ≤ 4294967296 := by omega
  generalize p - 2 = s at *
  refine Spec.run Try.func57 rfl Try.ntmps57 (by simp) (by simp (disch := omega) only [go_sem, Nat.reduceAdd]; rfl) fun B hB => ?_
  (repeat (first | refine DO.nil (by kernel_rfl) ?_ | (with_reducible first | apply oz1 | apply oz2 | apply oz3 | apply oz4 | apply oz5 | apply oz6 | apply oz7 | apply oz8 | apply oz9 | apply ozb | apply ozc | apply oze | apply ozf | apply ozg | apply ozh | apply ozi | apply ozj | apply ozk | refine ozd (by decide) ?_) | ((first | apply SO.call | apply DO.call); (iterate 3 (focus (simp (disch := omega) only [go_sem, ↓reduceIte, Nat.reduceEqDiff, Nat.reduceLT] <;> rfl))); (first | apply SCall.ofX | apply DCall.ofX); (focus (first | assumption)); (focus (simp (disch := omega) only [go_sem] <;> rfl))) | ((with_reducible first | apply SC.condB | apply SC.region | apply SO.run | apply DO.run); (focus (simp (disch := omega) only [go_sem, ↓reduceIte, Nat.reduceEqDiff, Nat.reduceLT, reduceCtorEq, e1, q1] <;> rfl)); (first | refine pickT ?_ | refine pickF ?_ | fail_if_success with_reducible refine pickA ?_)) | ((with_reducible refine SC.draw Tab.mixed ?_ ?_); (focus (first | rfl | simp (disch := omega) only [go_sem, ↓reduceIte, Nat.reduceEqDiff, Nat.reduceLT, Nat.reduceLeDiff, Nat.reduceAdd, Nat.reduceMul, Nat.reduceSub, reduceCtorEq, Nat.reduceBEq, Int.reduceToNat, Int.reducePow, if_pos, if_neg, e1, q1]))) | (with_reducible apply SC.ops)))
  exact retQ_ret Try.results57 (by simp (disch := omega) only [go_sem, ↓reduceIte, Nat.reduceEqDiff]; rfl) (by simp (disch := omega) only [go_sem, ↓reduceIte]; rfl) rfl
theorem rAdd_s (p a b : Nat) (hp : 0 < p) (hp2 : p ≤ 2147483648) (ha : a < p) (hb : b < p) : Spec Try.prog 59 [.sc (.int .u64 p), .sc (.int .u64 a), .sc (.int .u64 b)] (.sc (.int .u64 ((a + b) % p : Nat))) := by
  refine Spec.run Try.func59 rfl Try.ntmps59 (by simp) (by simp (disch := omega) only [go_sem, Nat.reduceAdd]; rfl) fun B hB => ?_
  (repeat (first | refine DO.nil (by kernel_rfl) ?_ | (with_reducible first | apply oz1 | apply oz2 | apply oz3 | apply oz4 | apply oz5 | apply oz6 | apply oz7 | apply oz8 | apply oz9 | apply ozb | apply ozc | apply oze | apply ozf | apply ozg | apply ozh | apply ozi | apply ozj | apply ozk | refine ozd (by decide) ?_) | ((first | apply SO.call | apply DO.call); (iterate 3 (focus (simp (disch := omega) only [go_sem, ↓reduceIte, Nat.reduceEqDiff, Nat.reduceLT, Nat.reduceLeDiff, Nat.reduceAdd, Nat.reduceMul, Nat.reduceSub, reduceCtorEq, Nat.reduceBEq, Int.reduceToNat, Int.reducePow, if_pos, if_neg] <;> rfl))); (first | apply SCall.ofX | apply DCall.ofX); (focus (first | assumption)); (focus (simp (disch := omega) only [go_sem, ↓reduceIte, Nat.reduceEqDiff, Nat.reduceLT, Nat.reduceLeDiff, Nat.reduceAdd, Nat.reduceMul, Nat.reduceSub, reduceCtorEq, Nat.reduceBEq, Int.reduceToNat, Int.reducePow, if_pos, if_neg] <;> rfl))) | ((with_reducible first | apply SC.condB | apply SC.region | apply SO.run | apply DO.run); (focus (simp (disch := omega) only [go_sem, ↓reduceIte, Nat.reduceEqDiff, Nat.reduceLT, reduceCtorEq, if_neg] <;> rfl)); (first | refine pickT ?_ | refine pickF ?_ | fail_if_success with_reducible refine pickA ?_)) | ((with_reducible refine SC.draw Tab.mixed ?_ ?_); (focus (first | rfl | simp (disch := omega) only [go_sem, ↓reduceIte, Nat.reduceEqDiff, Nat.reduceLT, Nat.reduceLeDiff, Nat.reduceAdd, Nat.reduceMul, Nat.reduceSub, reduceCtorEq, Nat.reduceBEq, Int.reduceToNat, Int.reducePow, if_pos, if_neg]))) | (with_reducible apply SC.ops)))
  refine retQ_ret Try.results59 (by simp (disch := omega) only [go_sem, ↓reduceIte]; rfl) (by simp (disch := omega) only [go_sem]; rfl) ?_
  simp
theorem rMul_s (p a b : Nat) (hp : 0 < p) (hp2 : p ≤ 2147483648) (ha : a < p) (hb : b < p) : Spec Try.prog 37 [.sc (.int .u64 p), .sc (.int .u64 a), .sc (.int .u64 b)] (.sc (.int .u64 (a * b % p : Nat))) := by
  have h0 : a * b < 4294967296 * 4294967296 := Nat.mul_lt_mul'' (by omega) (by omega)
  have e1 : (a : Int) * (b : Int) = ((a * b : Nat) : Int) := by simp
  have e2 : ((a * b : Nat) : Int) % (p : Int) = ((a * b % p : Nat) : Int) := by simp
  generalize a * b % p = r at *
  generalize a * b = s at *
  refine Spec.run Try.func37 rfl Try.ntmps37 (by simp) (by simp (disch := omega) only [go_sem, Nat.reduceAdd]; rfl) fun B hB => ?_
  (repeat (first | refine DO.nil (by kernel_rfl) ?_ | (with_reducible first | apply oz1 | apply oz2 | apply oz3 | apply oz4 | apply oz5 | apply oz6 | apply oz7 | apply oz8 | apply oz9 | apply ozb | apply ozc | apply oze | apply ozf | apply ozg | apply ozh | apply ozi | apply ozj | apply ozk | refine ozd (by decide) ?_) | ((first | apply SO.call | apply DO.call); (iterate 3 (focus (simp (disch := omega) only [go_sem, ↓reduceIte, Nat.reduceEqDiff, Nat.reduceLT, Nat.reduceLeDiff, Nat.reduceAdd, Nat.reduceMul, Nat.reduceSub, reduceCtorEq, Nat.reduceBEq, Int.reduceToNat, Int.reducePow, if_pos, if_neg, e1, e2] <;> rfl))); (first | apply SCall.ofX | apply DCall.ofX); (focus (first | assumption)); (focus (simp (disch := omega) only [go_sem, ↓reduceIte, Nat.reduceEqDiff, Nat.reduceLT, Nat.reduceLeDiff, Nat.reduceAdd, Nat.reduceMul, Nat.reduceSub, reduceCtorEq, Nat.reduceBEq, Int.reduceToNat, Int.reducePow, if_pos, if_neg, e1, e2] <;> rfl))) | ((with_reducible first | apply SC.condB | apply SC.region | apply SO.run | apply DO.run); (focus (simp (disch := omega) only [go_sem, ↓reduceIte, Nat.reduceEqDiff, Nat.reduceLT, reduceCtorEq, if_neg, e1, e2] <;> rfl)); (first | refine pickT ?_ | refine pickF ?_ | fail_if_success with_reducible refine pickA ?_)) | ((with_reducible refine SC.draw Tab.mixed ?_ ?_); (focus (first | rfl | simp (disch := omega) only [go_sem, ↓reduceIte, Nat.reduceEqDiff, Nat.reduceLT, Nat.reduceLeDiff, Nat.reduceAdd, Nat.reduceMul, Nat.reduceSub, reduceCtorEq, Nat.reduceBEq, Int.reduceToNat, Int.reducePow, if_pos, if_neg, e1, e2]))) | (with_reducible apply SC.ops)))
  exact retQ_ret Try.results37 (by simp (disch := omega) only [go_sem, ↓reduceIte]; rfl) (by simp (disch := omega) only [go_sem]; rfl) rfl
theorem rPrime_t (n : Nat) (hP : Pr n) (h2 : n < 2147483648) : Spec Try.prog 61 [.sc (.int .u64 n)] (.sc (.bool true)) := by
  have hn2 := hP.1
  have q1 := decide_eq_false (p := (n : Int) < 2) (by omega)
  have q2 := decide_eq_false (p := (2147483648 : Int) ≤ (n : Int)) (by omega)
  refine Spec.run Try.func61 rfl Try.ntmps61 (by simp) (by simp (disch := omega) only [go_sem]; rfl) fun B hB => ?_
  (repeat (first | refine DO.nil (by kernel_rfl) ?_ | (with_reducible first | apply oz1 | apply oz2 | apply oz3 | apply oz4 | apply oz5 | apply oz6 | apply oz7 | apply oz8 | apply oz9 | apply ozb | apply ozc | apply oze | apply ozf | apply ozg | apply ozh | apply ozi | apply ozj | apply ozk | refine ozd (by decide) ?_) | ((first | apply SO.call | apply DO.call); (iterate 3 (focus (simp (disch := omega) only [go_sem, ↓reduceIte, Nat.reduceEqDiff, Nat.reduceLT, Nat.reduceLeDiff, Nat.reduceAdd, Nat.reduceMul, Nat.reduceSub, reduceCtorEq, Nat.reduceBEq, Int.reduceToNat, Int.reducePow, if_pos, if_neg, q1, q2] <;> rfl))); (first | apply SCall.ofX | apply DCall.ofX); (focus (first | assumption)); (focus (simp (disch := omega) only [go_sem, ↓reduceIte, Nat.reduceEqDiff, Nat.reduceLT, Nat.reduceLeDiff, Nat.reduceAdd, Nat.reduceMul, Nat.reduceSub, reduceCtorEq, Nat.reduceBEq, Int.reduceToNat, Int.reducePow, if_pos, if_neg, q1, q2] <;> rfl))) | ((with_reducible first | apply SC.condB | apply SC.region | apply SO.run | apply DO.run); (focus (simp (disch := omega) only [go_sem, ↓reduceIte, Nat.reduceEqDiff, reduceCtorEq, q1, q2] <;> rfl)); (first | refine pickT ?_ | refine pickF ?_ | fail_if_success with_reducible refine pickA ?_)) | ((with_reducible refine SC.draw Tab.mixed ?_ ?_); (focus (first | rfl | simp (disch := omega) only [go_sem, ↓reduceIte, Nat.reduceEqDiff, Nat.reduceLT, Nat.reduceLeDiff, Nat.reduceAdd, Nat.reduceMul, Nat.reduceSub, reduceCtorEq, Nat.reduceBEq, Int.reduceToNat, Int.reducePow, if_pos, if_neg, q1, q2]))) | (with_reducible apply SC.ops)))
  refine SC.loop (fun d : Nat => ⟨[(0, .sc (.int .u64 n)), (3, .sc (.int .u64 d))], [], 0, 21⟩) (fun d => 2 ≤ d ∧ d ≤ 46342) (fun d => 46342 - d) 2 ?_ ?_ ?_
  · (refine Le.of [] hB (by first | exact ⟨Nat.zero_le _, fun _ _ => Nat.zero_le _⟩ | (constructor <;> (try simp) <;> (try omega))) ?_ ?_ <;> (repeat' (first | exact leSl_nil | exact leHp_nil | refine leSl_cons (by simp (disch := omega) only [go_sem, ↓reduceIte, reduceCtorEq]; rfl) ?_ ?_ | refine leHp_cons (by simp (disch := omega) only [go_sem, ↓reduceIte, Nat.reduceEqDiff, Nat.reduceLT, Nat.reduceLeDiff, Nat.reduceAdd, Nat.reduceMul, Nat.reduceSub, reduceCtorEq, Nat.reduceBEq, Int.reduceToNat, Int.reducePow, if_pos, if_neg]; rfl) ?_ ?_ | exact VLe.junk _ | exact VLe.refl rfl | exact VLe.nil_sl _ _ _ | exact VLe.int (by first | rfl | omega | (dsimp only; omega)) | exact VLe.bool rfl | exact VLe.sl rfl (by first | rfl | omega | (dsimp only; omega) | (simp; done)) | exact VLe.cap rfl (by first | rfl | omega | (dsimp only; omega) | (simp; done)) | exact VLe.im rfl rfl | exact HLe.new rfl | exact HLe.same rfl (LLe.refl rfl) | refine HLe.same rfl ?_ | exact LLe.nil _ | exact LLe.refl rfl | refine LLe.cons ?_ ?_)))
  · exact ⟨by omega, by omega⟩
  · rintro d ⟨hd, hd2⟩ K hK
    have hdd : d * d ≤ 46342 * 46342 := Nat.mul_le_mul hd2 hd2
    have hdd2 : d * 2 ≤ d * d := Nat.mul_le_mul_left _ hd
    have hmul : (d : Int) * (d : Int) = ((d * d : Nat) : Int) := by simp
    by_cases hc : d * d ≤ n
    · have hd3 : d ≤ 46341 := by
        rcases Nat.lt_or_ge d 46342 with k | k
        · omega
        · have := Nat.mul_le_mul k k; omega
      have hm : n % d ≠ 0 := by
        intro hm
        have hco := hP.2 d (by omega) (by omega)
        have hg := Nat.gcd_eq_right (Nat.dvd_of_mod_eq_zero hm)
        unfold Nat.Coprime at hco
        omega
      generalize d * d = D at *
      have q3 := decide_eq_true (p := (D : Int) ≤ (n : Int)) (by omega)
      have q4 : ((n : Int) % (d : Int) == 0) = false := by
        rw [beq_eq_false_iff_ne, ← Int.natCast_emod]; omega
      (repeat (first | refine DO.nil (by kernel_rfl) ?_ | (with_reducible first | apply oz1 | apply oz2 | apply oz3 | apply oz4 | apply oz5 | apply oz6 | apply oz7 | apply oz8 | apply oz9 | apply ozb | apply ozc | apply oze | apply ozf | apply ozg | apply ozh | apply ozi | apply ozj | apply ozk | refine ozd (by decide) ?_) | ((first | apply SO.call | apply DO.call); (iterate 3 (focus (simp (disch := omega) only [go_sem, ↓reduceIte, Nat.reduceEqDiff, Nat.reduceLT, Nat.reduceLeDiff, Nat.reduceAdd, Nat.reduceMul, Nat.reduceSub, reduceCtorEq, Nat.reduceBEq, Int.reduceToNat, Int.reducePow, if_pos, if_neg, hmul, q3, q4] <;> rfl))); (first | apply SCall.ofX | apply DCall.ofX); (focus (first | assumption)); (focus (simp (disch := omega) only [go_sem, ↓reduceIte, Nat.reduceEqDiff, Nat.reduceLT, Nat.reduceLeDiff, Nat.reduceAdd, Nat.reduceMul, Nat.reduceSub, reduceCtorEq, Nat.reduceBEq, Int.reduceToNat, Int.reducePow, if_pos, if_neg, hmul, q3, q4] <;> rfl))) | ((with_reducible first | apply SC.condB | apply SC.region | apply SO.run | apply DO.run); (focus (simp (disch := omega) only [go_sem, ↓reduceIte, Nat.reduceEqDiff, Nat.reduceLT, reduceCtorEq, if_neg, hmul, q3, q4] <;> rfl)); (first | refine pickT ?_ | refine pickF ?_ | fail_if_success with_reducible refine pickA ?_)) | ((with_reducible refine SC.draw Tab.mixed ?_ ?_); (focus (first | rfl | simp (disch := omega) only [go_sem, ↓reduceIte, Nat.reduceEqDiff, Nat.reduceLT, Nat.reduceLeDiff, Nat.reduceAdd, Nat.reduceMul, Nat.reduceSub, reduceCtorEq, Nat.reduceBEq, Int.reduceToNat, Int.reducePow, if_pos, if_neg, hmul, q3, q4]))) | (with_reducible apply SC.ops)))
      refine hK _ (d + 1) ?_ ⟨by omega, by omega⟩ (by omega)
      (refine Le.of [] hB (by first | exact ⟨Nat.zero_le _, fun _ _ => Nat.zero_le _⟩ | (constructor <;> (try simp) <;> (try omega))) ?_ ?_ <;> (repeat' (first | exact leSl_nil | exact leHp_nil | refine leSl_cons (by simp (disch := omega) only [go_sem, ↓reduceIte, reduceCtorEq]; rfl) ?_ ?_ | refine leHp_cons (by simp (disch := omega) only [go_sem, ↓reduceIte, Nat.reduceEqDiff, Nat.reduceLT, Nat.reduceLeDiff, Nat.reduceAdd, Nat.reduceMul, Nat.reduceSub, reduceCtorEq, Nat.reduceBEq, Int.reduceToNat, Int.reducePow, if_pos, if_neg]; rfl) ?_ ?_ | exact VLe.junk _ | exact VLe.refl rfl | exact VLe.nil_sl _ _ _ | exact VLe.int (by first | rfl | omega | (dsimp only; omega)) | exact VLe.bool rfl | exact VLe.sl rfl (by first | rfl | omega | (dsimp only; omega) | (simp; done)) | exact VLe.cap rfl (by first | rfl | omega | (dsimp only; omega) | (simp; done)) | exact VLe.im rfl rfl | exact HLe.new rfl | exact HLe.same rfl (LLe.refl rfl) | refine HLe.same rfl ?_ | exact LLe.nil _ | exact LLe.refl rfl | refine LLe.cons ?_ ?_)))
    · generalize d * d = D at *
      have q3 := decide_eq_false (p := (D : Int) ≤ (n : Int)) (by omega)
      (repeat (first | refine DO.nil (by kernel_rfl) ?_ | (with_reducible first | apply oz1 | apply oz2 | apply oz3 | apply oz4 | apply oz5 | apply oz6 | apply oz7 | apply oz8 | apply oz9 | apply ozb | apply ozc | apply oze | apply ozf | apply ozg | apply ozh | apply ozi | apply ozj | apply ozk | refine ozd (by decide) ?_) | ((first | apply SO.call | apply DO.call); (iterate 3 (focus (simp (disch := omega) only [go_sem, ↓reduceIte, Nat.reduceEqDiff, Nat.reduceLT, Nat.reduceLeDiff, Nat.reduceAdd, Nat.reduceMul, Nat.reduceSub, reduceCtorEq, Nat.reduceBEq, Int.reduceToNat, Int.reducePow, if_pos, if_neg, hmul, q3] <;> rfl))); (first | apply SCall.ofX | apply DCall.ofX); (focus (first | assumption)); (focus (simp (disch := omega) only [go_sem, ↓reduceIte, Nat.reduceEqDiff, Nat.reduceLT, Nat.reduceLeDiff, Nat.reduceAdd, Nat.reduceMul, Nat.reduceSub, reduceCtorEq, Nat.reduceBEq, Int.reduceToNat, Int.reducePow, if_pos, if_neg, hmul, q3] <;> rfl))) | ((with_reducible first | apply SC.condB | apply SC.region | apply SO.run | apply DO.run); (focus (simp (disch := omega) only [go_sem, ↓reduceIte, Nat.reduceEqDiff, reduceCtorEq, hmul, q3] <;> rfl)); (first | refine pickT ?_ | refine pickF ?_ | fail_if_success with_reducible refine pickA ?_)) | ((with_reducible refine SC.draw Tab.mixed ?_ ?_); (focus (first | rfl | simp (disch := omega) only [go_sem, ↓reduceIte, Nat.reduceEqDiff, Nat.reduceLT, Nat.reduceLeDiff, Nat.reduceAdd, Nat.reduceMul, Nat.reduceSub, reduceCtorEq, Nat.reduceBEq, Int.reduceToNat, Int.reducePow, if_pos, if_neg, hmul, q3]))) | (with_reducible apply SC.ops)))
      exact retQ_ret Try.results61 (by simp (disch := omega) only [go_sem, ↓reduceIte]; rfl) (by simp (disch := omega) only [go_sem]; rfl) rfl
/-! ### the primes -/
def primesL : List Nat := [2, 3, 5, 7, 11, 101, 65521, 65537, 1000003, 2147483549, 2147483563, 2147483579, 2147483587, 2147483629, 2147483647]
theorem primes_len (g : Nat → V) : (primesL.map g).length = 15 := by rw [List.length_map]; rfl
theorem primes_get {i : Nat} (h : i < 15) : primesL[i]? = some (primesL.getD i 0) := by
  rw [List.getElem?_eq_getElem (by exact h), List.getD_eq_getElem?_getD, List.getElem?_eq_getElem (by exact h)]; rfl
theorem primes_s : Spec Try.prog 67 [] (.im (primesL.map fun (n : Nat) => .sc (.int .u64 n)) 15) := Spec.eval (K := fun _ _ => none) (fun _ _ _ h => by cases h) 50 (fun _ => false) (by kernel_rfl)
theorem made_s (k : Nat) (hk : k ≤ 255) : Spec Try.prog 39 [.sc (.int .u8 k)] (.sc (.int .u64 (primesL.getD (k % 15) 0 : Nat))) := by
  have hm : ((k : Int) % 15).toNat = k % 15 := by omega
  have hg := primes_get (i := k % 15) (by omega)
  have c1 := primes_s
  refine Spec.run Try.func39 rfl Try.ntmps39 (by simp) (by simp (disch := omega) only [go_sem]; rfl) fun B hB => ?_
  (repeat (first | refine DO.nil (by kernel_rfl) ?_ | (with_reducible first | apply oz1 | apply oz2 | apply oz3 | apply oz4 | apply oz5 | apply oz6 | apply oz7 | apply oz8 | apply oz9 | apply ozb | apply ozc | apply oze | apply ozf | apply ozg | apply ozh | apply ozi | apply ozj | apply ozk | refine ozd (by decide) ?_) | ((first | apply SO.call | apply DO.call); (iterate 3 (focus (simp (disch := omega) only [go_sem] <;> rfl))); (first | apply SCall.ofX | apply DCall.ofX); (focus (first | assumption)); (focus (simp (disch := omega) only [go_sem] <;> rfl))) | ((with_reducible first | apply SC.condB | apply SC.region | apply SO.run | apply DO.run); (focus (simp (disch := omega) only [go_sem, ↓reduceIte, Nat.reduceEqDiff, Nat.reduceLT, reduceCtorEq, if_pos, if_neg, primes_len, hm, hg, List.getElem?_drop, List.getElem?_map, Int.cast_ofNat_Int] <;> rfl)); (first | refine pickT ?_ | refine pickF ?_ | fail_if_success with_reducible refine pickA ?_)) | ((with_reducible refine SC.draw Tab.mixed ?_ ?_); (focus (first | rfl | simp (disch := omega) only [go_sem, ↓reduceIte, Nat.reduceEqDiff, Nat.reduceLT, Nat.reduceLeDiff, Nat.reduceAdd, Nat.reduceMul, Nat.reduceSub, reduceCtorEq, Nat.reduceBEq, Int.reduceToNat, Int.reducePow, if_pos, if_neg, primes_len, hm, hg, List.getElem?_drop, List.getElem?_map, Int.cast_ofNat_Int]))) | (with_reducible apply SC.ops)))
  exact retQ_ret Try.results39 (by simp (disch := omega) only [go_sem, ↓reduceIte]; rfl) (by simp (disch := omega) only [go_sem]; rfl) rfl
end Go.Proofs.Ytpbomhmflllemaa

/- Contracts by value: rows of numbers modulo p, searches, copies. -/
namespace Go.Proofs.Ytpbomhmflllemaa
open Go.RowKit
def nv (r : List Nat) : List V := r.map fun (n : Nat) => .sc (.int .u64 n)
theorem nv_len (r : List Nat) : (nv r).length = r.length := by simp [nv]
theorem nv_get {r : List Nat} {j : Nat} (h : j < r.length) : (nv r)[j]? = some (.sc (.int .u64 (r.getD j 0 : Nat))) := by
  unfold nv; rw [List.getElem?_map, getD_get' (d := 0) h]; rfl
theorem nv_clo (r : List Nat) : (nv r).all clo = true := by
  rw [List.all_eq_true]; intro x hx; obtain ⟨n, _, rfl⟩ := List.mem_map.1 hx; rfl
theorem nv_one (r : List Nat) : (nv r).all V.one = true := by
  rw [List.all_eq_true]; intro x hx; obtain ⟨n, _, rfl⟩ := List.mem_map.1 hx; rfl
theorem nv_set (r : List Nat) (j n : Nat) : (nv r).set j (.sc (.int .u64 (n : Int))) = nv (r.set j n) := by simp [nv, List.map_set]
theorem nv_take (r : List Nat) (n : Nat) : (nv r).take n = nv (r.take n) := by simp [nv, List.map_take]
theorem nv_drop (r : List Nat) (n : Nat) : (nv r).drop n = nv (r.drop n) := by simp [nv, List.map_drop]
theorem nv_app (r s : List Nat) : nv r ++ nv s = nv (r ++ s) := by simp [nv]
theorem nv_repl (n : Nat) : List.replicate n (V.sc (.int .u64 0)) = nv (List.replicate n 0) := by simp [nv]
def nR (M : List (List Nat)) : List (List V) := M.map nv
def mv (w : Nat) (M : List (List Nat)) : V := .im (imR w (nR M)) M.length
def md (p w : Nat) (M : List (List Nat)) : V := .ag [.sc (.int .u64 p), .sc (.int .i64 w), mv w M]
theorem imR_len (w : Nat) (M : List (List Nat)) : (imR w (nR M)).length = M.length := by simp [imR, nR]
theorem imR_get {w i : Nat} {M : List (List Nat)} (h : i < M.length) : (imR w (nR M))[i]? = some (.im (nv (M.getD i [])) w) := by
  unfold imR nR; rw [List.getElem?_map, List.getElem?_map, getD_get' (d := []) h]; rfl
theorem imR_clo (w : Nat) (rs : List (List V)) : (imR w rs).all clo = true := by
  rw [List.all_eq_true]; intro x hx; obtain ⟨n, _, rfl⟩ := List.mem_map.1 hx; rfl
theorem nR_getD (M : List (List Nat)) (k : Nat) : (nR M).getD k [] = nv (M.getD k []) := by
  unfold nR; rw [List.getD_eq_getElem?_getD, List.getElem?_map, List.getD_eq_getElem?_getD]; cases M[k]? <;> rfl
theorem nR_set (M : List (List Nat)) (k : Nat) (r : List Nat) : (nR M).set k (nv r) = nR (M.set k r) := by simp [nR, List.map_set]
theorem nR_len (M : List (List Nat)) : (nR M).length = M.length := by simp [nR]
theorem nR_rows {p n w : Nat} {M : List (List Nat)} (hM : MV p n w M) : ∀ r ∈ nR M, r.length = w * 1 ∧ r.all clo = true := by
  intro r hr
  obtain ⟨q, hq, rfl⟩ := List.mem_map.1 hr
  exact ⟨by rw [nv_len, (hM.2 q hq).1, Nat.mul_one], nv_clo q⟩
def srV : Option Nat → Int
  | some q => q
  | none => -1
theorem search_s {p n w : Nat} {M : List (List Nat)} (hM : MV p n w M) (k c : Nat) (hk : k ≤ n) (hc : c < w) (hn : n ≤ 1000000) (hw : w ≤ 1000000) :
    Spec Try.prog 54 [mv w M, .sc (.int .i64 k), .sc (.int .i64 c)] (.sc (.int .i64 (srV (searchL M c (n - k) k)))) := by
  have hl := hM.1
  unfold mv
  refine Spec.run Try.func54 rfl Try.ntmps54 (by simp) (by simp (disch := omega) only [go_sem, Nat.reduceAdd]; rfl) fun B hB => ?_
  (repeat (first | refine DO.nil (by kernel_rfl) ?_ | (with_reducible first | apply oz1 | apply oz2 | apply oz3 | apply oz4 | apply oz5 | apply oz6 | apply oz7 | apply oz8 | apply oz9 | apply ozb | apply ozc | apply oze | apply ozf | apply ozg | apply ozh | apply ozi | apply ozj | apply ozk | refine ozd (by decide) ?_) | ((first | apply SO.call | apply DO.call); (iterate 3 (focus (simp (disch := omega) only [go_sem, ↓reduceIte, Nat.reduceEqDiff, Nat.reduceLT, Nat.reduceLeDiff, Nat.reduceAdd, Nat.reduceMul, Nat.reduceSub, reduceCtorEq, Nat.reduceBEq, Int.reduceToNat, Int.reducePow, if_pos, if_neg] <;> rfl))); (first | apply SCall.ofX | apply DCall.ofX); (focus (first | assumption)); (focus (simp (disch := omega) only [go_sem, ↓reduceIte, Nat.reduceEqDiff, Nat.reduceLT, Nat.reduceLeDiff, Nat.reduceAdd, Nat.reduceMul, Nat.reduceSub, reduceCtorEq, Nat.reduceBEq, Int.reduceToNat, Int.reducePow, if_pos, if_neg] <;> rfl))) | ((with_reducible first | apply SC.condB | apply SC.region | apply SO.run | apply DO.run); (focus (simp (disch := omega) only [go_sem, ↓reduceIte, Nat.reduceEqDiff, reduceCtorEq] <;> rfl)); (first | refine pickT ?_ | refine pickF ?_ | fail_if_success with_reducible refine pickA ?_)) | ((with_reducible refine SC.draw Tab.mixed ?_ ?_); (focus (first | rfl | simp (disch := omega) only [go_sem, ↓reduceIte, Nat.reduceEqDiff, Nat.reduceLT, Nat.reduceLeDiff, Nat.reduceAdd, Nat.reduceMul, Nat.reduceSub, reduceCtorEq, Nat.reduceBEq, Int.reduceToNat, Int.reducePow, if_pos, if_neg]))) | (with_reducible apply SC.ops)))
  refine SC.loop (fun i : Nat => ⟨[(0, .im (imR w (nR M)) M.length), (2, .sc (.int .i64 c)), (7, .sc (.int .i64 (-1))), (8, .sc (.int .i64 i))], [], 0, 27⟩) (fun i => k ≤ i ∧ i ≤ n ∧ ∀ j, k ≤ j → j < i → ent M j c = 0) (fun i => n - i) k ?_ ?_ ?_
  · (refine Le.of [] hB (by first | exact ⟨Nat.zero_le _, fun _ _ => Nat.zero_le _⟩ | (constructor <;> (try simp) <;> (try omega))) ?_ ?_ <;> (repeat' (first | exact leSl_nil | exact leHp_nil | refine leSl_cons (by simp (disch := omega) only [go_sem, ↓reduceIte, Nat.reduceEqDiff, reduceCtorEq]; rfl) ?_ ?_ | refine leHp_cons (by simp (disch := omega) only [go_sem, ↓reduceIte, Nat.reduceEqDiff, Nat.reduceLT, Nat.reduceLeDiff, Nat.reduceAdd, Nat.reduceMul, Nat.reduceSub, reduceCtorEq, Nat.reduceBEq, Int.reduceToNat, Int.reducePow, if_pos, if_neg]; rfl) ?_ ?_ | exact VLe.junk _ | exact VLe.refl rfl | exact VLe.nil_sl _ _ _ | exact VLe.int (by first | rfl | omega | (dsimp only; omega)) | exact VLe.bool rfl | exact VLe.sl rfl (by first | rfl | omega | (dsimp only; omega) | (simp; done)) | exact VLe.cap rfl (by first | rfl | omega | (dsimp only; omega) | (simp; done)) | exact VLe.im rfl rfl | exact HLe.new rfl | exact HLe.same rfl (LLe.refl rfl) | refine HLe.same rfl ?_ | exact LLe.nil _ | exact LLe.refl rfl | refine LLe.cons ?_ ?_)))
  · exact ⟨Nat.le_refl _, hk, fun j h1 h2 => by omega⟩
  · rintro i ⟨hki, hin, hI⟩ K hK
    by_cases hi : i < n
    · have q1 := decide_eq_true (p := (i : Int) < (M.length : Int)) (by omega)
      have g0 := imR_len w M
      have g1 := imR_get (w := w) (M := M) (i := i) (by omega)
      have hr := hM.get hi
      have g2 := nv_get (r := M.getD i []) (j := c) (by rw [hr.1]; exact hc)
      have g3 := nv_len (M.getD i [])
      rw [hr.1] at g3
      have he : (M.getD i []).getD c 0 = ent M i c := rfl
      rw [he] at g2
      have hlt := hM.lt hi hc
      generalize M.getD i [] = r at *
      generalize hx : ent M i c = x at *
      by_cases h0 : x = 0
      · have q2 : ((x : Int) == 0) = true := by rw [h0]; rfl
        (repeat (first | refine DO.nil (by kernel_rfl) ?_ | (with_reducible first | apply oz1 | apply oz2 | apply oz3 | apply oz4 | apply oz5 | apply oz6 | apply oz7 | apply oz8 | apply oz9 | apply ozb | apply ozc | apply oze | apply ozf | apply ozg | apply ozh | apply ozi | apply ozj | apply ozk | refine ozd (by decide) ?_) | ((first | apply SO.call | apply DO.call); (iterate 3 (focus (simp (disch := omega) only [go_sem, ↓reduceIte, Nat.reduceEqDiff, Nat.reduceLT, Nat.reduceLeDiff, Nat.reduceAdd, Nat.reduceMul, Nat.reduceSub, reduceCtorEq, Nat.reduceBEq, Int.reduceToNat, Int.reducePow, if_pos, if_neg, q1, g0, g1, g2, g3, q2, List.getElem?_drop] <;> rfl))); (first | apply SCall.ofX | apply DCall.ofX); (focus (first | assumption)); (focus (simp (disch := omega) only [go_sem, ↓reduceIte, Nat.reduceEqDiff, Nat.reduceLT, Nat.reduceLeDiff, Nat.reduceAdd, Nat.reduceMul, Nat.reduceSub, reduceCtorEq, Nat.reduceBEq, Int.reduceToNat, Int.reducePow, if_pos, if_neg, q1, g0, g1, g2, g3, q2, List.getElem?_drop] <;> rfl))) | ((with_reducible first | apply SC.condB | apply SC.region | apply SO.run | apply DO.run); (focus (simp (disch := omega) only [go_sem, ↓reduceIte, Nat.reduceEqDiff, reduceCtorEq, if_pos, q1, g0, g1, g2, g3, q2, List.getElem?_drop] <;> rfl)); (first | refine pickT ?_ | refine pickF ?_ | fail_if_success with_reducible refine pickA ?_)) | ((with_reducible refine SC.draw Tab.mixed ?_ ?_); (focus (first | rfl | simp (disch := omega) only [go_sem, ↓reduceIte, Nat.reduceEqDiff, Nat.reduceLT, Nat.reduceLeDiff, Nat.reduceAdd, Nat.reduceMul, Nat.reduceSub, reduceCtorEq, Nat.reduceBEq, Int.reduceToNat, Int.reducePow, if_pos, if_neg, q1, g0, g1, g2, g3, q2, List.getElem?_drop]))) | (with_reducible apply SC.ops)))
        refine hK _ (i + 1) ?_ ⟨by omega, by omega, fun j h1 h2 => ?_⟩ (by omega)
        · (refine Le.of [] hB (by first | exact ⟨Nat.zero_le _, fun _ _ => Nat.zero_le _⟩ | (constructor <;> (try simp) <;> (try omega))) ?_ ?_ <;> (repeat' (first | exact leSl_nil | exact leHp_nil | refine leSl_cons (by simp (disch := omega) only [go_sem, ↓reduceIte, Nat.reduceEqDiff, reduceCtorEq]; rfl) ?_ ?_ | refine leHp_cons (by simp (disch := omega) only [go_sem, ↓reduceIte, Nat.reduceEqDiff, Nat.reduceLT, Nat.reduceLeDiff, Nat.reduceAdd, Nat.reduceMul, Nat.reduceSub, reduceCtorEq, Nat.reduceBEq, Int.reduceToNat, Int.reducePow, if_pos, if_neg]; rfl) ?_ ?_ | exact VLe.junk _ | exact VLe.refl rfl | exact VLe.nil_sl _ _ _ | exact VLe.int (by first | rfl | omega | (dsimp only; omega)) | exact VLe.bool rfl | exact VLe.sl rfl (by first | rfl | omega | (dsimp only; omega) | (simp; done)) | exact VLe.cap rfl (by first | rfl | omega | (dsimp only; omega) | (simp; done)) | exact VLe.im rfl rfl | exact HLe.new rfl | exact HLe.same rfl (LLe.refl rfl) | refine HLe.same rfl ?_ | exact LLe.nil _ | exact LLe.refl rfl | refine LLe.cons ?_ ?_)))
        · rcases Nat.lt_or_ge j i with g | g
          · exact hI j h1 g
          · rw [show j = i by omega, hx]; exact h0
      · have q2 : ((x : Int) == 0) = false := by rw [beq_eq_false_iff_ne]; omega
        have hs : searchL M c (n - k) k = some i := searchL_eq hki (by omega) (by rw [hx]; exact h0) hI
        (repeat (first | refine DO.nil (by kernel_rfl) ?_ | (with_reducible first | apply oz1 | apply oz2 | apply oz3 | apply oz4 | apply oz5 | apply oz6 | apply oz7 | apply oz8 | apply oz9 | apply ozb | apply ozc | apply oze | apply ozf | apply ozg | apply ozh | apply ozi | apply ozj | apply ozk | refine ozd (by decide) ?_) | ((first | apply SO.call | apply DO.call); (iterate 3 (focus (simp (disch := omega) only [go_sem, ↓reduceIte, Nat.reduceEqDiff, Nat.reduceLT, Nat.reduceLeDiff, Nat.reduceAdd, Nat.reduceMul, Nat.reduceSub, reduceCtorEq, Nat.reduceBEq, Int.reduceToNat, Int.reducePow, if_pos, if_neg, q1, g0, g1, g2, g3, q2, List.getElem?_drop] <;> rfl))); (first | apply SCall.ofX | apply DCall.ofX); (focus (first | assumption)); (focus (simp (disch := omega) only [go_sem, ↓reduceIte, Nat.reduceEqDiff, Nat.reduceLT, Nat.reduceLeDiff, Nat.reduceAdd, Nat.reduceMul, Nat.reduceSub, reduceCtorEq, Nat.reduceBEq, Int.reduceToNat, Int.reducePow, if_pos, if_neg, q1, g0, g1, g2, g3, q2, List.getElem?_drop] <;> rfl))) | ((with_reducible first | apply SC.condB | apply SC.region | apply SO.run | apply DO.run); (focus (simp (disch := omega) only [go_sem, ↓reduceIte, Nat.reduceEqDiff, Nat.reduceLT, reduceCtorEq, if_pos, q1, g0, g1, g2, g3, q2, List.getElem?_drop] <;> rfl)); (first | refine pickT ?_ | refine pickF ?_ | fail_if_success with_reducible refine pickA ?_)) | ((with_reducible refine SC.draw Tab.mixed ?_ ?_); (focus (first | rfl | simp (disch := omega) only [go_sem, ↓reduceIte, Nat.reduceEqDiff, Nat.reduceLT, Nat.reduceLeDiff, Nat.reduceAdd, Nat.reduceMul, Nat.reduceSub, reduceCtorEq, Nat.reduceBEq, Int.reduceToNat, Int.reducePow, if_pos, if_neg, q1, g0, g1, g2, g3, q2, List.getElem?_drop]))) | (with_reducible apply SC.ops)))
        exact retQ_ret Try.results54 (by simp (disch := omega) only [go_sem, ↓reduceIte]; rfl) (by simp (disch := omega) only [go_sem]; rfl) (by rw [hs]; rfl)
    · have q1 := decide_eq_false (p := (i : Int) < (M.length : Int)) (by omega)
      have hs : searchL M c (n - k) k = none := searchL_none fun j h1 h2 => hI j h1 (by omega)
      (repeat (first | refine DO.nil (by kernel_rfl) ?_ | (with_reducible first | apply oz1 | apply oz2 | apply oz3 | apply oz4 | apply oz5 | apply oz6 | apply oz7 | apply oz8 | apply oz9 | apply ozb | apply ozc | apply oze | apply ozf | apply ozg | apply ozh | apply ozi | apply ozj | apply ozk | refine ozd (by decide) ?_) | ((first | apply SO.call | apply DO.call); (iterate 3 (focus (simp (disch := omega) only [go_sem, ↓reduceIte, Nat.reduceEqDiff, Nat.reduceLT, Nat.reduceLeDiff, Nat.reduceAdd, Nat.reduceMul, Nat.reduceSub, reduceCtorEq, Nat.reduceBEq, Int.reduceToNat, Int.reducePow, if_pos, if_neg, q1] <;> rfl))); (first | apply SCall.ofX | apply DCall.ofX); (focus (first | assumption)); (focus (simp (disch := omega) only [go_sem, ↓reduceIte, Nat.reduceEqDiff, Nat.reduceLT, Nat.reduceLeDiff, Nat.reduceAdd, Nat.reduceMul, Nat.reduceSub, reduceCtorEq, Nat.reduceBEq, Int.reduceToNat, Int.reducePow, if_pos, if_neg, q1] <;> rfl))) | ((with_reducible first | apply SC.condB | apply SC.region | apply SO.run | apply DO.run); (focus (simp (disch := omega) only [go_sem, ↓reduceIte, Nat.reduceEqDiff, Nat.reduceLT, reduceCtorEq, q1] <;> rfl)); (first | refine pickT ?_ | refine pickF ?_ | fail_if_success with_reducible refine pickA ?_)) | ((with_reducible refine SC.draw Tab.mixed ?_ ?_); (focus (first | rfl | simp (disch := omega) only [go_sem, ↓reduceIte, Nat.reduceEqDiff, Nat.reduceLT, Nat.reduceLeDiff, Nat.reduceAdd, Nat.reduceMul, Nat.reduceSub, reduceCtorEq, Nat.reduceBEq, Int.reduceToNat, Int.reducePow, if_pos, if_neg, q1]))) | (with_reducible apply SC.ops)))
      exact retQ_ret Try.results54 (by simp (disch := omega) only [go_sem, ↓reduceIte]; rfl) (by simp (disch := omega) only [go_sem]; rfl) (by rw [hs]; rfl)
/-! ### tests of all elements -/
theorem find_none {r : List Nat} {t : Nat → Bool} (h : ∀ i, i < r.length → t (r.getD i 0) = false) : r.any t = false := by
  rw [List.any_eq_false]
  intro x hx
  obtain ⟨i, hi, rfl⟩ := List.mem_iff_getElem.1 hx
  have := h i hi
  rw [List.getD_eq_getElem?_getD, List.getElem?_eq_getElem hi] at this
  simpa using this
theorem find_some {r : List Nat} {t : Nat → Bool} {i : Nat} (hi : i < r.length) (h : t (r.getD i 0) = true) : r.any t = true :=
  List.any_eq_true.2 ⟨_, getD_mem (d := 0) hi, h⟩
theorem index_s {r : List Nat} {w : Nat} (hr : r.length = w) (hw : w ≤ 1000000) {F : V} {f : Nat} {p q : List V} (t : Nat → Bool) (hfn : fnOf F = some (f, p, q)) (hgo : isGo Try.prog f = true) (hok : okV (okN 0 []) F = true) (hfz : ∀ x : Nat, frzAll (frz 8 []) (p ++ [.sc (.int .u64 (x : Int))] ++ q) = some (p ++ [.sc (.int .u64 (x : Int))] ++ q, []))
    (hs : ∀ x ∈ r, Spec Try.prog f (p ++ [.sc (.int .u64 (x : Int))] ++ q) (.sc (.bool (t x)))) :
    ∃ z : Int, (0 ≤ z ↔ r.any t = true) ∧ Spec Try.prog 83 [.im (nv r) w, F] (.sc (.int .i64 z)) := by
  have hl := nv_len r
  -- the answer
  have key : (∃ i, i < w ∧ t (r.getD i 0) = true ∧ ∀ j, j < i → t (r.getD j 0) = false) ∨ ∀ i, i < w → t (r.getD i 0) = false := by
    have : ∀ m, m ≤ w → (∃ i, i < m ∧ t (r.getD i 0) = true ∧ ∀ j, j < i → t (r.getD j 0) = false) ∨ ∀ i, i < m → t (r.getD i 0) = false := by
      intro m
      induction m with
      | zero => intro _; exact .inr fun i hi => by omega
      | succ m ih =>
        intro hm
        rcases ih (by omega) with ⟨i, h1, h2⟩ | h
        · exact .inl ⟨i, by omega, h2⟩
        · cases hb : t (r.getD m 0) with
          | true => exact .inl ⟨m, by omega, hb, h⟩
          | false =>
            right
            intro i hi
            rcases Nat.lt_or_ge i m with g | g
            · exact h i g
            · rw [show i = m by omega]; exact hb
    exact this w (Nat.le_refl _)
  obtain ⟨z, hz, hspec⟩ : ∃ z : Int, (0 ≤ z ↔ r.any t = true) ∧ ∀ i, i ≤ w → (∀ j, j < i → t (r.getD j 0) = false) → (i = w → z = -1) ∧ (i < w → t (r.getD i 0) = true → z = i) := by
    rcases key with ⟨i, h1, h2, h3⟩ | h
    · refine ⟨i, ⟨fun _ => find_some (by omega) h2, fun _ => by omega⟩, fun k hk hj => ⟨fun e => ?_, fun hk2 ht => ?_⟩⟩
      · have := hj i (by omega); rw [h2] at this; cases this
      · rcases Nat.lt_trichotomy i k with g | g | g
        · have := hj i g; rw [h2] at this; cases this
        · rw [g]
        · have := h3 k g; rw [ht] at this; cases this
    · refine ⟨-1, ⟨fun h => by omega, fun he => ?_⟩, fun k hk hj => ⟨fun _ => rfl, fun hk2 ht => ?_⟩⟩
      · rw [find_none fun i hi => h i (by omega)] at he; cases he
      · rw [h k hk2] at ht; cases ht
  refine ⟨z, hz, ?_⟩
  refine Spec.run Try.func83 rfl Try.ntmps83 (by simp) (by simp (disch := omega) only [go_sem, Nat.reduceAdd]; rfl) fun B hB => ?_
  (repeat (first | refine DO.nil (by kernel_rfl) ?_ | (with_reducible first | apply oz1 | apply oz2 | apply oz3 | apply oz4 | apply oz5 | apply oz6 | apply oz7 | apply oz8 | apply oz9 | apply ozb | apply ozc | apply oze | apply ozf | apply ozg | apply ozh | apply ozi | apply ozj | apply ozk | refine ozd (by decide) ?_) | ((first | apply SO.call | apply DO.call); (iterate 3 (focus (simp (disch := omega) only [go_sem, ↓reduceIte, Nat.reduceEqDiff, Nat.reduceLT, Nat.reduceLeDiff, Nat.reduceAdd, Nat.reduceMul, Nat.reduceSub, reduceCtorEq, Nat.reduceBEq, Int.reduceToNat, Int.reducePow, if_pos, if_neg] <;> rfl))); (first | apply SCall.ofX | apply DCall.ofX); (focus (first | assumption)); (focus (simp (disch := omega) only [go_sem, ↓reduceIte, Nat.reduceEqDiff, Nat.reduceLT, Nat.reduceLeDiff, Nat.reduceAdd, Nat.reduceMul, Nat.reduceSub, reduceCtorEq, Nat.reduceBEq, Int.reduceToNat, Int.reducePow, if_pos, if_neg] <;> rfl))) | ((with_reducible first | apply SC.condB | apply SC.region | apply SO.run | apply DO.run); (focus (simp (disch := omega) only [go_sem, ↓reduceIte, reduceCtorEq] <;> rfl)); (first | refine pickT ?_ | refine pickF ?_ | fail_if_success with_reducible refine pickA ?_)) | ((with_reducible refine SC.draw Tab.mixed ?_ ?_); (focus (first | rfl | simp (disch := omega) only [go_sem, ↓reduceIte, Nat.reduceEqDiff, Nat.reduceLT, Nat.reduceLeDiff, Nat.reduceAdd, Nat.reduceMul, Nat.reduceSub, reduceCtorEq, Nat.reduceBEq, Int.reduceToNat, Int.reducePow, if_pos, if_neg]))) | (with_reducible apply SC.ops)))
  refine SC.loop (fun i : Nat => ⟨[(0, .im (nv r) w), (1, F), (7, .sc (.int .i64 w)), (8, .sc (.int .i64 i))], [], 0, 19⟩) (fun i => i ≤ w ∧ ∀ j, j < i → t (r.getD j 0) = false) (fun i => w - i) 0 ?_ ?_ ?_
  · (refine Le.of [] hB (by first | exact ⟨Nat.zero_le _, fun _ _ => Nat.zero_le _⟩ | (constructor <;> (try simp) <;> (try omega))) ?_ ?_ <;> (repeat' (first | exact leSl_nil | exact leHp_nil | refine leSl_cons (by simp (disch := omega) only [go_sem, ↓reduceIte, Nat.reduceEqDiff, reduceCtorEq]; rfl) ?_ ?_ | refine leHp_cons (by simp (disch := omega) only [go_sem, ↓reduceIte, Nat.reduceEqDiff, Nat.reduceLT, Nat.reduceLeDiff, Nat.reduceAdd, Nat.reduceMul, Nat.reduceSub, reduceCtorEq, Nat.reduceBEq, Int.reduceToNat, Int.reducePow, if_pos, if_neg]; rfl) ?_ ?_ | exact VLe.junk _ | exact VLe.refl rfl | exact VLe.nil_sl _ _ _ | exact VLe.int (by first | rfl | omega | (dsimp only; omega)) | exact VLe.bool rfl | exact VLe.sl rfl (by first | rfl | omega | (dsimp only; omega) | (simp; done)) | exact VLe.cap rfl (by first | rfl | omega | (dsimp only; omega) | (simp; done)) | exact VLe.im rfl rfl | exact HLe.new rfl | exact HLe.same rfl (LLe.refl rfl) | refine HLe.same rfl ?_ | exact LLe.nil _ | exact LLe.refl rfl | refine LLe.cons ?_ ?_)))
    exact VLe.refl hok
  · exact ⟨Nat.zero_le _, fun j h => by omega⟩
  · rintro i ⟨hi, hI⟩ K hK
    obtain ⟨z1, z2⟩ := hspec i hi hI
    by_cases hc : i < w
    · have q1 := decide_eq_true (p := (i : Int) < (w : Int)) (by omega)
      have g1 := nv_get (r := r) (j := i) (by omega)
      have c1 := hs _ (getD_mem (d := 0) (by omega : i < r.length))
      have hf := hfz (r.getD i 0)
      have hb : ∀ b, t (r.getD i 0) = b → Spec Try.prog f (p ++ [.sc (.int .u64 ((r.getD i 0 : Nat) : Int))] ++ q) (.sc (.bool b)) := fun b e => e ▸ c1
      generalize hx : r.getD i 0 = x at *
      (repeat (first | refine DO.nil (by kernel_rfl) ?_ | (with_reducible first | apply oz1 | apply oz2 | apply oz3 | apply oz4 | apply oz5 | apply oz6 | apply oz7 | apply oz8 | apply oz9 | apply ozb | apply ozc | apply oze | apply ozf | apply ozg | apply ozh | apply ozi | apply ozj | apply ozk | refine ozd (by decide) ?_) | ((first | apply SO.call | apply DO.call); (iterate 3 (focus (simp (disch := omega) only [go_sem, ↓reduceIte, Nat.reduceEqDiff, Nat.reduceLT, Nat.reduceLeDiff, Nat.reduceAdd, Nat.reduceMul, Nat.reduceSub, reduceCtorEq, Nat.reduceBEq, Int.reduceToNat, Int.reducePow, if_pos, if_neg, q1, g1, hl, List.getElem?_drop] <;> rfl))); (first | apply SCall.ofX | apply DCall.ofX); (focus (first | assumption)); (focus (simp (disch := omega) only [go_sem, ↓reduceIte, Nat.reduceEqDiff, Nat.reduceLT, Nat.reduceLeDiff, Nat.reduceAdd, Nat.reduceMul, Nat.reduceSub, reduceCtorEq, Nat.reduceBEq, Int.reduceToNat, Int.reducePow, if_pos, if_neg, q1, g1, hl, List.getElem?_drop] <;> rfl))) | ((with_reducible first | apply SC.condB | apply SC.region | apply SO.run | apply DO.run); (focus (simp (disch := omega) only [go_sem, ↓reduceIte, Nat.reduceEqDiff, reduceCtorEq, if_pos, q1, g1, hl, List.getElem?_drop] <;> rfl)); (first | refine pickT ?_ | refine pickF ?_ | fail_if_success with_reducible refine pickA ?_)) | ((with_reducible refine SC.draw Tab.mixed ?_ ?_); (focus (first | rfl | simp (disch := omega) only [go_sem, ↓reduceIte, Nat.reduceEqDiff, Nat.reduceLT, Nat.reduceLeDiff, Nat.reduceAdd, Nat.reduceMul, Nat.reduceSub, reduceCtorEq, Nat.reduceBEq, Int.reduceToNat, Int.reducePow, if_pos, if_neg, q1, g1, hl, List.getElem?_drop]))) | (with_reducible apply SC.ops)))
      refine SO.callV (by simp (disch := omega) only [go_sem, ↓reduceIte, Nat.reduceEqDiff, hfn]; rfl) hgo (by simp (disch := omega) only [go_sem, ↓reduceIte, hf]; rfl) (by simp (disch := omega) only [go_sem] <;> rfl) ?_
      cases hbt : t x with
      | true =>
        refine SCallV.of (hb true hbt) (by simp (disch := omega) only [go_sem]; rfl) ?_
        (repeat (first | refine DO.nil (by kernel_rfl) ?_ | (with_reducible first | apply oz1 | apply oz2 | apply oz3 | apply oz4 | apply oz5 | apply oz6 | apply oz7 | apply oz8 | apply oz9 | apply ozb | apply ozc | apply oze | apply ozf | apply ozg | apply ozh | apply ozi | apply ozj | apply ozk | refine ozd (by decide) ?_) | ((first | apply SO.call | apply DO.call); (iterate 3 (focus (simp (disch := omega) only [go_sem, ↓reduceIte, Nat.reduceEqDiff, Nat.reduceLT, Nat.reduceLeDiff, Nat.reduceAdd, Nat.reduceMul, Nat.reduceSub, reduceCtorEq, Nat.reduceBEq, Int.reduceToNat, Int.reducePow, if_pos, if_neg] <;> rfl))); (first | apply SCall.ofX | apply DCall.ofX); (focus (first | assumption)); (focus (simp (disch := omega) only [go_sem, ↓reduceIte, Nat.reduceEqDiff, Nat.reduceLT, Nat.reduceLeDiff, Nat.reduceAdd, Nat.reduceMul, Nat.reduceSub, reduceCtorEq, Nat.reduceBEq, Int.reduceToNat, Int.reducePow, if_pos, if_neg] <;> rfl))) | ((with_reducible first | apply SC.condB | apply SC.region | apply SO.run | apply DO.run); (focus (simp (disch := omega) only [go_sem, ↓reduceIte, Nat.reduceEqDiff] <;> rfl)); (first | refine pickT ?_ | refine pickF ?_ | fail_if_success with_reducible refine pickA ?_)) | ((with_reducible refine SC.draw Tab.mixed ?_ ?_); (focus (first | rfl | simp (disch := omega) only [go_sem, ↓reduceIte, Nat.reduceEqDiff, Nat.reduceLT, Nat.reduceLeDiff, Nat.reduceAdd, Nat.reduceMul, Nat.reduceSub, reduceCtorEq, Nat.reduceBEq, Int.reduceToNat, Int.reducePow, if_pos, if_neg]))) | (with_reducible apply SC.ops)))
        exact retQ_ret Try.results83 (by simp (disch := omega) only [go_sem, ↓reduceIte]; rfl) (by simp (disch := omega) only [go_sem]; rfl) (by rw [z2 hc hbt])
      | false =>
        refine SCallV.of (hb false hbt) (by simp (disch := omega) only [go_sem]; rfl) ?_
        (repeat (first | refine DO.nil (by kernel_rfl) ?_ | (with_reducible first | apply oz1 | apply oz2 | apply oz3 | apply oz4 | apply oz5 | apply oz6 | apply oz7 | apply oz8 | apply oz9 | apply ozb | apply ozc | apply oze | apply ozf | apply ozg | apply ozh | apply ozi | apply ozj | apply ozk | refine ozd (by decide) ?_) | ((first | apply SO.call | apply DO.call); (iterate 3 (focus (simp (disch := omega) only [go_sem, ↓reduceIte, Nat.reduceEqDiff, Nat.reduceLT, Nat.reduceLeDiff, Nat.reduceAdd, Nat.reduceMul, Nat.reduceSub, reduceCtorEq, Nat.reduceBEq, Int.reduceToNat, Int.reducePow, if_pos, if_neg] <;> rfl))); (first | apply SCall.ofX | apply DCall.ofX); (focus (first | assumption)); (focus (simp (disch := omega) only [go_sem, ↓reduceIte, Nat.reduceEqDiff, Nat.reduceLT, Nat.reduceLeDiff, Nat.reduceAdd, Nat.reduceMul, Nat.reduceSub, reduceCtorEq, Nat.reduceBEq, Int.reduceToNat, Int.reducePow, if_pos, if_neg] <;> rfl))) | ((with_reducible first | apply SC.condB | apply SC.region | apply SO.run | apply DO.run); (focus (simp (disch := omega) only [go_sem, ↓reduceIte, Nat.reduceEqDiff, Nat.reduceLT, reduceCtorEq] <;> rfl)); (first | refine pickT ?_ | refine pickF ?_ | fail_if_success with_reducible refine pickA ?_)) | ((with_reducible refine SC.draw Tab.mixed ?_ ?_); (focus (first | rfl | simp (disch := omega) only [go_sem, ↓reduceIte, Nat.reduceEqDiff, Nat.reduceLT, Nat.reduceLeDiff, Nat.reduceAdd, Nat.reduceMul, Nat.reduceSub, reduceCtorEq, Nat.reduceBEq, Int.reduceToNat, Int.reducePow, if_pos, if_neg]))) | (with_reducible apply SC.ops)))
        refine hK _ (i + 1) ?_ ⟨by omega, fun j hj => ?_⟩ (by omega)
        · (refine Le.of [] hB (by first | exact ⟨Nat.zero_le _, fun _ _ => Nat.zero_le _⟩ | (constructor <;> (try simp) <;> (try omega))) ?_ ?_ <;> (repeat' (first | exact leSl_nil | exact leHp_nil | refine leSl_cons (by simp (disch := omega) only [go_sem, ↓reduceIte, Nat.reduceEqDiff, reduceCtorEq]; rfl) ?_ ?_ | refine leHp_cons (by simp (disch := omega) only [go_sem, ↓reduceIte, Nat.reduceEqDiff, Nat.reduceLT, Nat.reduceLeDiff, Nat.reduceAdd, Nat.reduceMul, Nat.reduceSub, reduceCtorEq, Nat.reduceBEq, Int.reduceToNat, Int.reducePow, if_pos, if_neg]; rfl) ?_ ?_ | exact VLe.junk _ | exact VLe.refl rfl | exact VLe.nil_sl _ _ _ | exact VLe.int (by first | rfl | omega | (dsimp only; omega)) | exact VLe.bool rfl | exact VLe.sl rfl (by first | rfl | omega | (dsimp only; omega) | (simp; done)) | exact VLe.cap rfl (by first | rfl | omega | (dsimp only; omega) | (simp; done)) | exact VLe.im rfl rfl | exact HLe.new rfl | exact HLe.same rfl (LLe.refl rfl) | refine HLe.same rfl ?_ | exact LLe.nil _ | exact LLe.refl rfl | refine LLe.cons ?_ ?_)))
          exact VLe.refl hok
        · rcases Nat.lt_or_ge j i with g | g
          · exact hI j g
          · rw [show j = i by omega, hx]; exact hbt
    · have q1 := decide_eq_false (p := (i : Int) < (w : Int)) (by omega)
      (repeat (first | refine DO.nil (by kernel_rfl) ?_ | (with_reducible first | apply oz1 | apply oz2 | apply oz3 | apply oz4 | apply oz5 | apply oz6 | apply oz7 | apply oz8 | apply oz9 | apply ozb | apply ozc | apply oze | apply ozf | apply ozg | apply ozh | apply ozi | apply ozj | apply ozk | refine ozd (by decide) ?_) | ((first | apply SO.call | apply DO.call); (iterate 3 (focus (simp (disch := omega) only [go_sem, ↓reduceIte, Nat.reduceEqDiff, Nat.reduceLT, Nat.reduceLeDiff, Nat.reduceAdd, Nat.reduceMul, Nat.reduceSub, reduceCtorEq, Nat.reduceBEq, Int.reduceToNat, Int.reducePow, if_pos, if_neg, q1] <;> rfl))); (first | apply SCall.ofX | apply DCall.ofX); (focus (first | assumption)); (focus (simp (disch := omega) only [go_sem, ↓reduceIte, Nat.reduceEqDiff, Nat.reduceLT, Nat.reduceLeDiff, Nat.reduceAdd, Nat.reduceMul, Nat.reduceSub, reduceCtorEq, Nat.reduceBEq, Int.reduceToNat, Int.reducePow, if_pos, if_neg, q1] <;> rfl))) | ((with_reducible first | apply SC.condB | apply SC.region | apply SO.run | apply DO.run); (focus (simp (disch := omega) only [go_sem, ↓reduceIte, Nat.reduceEqDiff, reduceCtorEq, q1] <;> rfl)); (first | refine pickT ?_ | refine pickF ?_ | fail_if_success with_reducible refine pickA ?_)) | ((with_reducible refine SC.draw Tab.mixed ?_ ?_); (focus (first | rfl | simp (disch := omega) only [go_sem, ↓reduceIte, Nat.reduceEqDiff, Nat.reduceLT, Nat.reduceLeDiff, Nat.reduceAdd, Nat.reduceMul, Nat.reduceSub, reduceCtorEq, Nat.reduceBEq, Int.reduceToNat, Int.reducePow, if_pos, if_neg, q1]))) | (with_reducible apply SC.ops)))
      exact retQ_ret Try.results83 (by simp (disch := omega) only [go_sem, ↓reduceIte]; rfl) (by simp (disch := omega) only [go_sem]; rfl) (by rw [z1 (by omega)])
theorem contains_s {r : List Nat} {w : Nat} {F F' : V} (hF : frz 8 [] F = some (F', [])) (t : Nat → Bool) (h : ∃ z : Int, (0 ≤ z ↔ r.any t = true) ∧ Spec Try.prog 83 [.im (nv r) w, F'] (.sc (.int .i64 z))) :
    Spec Try.prog 64 [.im (nv r) w, F] (.sc (.bool (r.any t))) := by
  obtain ⟨z, hz, c1⟩ := h
  have q1 : decide ((0 : Int) ≤ z) = r.any t := by
    cases hb : r.any t with
    | true => exact decide_eq_true (hz.2 hb)
    | false => exact decide_eq_false fun h => by rw [hz.1 h] at hb; cases hb
  refine Spec.run Try.func64 rfl Try.ntmps64 (by simp) (by simp (disch := omega) only [go_sem, Nat.reduceAdd]; rfl) fun B hB => ?_
  (repeat (first | refine DO.nil (by kernel_rfl) ?_ | (with_reducible first | apply oz1 | apply oz2 | apply oz3 | apply oz4 | apply oz5 | apply oz6 | apply oz7 | apply oz8 | apply oz9 | apply ozb | apply ozc | apply oze | apply ozf | apply ozg | apply ozh | apply ozi | apply ozj | apply ozk | refine ozd (by decide) ?_) | ((first | apply SO.call | apply DO.call); (iterate 3 (focus (simp (disch := omega) only [go_sem, ↓reduceIte, Nat.reduceEqDiff, hF] <;> rfl))); (first | apply SCall.ofX | apply DCall.ofX); (focus (first | assumption)); (focus (simp (disch := omega) only [go_sem] <;> rfl))) | ((with_reducible first | apply SC.condB | apply SC.region | apply SO.run | apply DO.run); (focus (simp (disch := omega) only [go_sem, ↓reduceIte, Nat.reduceEqDiff, Nat.reduceLT, reduceCtorEq, q1] <;> rfl)); (first | refine pickT ?_ | refine pickF ?_ | fail_if_success with_reducible refine pickA ?_)) | ((with_reducible refine SC.draw Tab.mixed ?_ ?_); (focus (first | rfl | simp (disch := omega) only [go_sem, ↓reduceIte, Nat.reduceEqDiff, Nat.reduceLT, Nat.reduceLeDiff, Nat.reduceAdd, Nat.reduceMul, Nat.reduceSub, reduceCtorEq, Nat.reduceBEq, Int.reduceToNat, Int.reducePow, if_pos, if_neg, q1, hF]))) | (with_reducible apply SC.ops)))
  exact retQ_ret Try.results64 (by simp (disch := omega) only [go_sem, ↓reduceIte]; rfl) (by simp (disch := omega) only [go_sem]; rfl) rfl
theorem below1_s (x p : Nat) : Spec Try.prog 82 ([] ++ [.sc (.int .u64 (x : Int))] ++ [.pi [.sc (.int .u64 p)]]) (.sc (.bool (decide (p ≤ x)))) := by
  have q1 : decide ((p : Int) ≤ (x : Int)) = decide (p ≤ x) := by rw [decide_eq_decide]; omega
  show Spec _ _ [.sc (.int .u64 (x : Int)), .pi [.sc (.int .u64 p)]] _
  refine Spec.run Try.func82 rfl Try.ntmps82 (by simp) (by simp (disch := omega) only [go_sem, Nat.reduceAdd]; rfl) fun B hB => ?_
  (repeat (first | refine DO.nil (by kernel_rfl) ?_ | (with_reducible first | apply oz1 | apply oz2 | apply oz3 | apply oz4 | apply oz5 | apply oz6 | apply oz7 | apply oz8 | apply oz9 | apply ozb | apply ozc | apply oze | apply ozf | apply ozg | apply ozh | apply ozi | apply ozj | apply ozk | refine ozd (by decide) ?_) | ((first | apply SO.call | apply DO.call); (iterate 3 (focus (simp (disch := omega) only [go_sem, ↓reduceIte, Nat.reduceEqDiff, Nat.reduceLT, Nat.reduceLeDiff, Nat.reduceAdd, Nat.reduceMul, Nat.reduceSub, reduceCtorEq, Nat.reduceBEq, Int.reduceToNat, Int.reducePow, if_pos, if_neg, q1] <;> rfl))); (first | apply SCall.ofX | apply DCall.ofX); (focus (first | assumption)); (focus (simp (disch := omega) only [go_sem, ↓reduceIte, Nat.reduceEqDiff, Nat.reduceLT, Nat.reduceLeDiff, Nat.reduceAdd, Nat.reduceMul, Nat.reduceSub, reduceCtorEq, Nat.reduceBEq, Int.reduceToNat, Int.reducePow, if_pos, if_neg, q1] <;> rfl))) | ((with_reducible first | apply SC.condB | apply SC.region | apply SO.run | apply DO.run); (focus (simp (disch := omega) only [go_sem, ↓reduceIte, Nat.reduceEqDiff, Nat.reduceLT, reduceCtorEq, q1] <;> rfl)); (first | refine pickT ?_ | refine pickF ?_ | fail_if_success with_reducible refine pickA ?_)) | ((with_reducible refine SC.draw Tab.mixed ?_ ?_); (focus (first | rfl | simp (disch := omega) only [go_sem, ↓reduceIte, Nat.reduceEqDiff, Nat.reduceLT, Nat.reduceLeDiff, Nat.reduceAdd, Nat.reduceMul, Nat.reduceSub, reduceCtorEq, Nat.reduceBEq, Int.reduceToNat, Int.reducePow, if_pos, if_neg, q1]))) | (with_reducible apply SC.ops)))
  exact retQ_ret Try.results82 (by simp (disch := omega) only [go_sem, ↓reduceIte]; rfl) (by simp (disch := omega) only [go_sem]; rfl) rfl
theorem below_s {p w : Nat} {r : List Nat} (hr : Rw p w r) (hw : w ≤ 1000000) : Spec Try.prog 63 [.sc (.int .u64 p), .im (nv r) w] (.sc (.bool true)) := by
  have c1 := contains_s (F := .fn (.func 82) [] [.pi [.sc (.int .u64 p)]]) (by simp (disch := omega) only [go_sem, ↓reduceIte]; rfl) (fun x => decide (p ≤ x)) (index_s hr.1 hw (fun x => decide (p ≤ x)) rfl Tab.go82 rfl (fun x => by simp (disch := omega) only [go_sem]) (fun x _ => below1_s x p))
  have e : r.any (fun x => decide (p ≤ x)) = false := by
    rw [List.any_eq_false]; intro x hx; have := hr.2 x hx; simp; omega
  rw [e] at c1
  refine Spec.run Try.func63 rfl Try.ntmps63 (by simp) (by simp (disch := omega) only [go_sem, Nat.reduceAdd]; rfl) fun B hB => ?_
  (repeat (first | refine DO.nil (by kernel_rfl) ?_ | (with_reducible first | apply oz1 | apply oz2 | apply oz3 | apply oz4 | apply oz5 | apply oz6 | apply oz7 | apply oz8 | apply oz9 | apply ozb | apply ozc | apply oze | apply ozf | apply ozg | apply ozh | apply ozi | apply ozj | apply ozk | refine ozd (by decide) ?_) | ((first | apply SO.call | apply DO.call); (iterate 3 (focus (simp (disch := omega) only [go_sem, ↓reduceIte, Nat.reduceEqDiff] <;> rfl))); (first | apply SCall.ofX | apply DCall.ofX); (focus (first | assumption)); (focus (simp (disch := omega) only [go_sem] <;> rfl))) | ((with_reducible first | apply SC.condB | apply SC.region | apply SO.run | apply DO.run); (focus (simp (disch := omega) only [go_sem, ↓reduceIte, Nat.reduceEqDiff, Nat.reduceLT, reduceCtorEq] <;> rfl)); (first | refine pickT ?_ | refine pickF ?_ | fail_if_success with_reducible refine pickA ?_)) | ((with_reducible refine SC.draw Tab.mixed ?_ ?_); (focus (first | rfl | simp (disch := omega) only [go_sem, ↓reduceIte, Nat.reduceEqDiff, Nat.reduceLT, Nat.reduceLeDiff, Nat.reduceAdd, Nat.reduceMul, Nat.reduceSub, reduceCtorEq, Nat.reduceBEq, Int.reduceToNat, Int.reducePow, if_pos, if_neg]))) | (with_reducible apply SC.ops)))
  exact retQ_ret Try.results63 (by simp (disch := omega) only [go_sem, ↓reduceIte]; rfl) (by simp (disch := omega) only [go_sem]; rfl) rfl
/-! ### copies -/
theorem Le.newSlice {B : Base} {sl : List (Nat × V)} {hp : List (Nat × Blk)} {nx nx' nt id len z t : Nat} {cap : Option Nat} {k : Blk} (hB : B.Old nx) (h : nx ≤ id) (hx : get sl t = .sl id 0 len z cap) (hk : hget hp id = some k) (hc : k.cs.all clo = true) : Le B ⟨sl, hp, nx', nt⟩ ⟨[(t, .sl nx 0 len z none)], [(nx, k)], nx + 1, nt⟩ := by
  refine Le.map (ren1 nx id) (fun i => i ≤ nx) hB (fun i hi => ⟨by omega, if_neg (by omega)⟩) (fun i hi => by omega) (fun i j hi hj e => ?_) ⟨?_, trivial⟩ (fun i k' hk' hi => ?_)
  · unfold ren1 at e
    split at e <;> split at e <;> omega
  · rw [hx]; exact VMap.cap (if_pos rfl) (Nat.le_refl _)
  · simp only [hget] at hk'
    split at hk'
    · rename_i e
      cases hk'
      subst e
      rw [show ren1 i id i = id from if_pos rfl, hk]
      exact BMap.clo hc
    · cases hk'
theorem Le.nilSlice {B : Base} {sl : List (Nat × V)} {hp : List (Nat × Blk)} {nx nt t z ty : Nat} (hB : B.Old nx) (hx : get sl t = .sc (.slice none 0 0)) : Le B ⟨sl, hp, nx, nt⟩ ⟨[(t, .sl nx 0 0 z none)], [(nx, ⟨ty, [], false⟩)], nx + 1, nt⟩ := by
  refine Le.map (fun i => i) (fun i => i < nx) hB (fun i hi => ⟨hi, rfl⟩) (fun i hi => by omega) (fun i j hi hj e => e) ⟨?_, trivial⟩ (fun i k' hk' hi => ?_)
  · rw [hx]; exact VMap.nil_sl _ _ _
  · simp only [hget] at hk'
    split at hk'
    · omega
    · cases hk'
theorem clone_s (r : List Nat) (w nx : Nat) (hr : r.length = w) (hw : w ≤ 1000000) : Inl Try.prog 77 [.im (nv r) w] [] nx (.sl nx 0 w 1 none) [(nx, ⟨26, nv r, false⟩)] (nx + 1) := by
  have hl := nv_len r
  have h1 := nv_one r
  refine Inl.run Try.func77 rfl Try.ntmps77 (by simp) (by simp (disch := omega) only [go_sem]; rfl) fun B hB => ?_
  by_cases h0 : w = 0
  · subst h0
    have hrn : r = [] := List.eq_nil_of_length_eq_zero hr
    subst hrn
    (repeat (first | refine DO.nil (by kernel_rfl) ?_ | (with_reducible first | apply oz1 | apply oz2 | apply oz3 | apply oz4 | apply oz5 | apply oz6 | apply oz7 | apply oz8 | apply oz9 | apply ozb | apply ozc | apply oze | apply ozf | apply ozg | apply ozh | apply ozi | apply ozj | apply ozk | refine ozd (by decide) ?_) | ((first | apply SO.call | apply DO.call); (iterate 3 (focus (simp (disch := omega) only [go_sem, ↓reduceIte, Nat.reduceEqDiff, Nat.reduceLT, Nat.reduceLeDiff, Nat.reduceAdd, Nat.reduceMul, Nat.reduceSub, reduceCtorEq, Nat.reduceBEq, Int.reduceToNat, Int.reducePow, if_pos, if_neg] <;> rfl))); (first | apply SCall.ofX | apply DCall.ofX); (focus (first | assumption)); (focus (simp (disch := omega) only [go_sem, ↓reduceIte, Nat.reduceEqDiff, Nat.reduceLT, Nat.reduceLeDiff, Nat.reduceAdd, Nat.reduceMul, Nat.reduceSub, reduceCtorEq, Nat.reduceBEq, Int.reduceToNat, Int.reducePow, if_pos, if_neg] <;> rfl))) | ((with_reducible first | apply SC.condB | apply SC.region | apply SO.run | apply DO.run); (focus (simp (disch := omega) only [go_sem, ↓reduceIte, Nat.reduceLT, reduceCtorEq] <;> rfl)); (first | refine pickT ?_ | refine pickF ?_ | fail_if_success with_reducible refine pickA ?_)) | ((with_reducible refine SC.draw Tab.mixed ?_ ?_); (focus (first | rfl | simp (disch := omega) only [go_sem, ↓reduceIte, Nat.reduceEqDiff, Nat.reduceLT, Nat.reduceLeDiff, Nat.reduceAdd, Nat.reduceMul, Nat.reduceSub, reduceCtorEq, Nat.reduceBEq, Int.reduceToNat, Int.reducePow, if_pos, if_neg]))) | (with_reducible apply SC.ops)))
    refine SO.nilq (by simp (disch := omega) only [go_sem] <;> rfl) (by simp (disch := omega) only [go_sem, ↓reduceIte] <;> rfl) (by simp (disch := omega) only [go_sem] <;> rfl) (by simp (disch := omega) only [go_sem] <;> rfl) fun b => ?_
    cases b
    · (repeat (first | refine DO.nil (by kernel_rfl) ?_ | (with_reducible first | apply oz1 | apply oz2 | apply oz3 | apply oz4 | apply oz5 | apply oz6 | apply oz7 | apply oz8 | apply oz9 | apply ozb | apply ozc | apply oze | apply ozf | apply ozg | apply ozh | apply ozi | apply ozj | apply ozk | refine ozd (by decide) ?_) | ((first | apply SO.call | apply DO.call); (iterate 3 (focus (simp (disch := omega) only [go_sem, ↓reduceIte, Nat.reduceEqDiff, Nat.reduceLT, Nat.reduceLeDiff, Nat.reduceAdd, Nat.reduceMul, Nat.reduceSub, reduceCtorEq, Nat.reduceBEq, Int.reduceToNat, Int.reducePow, if_pos, if_neg] <;> rfl))); (first | apply SCall.ofX | apply DCall.ofX); (focus (first | assumption)); (focus (simp (disch := omega) only [go_sem, ↓reduceIte, Nat.reduceEqDiff, Nat.reduceLT, Nat.reduceLeDiff, Nat.reduceAdd, Nat.reduceMul, Nat.reduceSub, reduceCtorEq, Nat.reduceBEq, Int.reduceToNat, Int.reducePow, if_pos, if_neg] <;> rfl))) | ((with_reducible first | apply SC.condB | apply SC.region | apply SO.run | apply DO.run); (focus (simp (disch := omega) only [go_sem, ↓reduceIte, Nat.reduceEqDiff, Nat.reduceLT, Nat.reduceLeDiff, reduceCtorEq] <;> rfl)); (first | refine pickT ?_ | refine pickF ?_ | fail_if_success with_reducible refine pickA ?_)) | ((with_reducible refine SC.draw Tab.mixed ?_ ?_); (focus (first | rfl | simp (disch := omega) only [go_sem, ↓reduceIte, Nat.reduceEqDiff, Nat.reduceLT, Nat.reduceLeDiff, Nat.reduceAdd, Nat.reduceMul, Nat.reduceSub, reduceCtorEq, Nat.reduceBEq, Int.reduceToNat, Int.reducePow, if_pos, if_neg]))) | (with_reducible apply SC.ops)))
      exact retI_ret Try.results77 (by simp (disch := omega) only [go_sem, ↓reduceIte] <;> rfl) (Le.newSlice hB (Nat.le_succ _) (by simp (disch := omega) only [go_sem, ↓reduceIte] <;> rfl) (by simp (disch := omega) only [go_sem, ↓reduceIte] <;> rfl) rfl)
    · (repeat (first | refine DO.nil (by kernel_rfl) ?_ | (with_reducible first | apply oz1 | apply oz2 | apply oz3 | apply oz4 | apply oz5 | apply oz6 | apply oz7 | apply oz8 | apply oz9 | apply ozb | apply ozc | apply oze | apply ozf | apply ozg | apply ozh | apply ozi | apply ozj | apply ozk | refine ozd (by decide) ?_) | ((first | apply SO.call | apply DO.call); (iterate 3 (focus (simp (disch := omega) only [go_sem, ↓reduceIte, Nat.reduceEqDiff, Nat.reduceLT, Nat.reduceLeDiff, Nat.reduceAdd, Nat.reduceMul, Nat.reduceSub, reduceCtorEq, Nat.reduceBEq, Int.reduceToNat, Int.reducePow, if_pos, if_neg] <;> rfl))); (first | apply SCall.ofX | apply DCall.ofX); (focus (first | assumption)); (focus (simp (disch := omega) only [go_sem, ↓reduceIte, Nat.reduceEqDiff, Nat.reduceLT, Nat.reduceLeDiff, Nat.reduceAdd, Nat.reduceMul, Nat.reduceSub, reduceCtorEq, Nat.reduceBEq, Int.reduceToNat, Int.reducePow, if_pos, if_neg] <;> rfl))) | ((with_reducible first | apply SC.condB | apply SC.region | apply SO.run | apply DO.run); (focus (simp (disch := omega) only [go_sem, ↓reduceIte] <;> rfl)); (first | refine pickT ?_ | refine pickF ?_ | fail_if_success with_reducible refine pickA ?_)) | ((with_reducible refine SC.draw Tab.mixed ?_ ?_); (focus (first | rfl | simp (disch := omega) only [go_sem, ↓reduceIte, Nat.reduceEqDiff, Nat.reduceLT, Nat.reduceLeDiff, Nat.reduceAdd, Nat.reduceMul, Nat.reduceSub, reduceCtorEq, Nat.reduceBEq, Int.reduceToNat, Int.reducePow, if_pos, if_neg]))) | (with_reducible apply SC.ops)))
      exact retI_ret Try.results77 (by simp (disch := omega) only [go_sem, ↓reduceIte] <;> rfl) (Le.nilSlice hB (by simp (disch := omega) only [go_sem, ↓reduceIte] <;> rfl))
  · (repeat (first | refine DO.nil (by kernel_rfl) ?_ | (with_reducible first | apply oz1 | apply oz2 | apply oz3 | apply oz4 | apply oz5 | apply oz6 | apply oz7 | apply oz8 | apply oz9 | apply ozb | apply ozc | apply oze | apply ozf | apply ozg | apply ozh | apply ozi | apply ozj | apply ozk | refine ozd (by decide) ?_) | ((first | apply SO.call | apply DO.call); (iterate 3 (focus (simp (disch := omega) only [go_sem, ↓reduceIte, Nat.reduceEqDiff, Nat.reduceLT, Nat.reduceLeDiff, Nat.reduceAdd, Nat.reduceMul, Nat.reduceSub, reduceCtorEq, Nat.reduceBEq, Int.reduceToNat, Int.reducePow, if_pos, if_neg, hl, h1] <;> rfl))); (first | apply SCall.ofX | apply DCall.ofX); (focus (first | assumption)); (focus (simp (disch := omega) only [go_sem, ↓reduceIte, Nat.reduceEqDiff, Nat.reduceLT, Nat.reduceLeDiff, Nat.reduceAdd, Nat.reduceMul, Nat.reduceSub, reduceCtorEq, Nat.reduceBEq, Int.reduceToNat, Int.reducePow, if_pos, if_neg, hl, h1] <;> rfl))) | ((with_reducible first | apply SC.condB | apply SC.region | apply SO.run | apply DO.run); (focus (simp (disch := omega) only [go_sem, ↓reduceIte, Nat.reduceEqDiff, Nat.reduceLT, Nat.reduceLeDiff, reduceCtorEq, if_pos, hl, h1] <;> rfl)); (first | refine pickT ?_ | refine pickF ?_ | fail_if_success with_reducible refine pickA ?_)) | ((with_reducible refine SC.draw Tab.mixed ?_ ?_); (focus (first | rfl | simp (disch := omega) only [go_sem, ↓reduceIte, Nat.reduceEqDiff, Nat.reduceLT, Nat.reduceLeDiff, Nat.reduceAdd, Nat.reduceMul, Nat.reduceSub, reduceCtorEq, Nat.reduceBEq, Int.reduceToNat, Int.reducePow, if_pos, if_neg, hl, h1]))) | (with_reducible apply SC.ops)))
    exact retI_ret Try.results77 (by simp (disch := omega) only [go_sem, ↓reduceIte] <;> rfl) (Le.newSlice hB (Nat.le_succ _) (by simp (disch := omega) only [go_sem, ↓reduceIte] <;> rfl) (by simp (disch := omega) only [go_sem, ↓reduceIte] <;> rfl) (nv_clo r))
end Go.Proofs.Ytpbomhmflllemaa

/- Contracts: a row added to a row, rows copied, rows with the identity beside them. -/
namespace Go.Proofs.Ytpbomhmflllemaa
open Go.RowKit
theorem klc {n i : Nat} {k : Blk} {r : List (Nat × Blk)} (h : i < n) (h2 : ∀ id q, hget r id = some q → id < n) : ∀ id q, hget ((i, k) :: r) id = some q → id < n := by
  intro id q hq
  simp only [hget] at hq
  split at hq
  · rename_i e; omega
  · exact h2 id q hq
theorem kln {n : Nat} : ∀ id q, hget [] id = some q → id < n := fun _ _ h => by cases h
theorem klr {n : Nat} {ty : TypeId} {ids : List Nat} {rs : List (List V)} (h : ∀ i ∈ ids, i < n) : ∀ id q, hget (rowsH ty ids rs) id = some q → id < n := by
  intro id q hq
  obtain ⟨k, h1, _, h3, _⟩ := rows_inv hq
  rw [← h3]; exact h _ (getD_mem' h1)
def addPre (p : Nat) (a b : List Nat) (k t : Nat) : List Nat := a.mapIdx fun x v => if x < t then (v + k * b.getD x 0 % p) % p else v
theorem addPre_len {p k t : Nat} {a b : List Nat} : (addPre p a b k t).length = a.length := by simp [addPre]
theorem addPre_get {p k t x : Nat} {a b : List Nat} (h : x < a.length) : (addPre p a b k t).getD x 0 = if x < t then (a.getD x 0 + k * b.getD x 0 % p) % p else a.getD x 0 := by
  unfold addPre
  rw [List.getD_eq_getElem?_getD, List.getElem?_mapIdx, List.getElem?_eq_getElem h, List.getD_eq_getElem?_getD (l := a), List.getElem?_eq_getElem h]; rfl
theorem addPre_zero {p k : Nat} {a b : List Nat} : addPre p a b k 0 = a := list_ext' addPre_len fun j hj => by
  rw [addPre_get (by rw [addPre_len] at hj; exact hj), if_neg (by omega)]
theorem addPre_set {p k t : Nat} {a b : List Nat} (h : t < a.length) : (addPre p a b k t).set t ((a.getD t 0 + k * b.getD t 0 % p) % p) = addPre p a b k (t + 1) := by
  refine list_ext' (by rw [List.length_set, addPre_len, addPre_len]) fun j hj => ?_
  rw [List.length_set, addPre_len] at hj
  rw [getD_set (by rw [addPre_len]; exact h), addPre_get hj, addPre_get hj]
  by_cases e : j = t
  · subst e; rw [if_pos rfl, if_pos (by omega)]
  · rw [if_neg e]
    by_cases g : j < t
    · rw [if_pos g, if_pos (by omega)]
    · rw [if_neg g, if_neg (by omega)]
theorem addPre_end {p k w : Nat} {a b : List Nat} (ha : a.length = w) (hb : b.length = w) : addPre p a b k w = addRw p a b k := by
  refine list_ext' (by rw [addPre_len, addRw]; simp [ha, hb]) fun j hj => ?_
  rw [addPre_len] at hj
  rw [addPre_get hj, if_pos (by omega), addRw_get hj (by omega)]
set_option maxHeartbeats 1000000 in
theorem addTo_s (p w i j k nx : Nat) (a b : List Nat) (hp : 0 < p) (hp2 : p ≤ 2147483648) (ha : Rw p w a) (hb : Rw p w b) (hk : k < p) (hij : i ≠ j) (hi : i < nx) (hj : j < nx) (hw : w ≤ 1000000) :
    Inl Try.prog 58 [.sc (.int .u64 p), .sl i 0 w 1 none, .sl j 0 w 1 none, .sc (.int .u64 k)] [(i, ⟨26, nv a, false⟩), (j, ⟨26, nv b, false⟩)] nx (.tu []) [(i, ⟨26, nv (addRw p a b k), false⟩), (j, ⟨26, nv b, false⟩)] nx := by
  have hla := nv_len a
  have hlb := nv_len b
  have la := ha.1
  have lb := hb.1
  refine Inl.run Try.func58 rfl Try.ntmps58 (by simp) (by simp (disch := omega) only [go_sem, Nat.reduceAdd]; rfl) fun B hB => ?_
  by_cases h0 : k = 0
  · have q1 : ((k : Int) == 0) = true := by rw [h0]; rfl
    have e : addRw p a b k = a := by rw [h0]; exact addRw_zero ha lb
    (repeat (first | (first | refine DO.nilC (by kernel_rfl) ?_ | refine DO.nil (by kernel_rfl) ?_) | (with_reducible first | apply oz1 | apply oz2 | apply oz3 | apply oz4 | apply oz5 | apply oz6 | apply oz7 | apply oz8 | apply oz9 | apply ozb | apply ozc | apply oze | apply ozf | apply ozg | apply ozh | apply ozi | apply ozj | apply ozk | refine ozd (by decide) ?_) | ((first | apply SO.call | apply DO.call); (iterate 3 (focus (simp (disch := omega) only [go_sem, ↓reduceIte, Nat.reduceEqDiff, Nat.reduceLT, Nat.reduceLeDiff, Nat.reduceAdd, Nat.reduceMul, Nat.reduceSub, reduceCtorEq, Nat.reduceBEq, Int.reduceToNat, Int.reducePow, if_pos, if_neg, q1] <;> rfl))); (first | apply SCall.ofX | apply DCall.ofX); (focus (first | assumption)); (focus (simp (disch := omega) only [go_sem, ↓reduceIte, Nat.reduceEqDiff, Nat.reduceLT, Nat.reduceLeDiff, Nat.reduceAdd, Nat.reduceMul, Nat.reduceSub, reduceCtorEq, Nat.reduceBEq, Int.reduceToNat, Int.reducePow, if_pos, if_neg, q1] <;> rfl))) | ((with_reducible first | apply SC.condB | apply SC.region | apply SO.run | apply DO.run); (focus (simp (disch := omega) only [go_sem, ↓reduceIte, Nat.reduceEqDiff, reduceCtorEq, q1] <;> rfl)); (first | refine pickT ?_ | refine pickF ?_ | fail_if_success with_reducible refine pickA ?_)) | ((with_reducible refine SC.draw Tab.mixed ?_ ?_); (focus (first | rfl | simp (disch := omega) only [go_sem, ↓reduceIte, Nat.reduceEqDiff, Nat.reduceLT, Nat.reduceLeDiff, Nat.reduceAdd, Nat.reduceMul, Nat.reduceSub, reduceCtorEq, Nat.reduceBEq, Int.reduceToNat, Int.reducePow, if_pos, if_neg, q1]))) | (with_reducible apply SC.ops)))
    refine retI_ret (rs := []) Try.results58 rfl ?_
    rw [e]; exact Le.refl _ _
  · have q1 : ((k : Int) == 0) = false := by rw [beq_eq_false_iff_ne]; omega
    (repeat (first | (first | refine DO.nilC (by kernel_rfl) ?_ | refine DO.nil (by kernel_rfl) ?_) | (with_reducible first | apply oz1 | apply oz2 | apply oz3 | apply oz4 | apply oz5 | apply oz6 | apply oz7 | apply oz8 | apply oz9 | apply ozb | apply ozc | apply oze | apply ozf | apply ozg | apply ozh | apply ozi | apply ozj | apply ozk | refine ozd (by decide) ?_) | ((first | apply SO.call | apply DO.call); (iterate 3 (focus (simp (disch := omega) only [go_sem, ↓reduceIte, Nat.reduceEqDiff, Nat.reduceLT, Nat.reduceLeDiff, Nat.reduceAdd, Nat.reduceMul, Nat.reduceSub, reduceCtorEq, Nat.reduceBEq, Int.reduceToNat, Int.reducePow, if_pos, if_neg, q1] <;> rfl))); (first | apply SCall.ofX | apply DCall.ofX); (focus (first | assumption)); (focus (simp (disch := omega) only [go_sem, ↓reduceIte, Nat.reduceEqDiff, Nat.reduceLT, Nat.reduceLeDiff, Nat.reduceAdd, Nat.reduceMul, Nat.reduceSub, reduceCtorEq, Nat.reduceBEq, Int.reduceToNat, Int.reducePow, if_pos, if_neg, q1] <;> rfl))) | ((with_reducible first | apply SC.condB | apply SC.region | apply SO.run | apply DO.run); (focus (simp (disch := omega) only [go_sem, ↓reduceIte, Nat.reduceEqDiff, reduceCtorEq, q1] <;> rfl)); (first | refine pickT ?_ | refine pickF ?_ | fail_if_success with_reducible refine pickA ?_)) | ((with_reducible refine SC.draw Tab.mixed ?_ ?_); (focus (first | rfl | simp (disch := omega) only [go_sem, ↓reduceIte, Nat.reduceEqDiff, Nat.reduceLT, Nat.reduceLeDiff, Nat.reduceAdd, Nat.reduceMul, Nat.reduceSub, reduceCtorEq, Nat.reduceBEq, Int.reduceToNat, Int.reducePow, if_pos, if_neg, q1]))) | (with_reducible apply SC.ops)))
    refine SC.loop (fun t : Nat => ⟨[(0, .sc (.int .u64 p)), (1, .sl i 0 w 1 none), (3, .sc (.int .u64 k)), (12, .sl j 0 w 1 none), (13, .sc (.int .i64 w)), (14, .sc (.int .i64 t))], [(i, ⟨26, nv (addPre p a b k t), false⟩), (j, ⟨26, nv b, false⟩)], nx, 33⟩) (fun t => t ≤ w) (fun t => w - t) 0 ?_ ?_ ?_
    · rw [addPre_zero]
      (refine Le.slots ?_ ?_ ?_ <;> (repeat' (first | (exact fun _ _ h => h) | exact Nat.le_refl _ | exact leSl_nil | refine leSl_cons (by simp (disch := omega) only [go_sem, ↓reduceIte, Nat.reduceEqDiff, reduceCtorEq] <;> rfl) ?_ ?_ | exact VLe.junk _ | exact VLe.refl rfl | exact VLe.nil_sl _ _ _ | exact VLe.int (by first | rfl | omega | (dsimp only; omega)) | exact VLe.bool rfl | exact VLe.sl rfl (by first | rfl | omega) | exact VLe.cap rfl (by first | rfl | omega) | exact VLe.im rfl rfl | omega | (refine fun id k h => ?_; simp only [hget] at h ⊢; (repeat' (split at h)) <;> first | (cases h; done) | (simp (disch := omega) only [if_pos, if_neg]; exact h)))))
    · exact Nat.zero_le _
    · intro t ht K hK
      by_cases hc : t < w
      · have q2 := decide_eq_true (p := (t : Int) < (w : Int)) (by omega)
        have hl := addPre_len (p := p) (k := k) (t := t) (a := a) (b := b)
        have hlp := nv_len (addPre p a b k t)
        have g1 := nv_get (r := b) (j := t) (by omega)
        have g2 := nv_get (r := addPre p a b k t) (j := t) (by omega)
        rw [addPre_get (by omega), if_neg (by omega)] at g2
        have bl := hb.lt hc
        have al := ha.lt hc
        have hset := addPre_set (p := p) (k := k) (b := b) (a := a) (t := t) (by omega)
        have c1 := mMul_s p k (b.getD t 0) hp hp2 hk bl
        have hm := Nat.mod_lt (k * b.getD t 0) hp
        have c2 := mAdd_s p (a.getD t 0) (k * b.getD t 0 % p) hp hp2 al hm
        have hsv := nv_set (addPre p a b k t) t ((a.getD t 0 + k * b.getD t 0 % p) % p)
        rw [hset] at hsv
        generalize hA : addPre p a b k t = A at *
        generalize a.getD t 0 = x at *
        generalize b.getD t 0 = y at *
        generalize k * y % p = z at *
        generalize (x + z) % p = u at *
        (repeat (first | (first | refine DO.nilC (by kernel_rfl) ?_ | refine DO.nil (by kernel_rfl) ?_) | (with_reducible first | apply oz1 | apply oz2 | apply oz3 | apply oz4 | apply oz5 | apply oz6 | apply oz7 | apply oz8 | apply oz9 | apply ozb | apply ozc | apply oze | apply ozf | apply ozg | apply ozh | apply ozi | apply ozj | apply ozk | refine ozd (by decide) ?_) | ((first | apply SO.call | apply DO.call); (iterate 3 (focus (simp (disch := omega) only [go_sem, ↓reduceIte, Nat.reduceEqDiff] <;> rfl))); (first | apply SCall.ofX | apply DCall.ofX); (focus (first | assumption)); (focus (simp (disch := omega) only [go_sem] <;> rfl))) | ((with_reducible first | apply SC.condB | apply SC.region | apply SO.run | apply DO.run); (focus (simp (disch := omega) only [go_sem, ↓reduceIte, Nat.reduceEqDiff, Nat.reduceLT, reduceCtorEq, if_pos, if_neg, q2, g1, g2, hlp, hl, la, hsv] <;> rfl)); (first | refine pickT ?_ | refine pickF ?_ | fail_if_success with_reducible refine pickA ?_)) | ((with_reducible refine SC.draw Tab.mixed ?_ ?_); (focus (first | rfl | simp (disch := omega) only [go_sem, if_pos]))) | (with_reducible apply SC.ops)))
        refine hK _ (t + 1) ?_ (by omega) (by omega)
        (refine Le.slots ?_ ?_ ?_ <;> (repeat' (first | (exact fun _ _ h => h) | exact Nat.le_refl _ | exact leSl_nil | refine leSl_cons (by simp (disch := omega) only [go_sem, ↓reduceIte, Nat.reduceEqDiff, reduceCtorEq] <;> rfl) ?_ ?_ | exact VLe.junk _ | exact VLe.refl rfl | exact VLe.nil_sl _ _ _ | exact VLe.int (by first | rfl | omega | (dsimp only; omega)) | exact VLe.bool rfl | exact VLe.sl rfl (by first | rfl | omega) | exact VLe.cap rfl (by first | rfl | omega) | exact VLe.im rfl rfl | omega | (refine fun id k h => ?_; simp only [hget] at h ⊢; (repeat' (split at h)) <;> first | (cases h; done) | (simp (disch := omega) only [if_pos, if_neg]; exact h)))))
      · have q2 := decide_eq_false (p := (t : Int) < (w : Int)) (by omega)
        have e : addPre p a b k t = addRw p a b k := by rw [show t = w by omega]; exact addPre_end la lb
        rw [e]
        (repeat (first | (first | refine DO.nilC (by kernel_rfl) ?_ | refine DO.nil (by kernel_rfl) ?_) | (with_reducible first | apply oz1 | apply oz2 | apply oz3 | apply oz4 | apply oz5 | apply oz6 | apply oz7 | apply oz8 | apply oz9 | apply ozb | apply ozc | apply oze | apply ozf | apply ozg | apply ozh | apply ozi | apply ozj | apply ozk | refine ozd (by decide) ?_) | ((first | apply SO.call | apply DO.call); (iterate 3 (focus (simp (disch := omega) only [go_sem, ↓reduceIte, Nat.reduceEqDiff, Nat.reduceLT, Nat.reduceLeDiff, Nat.reduceAdd, Nat.reduceMul, Nat.reduceSub, reduceCtorEq, Nat.reduceBEq, Int.reduceToNat, Int.reducePow, if_pos, if_neg, q2] <;> rfl))); (first | apply SCall.ofX | apply DCall.ofX); (focus (first | assumption)); (focus (simp (disch := omega) only [go_sem, ↓reduceIte, Nat.reduceEqDiff, Nat.reduceLT, Nat.reduceLeDiff, Nat.reduceAdd, Nat.reduceMul, Nat.reduceSub, reduceCtorEq, Nat.reduceBEq, Int.reduceToNat, Int.reducePow, if_pos, if_neg, q2] <;> rfl))) | ((with_reducible first | apply SC.condB | apply SC.region | apply SO.run | apply DO.run); (focus (simp (disch := omega) only [go_sem, ↓reduceIte, Nat.reduceEqDiff, reduceCtorEq, q2] <;> rfl)); (first | refine pickT ?_ | refine pickF ?_ | fail_if_success with_reducible refine pickA ?_)) | ((with_reducible refine SC.draw Tab.mixed ?_ ?_); (focus (first | rfl | simp (disch := omega) only [go_sem, ↓reduceIte, Nat.reduceEqDiff, Nat.reduceLT, Nat.reduceLeDiff, Nat.reduceAdd, Nat.reduceMul, Nat.reduceSub, reduceCtorEq, Nat.reduceBEq, Int.reduceToNat, Int.reducePow, if_pos, if_neg, q2]))) | (with_reducible apply SC.ops)))
        refine retI_normal (rs := []) Try.results58 rfl ?_
        exact Le.refl _ _
end Go.Proofs.Ytpbomhmflllemaa

/- Contracts: rows copied, rows with the identity beside them. -/
namespace Go.Proofs.Ytpbomhmflllemaa
open Go.RowKit
structure RowsOk (o : Nat) (ids : List Nat) (n lo hi : Nat) : Prop where
  len : ids.length = n
  nod : ids.Nodup
  lt : ∀ i ∈ ids, lo ≤ i ∧ i < hi
  o1 : lo ≤ o ∧ o < hi
  o2 : o ∉ ids
def RowsQ (w : Nat) (M : List (List Nat)) (nx : Nat) (x : V) (hp' : List (Nat × Blk)) (nx' : Nat) : Prop :=
  ∃ o ids, RowsOk o ids M.length nx nx' ∧ x = .sl o 0 M.length 1 none ∧ hp' = (o, ⟨44, slR 1 w ids, false⟩) :: rowsH 26 ids (nR M)
theorem slR_app (z m : Nat) (a b : List Nat) : slR z m a ++ slR z m b = slR z m (a ++ b) := by simp [slR]
theorem take_snoc {α : Type} {l : List α} {i : Nat} {d : α} (h : i < l.length) : l.take (i + 1) = l.take i ++ [l.getD i d] := by
  rw [List.take_add_one, getD_get' (d := d) h]; rfl
theorem Le.rowInP {B : Base} {sl sl' : List (Nat × V)} {pre : List (Nat × Blk)} {o id m nx nt : Nat} {cap : Option Nat} {ty tr : TypeId} {ids : List Nat} {rs : List (List V)} {row rest : List V} (hpre : ∀ i k, hget pre i = some k → i ≠ id ∧ k.cs.all clo = true) (hB : ∃ m, B.Old m ∧ m ≤ nx) (hid : id < nx) (hi : ∀ i ∈ ids, i < nx) (hoi : id ≠ o) (hin : id ∉ ids) (hl : ids.length = rs.length) (hc : row.all clo = true) (hrc : ∀ r ∈ rs, r.all clo = true)
    (hrest : ∀ x ∈ rest, x = .sc (.slice none 0 0)) (h1 : mapSl (fun i => i) (fun i => i < nx) sl sl') :
    Le B ⟨sl, (id, ⟨tr, row, false⟩) :: (pre ++ (o, ⟨ty, slR 1 m ids ++ V.sl id 0 m 1 cap :: rest, false⟩) :: rowsH tr ids rs), nx, nt⟩ ⟨sl', pre ++ (o, ⟨ty, slR 1 m (ids ++ [id]) ++ rest, false⟩) :: rowsH tr (ids ++ [id]) (rs ++ [row]), nx, nt⟩ := by
  obtain ⟨m0, hB, hm0⟩ := hB
  refine Le.map (fun i => i) (fun i => i < nx) hB (fun i hi => ⟨by omega, rfl⟩) (fun i h => h) (fun i j _ _ e => e) h1 (fun i k' hk' hlt => ?_)
  simp only [hget, hget_app] at hk' ⊢
  cases hp : hget pre i with
  | some q =>
    rw [hp] at hk'
    cases hk'
    obtain ⟨p1, p2⟩ := hpre i _ hp
    rw [if_neg p1]
    exact BMap.clo p2
  | none =>
  rw [hp] at hk'
  simp only at hk' ⊢
  by_cases e : i = o
  · subst e
    rw [if_pos rfl] at hk'
    rw [if_neg (fun e => hoi e.symm), if_pos rfl]
    cases hk'
    refine ⟨_, rfl, rfl, rfl, fun j y hy => ?_⟩
    have hy' : (slR 1 m (ids ++ [id]) ++ rest)[j]? = some y := hy
    show ∃ x, (slR 1 m ids ++ V.sl id 0 m 1 cap :: rest)[j]? = some x ∧ _
    rw [← slR_app] at hy'
    have hlen := slR_len 1 m ids
    rcases Nat.lt_trichotomy j ids.length with g | g | g
    · rw [List.append_assoc, List.getElem?_append_left (by omega), slR_get g] at hy'
      rw [List.getElem?_append_left (by omega), slR_get g]
      cases hy'
      exact ⟨_, rfl, VMap.sl rfl (hi _ (getD_mem' g))⟩
    · rw [List.append_assoc, List.getElem?_append_right (by omega), hlen, g, Nat.sub_self] at hy'
      rw [List.getElem?_append_right (by omega), hlen, g, Nat.sub_self]
      have : (slR 1 m [id] ++ rest)[0]? = some (V.sl id 0 m 1 none) := rfl
      rw [this] at hy'
      cases hy'
      exact ⟨_, rfl, VMap.cap rfl hid⟩
    · rw [List.append_assoc, List.getElem?_append_right (by omega), hlen] at hy'
      rw [List.getElem?_append_right (by omega), hlen]
      obtain ⟨q, hq⟩ : ∃ q, j - ids.length = q + 1 := ⟨j - ids.length - 1, by omega⟩
      rw [hq] at hy' ⊢
      have e1 : (slR 1 m [id] ++ rest)[q + 1]? = rest[q]? := rfl
      rw [e1] at hy'
      rw [List.getElem?_cons_succ]
      refine ⟨y, hy', ?_⟩
      rw [hrest y (List.mem_of_getElem? hy')]
      exact VMap.nil
  · rw [if_neg e] at hk'
    have := rows_snoc hl hin i k' hk'
    simp only [hget] at this
    by_cases e2 : i = id
    · rw [if_pos e2] at this ⊢
      cases this
      exact BMap.clo hc
    · rw [if_neg e2] at this
      rw [if_neg e2, if_neg e, this]
      obtain ⟨q, q1, q2, q3, rfl⟩ := rows_inv this
      exact BMap.clo (hrc _ (by rw [List.getD_eq_getElem?_getD, List.getElem?_eq_getElem q2]; exact List.getElem_mem q2))
theorem Le.rowIn {B : Base} {sl sl' : List (Nat × V)} {o id m nx nt : Nat} {cap : Option Nat} {ty tr : TypeId} {ids : List Nat} {rs : List (List V)} {row rest : List V} (hB : ∃ m, B.Old m ∧ m ≤ nx) (hid : id < nx) (hi : ∀ i ∈ ids, i < nx) (hoi : id ≠ o) (hin : id ∉ ids) (hl : ids.length = rs.length) (hc : row.all clo = true) (hrc : ∀ r ∈ rs, r.all clo = true)
    (hrest : ∀ x ∈ rest, x = .sc (.slice none 0 0)) (h1 : mapSl (fun i => i) (fun i => i < nx) sl sl') :
    Le B ⟨sl, (id, ⟨tr, row, false⟩) :: (o, ⟨ty, slR 1 m ids ++ V.sl id 0 m 1 cap :: rest, false⟩) :: rowsH tr ids rs, nx, nt⟩ ⟨sl', (o, ⟨ty, slR 1 m (ids ++ [id]) ++ rest, false⟩) :: rowsH tr (ids ++ [id]) (rs ++ [row]), nx, nt⟩ :=
  Le.rowInP (pre := []) (fun i k h => by cases h) hB hid hi hoi hin hl hc hrc hrest h1
theorem nR_clo (M : List (List Nat)) : ∀ r ∈ nR M, r.all clo = true := by
  intro r hr; obtain ⟨q, _, rfl⟩ := List.mem_map.1 hr; exact nv_clo q
set_option maxHeartbeats 1000000 in
theorem copied_s {p n w : Nat} {M : List (List Nat)} (hM : MV p n w M) (nx : Nat) (hn : n ≤ 1000000) (hw : w ≤ 1000000) : InlQ Try.prog 49 [mv w M] [] nx (RowsQ w M nx) := by
  have hl := hM.1
  have gl := imR_len w M
  unfold mv
  refine InlQ.run Try.func49 rfl Try.ntmps49 (by simp) (by simp (disch := omega) only [go_sem]; rfl) fun B hB => ?_
  (repeat (first | (first | refine DO.nilC (by kernel_rfl) ?_ | refine DO.nil (by kernel_rfl) ?_) | (with_reducible first | apply oz1 | apply oz2 | apply oz3 | apply oz4 | apply oz5 | apply oz6 | apply oz7 | apply oz8 | apply oz9 | apply ozb | apply ozc | apply oze | apply ozf | apply ozg | apply ozh | apply ozi | apply ozj | apply ozk | refine ozd (by decide) ?_) | ((first | apply SO.call | apply DO.call); (iterate 3 (focus (simp (disch := omega) only [go_sem, ↓reduceIte, Nat.reduceEqDiff, Nat.reduceLT, Nat.reduceLeDiff, Nat.reduceAdd, Nat.reduceMul, Nat.reduceSub, reduceCtorEq, Nat.reduceBEq, Int.reduceToNat, Int.reducePow, if_pos, if_neg] <;> rfl))); (first | apply SCall.ofX | apply DCall.ofX); (focus (first | assumption)); (focus (simp (disch := omega) only [go_sem, ↓reduceIte, Nat.reduceEqDiff, Nat.reduceLT, Nat.reduceLeDiff, Nat.reduceAdd, Nat.reduceMul, Nat.reduceSub, reduceCtorEq, Nat.reduceBEq, Int.reduceToNat, Int.reducePow, if_pos, if_neg] <;> rfl))) | ((with_reducible first | apply SC.condB | apply SC.region | apply SO.run | apply DO.run); (focus (simp (disch := omega) only [go_sem, ↓reduceIte, reduceCtorEq, if_pos] <;> rfl)); (first | refine pickT ?_ | refine pickF ?_ | fail_if_success with_reducible refine pickA ?_)) | ((with_reducible refine SC.draw Tab.mixed ?_ ?_); (focus (first | rfl | simp (disch := omega) only [go_sem, ↓reduceIte, Nat.reduceEqDiff, Nat.reduceLT, Nat.reduceLeDiff, Nat.reduceAdd, Nat.reduceMul, Nat.reduceSub, reduceCtorEq, Nat.reduceBEq, Int.reduceToNat, Int.reducePow, if_pos, if_neg]))) | (with_reducible apply SC.ops)))
  refine SC.loop (fun x : Nat × List Nat => ⟨[(3, .sl nx 0 M.length 1 (some M.length)), (9, .im (imR w (nR M)) M.length), (10, .sc (.int .i64 M.length)), (11, .sc (.int .i64 x.1))], (nx, ⟨44, slR 1 w x.2 ++ List.replicate (n - x.1) (.sc (.slice none 0 0)), false⟩) :: rowsH 26 x.2 (nR (M.take x.1)), nx + 1 + x.1, 23⟩)
    (fun x => x.1 ≤ n ∧ RowsOk nx x.2 x.1 nx (nx + 1 + x.1)) (fun x => n - x.1) (0, []) ?_ ?_ ?_
  · rw [← hl]
    (refine Le.slots ?_ ?_ ?_ <;> (repeat' (first | (exact fun _ _ h => h) | exact Nat.le_refl _ | exact leSl_nil | refine leSl_cons (by simp (disch := omega) only [go_sem, ↓reduceIte, Nat.reduceEqDiff] <;> rfl) ?_ ?_ | exact VLe.junk _ | exact VLe.refl rfl | exact VLe.nil_sl _ _ _ | exact VLe.int (by first | rfl | omega | (dsimp only; omega)) | exact VLe.bool rfl | exact VLe.sl rfl (by first | rfl | omega) | exact VLe.cap rfl (by first | rfl | omega) | exact VLe.im rfl rfl | omega | (refine fun id k h => ?_; simp only [hget] at h ⊢; (repeat' (split at h)) <;> first | (cases h; done) | (simp (disch := omega) only [if_pos, if_neg]; exact h)))))
  · exact ⟨Nat.zero_le _, ⟨rfl, List.nodup_nil, by simp, by omega, by simp⟩⟩
  · rintro ⟨i, ids⟩ ⟨hi, hR⟩ K hK
    simp only at hi hR ⊢
    have hlt : ∀ j ∈ ids, j < nx + 1 + i := fun j hj => (hR.lt j hj).2
    by_cases hc : i < n
    · have q1 := decide_eq_true (p := (i : Int) < (M.length : Int)) (by omega)
      have g1 := imR_get (w := w) (M := M) (i := i) (by omega)
      have hr := hM.get hc
      have c1 := (clone_s (M.getD i []) w (nx + 1 + i) hr.1 hw).toQ
      have hts := take_snoc (d := []) (l := M) (i := i) (by omega)
      have hcl := nv_clo (M.getD i [])
      have hcells : (slR 1 w ids ++ List.replicate (n - i) (V.sc (.slice none 0 0))).length = n := by simp [slR_len, hR.len]; omega
      have hset : (slR 1 w ids ++ List.replicate (n - i) (V.sc (.slice none 0 0))).set i (V.sl (nx + 1 + i) 0 w 1 none) = slR 1 w ids ++ V.sl (nx + 1 + i) 0 w 1 none :: List.replicate (n - (i + 1)) (V.sc (.slice none 0 0)) := by
        rw [List.set_append_right _ _ (by rw [slR_len, hR.len]; exact Nat.le_refl _), slR_len, hR.len, Nat.sub_self, show n - i = (n - (i + 1)) + 1 by omega, List.replicate_succ, List.set_cons_zero]
      generalize M.getD i [] = r at *
      generalize hC : slR 1 w ids ++ List.replicate (n - i) (V.sc (.slice none 0 0)) = C at *
      (repeat (first | (first | refine DO.nilC (by kernel_rfl) ?_ | refine DO.nil (by kernel_rfl) ?_) | (with_reducible first | apply oz1 | apply oz2 | apply oz3 | apply oz4 | apply oz5 | apply oz6 | apply oz7 | apply oz8 | apply oz9 | apply ozb | apply ozc | apply oze | apply ozf | apply ozg | apply ozh | apply ozi | apply ozj | apply ozk | refine ozd (by decide) ?_) | ((first | apply SO.call | apply DO.call); (iterate 3 (focus (simp (disch := omega) only [go_sem, ↓reduceIte] <;> rfl))); (first | apply SCall.ofX | apply DCall.ofX); (focus (first | assumption)); (focus (simp (disch := omega) only [go_sem, ↓reduceIte, Nat.reduceEqDiff, Nat.reduceLT, Nat.reduceLeDiff, Nat.reduceAdd, Nat.reduceMul, Nat.reduceSub, reduceCtorEq, Nat.reduceBEq, Int.reduceToNat, Int.reducePow, if_pos, if_neg, q1, gl, g1, List.getElem?_drop] <;> rfl))) | ((with_reducible first | apply SC.condB | apply SC.region | apply SO.run | apply DO.run); (focus (simp (disch := omega) only [go_sem, ↓reduceIte, Nat.reduceEqDiff, if_pos, q1, gl, g1, List.getElem?_drop] <;> rfl)); (first | refine pickT ?_ | refine pickF ?_ | fail_if_success with_reducible refine pickA ?_)) | ((with_reducible refine SC.draw Tab.mixed ?_ ?_); (focus (first | rfl | simp (disch := omega) only [go_sem, ↓reduceIte, Nat.reduceEqDiff, Nat.reduceLT, Nat.reduceLeDiff, Nat.reduceAdd, Nat.reduceMul, Nat.reduceSub, reduceCtorEq, Nat.reduceBEq, Int.reduceToNat, Int.reducePow, if_pos, if_neg, q1, gl, g1, List.getElem?_drop]))) | (with_reducible apply SC.ops)))
      refine SO.inlQ (by simp (disch := omega) only [go_sem] <;> rfl) Tab.go77 (by simp (disch := omega) only [go_sem, ↓reduceIte] <;> rfl) (by simp (disch := omega) only [go_sem] <;> rfl) (SInlQ.new c1 ?_ ?_ ?_)
      · exact klc (by omega) (klr hlt)
      · rintro x hp' nx' ⟨rfl, rfl, rfl⟩
        exact ⟨.sl (Nat.le_refl _), ⟨fun y hy => Only.clo (List.all_eq_true.1 hcl y hy), trivial⟩⟩
      · rintro x hp' nx' ⟨rfl, rfl, rfl⟩
        (repeat (first | (first | refine DO.nilC (by kernel_rfl) ?_ | refine DO.nil (by kernel_rfl) ?_) | (with_reducible first | apply oz1 | apply oz2 | apply oz3 | apply oz4 | apply oz5 | apply oz6 | apply oz7 | apply oz8 | apply oz9 | apply ozb | apply ozc | apply oze | apply ozf | apply ozg | apply ozh | apply ozi | apply ozj | apply ozk | refine ozd (by decide) ?_) | ((first | apply SO.call | apply DO.call); (iterate 3 (focus (simp (disch := omega) only [go_sem, ↓reduceIte, Nat.reduceEqDiff, Nat.reduceLT, Nat.reduceLeDiff, Nat.reduceAdd, Nat.reduceMul, Nat.reduceSub, reduceCtorEq, Nat.reduceBEq, Int.reduceToNat, Int.reducePow, if_pos, if_neg, hcells, hset] <;> rfl))); (first | apply SCall.ofX | apply DCall.ofX); (focus (first | assumption)); (focus (simp (disch := omega) only [go_sem, ↓reduceIte, Nat.reduceEqDiff, Nat.reduceLT, Nat.reduceLeDiff, Nat.reduceAdd, Nat.reduceMul, Nat.reduceSub, reduceCtorEq, Nat.reduceBEq, Int.reduceToNat, Int.reducePow, if_pos, if_neg, hcells, hset] <;> rfl))) | ((with_reducible first | apply SC.condB | apply SC.region | apply SO.run | apply DO.run); (focus (simp (disch := omega) only [go_sem, ↓reduceIte, Nat.reduceEqDiff, if_pos, if_neg, hcells, hset] <;> rfl)); (first | refine pickT ?_ | refine pickF ?_ | fail_if_success with_reducible refine pickA ?_)) | ((with_reducible refine SC.draw Tab.mixed ?_ ?_); (focus (first | rfl | simp (disch := omega) only [go_sem, ↓reduceIte, Nat.reduceEqDiff, Nat.reduceLT, Nat.reduceLeDiff, Nat.reduceAdd, Nat.reduceMul, Nat.reduceSub, reduceCtorEq, Nat.reduceBEq, Int.reduceToNat, Int.reducePow, if_pos, if_neg, hcells, hset]))) | (with_reducible apply SC.ops)))
        refine hK _ (i + 1, ids ++ [nx + 1 + i]) ?_ ⟨by simp only; omega, ?_⟩ (by simp only; omega)
        · rw [hts]
          have e : nR (M.take i ++ [r]) = nR (M.take i) ++ [nv r] := by simp [nR]
          simp only [e]
          refine Le.rowIn ⟨nx, hB, by omega⟩ (by omega) (fun j hj => by have := hlt j hj; omega) (by omega) (fun h => by have := hlt _ h; omega) ?_ hcl (nR_clo _) (fun x hx => List.eq_of_mem_replicate hx) ?_
          · rw [nR_len, hR.len, List.length_take]; omega
          · (repeat' (first | exact trivial | refine mapSl_cons (by simp (disch := omega) only [go_sem, ↓reduceIte, Nat.reduceEqDiff] <;> rfl) ?_ ?_ | exact VMap.junk _ | exact VMap.sc _ | exact VMap.clo rfl | exact VMap.sl rfl (by omega) | exact VMap.cap rfl (by omega) | exact VMap.pt rfl (by omega) | exact VMap.nil_sl _ _ _ | exact VMap.int (by first | rfl | omega | (dsimp only; omega))))
        · refine ⟨by simp [hR.len], ?_, fun j hj => ?_, by omega, ?_⟩
          · rw [List.nodup_append]
            exact ⟨hR.nod, by simp, fun a ha b hb => by simp at hb; subst hb; have := hlt a ha; omega⟩
          · rcases List.mem_append.1 hj with g | g
            · have := hR.lt j g; omega
            · simp at g; omega
          · intro h
            rcases List.mem_append.1 h with g | g
            · exact hR.o2 g
            · simp at g; omega
    · have q1 := decide_eq_false (p := (i : Int) < (M.length : Int)) (by omega)
      have hin : i = n := by omega
      subst hin
      (repeat (first | (first | refine DO.nilC (by kernel_rfl) ?_ | refine DO.nil (by kernel_rfl) ?_) | (with_reducible first | apply oz1 | apply oz2 | apply oz3 | apply oz4 | apply oz5 | apply oz6 | apply oz7 | apply oz8 | apply oz9 | apply ozb | apply ozc | apply oze | apply ozf | apply ozg | apply ozh | apply ozi | apply ozj | apply ozk | refine ozd (by decide) ?_) | ((first | apply SO.call | apply DO.call); (iterate 3 (focus (simp (disch := omega) only [go_sem, ↓reduceIte, Nat.reduceEqDiff, Nat.reduceLT, Nat.reduceLeDiff, Nat.reduceAdd, Nat.reduceMul, Nat.reduceSub, reduceCtorEq, Nat.reduceBEq, Int.reduceToNat, Int.reducePow, if_pos, if_neg, q1] <;> rfl))); (first | apply SCall.ofX | apply DCall.ofX); (focus (first | assumption)); (focus (simp (disch := omega) only [go_sem, ↓reduceIte, Nat.reduceEqDiff, Nat.reduceLT, Nat.reduceLeDiff, Nat.reduceAdd, Nat.reduceMul, Nat.reduceSub, reduceCtorEq, Nat.reduceBEq, Int.reduceToNat, Int.reducePow, if_pos, if_neg, q1] <;> rfl))) | ((with_reducible first | apply SC.condB | apply SC.region | apply SO.run | apply DO.run); (focus (simp (disch := omega) only [go_sem, ↓reduceIte, Nat.reduceEqDiff, Nat.reduceLT, q1] <;> rfl)); (first | refine pickT ?_ | refine pickF ?_ | fail_if_success with_reducible refine pickA ?_)) | ((with_reducible refine SC.draw Tab.mixed ?_ ?_); (focus (first | rfl | simp (disch := omega) only [go_sem, ↓reduceIte, Nat.reduceEqDiff, Nat.reduceLT, Nat.reduceLeDiff, Nat.reduceAdd, Nat.reduceMul, Nat.reduceSub, reduceCtorEq, Nat.reduceBEq, Int.reduceToNat, Int.reducePow, if_pos, if_neg, q1]))) | (with_reducible apply SC.ops)))
      refine retIQ_ret (.sl nx 0 M.length 1 none) ((nx, ⟨44, slR 1 w ids, false⟩) :: rowsH 26 ids (nR M)) (nx + 1 + i) Try.results49 (by simp (disch := omega) only [go_sem, ↓reduceIte]; rfl) ⟨nx, ids, by rw [hl]; exact hR, rfl, rfl⟩ ?_
      rw [Nat.sub_self, List.take_of_length_le (by omega)]
      simp only [List.replicate_zero, List.append_nil]
      exact Le.slots (leSl_cons (by simp (disch := omega) only [go_sem, ↓reduceIte]; rfl) (VLe.cap rfl rfl) leSl_nil) (fun _ _ h => h) (by omega)
theorem RowsOk.snoc {o i lo : Nat} {ids : List Nat} {hi : Nat} (h : RowsOk o ids i lo hi) : RowsOk o (ids ++ [hi]) (i + 1) lo (hi + 1) := by
  refine ⟨by simp [h.len], ?_, fun j hj => ?_, by have := h.o1; omega, ?_⟩
  · rw [List.nodup_append]
    exact ⟨h.nod, by simp, fun a ha b hb => by simp at hb; subst hb; have := (h.lt a ha).2; omega⟩
  · have := h.o1
    rcases List.mem_append.1 hj with g | g
    · have := h.lt j g; omega
    · simp at g; omega
  · intro hm
    have := h.o1
    rcases List.mem_append.1 hm with g | g
    · exact h.o2 g
    · simp at g; omega
theorem widenL_take {M : List (List Nat)} {n i : Nat} (h : i < M.length) : (widenL M n).take (i + 1) = (widenL M n).take i ++ [M.getD i [] ++ unitL n i] := by
  rw [take_snoc (d := []) (by simpa [widenL] using h), widenL_get h]
theorem setAll_all (cs xs : List V) : ∀ off, off + xs.length ≤ cs.length → setAll cs off xs = cs.take off ++ xs ++ cs.drop (off + xs.length) := by
  induction xs generalizing cs with
  | nil => intro off h; simp [setAll]
  | cons x r ih =>
    intro off h
    simp only [List.length_cons] at h
    rw [setAll, ih (cs.set off x) (off + 1) (by rw [List.length_set]; omega)]
    have e1 : (cs.set off x).take (off + 1) = cs.take off ++ [x] := by
      rw [List.take_set, List.take_add_one, List.set_append_right _ _ (by simp; omega)]
      have : off < cs.length := by omega
      simp [List.getElem?_eq_getElem this, Nat.min_eq_left (by omega : off ≤ cs.length)]
    have e2 : (cs.set off x).drop (off + 1 + r.length) = cs.drop (off + (r.length + 1)) := by
      rw [List.drop_set, if_pos (by omega)]
      congr 1; omega
    rw [e1, e2]; simp
theorem hget_swap2 {i j : Nat} {a b : Blk} {r : List (Nat × Blk)} (h : i ≠ j) (id : Nat) : hget ((i, a) :: (j, b) :: r) id = hget ((j, b) :: (i, a) :: r) id := by
  simp only [hget]
  by_cases e : id = i
  · subst e; rw [if_pos rfl, if_neg h, if_pos rfl]
  · rw [if_neg e, if_neg e]
set_option maxHeartbeats 2000000 in
theorem widened_s {p n w : Nat} {M : List (List Nat)} (hM : MV p n w M) (nx : Nat) (hn : n ≤ 1000000) (hw : w ≤ 1000000) : InlQ Try.prog 60 [md p w M] [] nx (RowsQ (w + n) (widenL M n) nx) := by
  have hl := hM.1
  subst hl
  have gl := imR_len w M
  have hwl : (widenL M M.length).length = M.length := by simp [widenL]
  unfold md mv
  refine InlQ.run Try.func60 rfl Try.ntmps60 (by simp) (by simp (disch := omega) only [go_sem]; rfl) fun B hB => ?_
  (repeat (first | (first | refine DO.nilC (by kernel_rfl) ?_ | refine DO.nil (by kernel_rfl) ?_) | (with_reducible first | apply oz1 | apply oz2 | apply oz3 | apply oz4 | apply oz5 | apply oz6 | apply oz7 | apply oz8 | apply oz9 | apply ozb | apply ozc | apply oze | apply ozf | apply ozg | apply ozh | apply ozi | apply ozj | apply ozk | refine ozd (by decide) ?_) | ((first | apply SO.call | apply DO.call); (iterate 3 (focus (simp (disch := omega) only [go_sem, ↓reduceIte, Nat.reduceEqDiff, Nat.reduceLT, Nat.reduceLeDiff, Nat.reduceAdd, Nat.reduceMul, Nat.reduceSub, reduceCtorEq, Nat.reduceBEq, Int.reduceToNat, Int.reducePow, if_pos, if_neg] <;> rfl))); (first | apply SCall.ofX | apply DCall.ofX); (focus (first | assumption)); (focus (simp (disch := omega) only [go_sem, ↓reduceIte, Nat.reduceEqDiff, Nat.reduceLT, Nat.reduceLeDiff, Nat.reduceAdd, Nat.reduceMul, Nat.reduceSub, reduceCtorEq, Nat.reduceBEq, Int.reduceToNat, Int.reducePow, if_pos, if_neg] <;> rfl))) | ((with_reducible first | apply SC.condB | apply SC.region | apply SO.run | apply DO.run); (focus (simp (disch := omega) only [go_sem, ↓reduceIte, Nat.reduceEqDiff, reduceCtorEq, if_pos, if_neg] <;> rfl)); (first | refine pickT ?_ | refine pickF ?_ | fail_if_success with_reducible refine pickA ?_)) | ((with_reducible refine SC.draw Tab.mixed ?_ ?_); (focus (first | rfl | simp (disch := omega) only [go_sem, ↓reduceIte, Nat.reduceEqDiff, Nat.reduceLT, Nat.reduceLeDiff, Nat.reduceAdd, Nat.reduceMul, Nat.reduceSub, reduceCtorEq, Nat.reduceBEq, Int.reduceToNat, Int.reducePow, if_pos, if_neg]))) | (with_reducible apply SC.ops)))
  refine SC.loop (fun x : Nat × List Nat => ⟨[(1, .pt nx 0), (3, .sl (nx + 1) 0 M.length 1 (some M.length)), (11, .im (imR w (nR M)) M.length), (12, .sc (.int .i64 M.length)), (13, .sc (.int .i64 x.1))], (nx, ⟨29, [.sc (.int .u64 p), .sc (.int .i64 w), .im (imR w (nR M)) M.length], false⟩) :: (nx + 1, ⟨44, slR 1 (w + M.length) x.2 ++ List.replicate (M.length - x.1) (.sc (.slice none 0 0)), false⟩) :: rowsH 26 x.2 (nR ((widenL M M.length).take x.1)), nx + 2 + x.1, 45⟩)
    (fun x => x.1 ≤ M.length ∧ RowsOk (nx + 1) x.2 x.1 (nx + 1) (nx + 2 + x.1)) (fun x => M.length - x.1) (0, []) ?_ ?_ ?_
  · refine Le.slots ?_ (fun id k h => ?_) (by omega)
    · repeat' (first | exact leSl_nil | refine leSl_cons (by simp (disch := omega) only [go_sem, ↓reduceIte, Nat.reduceEqDiff] <;> rfl) ?_ ?_ | exact VLe.refl rfl)
    · rw [hget_swap2 (by omega)]; exact h
  · exact ⟨Nat.zero_le _, ⟨rfl, List.nodup_nil, by simp, by omega, by simp⟩⟩
  · rintro ⟨i, ids⟩ ⟨hi, hR⟩ K hK
    simp only at hi hR ⊢
    have hlt : ∀ j ∈ ids, j < nx + 2 + i := fun j hj => (hR.lt j hj).2
    by_cases hc : i < M.length
    · have q1 := decide_eq_true (p := (i : Int) < (M.length : Int)) (by omega)
      have g1 := imR_get (w := w) (M := M) (i := i) (by omega)
      have hr := hM.get hc
      have hts := widenL_take (M := M) (n := M.length) (i := i) (by omega)
      have hcl := nv_clo (M.getD i [] ++ unitL M.length i)
      have hcells : ∀ x, (slR 1 (w + M.length) ids ++ x :: List.replicate (M.length - (i + 1)) (V.sc (.slice none 0 0))).length = M.length := by intro x; simp [slR_len, hR.len]; omega
      have hcells0 : (slR 1 (w + M.length) ids ++ List.replicate (M.length - i) (V.sc (.slice none 0 0))).length = M.length := by simp [slR_len, hR.len]; omega
      have hset : ∀ x, (slR 1 (w + M.length) ids ++ List.replicate (M.length - i) (V.sc (.slice none 0 0))).set i x = slR 1 (w + M.length) ids ++ x :: List.replicate (M.length - (i + 1)) (V.sc (.slice none 0 0)) := by
        intro x
        rw [List.set_append_right _ _ (by rw [slR_len, hR.len]; exact Nat.le_refl _), slR_len, hR.len, Nat.sub_self, show M.length - i = (M.length - (i + 1)) + 1 by omega, List.replicate_succ, List.set_cons_zero]
      have hget' : ∀ x, (slR 1 (w + M.length) ids ++ x :: List.replicate (M.length - (i + 1)) (V.sc (.slice none 0 0)))[i]? = some x := by
        intro x
        rw [List.getElem?_append_right (by rw [slR_len, hR.len]; exact Nat.le_refl _), slR_len, hR.len, Nat.sub_self]; rfl
      have t1 : ((w : Int) + (M.length : Int)).toNat = w + M.length := by omega
      have t2 := nv_repl (w + M.length)
      have hr1 := hr.1
      have t3 := nv_len (M.getD i [])
      have t4 := nv_len (List.replicate (w + M.length) 0)
      rw [List.length_replicate] at t4
      rw [hr1] at t3
      have t5 : min w (w + M.length) = w := by omega
      have t6 : (nv (M.getD i [])).take w = nv (M.getD i []) := List.take_of_length_le (by rw [t3]; exact Nat.le_refl _)
      have t7 := nv_one (M.getD i [])
      have t8 : setAll (nv (List.replicate (w + M.length) 0)) 0 (nv (M.getD i [])) = nv (M.getD i [] ++ List.replicate M.length 0) := by
        rw [setAll_all _ _ _ (by rw [t3, t4]; omega), List.take_zero, List.nil_append, nv_drop, nv_app, t3, Nat.zero_add, List.drop_replicate, Nat.add_sub_cancel_left]
      have t9 := nv_len (M.getD i [] ++ List.replicate M.length 0)
      rw [List.length_append, hr1, List.length_replicate] at t9
      have t10 : ((w : Int) + (i : Int)).toNat = w + i := by omega
      have t11 : (nv (M.getD i [] ++ List.replicate M.length 0)).set (w + i) (V.sc (.int .u64 1)) = nv (M.getD i [] ++ unitL M.length i) := by
        have := nv_set (M.getD i [] ++ List.replicate M.length 0) (w + i) 1
        rw [List.set_append_right _ _ (by omega), hr1, Nat.add_sub_cancel_left] at this
        exact this
      have hkl := klB_rows (ty := 26) (rs := nR ((widenL M M.length).take i)) (fun j hj => Nat.lt_succ_of_lt (hlt j hj))
      generalize hD : slR 1 (w + M.length) ids ++ List.replicate (M.length - i) (V.sc (.slice none 0 0)) = D at *
      generalize hZ : nv (List.replicate (w + M.length) 0) = Z at *
      generalize hE : nv (M.getD i [] ++ List.replicate M.length 0) = E at *
      generalize hG : nv (M.getD i [] ++ unitL M.length i) = G at *
      generalize hF : nv (M.getD i []) = F at *
      (repeat (first | (first | refine DO.nilC (by kernel_rfl) ?_ | refine DO.nil (by kernel_rfl) ?_) | (with_reducible first | apply oz1 | apply oz2 | apply oz3 | apply oz4 | apply oz5 | apply oz6 | apply oz7 | apply oz8 | apply oz9 | apply ozb | apply ozc | apply oze | apply ozf | apply ozg | apply ozh | apply ozi | apply ozj | apply ozk | refine ozd (by decide) ?_) | ((first | apply SO.call | apply DO.call); (iterate 3 (focus (simp (disch := omega) only [go_sem, ↓reduceIte, Nat.reduceEqDiff, Nat.reduceLT, Nat.reduceLeDiff, Nat.reduceAdd, Nat.reduceMul, Nat.reduceSub, reduceCtorEq, Nat.reduceBEq, Int.reduceToNat, Int.reducePow, if_pos, if_neg, q1, gl, g1, t1, t2, t3, t4, t5, t6, t7, t8, t9, t10, t11, hcells, hcells0, hset, hget', hkl, List.getElem?_drop] <;> rfl))); (first | apply SCall.ofX | apply DCall.ofX); (focus (first | assumption)); (focus (simp (disch := omega) only [go_sem, ↓reduceIte, Nat.reduceEqDiff, Nat.reduceLT, Nat.reduceLeDiff, Nat.reduceAdd, Nat.reduceMul, Nat.reduceSub, reduceCtorEq, Nat.reduceBEq, Int.reduceToNat, Int.reducePow, if_pos, if_neg, q1, gl, g1, t1, t2, t3, t4, t5, t6, t7, t8, t9, t10, t11, hcells, hcells0, hset, hget', hkl, List.getElem?_drop] <;> rfl))) | ((with_reducible first | apply SC.condB | apply SC.region | apply SO.run | apply DO.run); (focus (simp (disch := omega) only [go_sem, ↓reduceIte, Nat.reduceEqDiff, reduceCtorEq, if_pos, if_neg, q1, gl, g1, t1, t2, t3, t4, t5, t6, t7, t8, t9, t10, t11, hcells0, hset, hget', List.getElem?_drop] <;> rfl)); (first | refine pickT ?_ | refine pickF ?_ | fail_if_success with_reducible refine pickA ?_)) | ((with_reducible refine SC.draw Tab.mixed ?_ ?_); (focus (first | rfl | simp (disch := omega) only [go_sem, ↓reduceIte, if_pos, hkl]))) | (with_reducible apply SC.ops)))
      refine hK _ (i + 1, ids ++ [nx + 2 + i]) ?_ ⟨by simp only; omega, ?_⟩ (by simp only; omega)
      · rw [hts]
        have e : nR ((widenL M M.length).take i ++ [M.getD i [] ++ unitL M.length i]) = nR ((widenL M M.length).take i) ++ [G] := by rw [← hG]; simp [nR]
        simp only [e]
        refine Le.rowInP (pre := [(nx, _)]) (fun j k h => ?_) ⟨nx, hB, by omega⟩ (by omega) (fun j hj => by have := hlt j hj; omega) (by omega) (fun h => by have := hlt _ h; omega) ?_ hcl (nR_clo _) (fun x hx => List.eq_of_mem_replicate hx) ?_
        · simp only [hget] at h
          split at h
          · cases h; exact ⟨by omega, rfl⟩
          · cases h
        · rw [nR_len, hR.len, List.length_take, hwl]; omega
        · (repeat' (first | exact trivial | refine mapSl_cons (by simp (disch := omega) only [go_sem, ↓reduceIte, Nat.reduceEqDiff] <;> rfl) ?_ ?_ | exact VMap.junk _ | exact VMap.sc _ | exact VMap.clo rfl | exact VMap.sl rfl (by omega) | exact VMap.cap rfl (by omega) | exact VMap.pt rfl (by omega) | exact VMap.nil_sl _ _ _ | exact VMap.int (by first | rfl | omega | (dsimp only; omega))))
      · have := hR.snoc
        rwa [show nx + 2 + i + 1 = nx + 2 + (i + 1) by omega] at this
    · have q1 := decide_eq_false (p := (i : Int) < (M.length : Int)) (by omega)
      have hin : i = M.length := by omega
      subst hin
      (repeat (first | (first | refine DO.nilC (by kernel_rfl) ?_ | refine DO.nil (by kernel_rfl) ?_) | (with_reducible first | apply oz1 | apply oz2 | apply oz3 | apply oz4 | apply oz5 | apply oz6 | apply oz7 | apply oz8 | apply oz9 | apply ozb | apply ozc | apply oze | apply ozf | apply ozg | apply ozh | apply ozi | apply ozj | apply ozk | refine ozd (by decide) ?_) | ((first | apply SO.call | apply DO.call); (iterate 3 (focus (simp (disch := omega) only [go_sem, ↓reduceIte, Nat.reduceEqDiff, Nat.reduceLT, Nat.reduceLeDiff, Nat.reduceAdd, Nat.reduceMul, Nat.reduceSub, reduceCtorEq, Nat.reduceBEq, Int.reduceToNat, Int.reducePow, if_pos, if_neg, q1] <;> rfl))); (first | apply SCall.ofX | apply DCall.ofX); (focus (first | assumption)); (focus (simp (disch := omega) only [go_sem, ↓reduceIte, Nat.reduceEqDiff, Nat.reduceLT, Nat.reduceLeDiff, Nat.reduceAdd, Nat.reduceMul, Nat.reduceSub, reduceCtorEq, Nat.reduceBEq, Int.reduceToNat, Int.reducePow, if_pos, if_neg, q1] <;> rfl))) | ((with_reducible first | apply SC.condB | apply SC.region | apply SO.run | apply DO.run); (focus (simp (disch := omega) only [go_sem, ↓reduceIte, Nat.reduceEqDiff, Nat.reduceLT, q1] <;> rfl)); (first | refine pickT ?_ | refine pickF ?_ | fail_if_success with_reducible refine pickA ?_)) | ((with_reducible refine SC.draw Tab.mixed ?_ ?_); (focus (first | rfl | simp (disch := omega) only [go_sem, ↓reduceIte, Nat.reduceEqDiff, Nat.reduceLT, Nat.reduceLeDiff, Nat.reduceAdd, Nat.reduceMul, Nat.reduceSub, reduceCtorEq, Nat.reduceBEq, Int.reduceToNat, Int.reducePow, if_pos, if_neg, q1]))) | (with_reducible apply SC.ops)))
      refine retIQ_ret (.sl (nx + 1) 0 M.length 1 none) ((nx + 1, ⟨44, slR 1 (w + M.length) ids, false⟩) :: rowsH 26 ids (nR (widenL M M.length))) (nx + 2 + M.length) Try.results60 (by simp (disch := omega) only [go_sem, ↓reduceIte]; rfl) ⟨nx + 1, ids, ?_, by rw [hwl], rfl⟩ ?_
      · rw [hwl]; exact ⟨hR.len, hR.nod, fun j hj => by have := hR.lt j hj; omega, by omega, hR.o2⟩
      · rw [Nat.sub_self, List.take_of_length_le (by omega)]
        simp only [List.replicate_zero, List.append_nil]
        refine Le.slots (leSl_cons (by simp (disch := omega) only [go_sem, ↓reduceIte]; rfl) (VLe.cap rfl rfl) leSl_nil) (fun id k h => ?_) (by omega)
        rw [hget_swap2 (by omega)]
        simp only [hget] at h ⊢
        by_cases e : id = nx + 1
        · rw [if_pos e] at h ⊢; exact h
        · rw [if_neg e] at h ⊢
          obtain ⟨k1, k2, _, k3, _⟩ := rows_inv h
          have := hR.lt id (by rw [← k3]; exact getD_mem' k2)
          rw [if_neg (by omega)]; exact h
end Go.Proofs.Ytpbomhmflllemaa

/- Contract: elimination. -/
namespace Go.Proofs.Ytpbomhmflllemaa
open Go.RowKit
def wv (l : List Nat) : List V := l.map fun (n : Nat) => .sc (.int .i64 n)
theorem wv_len (l : List Nat) : (wv l).length = l.length := by simp [wv]
theorem wv_clo (r : List Nat) : (wv r).all clo = true := by
  rw [List.all_eq_true]; intro x hx; obtain ⟨n, _, rfl⟩ := List.mem_map.1 hx; rfl
theorem wv_one (r : List Nat) : (wv r).all V.one = true := by
  rw [List.all_eq_true]; intro x hx; obtain ⟨n, _, rfl⟩ := List.mem_map.1 hx; rfl
theorem wv_snoc (l : List Nat) (c : Nat) : wv l ++ [V.sc (.int .i64 (c : Int))] = wv (l ++ [c]) := by simp [wv]
theorem wv_get {r : List Nat} {j : Nat} (h : j < r.length) : (wv r)[j]? = some (.sc (.int .i64 (r.getD j 0 : Nat))) := by
  unfold wv; rw [List.getElem?_map, getD_get' (d := 0) h]; rfl
def scPre (p b t : Nat) (r : List Nat) : List Nat := r.mapIdx fun i x => if i < t then b * x % p else x
theorem scPre_len {p b t : Nat} {r : List Nat} : (scPre p b t r).length = r.length := by simp [scPre]
theorem scPre_get {p b t j : Nat} {r : List Nat} (h : j < r.length) : (scPre p b t r).getD j 0 = if j < t then b * r.getD j 0 % p else r.getD j 0 := by
  unfold scPre
  rw [List.getD_eq_getElem?_getD, List.getElem?_mapIdx, List.getElem?_eq_getElem h, List.getD_eq_getElem?_getD (l := r), List.getElem?_eq_getElem h]; rfl
theorem scPre_zero {p b : Nat} {r : List Nat} : scPre p b 0 r = r := list_ext' scPre_len fun j hj => by
  rw [scPre_get (by rw [scPre_len] at hj; exact hj), if_neg (by omega)]
theorem scPre_set {p b t : Nat} {r : List Nat} (h : t < r.length) : (scPre p b t r).set t (b * r.getD t 0 % p) = scPre p b (t + 1) r := by
  refine list_ext' (by rw [List.length_set, scPre_len, scPre_len]) fun j hj => ?_
  rw [List.length_set, scPre_len] at hj
  rw [getD_set (by rw [scPre_len]; exact h), scPre_get hj, scPre_get hj]
  by_cases e : j = t
  · subst e; rw [if_pos rfl, if_pos (by omega)]
  · rw [if_neg e]
    by_cases g : j < t
    · rw [if_pos g, if_pos (by omega)]
    · rw [if_neg g, if_neg (by omega)]
theorem scPre_end {p b w : Nat} {r : List Nat} (h : r.length = w) : scPre p b w r = scaleL p b r := by
  refine list_ext' (by rw [scPre_len]; simp [scaleL]) fun j hj => ?_
  rw [scPre_len] at hj
  rw [scPre_get hj, if_pos (by omega), scaleL_get hj]
structure Ids (o : Nat) (ids0 ids : List Nat) (n nx : Nat) : Prop where
  len : ids.length = n
  nod : ids.Nodup
  sub : ∀ i ∈ ids, i ∈ ids0
  lt : ∀ i ∈ ids, i < nx
  o1 : o < nx
  o2 : o ∉ ids
theorem Ids.more {o n nx nx' : Nat} {ids0 ids : List Nat} (h : Ids o ids0 ids n nx) (hn : nx ≤ nx') : Ids o ids0 ids n nx' :=
  ⟨h.len, h.nod, h.sub, fun i hi => Nat.lt_of_lt_of_le (h.lt i hi) hn, Nat.lt_of_lt_of_le h.o1 hn, h.o2⟩
def swapN (ids : List Nat) (k q : Nat) : List Nat := (ids.set k (ids.getD q 0)).set q (ids.getD k 0)
theorem swapN_get {ids : List Nat} {k q : Nat} (hk : k < ids.length) (hq : q < ids.length) (i : Nat) : (swapN ids k q).getD i 0 = if i = q then ids.getD k 0 else if i = k then ids.getD q 0 else ids.getD i 0 := by
  unfold swapN
  rw [getD_set (by simpa using hq), getD_set hk]
theorem Ids.swap {o n nx : Nat} {ids0 ids : List Nat} (h : Ids o ids0 ids n nx) {k q : Nat} (hk : k < n) (hq : q < n) : Ids o ids0 (swapN ids k q) n nx := by
  have hl := h.len
  have hl2 : (swapN ids k q).length = n := by simp [swapN, hl]
  have hmem : ∀ i ∈ swapN ids k q, i ∈ ids := by
    intro i hi
    obtain ⟨j, hj, rfl⟩ := List.mem_iff_getElem.1 hi
    have e := swapN_get (ids := ids) (k := k) (q := q) (by omega) (by omega) j
    rw [List.getD_eq_getElem?_getD, List.getElem?_eq_getElem hj] at e
    simp only [Option.getD_some] at e
    rw [e]
    split
    · exact getD_mem' (by omega)
    · split
      · exact getD_mem' (by omega)
      · exact getD_mem' (by omega)
  refine ⟨hl2, ?_, fun i hi => h.sub i (hmem i hi), fun i hi => h.lt i (hmem i hi), h.o1, fun ho => h.o2 (hmem o ho)⟩
  rw [List.nodup_iff_pairwise_ne, List.pairwise_iff_getElem]
  intro i j hi hj hij e
  have e1 := swapN_get (ids := ids) (k := k) (q := q) (by omega) (by omega) i
  have e2 := swapN_get (ids := ids) (k := k) (q := q) (by omega) (by omega) j
  rw [List.getD_eq_getElem?_getD, List.getElem?_eq_getElem hi] at e1
  rw [List.getD_eq_getElem?_getD, List.getElem?_eq_getElem hj] at e2
  simp only [Option.getD_some] at e1 e2
  rw [e1, e2] at e
  have inj := fun a b ha hb e => nodup_getD h.nod (i := a) (j := b) ha hb e
  have hi' : i < n := by omega
  have hj' : j < n := by omega
  split at e
  · split at e
    · omega
    · split at e
      · have := inj _ _ (by omega) (by omega) e; omega
      · have := inj _ _ (by omega) (by omega) e; omega
  · split at e
    · split at e
      · have := inj _ _ (by omega) (by omega) e; omega
      · split at e
        · omega
        · have := inj _ _ (by omega) (by omega) e; omega
    · split at e
      · have := inj _ _ (by omega) (by omega) e; omega
      · split at e
        · have := inj _ _ (by omega) (by omega) e; omega
        · have := inj _ _ (by omega) (by omega) e; omega
theorem rows_swap {ty : TypeId} {ids : List Nat} {M : List (List Nat)} {k q : Nat} (hn : ids.Nodup) (hl : ids.length = M.length) (hk : k < ids.length) (hq : q < ids.length) : ∀ id b, hget (rowsH ty (swapN ids k q) (nR (swapL M k q))) id = some b → hget (rowsH ty ids (nR M)) id = some b := by
  refine rows_perm hn (by rw [nR_len]; exact hl) fun i h1 h2 => ?_
  have h1' : i < ids.length := by simpa [swapN] using h1
  have e1 := swapN_get (ids := ids) hk hq i
  have e2 := swapL_get (M := M) (k := k) (q := q) (by omega) (by omega) i
  rw [nR_getD, e2]
  by_cases a : i = q
  · exact ⟨k, hk, by rw [e1, if_pos a], by rw [if_pos a, nR_getD]⟩
  · by_cases b : i = k
    · exact ⟨q, hq, by rw [e1, if_neg a, if_pos b], by rw [if_neg a, if_pos b, nR_getD]⟩
    · exact ⟨i, h1', by rw [e1, if_neg a, if_neg b], by rw [if_neg a, if_neg b, nR_getD]⟩
theorem less_cons {i : Nat} {b : Blk} {r r' : List (Nat × Blk)} (h : ∀ id k, hget r' id = some k → hget r id = some k) : ∀ id k, hget ((i, b) :: r') id = some k → hget ((i, b) :: r) id = some k := by
  intro id k hk
  simp only [hget] at hk ⊢
  by_cases e : id = i
  · rw [if_pos e] at hk ⊢; exact hk
  · rw [if_neg e] at hk ⊢; exact h id k hk
theorem less_skip {i j : Nat} {a b : Blk} {r : List (Nat × Blk)} (hij : j ≠ i) (h : hget r j = none) : ∀ id k, hget ((i, a) :: r) id = some k → hget ((i, a) :: (j, b) :: r) id = some k := by
  intro id k hk
  simp only [hget] at hk ⊢
  by_cases e : id = i
  · rw [if_pos e] at hk ⊢; exact hk
  · rw [if_neg e] at hk ⊢
    by_cases e2 : id = j
    · rw [e2, h] at hk; cases hk
    · rw [if_neg e2]; exact hk
def EchQ (p w o : Nat) (ids : List Nat) (cols : Nat) (M : List (List Nat)) (nx : Nat) (x : V) (hp' : List (Nat × Blk)) (nx' : Nat) : Prop :=
  ∃ ids' q, Ids o ids ids' M.length nx ∧ nx ≤ q ∧ q < nx' ∧ x = .sl q 0 (elimL p cols M).2.length 1 none ∧ hp' = (q, ⟨3, wv (elimL p cols M).2, false⟩) :: (o, ⟨44, slR 1 w ids', false⟩) :: rowsH 26 ids' (nR (elimL p cols M).1)
end Go.Proofs.Ytpbomhmflllemaa
