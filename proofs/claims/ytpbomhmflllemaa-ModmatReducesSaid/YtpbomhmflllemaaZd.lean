/- Texts joined: Sn T2 Nt La Lb Lc Ld Le Gl Op Th. -/
import Derived.WalkSmall
import Derived.KernelRfl
import Derived.WalkKit
import Derived.ProofKit
import Derived.OpenShut
import Derived.Carry
import Derived.LoopN
import Derived.Test.YtpbomhmflllemaaZa
import Derived.Test.YtpbomhmflllemaaZb
import Derived.Test.YtpbomhmflllemaaZc
set_option linter.all false
/- Numbers in symbolic runs: wrapping, division, shifts, bits. -/
namespace Go.Proofs.Ytpbomhmflllemaa
open Go.RowKit
@[go_sem high] theorem wi64 (n : Int) (h1 : -9223372036854775808 ≤ n) (h2 : n ≤ 9223372036854775807) : IntKind.i64.wrap n = n := IntWalk.i64_in n ⟨h1, h2⟩
@[go_sem high] theorem wi32 (n : Int) (h1 : -2147483648 ≤ n) (h2 : n ≤ 2147483647) : IntKind.i32.wrap n = n := IntWalk.i32_in n ⟨h1, h2⟩
@[go_sem high] theorem wi8 (n : Int) (h1 : -128 ≤ n) (h2 : n ≤ 127) : IntKind.i8.wrap n = n := IntWalk.i8_in n ⟨h1, h2⟩
@[go_sem high] theorem wu64 (n : Int) (h1 : 0 ≤ n) (h2 : n ≤ 18446744073709551615) : IntKind.u64.wrap n = n := IntWalk.u64_in n ⟨h1, h2⟩
@[go_sem high] theorem wu32 (n : Int) (h1 : 0 ≤ n) (h2 : n ≤ 4294967295) : IntKind.u32.wrap n = n := IntWalk.u32_in n ⟨h1, h2⟩
@[go_sem high] theorem wu16 (n : Int) (h1 : 0 ≤ n) (h2 : n ≤ 65535) : IntKind.u16.wrap n = n := IntWalk.u16_in n ⟨h1, h2⟩
@[go_sem high] theorem wu8 (n : Int) (h1 : 0 ≤ n) (h2 : n ≤ 255) : IntKind.u8.wrap n = n := IntWalk.u8_in n ⟨h1, h2⟩
@[go_sem low] theorem wu32m (n : Int) : IntKind.u32.wrap n = n % 4294967296 := IntKind.wrap_u32 n
@[go_sem low] theorem wu8m (n : Int) : IntKind.u8.wrap n = n % 256 := IntKind.wrap_u8 n
@[go_sem] theorem tmod_nn (x y : Int) (h : 0 ≤ x) : x.tmod y = x % y := Int.tmod_eq_emod_of_nonneg h
@[go_sem] theorem tdiv_nn (x y : Int) (h : 0 ≤ x) : x.tdiv y = x / y := Int.tdiv_eq_ediv_of_nonneg h
@[go_sem] theorem bits_u64 : IntKind.u64.bits = 64 := rfl
@[go_sem] theorem bits_i64 : IntKind.i64.bits = 64 := rfl
@[go_sem] theorem bits_u32 : IntKind.u32.bits = 32 := rfl
@[go_sem] theorem bits_u8 : IntKind.u8.bits = 8 := rfl
theorem fdiv_pow (x : Int) (k : Nat) : x.fdiv (2 ^ k) = x / 2 ^ k := Int.fdiv_eq_ediv_of_nonneg _ (Int.le_of_lt (Int.pow_pos (by omega)))
attribute [go_sem] fdiv_pow
@[go_sem] theorem and1_u64 (n : Int) (h0 : 0 ≤ n) (h1 : n ≤ 18446744073709551615) : bits .and .u64 n 1 = n % 2 := and_one_u64 n h0 h1
end Go.Proofs.Ytpbomhmflllemaa

namespace Go.Proofs.Ytpbomhmflllemaa
open Go.RowKit
def pm (p a e : Nat) : Nat := a ^ e % p
theorem pm_lt {p a e : Nat} (h : 0 < p) : pm p a e < p := Nat.mod_lt _ h
theorem pm_zero (p a : Nat) : pm p a 0 = 1 % p := by simp [pm]
theorem pm_step (p a e r : Nat) : r * pm p a e % p = (if e % 2 = 1 then (r * a % p) * pm p (a * a % p) (e / 2) % p else r * pm p (a * a % p) (e / 2) % p) := by
  have h1 : pm p (a * a % p) (e / 2) = pm p a (2 * (e / 2)) := by
    unfold pm; rw [← Nat.pow_mod, Nat.pow_mul, Nat.pow_two]
  rw [h1]
  split
  · rename_i h
    have e1 : e = 1 + 2 * (e / 2) := by omega
    conv => lhs; rw [e1]
    unfold pm
    rw [Nat.pow_add, Nat.pow_one]
    simp only [Nat.mul_mod_mod, Nat.mod_mul_mod, Nat.mul_assoc]
  · rename_i h
    have e1 : e = 2 * (e / 2) := by omega
    conv => lhs; rw [e1]
theorem mPow_s (p a e : Nat) (hp : 1 < p) (hp2 : p ≤ 2147483648) (ha : a < p) (he : e ≤ 18446744073709551615) : Spec Try.prog 80 [.sc (.int .u64 p), .sc (.int .u64 a), .sc (.int .u64 e)] (.sc (.int .u64 (pm p a e))) := by
  refine Spec.run Try.func80 rfl Try.ntmps80 (by simp) (by simp (disch := omega) only [go_sem, Nat.reduceAdd]; rfl) fun B hB => ?_
  (repeat (first | (with_reducible first | apply oz1 | apply oz2 | apply oz3 | apply oz4 | apply oz5 | apply oz6 | apply oz7 | apply oz8 | apply oz9 | apply ozb | apply ozc | apply oze | apply ozf | apply ozg | apply ozh | apply ozi | apply ozj | apply ozk | refine ozd (by decide) ?_) | ((with_reducible apply SC.region); (focus (simp (disch := omega) only [go_sem, ↓reduceIte, reduceCtorEq]; rfl))) | (with_reducible refine SC.draw Tab.mixed rfl ?_; (repeat (refine DO.run (by simp (disch := omega) only [go_sem, ↓reduceIte, Nat.reduceEqDiff, Nat.reduceLT, Nat.reduceLeDiff, Nat.reduceAdd, Nat.reduceMul, Nat.reduceSub, reduceCtorEq, Nat.reduceBEq, Int.reduceToNat, Int.reducePow, if_pos, if_neg]; rfl) ?_)); refine DO.nil (by kernel_rfl) ?_)))
  refine SC.ops ?_
  repeat (refine SO.run (by simp (disch := omega) only [go_sem, ↓reduceIte, reduceCtorEq]; rfl) ?_)
  refine SO.call Tab.go79 (by simp (disch := omega) only [go_sem, ↓reduceIte]; rfl) (by simp (disch := omega) only [go_sem]) ?_
  refine SCall.of (rem_s 1 p (by omega)) (by simp (disch := omega) only [go_sem]; rfl) ?_
  rw [Nat.mod_eq_of_lt hp]
  repeat (refine SO.run (by simp (disch := omega) only [go_sem, ↓reduceIte]; rfl) ?_)
  refine SO.nil ?_
  (repeat (first | (with_reducible first | apply oz1 | apply oz2 | apply oz3 | apply oz4 | apply oz5 | apply oz6 | apply oz7 | apply oz8 | apply oz9 | apply ozb | apply ozc | apply oze | apply ozf | apply ozg | apply ozh | apply ozi | apply ozj | apply ozk | refine ozd (by decide) ?_) | ((with_reducible apply SC.region); (focus (simp (disch := omega) only [go_sem, ↓reduceIte, Nat.reduceEqDiff, Nat.reduceLT, Nat.reduceLeDiff, Nat.reduceAdd, Nat.reduceMul, Nat.reduceSub, reduceCtorEq, Nat.reduceBEq, Int.reduceToNat, Int.reducePow, if_pos, if_neg]; rfl))) | (with_reducible refine SC.draw Tab.mixed rfl ?_; (repeat (refine DO.run (by simp (disch := omega) only [go_sem, ↓reduceIte, Nat.reduceEqDiff, Nat.reduceLT, Nat.reduceLeDiff, Nat.reduceAdd, Nat.reduceMul, Nat.reduceSub, reduceCtorEq, Nat.reduceBEq, Int.reduceToNat, Int.reducePow, if_pos, if_neg]; rfl) ?_)); refine DO.nil (by kernel_rfl) ?_)))
  refine SC.loop (fun x : Nat × Nat × Nat => ⟨[(0, .sc (.int .u64 p)), (1, .sc (.int .u64 x.1)), (2, .sc (.int .u64 x.2.1)), (7, .sc (.int .u64 x.2.2))], [], 0, 26⟩)
    (fun x => x.1 < p ∧ x.2.2 < p ∧ x.2.1 ≤ 18446744073709551615 ∧ x.2.2 * pm p x.1 x.2.1 % p = pm p a e) (fun x => x.2.1) (a, e, 1) ?_ ?_ ?_
  · (refine Le.of [] hB (by first | exact ⟨Nat.zero_le _, fun _ _ => Nat.zero_le _⟩ | (constructor <;> (try simp) <;> (try omega))) ?_ ?_ <;> (repeat' (first | exact leSl_nil | exact leHp_nil | refine leSl_cons (by simp (disch := omega) only [go_sem, ↓reduceIte, Nat.reduceEqDiff, reduceCtorEq]; rfl) ?_ ?_ | refine leHp_cons (by simp (disch := omega) only [go_sem, ↓reduceIte, Nat.reduceEqDiff, Nat.reduceLT, Nat.reduceLeDiff, Nat.reduceAdd, Nat.reduceMul, Nat.reduceSub, reduceCtorEq, Nat.reduceBEq, Int.reduceToNat, Int.reducePow, if_pos, if_neg]; rfl) ?_ ?_ | exact VLe.junk _ | exact VLe.refl rfl | exact VLe.nil_sl _ _ _ | exact VLe.int (by first | rfl | omega | (dsimp only; omega)) | exact VLe.bool rfl | exact VLe.sl rfl (by first | rfl | omega | (dsimp only; omega) | (simp; done)) | exact VLe.cap rfl (by first | rfl | omega | (dsimp only; omega) | (simp; done)) | exact VLe.im rfl rfl | exact HLe.new rfl | exact HLe.same rfl (LLe.refl rfl) | refine HLe.same rfl ?_ | exact LLe.nil _ | exact LLe.refl rfl | refine LLe.cons ?_ ?_)))
  · exact ⟨ha, hp, he, by rw [Nat.one_mul]; exact Nat.mod_eq_of_lt (pm_lt (by omega))⟩
  · rintro ⟨a', e', r'⟩ ⟨ha', hr', he', hI⟩ K hK
    simp only at ha' hr' he' hI
    have hst := pm_step p a' e' r'
    (repeat (first | (with_reducible first | apply oz1 | apply oz2 | apply oz3 | apply oz4 | apply oz5 | apply oz6 | apply oz7 | apply oz8 | apply oz9 | apply ozb | apply ozc | apply oze | apply ozf | apply ozg | apply ozh | apply ozi | apply ozj | apply ozk | refine ozd (by decide) ?_) | ((with_reducible apply SC.region); (focus (simp (disch := omega) only [go_sem, ↓reduceIte, Nat.reduceEqDiff, reduceCtorEq]; rfl))) | (with_reducible refine SC.draw Tab.mixed rfl ?_; (repeat (refine DO.run (by simp (disch := omega) only [go_sem, ↓reduceIte, Nat.reduceEqDiff, Nat.reduceLT, Nat.reduceLeDiff, Nat.reduceAdd, Nat.reduceMul, Nat.reduceSub, reduceCtorEq, Nat.reduceBEq, Int.reduceToNat, Int.reducePow, if_pos, if_neg]; rfl) ?_)); refine DO.nil (by kernel_rfl) ?_)))
    refine SC.cond (by simp (disch := omega) only [go_sem, ↓reduceIte]; rfl) ?_ ?_
    · intro hc
      simp only [decide_eq_true_eq] at hc
      (repeat (first | (with_reducible first | apply oz1 | apply oz2 | apply oz3 | apply oz4 | apply oz5 | apply oz6 | apply oz7 | apply oz8 | apply oz9 | apply ozb | apply ozc | apply oze | apply ozf | apply ozg | apply ozh | apply ozi | apply ozj | apply ozk | refine ozd (by decide) ?_) | ((with_reducible apply SC.region); (focus (simp (disch := omega) only [go_sem, ↓reduceIte, Nat.reduceEqDiff, reduceCtorEq]; rfl))) | (with_reducible refine SC.draw Tab.mixed rfl ?_; (repeat (refine DO.run (by simp (disch := omega) only [go_sem, ↓reduceIte, Nat.reduceEqDiff, Nat.reduceLT, Nat.reduceLeDiff, Nat.reduceAdd, Nat.reduceMul, Nat.reduceSub, reduceCtorEq, Nat.reduceBEq, Int.reduceToNat, Int.reducePow, if_pos, if_neg]; rfl) ?_)); refine DO.nil (by kernel_rfl) ?_)))
      refine SC.condI (fun r2 : Nat => ⟨[(0, .sc (.int .u64 p)), (1, .sc (.int .u64 a')), (2, .sc (.int .u64 e')), (7, .sc (.int .u64 r2))], [], 0, 26⟩) (fun r2 => r2 < p ∧ r2 * pm p (a' * a' % p) (e' / 2) % p = pm p a e) (by simp (disch := omega) only [go_sem, ↓reduceIte]; rfl) ?_ ?_ ?_
      · intro hb K hK
        simp only [beq_iff_eq] at hb
        (repeat (first | (with_reducible first | apply oz1 | apply oz2 | apply oz3 | apply oz4 | apply oz5 | apply oz6 | apply oz7 | apply oz8 | apply oz9 | apply ozb | apply ozc | apply oze | apply ozf | apply ozg | apply ozh | apply ozi | apply ozj | apply ozk | refine ozd (by decide) ?_) | ((with_reducible apply SC.region); (focus (simp (disch := omega) only [go_sem, ↓reduceIte, Nat.reduceEqDiff, reduceCtorEq]; rfl))) | (with_reducible refine SC.draw Tab.mixed rfl ?_; (repeat (refine DO.run (by simp (disch := omega) only [go_sem, ↓reduceIte, Nat.reduceEqDiff, Nat.reduceLT, Nat.reduceLeDiff, Nat.reduceAdd, Nat.reduceMul, Nat.reduceSub, reduceCtorEq, Nat.reduceBEq, Int.reduceToNat, Int.reducePow, if_pos, if_neg]; rfl) ?_)); refine DO.nil (by kernel_rfl) ?_)))
        refine SC.ops ?_
        repeat (refine SO.run (by simp (disch := omega) only [go_sem, ↓reduceIte, Nat.reduceEqDiff, reduceCtorEq]; rfl) ?_)
        refine SO.call Tab.go56 (by simp (disch := omega) only [go_sem, ↓reduceIte, Nat.reduceEqDiff]; rfl) (by simp (disch := omega) only [go_sem]) ?_
        refine SCall.of (mMul_s p r' a' (by omega) hp2 hr' ha') (by simp (disch := omega) only [go_sem]; rfl) ?_
        repeat (refine SO.run (by simp (disch := omega) only [go_sem, ↓reduceIte]; rfl) ?_)
        (repeat (first | (with_reducible first | apply oz1 | apply oz2 | apply oz3 | apply oz4 | apply oz5 | apply oz6 | apply oz7 | apply oz8 | apply oz9 | apply ozb | apply ozc | apply oze | apply ozf | apply ozg | apply ozh | apply ozi | apply ozj | apply ozk | refine ozd (by decide) ?_) | ((with_reducible apply SC.region); (focus (simp (disch := omega) only [go_sem, ↓reduceIte, Nat.reduceEqDiff, Nat.reduceLT, Nat.reduceLeDiff, Nat.reduceAdd, Nat.reduceMul, Nat.reduceSub, reduceCtorEq, Nat.reduceBEq, Int.reduceToNat, Int.reducePow, if_pos, if_neg]; rfl))) | (with_reducible refine SC.draw Tab.mixed rfl ?_; (repeat (refine DO.run (by simp (disch := omega) only [go_sem, ↓reduceIte, Nat.reduceEqDiff, Nat.reduceLT, Nat.reduceLeDiff, Nat.reduceAdd, Nat.reduceMul, Nat.reduceSub, reduceCtorEq, Nat.reduceBEq, Int.reduceToNat, Int.reducePow, if_pos, if_neg]; rfl) ?_)); refine DO.nil (by kernel_rfl) ?_)))
        refine hK _ (r' * a' % p) ?_ ⟨Nat.mod_lt _ (by omega), ?_⟩
        · (refine Le.of [] hB (by first | exact ⟨Nat.zero_le _, fun _ _ => Nat.zero_le _⟩ | (constructor <;> (try simp) <;> (try omega))) ?_ ?_ <;> (repeat' (first | exact leSl_nil | exact leHp_nil | refine leSl_cons (by simp (disch := omega) only [go_sem, ↓reduceIte, Nat.reduceEqDiff, reduceCtorEq]; rfl) ?_ ?_ | refine leHp_cons (by simp (disch := omega) only [go_sem, ↓reduceIte, Nat.reduceEqDiff, Nat.reduceLT, Nat.reduceLeDiff, Nat.reduceAdd, Nat.reduceMul, Nat.reduceSub, reduceCtorEq, Nat.reduceBEq, Int.reduceToNat, Int.reducePow, if_pos, if_neg]; rfl) ?_ ?_ | exact VLe.junk _ | exact VLe.refl rfl | exact VLe.nil_sl _ _ _ | exact VLe.int (by first | rfl | omega | (dsimp only; omega)) | exact VLe.bool rfl | exact VLe.sl rfl (by first | rfl | omega | (dsimp only; omega) | (simp; done)) | exact VLe.cap rfl (by first | rfl | omega | (dsimp only; omega) | (simp; done)) | exact VLe.im rfl rfl | exact HLe.new rfl | exact HLe.same rfl (LLe.refl rfl) | refine HLe.same rfl ?_ | exact LLe.nil _ | exact LLe.refl rfl | refine LLe.cons ?_ ?_)))
        · rw [← hI, hst, if_pos (by omega)]
      · intro hb K hK
        simp only [beq_eq_false_iff_ne] at hb
        (repeat (first | (with_reducible first | apply oz1 | apply oz2 | apply oz3 | apply oz4 | apply oz5 | apply oz6 | apply oz7 | apply oz8 | apply oz9 | apply ozb | apply ozc | apply oze | apply ozf | apply ozg | apply ozh | apply ozi | apply ozj | apply ozk | refine ozd (by decide) ?_) | ((with_reducible apply SC.region); (focus (simp (disch := omega) only [go_sem, ↓reduceIte, Nat.reduceEqDiff, Nat.reduceLT, Nat.reduceLeDiff, Nat.reduceAdd, Nat.reduceMul, Nat.reduceSub, reduceCtorEq, Nat.reduceBEq, Int.reduceToNat, Int.reducePow, if_pos, if_neg]; rfl))) | (with_reducible refine SC.draw Tab.mixed rfl ?_; (repeat (refine DO.run (by simp (disch := omega) only [go_sem, ↓reduceIte, Nat.reduceEqDiff, Nat.reduceLT, Nat.reduceLeDiff, Nat.reduceAdd, Nat.reduceMul, Nat.reduceSub, reduceCtorEq, Nat.reduceBEq, Int.reduceToNat, Int.reducePow, if_pos, if_neg]; rfl) ?_)); refine DO.nil (by kernel_rfl) ?_)))
        refine hK _ r' ?_ ⟨hr', ?_⟩
        · (refine Le.of [] hB (by first | exact ⟨Nat.zero_le _, fun _ _ => Nat.zero_le _⟩ | (constructor <;> (try simp) <;> (try omega))) ?_ ?_ <;> (repeat' (first | exact leSl_nil | exact leHp_nil | refine leSl_cons (by simp (disch := omega) only [go_sem, ↓reduceIte, Nat.reduceEqDiff, reduceCtorEq]; rfl) ?_ ?_ | refine leHp_cons (by simp (disch := omega) only [go_sem, ↓reduceIte, Nat.reduceEqDiff, Nat.reduceLT, Nat.reduceLeDiff, Nat.reduceAdd, Nat.reduceMul, Nat.reduceSub, reduceCtorEq, Nat.reduceBEq, Int.reduceToNat, Int.reducePow, if_pos, if_neg]; rfl) ?_ ?_ | exact VLe.junk _ | exact VLe.refl rfl | exact VLe.nil_sl _ _ _ | exact VLe.int (by first | rfl | omega | (dsimp only; omega)) | exact VLe.bool rfl | exact VLe.sl rfl (by first | rfl | omega | (dsimp only; omega) | (simp; done)) | exact VLe.cap rfl (by first | rfl | omega | (dsimp only; omega) | (simp; done)) | exact VLe.im rfl rfl | exact HLe.new rfl | exact HLe.same rfl (LLe.refl rfl) | refine HLe.same rfl ?_ | exact LLe.nil _ | exact LLe.refl rfl | refine LLe.cons ?_ ?_)))
        · rw [← hI, hst, if_neg (by omega)]
      · rintro r2 ⟨hr2, hI2⟩
        refine SC.ops ?_
        repeat (refine SO.run (by simp (disch := omega) only [go_sem, ↓reduceIte, Nat.reduceEqDiff, reduceCtorEq]; rfl) ?_)
        refine SO.call Tab.go56 (by simp (disch := omega) only [go_sem, ↓reduceIte, Nat.reduceEqDiff]; rfl) (by simp (disch := omega) only [go_sem]) ?_
        refine SCall.of (mMul_s p a' a' (by omega) hp2 ha' ha') (by simp (disch := omega) only [go_sem]; rfl) ?_
        repeat (refine SO.run (by simp (disch := omega) only [go_sem, ↓reduceIte]; rfl) ?_)
        (repeat (first | (with_reducible first | apply oz1 | apply oz2 | apply oz3 | apply oz4 | apply oz5 | apply oz6 | apply oz7 | apply oz8 | apply oz9 | apply ozb | apply ozc | apply oze | apply ozf | apply ozg | apply ozh | apply ozi | apply ozj | apply ozk | refine ozd (by decide) ?_) | ((with_reducible apply SC.region); (focus (simp (disch := omega) only [go_sem, ↓reduceIte, Nat.reduceEqDiff, reduceCtorEq, Int.reduceToNat, if_neg]; rfl))) | (with_reducible refine SC.draw Tab.mixed rfl ?_; (repeat (refine DO.run (by simp (disch := omega) only [go_sem, ↓reduceIte, Nat.reduceEqDiff, Nat.reduceLT, Nat.reduceLeDiff, Nat.reduceAdd, Nat.reduceMul, Nat.reduceSub, reduceCtorEq, Nat.reduceBEq, Int.reduceToNat, Int.reducePow, if_pos, if_neg]; rfl) ?_)); refine DO.nil (by kernel_rfl) ?_)))
        refine hK _ (a' * a' % p, e' / 2, r2) ?_ ⟨Nat.mod_lt _ (by omega), hr2, by simp only; omega, hI2⟩ (by simp only; omega)
        (refine Le.of [] hB (by first | exact ⟨Nat.zero_le _, fun _ _ => Nat.zero_le _⟩ | (constructor <;> (try simp) <;> (try omega))) ?_ ?_ <;> (repeat' (first | exact leSl_nil | exact leHp_nil | refine leSl_cons (by simp (disch := omega) only [go_sem, ↓reduceIte, Nat.reduceEqDiff, reduceCtorEq]; rfl) ?_ ?_ | refine leHp_cons (by simp (disch := omega) only [go_sem, ↓reduceIte, Nat.reduceEqDiff, Nat.reduceLT, Nat.reduceLeDiff, Nat.reduceAdd, Nat.reduceMul, Nat.reduceSub, reduceCtorEq, Nat.reduceBEq, Int.reduceToNat, Int.reducePow, if_pos, if_neg]; rfl) ?_ ?_ | exact VLe.junk _ | exact VLe.refl rfl | exact VLe.nil_sl _ _ _ | exact VLe.int (by first | rfl | omega | (dsimp only; omega)) | exact VLe.bool rfl | exact VLe.sl rfl (by first | rfl | omega | (dsimp only; omega) | (simp; done)) | exact VLe.cap rfl (by first | rfl | omega | (dsimp only; omega) | (simp; done)) | exact VLe.im rfl rfl | exact HLe.new rfl | exact HLe.same rfl (LLe.refl rfl) | refine HLe.same rfl ?_ | exact LLe.nil _ | exact LLe.refl rfl | refine LLe.cons ?_ ?_)))
    · intro hc
      simp only [decide_eq_false_iff_not] at hc
      have h0 : e' = 0 := by omega
      subst h0
      rw [pm_zero, Nat.mod_eq_of_lt hp, Nat.mul_one, Nat.mod_eq_of_lt hr'] at hI
      (repeat (first | (with_reducible first | apply oz1 | apply oz2 | apply oz3 | apply oz4 | apply oz5 | apply oz6 | apply oz7 | apply oz8 | apply oz9 | apply ozb | apply ozc | apply oze | apply ozf | apply ozg | apply ozh | apply ozi | apply ozj | apply ozk | refine ozd (by decide) ?_) | ((with_reducible apply SC.region); (focus (simp (disch := omega) only [go_sem, ↓reduceIte, Nat.reduceEqDiff, Nat.reduceLT, reduceCtorEq]; rfl))) | (with_reducible refine SC.draw Tab.mixed rfl ?_; (repeat (refine DO.run (by simp (disch := omega) only [go_sem, ↓reduceIte, Nat.reduceEqDiff, Nat.reduceLT, Nat.reduceLeDiff, Nat.reduceAdd, Nat.reduceMul, Nat.reduceSub, reduceCtorEq, Nat.reduceBEq, Int.reduceToNat, Int.reducePow, if_pos, if_neg]; rfl) ?_)); refine DO.nil (by kernel_rfl) ?_)))
      refine retQ_ret Try.results80 (by simp (disch := omega) only [go_sem, ↓reduceIte]; rfl) (by simp (disch := omega) only [go_sem]; rfl) ?_
      rw [← hI]
end Go.Proofs.Ytpbomhmflllemaa

/- Fermat's little theorem, and that fifteen numbers are prime. -/
namespace Go.Proofs.Ytpbomhmflllemaa
def sm (f : Nat → Nat) : Nat → Nat
  | 0 => 0
  | n + 1 => sm f n + f n
theorem sm_left (f : Nat → Nat) : ∀ n, sm f (n + 1) = f 0 + sm (fun k => f (k + 1)) n
  | 0 => by simp [sm]
  | n + 1 => by rw [sm, sm_left f n, sm]; omega
theorem sm_add (f g : Nat → Nat) : ∀ n, sm (fun k => f k + g k) n = sm f n + sm g n
  | 0 => rfl
  | n + 1 => by simp only [sm]; rw [sm_add f g n]; omega
theorem sm_mul (c : Nat) (f : Nat → Nat) : ∀ n, sm (fun k => c * f k) n = c * sm f n
  | 0 => by simp [sm]
  | n + 1 => by simp only [sm]; rw [sm_mul c f n, Nat.mul_add]
theorem sm_dvd {p : Nat} {f : Nat → Nat} : ∀ {n}, (∀ k, k < n → p ∣ f k) → p ∣ sm f n
  | 0, _ => Nat.dvd_zero p
  | n + 1, h => Nat.dvd_add (sm_dvd fun k hk => h k (by omega)) (h n (by omega))
def ch : Nat → Nat → Nat
  | _, 0 => 1
  | 0, _ + 1 => 0
  | n + 1, k + 1 => ch n k + ch n (k + 1)
theorem ch_zero (n : Nat) : ch n 0 = 1 := by cases n <;> rfl
theorem ch_over : ∀ (n k : Nat), n < k → ch n k = 0
  | 0, 0, h => by omega
  | 0, k + 1, _ => rfl
  | n + 1, 0, h => by omega
  | n + 1, k + 1, h => by rw [ch, ch_over n k (by omega), ch_over n (k + 1) (by omega)]
theorem ch_self : ∀ n, ch n n = 1
  | 0 => rfl
  | n + 1 => by rw [ch, ch_self n, ch_over n (n + 1) (by omega)]
theorem ch_mul : ∀ (n k : Nat), (k + 1) * ch (n + 1) (k + 1) = (n + 1) * ch n k
  | 0, 0 => rfl
  | 0, k + 1 => by simp [ch]
  | n + 1, 0 => by
    have h := ch_mul n 0
    have e : ch (n + 1 + 1) (0 + 1) = ch (n + 1) 0 + ch (n + 1) (0 + 1) := rfl
    rw [e, ch_zero]
    rw [ch_zero] at h
    simp only [Nat.zero_add, Nat.one_mul, Nat.mul_one] at h ⊢
    omega
  | n + 1, k + 1 => by
    have h1 := ch_mul n k
    have h2 := ch_mul n (k + 1)
    have e1 : ch (n + 1 + 1) (k + 1 + 1) = ch (n + 1) (k + 1) + ch (n + 1) (k + 1 + 1) := rfl
    have e2 : ch (n + 1) (k + 1) = ch n k + ch n (k + 1) := rfl
    rw [e1, Nat.mul_add, h2, Nat.add_mul (k + 1) 1, h1, Nat.one_mul, e2, Nat.mul_add (n + 1 + 1), Nat.add_mul (n + 1) 1, Nat.add_mul (n + 1) 1]
    omega
theorem binom (a : Nat) : ∀ n, (a + 1) ^ n = sm (fun k => ch n k * a ^ k) (n + 1)
  | 0 => by simp [sm, ch]
  | n + 1 => by
    have e1 : sm (fun k => ch (n + 1) (k + 1) * a ^ (k + 1)) (n + 1) = a * sm (fun k => ch n k * a ^ k) (n + 1) + sm (fun k => ch n (k + 1) * a ^ (k + 1)) (n + 1) := by
      rw [← sm_mul, ← sm_add]
      congr 1
      funext k
      have : ch (n + 1) (k + 1) = ch n k + ch n (k + 1) := rfl
      rw [this, Nat.add_mul, Nat.pow_succ, ← Nat.mul_assoc, Nat.mul_comm (ch n k * a ^ k) a]
    have e2 : sm (fun k => ch n k * a ^ k) (n + 1 + 1) = 1 + sm (fun k => ch n (k + 1) * a ^ (k + 1)) (n + 1) := by
      rw [sm_left, ch_zero]; simp
    have e3 : sm (fun k => ch n k * a ^ k) (n + 1 + 1) = sm (fun k => ch n k * a ^ k) (n + 1) := by
      rw [sm, ch_over n (n + 1) (by omega)]; simp
    rw [sm_left, ch_zero, e1, Nat.pow_succ, binom a n, Nat.mul_add, Nat.mul_one, Nat.mul_comm _ a]
    rw [e3] at e2
    simp only [Nat.pow_zero, Nat.mul_one]
    omega
def Pr (p : Nat) : Prop := 1 < p ∧ ∀ k, 0 < k → k < p → Nat.Coprime p k
theorem Pr.ch {p k : Nat} (h : Pr p) (h1 : 0 < k) (h2 : k < p) : p ∣ ch p k := by
  obtain ⟨q, rfl⟩ : ∃ q, p = q + 1 := ⟨p - 1, by have := h.1; omega⟩
  obtain ⟨j, rfl⟩ : ∃ j, k = j + 1 := ⟨k - 1, by omega⟩
  exact (h.2 (j + 1) h1 h2).dvd_of_dvd_mul_left (ch_mul q j ▸ Nat.dvd_mul_right _ _)
theorem Pr.step {p : Nat} (h : Pr p) (a : Nat) : (a + 1) ^ p % p = (a ^ p + 1) % p := by
  obtain ⟨q, rfl⟩ : ∃ q, p = q + 1 := ⟨p - 1, by have := h.1; omega⟩
  rw [binom a (q + 1), sm, sm_left, ch_self, ch_zero]
  have : q + 1 ∣ sm (fun k => Go.Proofs.Ytpbomhmflllemaa.ch (q + 1) (k + 1) * a ^ (k + 1)) q := sm_dvd fun k hk => Nat.dvd_trans (h.ch (by omega) (by omega)) (Nat.dvd_mul_right _ _)
  obtain ⟨c, hc⟩ := this
  rw [hc]
  simp only [Nat.pow_zero, Nat.mul_one, Nat.one_mul]
  rw [show 1 + (q + 1) * c + a ^ (q + 1) = a ^ (q + 1) + 1 + (q + 1) * c by omega, Nat.add_mul_mod_self_left]
theorem Pr.fermat {p : Nat} (h : Pr p) : ∀ a, a ^ p % p = a % p
  | 0 => by rw [Nat.zero_pow (by have := h.1; omega)]
  | a + 1 => by rw [h.step, Nat.add_mod, h.fermat a, ← Nat.add_mod]
theorem Pr.one {p a : Nat} (h : Pr p) (h1 : 0 < a) (h2 : a < p) : a ^ (p - 1) % p = 1 := by
  have hp := h.1
  have hf := h.fermat a
  have e : a ^ p = a * a ^ (p - 1) := by rw [show p = (p - 1) + 1 by omega, Nat.pow_succ, Nat.mul_comm]; simp
  have hpos : 0 < a ^ (p - 1) := Nat.pow_pos h1
  have hd : p ∣ a * (a ^ (p - 1) - 1) := by
    rw [Nat.mul_sub, Nat.mul_one, ← e]
    exact Nat.dvd_of_mod_eq_zero (Nat.sub_mod_eq_zero_of_mod_eq hf)
  obtain ⟨c, hc⟩ := (h.2 a h1 h2).dvd_of_dvd_mul_left hd
  rw [show a ^ (p - 1) = 1 + p * c by omega, Nat.add_mul_mod_self_left, Nat.mod_eq_of_lt hp]
def po : Nat → Nat → Nat
  | lo, 0 => 2 * lo + 1
  | lo, n + 1 => po lo n * po (lo + 2 ^ n) n
theorem po_dvd : ∀ (n lo i : Nat), lo ≤ i → i < lo + 2 ^ n → 2 * i + 1 ∣ po lo n
  | 0, lo, i, h1, h2 => by
    have : i = lo := by simp at h2; omega
    subst this; exact Nat.dvd_refl _
  | n + 1, lo, i, h1, h2 => by
    rw [po]
    rcases Nat.lt_or_ge i (lo + 2 ^ n) with h | h
    · exact Nat.dvd_trans (po_dvd n lo i h1 h) (Nat.dvd_mul_right _ _)
    · exact Nat.dvd_trans (po_dvd n _ i h (by rw [Nat.pow_succ] at h2; omega)) (Nat.dvd_mul_left _ _)
theorem Pr.of {p n : Nat} (h1 : 1 < p) (h2 : p % 2 = 1) (h3 : Nat.gcd p (po 1 n) = 1) (h4 : p < (2 * 2 ^ n + 2) * (2 * 2 ^ n + 2)) : Pr p := by
  have no : ∀ d e, d * e = p → 1 < d → d ≤ e → False := by
    intro d e hde hd hle
    have hodd : d % 2 = 1 := by
      rcases Nat.mod_two_eq_zero_or_one d with h | h
      · have : p % 2 = 0 := by rw [← hde, Nat.mul_mod, h]; simp
        omega
      · exact h
    have hlt : d < 2 * 2 ^ n + 2 := by
      rcases Nat.lt_or_ge d (2 * 2 ^ n + 2) with h | h
      · exact h
      · have : (2 * 2 ^ n + 2) * (2 * 2 ^ n + 2) ≤ d * e := Nat.mul_le_mul h (Nat.le_trans h hle)
        omega
    have hdv : d ∣ po 1 n := by
      have := po_dvd n 1 (d / 2) (by omega) (by omega)
      rwa [show 2 * (d / 2) + 1 = d by omega] at this
    have : d ∣ Nat.gcd p (po 1 n) := Nat.dvd_gcd ⟨e, hde.symm⟩ hdv
    rw [h3] at this
    have := Nat.le_of_dvd (by omega) this
    omega
  refine ⟨h1, fun k hk1 hk2 => ?_⟩
  obtain ⟨e, he⟩ := Nat.gcd_dvd_left p k
  have hg : 0 < Nat.gcd p k := Nat.gcd_pos_of_pos_right _ hk1
  have hle : Nat.gcd p k ≤ k := Nat.gcd_le_right _ hk1
  show Nat.gcd p k = 1
  rcases Nat.lt_or_ge (Nat.gcd p k) 2 with h | h
  · omega
  · exfalso
    rcases Nat.le_total (Nat.gcd p k) e with hc | hc
    · exact no _ e he.symm h hc
    · have he1 : 1 < e := by
        rcases Nat.lt_or_ge 1 e with h' | h'
        · exact h'
        · have : Nat.gcd p k * e ≤ Nat.gcd p k * 1 := Nat.mul_le_mul_left _ h'
          omega
      exact no e _ (by rw [Nat.mul_comm]; exact he.symm) he1 hc
theorem gcds : (Nat.gcd 1000003 (po 1 15) == 1 && Nat.gcd 2147483549 (po 1 15) == 1 && Nat.gcd 2147483563 (po 1 15) == 1 && Nat.gcd 2147483579 (po 1 15) == 1 && Nat.gcd 2147483587 (po 1 15) == 1 && Nat.gcd 2147483629 (po 1 15) == 1 && Nat.gcd 2147483647 (po 1 15) == 1) = true := by kernel_rfl
theorem gcds2 : (Nat.gcd 65521 (po 1 8) == 1 && Nat.gcd 65537 (po 1 8) == 1) = true := by kernel_rfl
theorem pr2 : Pr 2 := by
  refine ⟨by omega, fun k h1 h2 => ?_⟩
  obtain rfl : k = 1 := by omega
  decide
theorem pr3 : Pr 3 := by
  refine ⟨by omega, fun k h1 h2 => ?_⟩
  have : k = 1 ∨ k = 2 := by omega
  rcases this with rfl | rfl <;> decide
theorem prs : ∀ i, i < 15 → Pr ([2, 3, 5, 7, 11, 101, 65521, 65537, 1000003, 2147483549, 2147483563, 2147483579, 2147483587, 2147483629, 2147483647].getD i 0) := by
  have g := gcds
  have g2 := gcds2
  simp only [Bool.and_eq_true, beq_iff_eq] at g g2
  obtain ⟨⟨⟨⟨⟨⟨a1, a2⟩, a3⟩, a4⟩, a5⟩, a6⟩, a7⟩ := g
  obtain ⟨b1, b2⟩ := g2
  intro i hi
  match i with
  | 0 => exact pr2
  | 1 => exact pr3
  | 2 => exact Pr.of (n := 0) (by decide) (by decide) (by decide) (by decide)
  | 3 => exact Pr.of (n := 0) (by decide) (by decide) (by decide) (by decide)
  | 4 => exact Pr.of (n := 1) (by decide) (by decide) (by decide) (by decide)
  | 5 => exact Pr.of (n := 3) (by decide) (by decide) (by decide) (by decide)
  | 6 => exact Pr.of (n := 8) (by decide) (by decide) b1 (by decide)
  | 7 => exact Pr.of (n := 8) (by decide) (by decide) b2 (by decide)
  | 8 => exact Pr.of (n := 15) (by decide) (by decide) a1 (by decide)
  | 9 => exact Pr.of (n := 15) (by decide) (by decide) a2 (by decide)
  | 10 => exact Pr.of (n := 15) (by decide) (by decide) a3 (by decide)
  | 11 => exact Pr.of (n := 15) (by decide) (by decide) a4 (by decide)
  | 12 => exact Pr.of (n := 15) (by decide) (by decide) a5 (by decide)
  | 13 => exact Pr.of (n := 15) (by decide) (by decide) a6 (by decide)
  | 14 => exact Pr.of (n := 15) (by decide) (by decide) a7 (by decide)
  | n + 15 => omega
end Go.Proofs.Ytpbomhmflllemaa

/- Linear algebra over a field: sums, spans, reduced row echelon forms and their uniqueness, ranks. -/
namespace Go.Proofs.Ytpbomhmflllemaa
section lin
variable {K : Type} [Lean.Grind.CommRing K]
def sg (f : Nat → K) : Nat → K
  | 0 => 0
  | n + 1 => sg f n + f n
theorem sg_congr {f g : Nat → K} : ∀ {n : Nat}, (∀ i, i < n → f i = g i) → sg f n = sg g n
  | 0, _ => rfl
  | n + 1, h => by rw [sg, sg, sg_congr fun i hi => h i (by omega), h n (by omega)]
theorem sg_add (f g : Nat → K) : ∀ n : Nat, sg (fun i => f i + g i) n = sg f n + sg g n
  | 0 => by simp only [sg]; grind
  | n + 1 => by rw [sg, sg, sg, sg_add f g n]; grind
theorem sg_mul (a : K) (f : Nat → K) : ∀ n : Nat, sg (fun i => a * f i) n = a * sg f n
  | 0 => by simp only [sg]; grind
  | n + 1 => by rw [sg, sg, sg_mul a f n]; grind
theorem sg_mulr (a : K) (f : Nat → K) : ∀ n : Nat, sg (fun i => f i * a) n = sg f n * a
  | 0 => by simp only [sg]; grind
  | n + 1 => by rw [sg, sg, sg_mulr a f n]; grind
theorem sg_zero : ∀ {n : Nat} {f : Nat → K}, (∀ i, i < n → f i = 0) → sg f n = 0
  | 0, _, _ => rfl
  | n + 1, f, h => by rw [sg, sg_zero fun i hi => h i (by omega), h n (by omega)]; grind
theorem sg_comm (f : Nat → Nat → K) (m : Nat) : ∀ n : Nat, sg (fun i => sg (fun j => f i j) m) n = sg (fun j => sg (fun i => f i j) n) m
  | 0 => by rw [sg, sg_zero]; intro i _; rfl
  | n + 1 => by rw [sg, sg_comm f m n, ← sg_add]; rfl
theorem sg_one : ∀ {n k : Nat} {f : Nat → K}, k < n → (∀ i, i < n → i ≠ k → f i = 0) → sg f n = f k
  | 0, k, f, hk, _ => by omega
  | n + 1, k, f, hk, h => by
    rw [sg]
    by_cases e : k = n
    · subst e; rw [sg_zero fun i hi => h i (by omega) (by omega)]; grind
    · rw [sg_one (k := k) (by omega) fun i hi hn => h i (by omega) hn, h n (by omega) (by omega)]; grind
theorem sg_split (f : Nat → K) (n : Nat) : ∀ m : Nat, sg f (n + m) = sg f n + sg (fun i => f (n + i)) m
  | 0 => by simp only [sg, Nat.add_zero]; grind
  | m + 1 => by rw [← Nat.add_assoc, sg, sg_split f n m, sg]; grind
def Sp (n m : Nat) (A : Nat → Nat → K) (v : Nat → K) : Prop := ∃ x : Nat → K, ∀ j, j < m → v j = sg (fun i => x i * A i j) n
variable {n m n' : Nat} {A B : Nat → Nat → K} {u v : Nat → K}
theorem Sp.row {i : Nat} (hi : i < n) : Sp n m A (A i) := ⟨fun k => if k = i then 1 else 0, fun j _ => by
  rw [sg_one (k := i) hi fun k _ hk => by dsimp only; rw [if_neg hk]; grind]
  dsimp only
  rw [if_pos rfl]; grind⟩
theorem Sp.zero (h : ∀ j, j < m → v j = 0) : Sp n m A v := ⟨fun _ => 0, fun j hj => by
  rw [h j hj, sg_zero]; intro i _; grind⟩
theorem Sp.add (h : Sp n m A u) (k : Sp n m A v) : Sp n m A (fun j => u j + v j) := by
  obtain ⟨x, hx⟩ := h
  obtain ⟨y, hy⟩ := k
  refine ⟨fun i => x i + y i, fun j hj => ?_⟩
  dsimp only
  rw [hx j hj, hy j hj, ← sg_add]
  exact sg_congr fun i _ => by grind
theorem Sp.smul (a : K) (h : Sp n m A u) : Sp n m A (fun j => a * u j) := by
  obtain ⟨x, hx⟩ := h
  refine ⟨fun i => a * x i, fun j hj => ?_⟩
  dsimp only
  rw [hx j hj, ← sg_mul]
  exact sg_congr fun i _ => by grind
theorem Sp.congr (h : Sp n m A u) (e : ∀ j, j < m → v j = u j) : Sp n m A v := by
  obtain ⟨x, hx⟩ := h
  exact ⟨x, fun j hj => (e j hj).trans (hx j hj)⟩
theorem Sp.sum {f : Nat → Nat → K} : ∀ {k : Nat}, (∀ i, i < k → Sp n m A (f i)) → Sp n m A (fun j => sg (fun i => f i j) k)
  | 0, _ => Sp.zero fun _ _ => rfl
  | k + 1, h => (Sp.add (Sp.sum fun i hi => h i (by omega)) (h k (by omega))).congr fun _ _ => rfl
theorem Sp.trans (h : ∀ i, i < n' → Sp n m A (B i)) (hv : Sp n' m B v) : Sp n m A v := by
  obtain ⟨y, hy⟩ := hv
  exact (Sp.sum (f := fun i j => y i * B i j) fun i hi => (h i hi).smul (y i)).congr hy
structure Ech (r m : Nat) (R : Nat → Nat → K) (c : Nat → Nat) : Prop where
  lt : ∀ i, i < r → c i < m
  inc : ∀ i k, i < k → k < r → c i < c k
  piv : ∀ i k, i < r → k < r → R i (c k) = if i = k then 1 else 0
  low : ∀ i j, i < r → j < c i → R i j = 0
variable {r r' : Nat} {R R' : Nat → Nat → K} {c c' : Nat → Nat}
theorem Ech.coef (h : Ech r m R c) (hv : Sp r m R v) : ∀ j, j < m → v j = sg (fun k => v (c k) * R k j) r := by
  obtain ⟨x, hx⟩ := hv
  have hk : ∀ k, k < r → v (c k) = x k := by
    intro k hk
    rw [hx _ (h.lt k hk), sg_one (k := k) hk fun i hi hne => by rw [h.piv i k hi hk, if_neg hne]; grind]
    rw [h.piv k k hk hk, if_pos rfl]; grind
  intro j hj
  rw [hx j hj]
  exact sg_congr fun k hk' => by rw [hk k hk']
theorem Ech.lead (h : Ech r m R c) (hv : Sp r m R v) : (∀ j, j < m → v j = 0) ∨ ∃ k, k < r ∧ v (c k) ≠ 0 ∧ ∀ j, j < c k → v j = 0 := by
  have hc := h.coef hv
  have key : ∀ q, q ≤ r → (∀ k, k < q → v (c k) = 0) ∨ ∃ k, k < q ∧ v (c k) ≠ 0 ∧ ∀ i, i < k → v (c i) = 0 := by
    intro q
    induction q with
    | zero => intro _; exact .inl fun k hk => by omega
    | succ q ih =>
      intro hq
      rcases ih (by omega) with h1 | ⟨k, h1, h2, h3⟩
      · by_cases e : v (c q) = 0
        · left
          intro k hk
          rcases Nat.lt_or_ge k q with g | g
          · exact h1 k g
          · rw [show k = q by omega]; exact e
        · exact .inr ⟨q, by omega, e, h1⟩
      · exact .inr ⟨k, by omega, h2, h3⟩
  rcases key r (Nat.le_refl _) with h1 | ⟨k, h1, h2, h3⟩
  · left
    intro j hj
    rw [hc j hj]
    exact sg_zero fun k hk => by rw [h1 k hk]; grind
  · refine .inr ⟨k, h1, h2, fun j hj => ?_⟩
    have := h.lt k h1
    rw [hc j (by omega)]
    refine sg_zero fun i hi => ?_
    rcases Nat.lt_or_ge i k with g | g
    · rw [h3 i g]; grind
    · have hle : c k ≤ c i := by
        rcases Nat.lt_or_ge k i with g2 | g2
        · exact Nat.le_of_lt (h.inc k i g2 hi)
        · rw [show i = k by omega]; exact Nat.le_refl _
      rw [h.low i j hi (by omega)]; grind
theorem Ech.pivots_in (h10 : (1 : K) ≠ 0) (h : Ech r m R c) (h' : Ech r' m R' c') (hs : ∀ i, i < r → Sp r' m R' (R i)) : ∀ i, i < r → ∃ k, k < r' ∧ c' k = c i := by
  intro i hi
  have e1 : R i (c i) = 1 := by rw [h.piv i i hi hi, if_pos rfl]
  rcases h'.lead (hs i hi) with h1 | ⟨k, h1, h2, h3⟩
  · have := h1 _ (h.lt i hi)
    rw [e1] at this; exact absurd this h10
  · refine ⟨k, h1, ?_⟩
    rcases Nat.lt_trichotomy (c' k) (c i) with g | g | g
    · exact absurd (h.low i _ hi g) h2
    · exact g
    · have := h3 _ g
      rw [e1] at this; exact absurd this h10
theorem Ech.inj (h : Ech r m R c) {i k : Nat} (hi : i < r) (hk : k < r) (e : c i = c k) : i = k := by
  rcases Nat.lt_trichotomy i k with g | g | g
  · have := h.inc i k g hk; omega
  · exact g
  · have := h.inc k i g hi; omega
theorem Ech.rows_eq (h : Ech r m R c) (h' : Ech r m R' c') (hc : ∀ i, i < r → c i = c' i) (hs : ∀ i, i < r → Sp r m R' (R i)) : ∀ i j, i < r → j < m → R i j = R' i j := by
  intro i j hi hj
  rw [h'.coef (hs i hi) j hj, sg_one (k := i) hi fun k hk hne => by rw [← hc k hk, h.piv i k hi hk, if_neg (fun e => hne e.symm)]; grind]
  rw [← hc i hi, h.piv i i hi hi, if_pos rfl]; grind
theorem Ech.full (h10 : (1 : K) ≠ 0) (h : Ech r m R c) (h' : Ech r m R' c') (hs : ∀ i, i < r → Sp r m R' (R i)) : ∀ i j, i < r → j < m → R i j = R' i j := by
  have h1 := h.pivots_in h10 h' hs
  -- the pivots of R are some of those of R', and as many: so they are the same
  have hc : ∀ i, i < r → c i = c' i := by
    have up : ∀ q, q < r → c' q ≤ c q := by
      intro q
      induction q with
      | zero =>
        intro hq
        obtain ⟨k, k1, k2⟩ := h1 0 hq
        rw [← k2]
        rcases Nat.eq_zero_or_pos k with g | g
        · rw [g]; exact Nat.le_refl _
        · exact Nat.le_of_lt (h'.inc 0 k g k1)
      | succ q ih =>
        intro hq
        obtain ⟨k, k1, k2⟩ := h1 (q + 1) hq
        have a := ih (by omega)
        have b := h.inc q (q + 1) (by omega) hq
        rcases Nat.lt_or_ge k (q + 1) with g | g
        · rcases Nat.lt_or_ge k q with g2 | g2
          · have := h'.inc k q g2 (by omega); omega
          · rw [show k = q by omega] at k2; omega
        · rw [← k2]
          rcases Nat.lt_or_ge (q + 1) k with g2 | g2
          · exact Nat.le_of_lt (h'.inc _ k g2 k1)
          · rw [show k = q + 1 by omega]; exact Nat.le_refl _
    have down : ∀ d q, q < r → r - 1 - q = d → c q ≤ c' q := by
      intro d
      induction d with
      | zero =>
        intro q hq hd
        obtain ⟨k, k1, k2⟩ := h1 q hq
        rw [← k2]
        rcases Nat.lt_or_ge k q with g | g
        · exact Nat.le_of_lt (h'.inc k q g hq)
        · rw [show k = q by omega]; exact Nat.le_refl _
      | succ d ih =>
        intro q hq hd
        obtain ⟨k, k1, k2⟩ := h1 q hq
        have a := ih (q + 1) (by omega) (by omega)
        have b := h.inc q (q + 1) (by omega) (by omega)
        rcases Nat.lt_or_ge k (q + 1) with g | g
        · rw [← k2]
          rcases Nat.lt_or_ge k q with g2 | g2
          · exact Nat.le_of_lt (h'.inc k q g2 hq)
          · rw [show k = q by omega]; exact Nat.le_refl _
        · have : c' (q + 1) ≤ c' k := by
            rcases Nat.lt_or_ge (q + 1) k with g2 | g2
            · exact Nat.le_of_lt (h'.inc _ k g2 k1)
            · rw [show k = q + 1 by omega]; exact Nat.le_refl _
          omega
    intro i hi
    have := up i hi
    have := down _ i hi rfl
    omega
  exact h.rows_eq h' hc hs
theorem kernel_ex (h10 : (1 : K) ≠ 0) (hinv : ∀ a : K, a ≠ 0 → ∃ b, a * b = 1) : ∀ (s : Nat) (P : Nat → Nat → K), ∃ x : Nat → K, (∃ i, i < s + 1 ∧ x i ≠ 0) ∧ ∀ j, j < s → sg (fun i => x i * P i j) (s + 1) = 0
  | 0, P => ⟨fun _ => 1, ⟨0, by omega, h10⟩, fun j hj => by omega⟩
  | s + 1, P => by
    by_cases hz : ∀ i, i < s + 2 → P i s = 0
    · obtain ⟨x, ⟨i, hi, hx⟩, h⟩ := kernel_ex h10 hinv s P
      refine ⟨fun k => if k < s + 1 then x k else 0, ⟨i, by omega, by simp only [if_pos hi]; exact hx⟩, fun j hj => ?_⟩
      rw [sg]
      by_cases e : j = s
      · subst e
        rw [sg_zero fun k hk => by rw [hz k (by omega)]; grind, hz _ (by omega)]; grind
      · have := h j (by omega)
        rw [sg_congr (g := fun k => x k * P k j) fun k hk => by simp only [if_pos hk], this]
        simp only [if_neg (Nat.lt_irrefl (s + 1))]; grind
    · obtain ⟨q, hq⟩ : ∃ q, ¬ (q < s + 2 → P q s = 0) := by
        rcases Classical.em (∃ q, ¬ (q < s + 2 → P q s = 0)) with h | h
        · exact h
        · exact absurd (fun i => Classical.byContradiction fun hc => h ⟨i, hc⟩) hz
      obtain ⟨hq1, hq2⟩ : q < s + 2 ∧ P q s ≠ 0 := by
        by_cases h : q < s + 2
        · exact ⟨h, fun e => hq fun _ => e⟩
        · exact absurd (fun g => absurd g h) hq
      obtain ⟨b, hb⟩ := hinv _ hq2
      -- the other rows, with the column s cleared
      let t : Nat → Nat := fun i => if i < q then i else i + 1
      let P' : Nat → Nat → K := fun i j => P (t i) j - P (t i) s * b * P q j
      obtain ⟨x, ⟨i, hi, hx⟩, h⟩ := kernel_ex h10 hinv s P'
      -- sums over all rows are sums over the others and the row q
      have split : ∀ (n : Nat) (f : Nat → K), q < n + 1 → sg f (n + 1) = sg (fun i => f (t i)) n + f q := by
        intro n
        induction n with
        | zero => intro f hq; rw [show q = 0 by omega]; rfl
        | succ n ih =>
          intro f hqn
          rw [sg]
          by_cases e : q = n + 1
          · rw [e]
            rw [sg_congr (g := fun i => f (t i)) fun i hi => by simp only [t]; rw [if_pos (by omega)]]
          · rw [ih f (by omega), sg]
            have : t n = n + 1 := by simp only [t]; rw [if_neg (by omega)]
            rw [this]; grind
      let w : K := sg (fun i => x i * (P (t i) s * b)) (s + 1)
      let y : Nat → K := fun i => if i = q then - w else if i < q then x i else x (i - 1)
      have yt : ∀ i, y (t i) = x i := by
        intro i
        simp only [y, t]
        by_cases g : i < q
        · rw [if_pos g, if_neg (by omega), if_pos g]
        · rw [if_neg g, if_neg (by omega), if_neg (by omega)]; rfl
      have yq : y q = - w := if_pos rfl
      refine ⟨y, ⟨t i, by simp only [t]; split <;> omega, by rw [yt]; exact hx⟩, fun j hj => ?_⟩
      rw [split (s + 1) (fun i => y i * P i j) (by omega), yq]
      rw [sg_congr (g := fun i => x i * P' i j + x i * (P (t i) s * b) * P q j) fun i _ => by rw [yt]; simp only [P']; grind, sg_add, sg_mulr]
      by_cases e : j = s
      · subst e
        rw [sg_zero fun i _ => by simp only [P']; grind]
        simp only [w]; grind
      · rw [h j (by omega)]
        simp only [w]; grind
theorem steinitz (h10 : (1 : K) ≠ 0) (hinv : ∀ a : K, a ≠ 0 → ∃ b, a * b = 1) {a b : Nat} (P Q : Nat → Nat → K) (h : ∀ i k, i < a → k < a → sg (fun l => P i l * Q l k) b = if i = k then 1 else 0) : a ≤ b := by
  rcases Nat.lt_or_ge b a with g | g
  · obtain ⟨x, ⟨i, hi, hx⟩, hk⟩ := kernel_ex h10 hinv b P
    exfalso
    apply hx
    have : sg (fun l => sg (fun k => x k * P k l) (b + 1) * Q l i) b = x i := by
      rw [sg_congr (g := fun l => sg (fun k => x k * P k l * Q l i) (b + 1)) fun l _ => by rw [← sg_mulr], ← sg_comm (fun k l => x k * P k l * Q l i)]
      rw [sg_one (k := i) hi fun k hk hne => by
        rw [sg_congr (g := fun l => x k * (P k l * Q l i)) fun l _ => by grind, sg_mul, h k i (by omega) (by omega), if_neg hne]; grind]
      rw [sg_congr (g := fun l => x i * (P i l * Q l i)) fun l _ => by grind, sg_mul, h i i (by omega) (by omega), if_pos rfl]; grind
    rw [← this]
    exact sg_zero fun l hl => by rw [hk l hl]; grind
  · exact g
theorem Ech.le (h10 : (1 : K) ≠ 0) (hinv : ∀ a : K, a ≠ 0 → ∃ b, a * b = 1) (h : Ech r m R c) (hs : ∀ i, i < r → Sp n m A (R i)) : r ≤ n := by
  let X : Nat → Nat → K := fun i => if hi : i < r then Classical.choose (hs i hi) else fun _ => 0
  have hX : ∀ i, i < r → ∀ j, j < m → R i j = sg (fun l => X i l * A l j) n := by
    intro i hi
    have := Classical.choose_spec (hs i hi)
    simpa only [X, dif_pos hi] using this
  refine steinitz h10 hinv X (fun l k => A l (c k)) fun i k hi hk => ?_
  rw [← hX i hi _ (h.lt k hk), h.piv i k hi hk]
end lin
end Go.Proofs.Ytpbomhmflllemaa

/- Elimination, in the abstract: one column more; what the end says; left kernels. -/
namespace Go.Proofs.Ytpbomhmflllemaa
section lin
variable {K : Type} [Lean.Grind.CommRing K]
structure EInv (n w : Nat) (A0 : Nat → Nat → K) (c k : Nat) (A : Nat → Nat → K) (pv : Nat → Nat) : Prop where
  kn : k ≤ n
  lt : ∀ i, i < k → pv i < c
  inc : ∀ i l, i < l → l < k → pv i < pv l
  piv : ∀ i l, i < n → l < k → A i (pv l) = if i = l then 1 else 0
  low : ∀ i j, i < k → j < pv i → A i j = 0
  rest : ∀ i j, k ≤ i → i < n → j < c → A i j = 0
  s1 : ∀ i, i < n → Sp n w A0 (A i)
  s2 : ∀ i, i < n → Sp n w A (A0 i)
variable {n w c k : Nat} {A0 A : Nat → Nat → K} {pv : Nat → Nat}
theorem EInv.start : EInv n w A0 0 0 A0 pv where
  kn := Nat.zero_le _
  lt := fun i hi => by omega
  inc := fun i l _ hl => by omega
  piv := fun i l _ hl => by omega
  low := fun i j hi _ => by omega
  rest := fun i j _ _ hj => by omega
  s1 := fun i hi => Sp.row hi
  s2 := fun i hi => Sp.row hi
theorem EInv.skip (h : EInv n w A0 c k A pv) (hz : ∀ i, k ≤ i → i < n → A i c = 0) : EInv n w A0 (c + 1) k A pv where
  kn := h.kn
  lt := fun i hi => by have := h.lt i hi; omega
  inc := h.inc
  piv := h.piv
  low := h.low
  rest := fun i j hi hn hj => by
    rcases Nat.lt_or_ge j c with g | g
    · exact h.rest i j hi hn g
    · rw [show j = c by omega]; exact hz i hi hn
  s1 := h.s1
  s2 := h.s2
theorem EInv.step {q : Nat} {b : K} {A' : Nat → Nat → K} {pv' : Nat → Nat} (h : EInv n w A0 c k A pv) (hc : c < w) (hk : k ≤ q) (hq : q < n) (hb : b * A q c = 1)
    (hA : ∀ i j, i < n → j < w → A' i j = if i = k then b * A q j else (if i = q then A k j else A i j) - (if i = q then A k c else A i c) * (b * A q j))
    (hp : ∀ i, i < k → pv' i = pv i) (hpk : pv' k = c) : EInv n w A0 (c + 1) (k + 1) A' pv' := by
  have hkn : k < n := by omega
  have hlt : ∀ i, i < k → pv i < w := fun i hi => by have := h.lt i hi; omega
  have old : ∀ l, l < k → ∀ i, i < n → A' i (pv l) = if i = l then 1 else 0 := by
    intro l hl i hi
    rw [hA i _ hi (hlt l hl)]
    have e1 : A q (pv l) = 0 := by rw [h.piv q l hq hl, if_neg (by omega)]
    rw [e1]
    by_cases e : i = k
    · rw [if_pos e, if_neg (by omega)]; grind
    · rw [if_neg e]
      by_cases e2 : i = q
      · rw [if_pos e2, if_pos e2, h.piv k l hkn hl, if_neg (by omega), if_neg (by omega)]; grind
      · rw [if_neg e2, if_neg e2, h.piv i l hi hl]; grind
  have new : ∀ i, i < n → A' i c = if i = k then 1 else 0 := by
    intro i hi
    rw [hA i c hi hc, hb]
    by_cases e : i = k
    · rw [if_pos e, if_pos e]
    · rw [if_neg e, if_neg e]; grind
  have z0 : ∀ j, j < c → A q j = 0 := fun j hj => h.rest q j hk hq hj
  exact {
    kn := by omega
    lt := fun i hi => by
      by_cases e : i = k
      · rw [e, hpk]; omega
      · rw [hp i (by omega)]; have := h.lt i (by omega); omega
    inc := fun i l hil hl => by
      by_cases e : l = k
      · rw [e, hpk, hp i (by omega)]; exact h.lt i (by omega)
      · rw [hp i (by omega), hp l (by omega)]; exact h.inc i l hil (by omega)
    piv := fun i l hi hl => by
      by_cases e : l = k
      · rw [e, hpk]; exact new i hi
      · rw [hp l (by omega)]; exact old l (by omega) i hi
    low := fun i j hi hj => by
      by_cases e : i = k
      · rw [e, hpk] at hj
        rw [e, hA k j hkn (by omega), if_pos rfl, z0 j hj]; grind
      · rw [hp i (by omega)] at hj
        have hj2 := h.lt i (by omega)
        rw [hA i j (by omega) (by omega), if_neg e, z0 j (by omega), if_neg (by omega), if_neg (by omega), h.low i j (by omega) hj]; grind
    rest := fun i j hi hn hj => by
      by_cases e : j = c
      · rw [e, new i hn, if_neg (by omega)]
      · rw [hA i j hn (by omega), if_neg (by omega), z0 j (by omega)]
        by_cases e2 : i = q
        · rw [if_pos e2, if_pos e2, h.rest k j (Nat.le_refl _) hkn (by omega)]; grind
        · rw [if_neg e2, if_neg e2, h.rest i j (by omega) hn (by omega)]; grind
    s1 := fun i hi => by
      by_cases e : i = k
      · exact ((h.s1 q hq).smul b).congr fun j hj => by rw [hA i j hi hj, if_pos e]
      · by_cases e2 : i = q
        · exact ((h.s1 k hkn).add ((h.s1 q hq).smul (-(A k c * b)))).congr fun j hj => by rw [hA i j hi hj, if_neg e, if_pos e2, if_pos e2]; grind
        · exact ((h.s1 i hi).add ((h.s1 q hq).smul (-(A i c * b)))).congr fun j hj => by rw [hA i j hi hj, if_neg e, if_neg e2, if_neg e2]; grind
    s2 := fun i hi => by
      refine Sp.trans (n' := n) (B := A) (fun l hl => ?_) (h.s2 i hi)
      by_cases e : l = q
      · refine ((Sp.row (A := A') hkn).smul (A q c)).congr fun j hj => ?_
        rw [hA k j hkn hj, if_pos rfl, e]
        have : A q j = (b * A q c) * A q j := by rw [hb]; grind
        rw [this]; grind
      · by_cases e2 : l = k
        · have hqk : q ≠ k := fun e3 => e (e2.trans e3.symm)
          refine ((Sp.row (A := A') hq).add ((Sp.row (A := A') hkn).smul (A k c))).congr fun j hj => ?_
          rw [hA q j hq hj, hA k j hkn hj, if_neg hqk, if_pos rfl, if_pos rfl, if_pos rfl, e2]; grind
        · refine ((Sp.row (A := A') hl).add ((Sp.row (A := A') hkn).smul (A l c))).congr fun j hj => ?_
          rw [hA l j hl hj, hA k j hkn hj, if_neg e2, if_neg e, if_neg e, if_pos rfl]; grind }
structure EEnd (n w : Nat) (A0 : Nat → Nat → K) (cols k : Nat) (A : Nat → Nat → K) (pv : Nat → Nat) : Prop where
  kn : k ≤ n
  lt : ∀ i, i < k → pv i < cols
  inc : ∀ i l, i < l → l < k → pv i < pv l
  piv : ∀ i l, i < n → l < k → A i (pv l) = if i = l then 1 else 0
  low : ∀ i j, i < k → j < pv i → A i j = 0
  rest : ∀ i j, k ≤ i → i < n → j < cols → A i j = 0
  s1 : ∀ i, i < n → Sp n w A0 (A i)
  s2 : ∀ i, i < n → Sp n w A (A0 i)
theorem EInv.done {cols : Nat} (h : EInv n w A0 c k A pv) (hc : c ≤ cols) (he : c = cols ∨ k = n) : EEnd n w A0 cols k A pv where
  kn := h.kn
  lt := fun i hi => by have := h.lt i hi; omega
  inc := h.inc
  piv := h.piv
  low := h.low
  rest := fun i j hi hn hj => by
    rcases he with e | e
    · exact h.rest i j hi hn (by omega)
    · omega
  s1 := h.s1
  s2 := h.s2
variable {cols : Nat}
def Ann (n cols : Nat) (M : Nat → Nat → K) (x : Nat → K) : Prop := ∀ j, j < cols → sg (fun i => x i * M i j) n = 0
structure Wide (n cols : Nat) (M A0 : Nat → Nat → K) : Prop where
  left : ∀ i j, i < n → j < cols → A0 i j = M i j
  right : ∀ i l, i < n → l < n → A0 i (cols + l) = if i = l then 1 else 0
variable {M : Nat → Nat → K}
theorem Wide.coef {v x : Nat → K} (h : Wide n cols M A0) (hx : ∀ j, j < cols + n → v j = sg (fun i => x i * A0 i j) n) : (∀ l, l < n → v (cols + l) = x l) ∧ ∀ j, j < cols → v j = sg (fun i => v (cols + i) * M i j) n := by
  have h1 : ∀ l, l < n → v (cols + l) = x l := by
    intro l hl
    rw [hx _ (by omega), sg_one (k := l) hl fun i hi hne => by rw [h.right i l hi hl, if_neg hne]; grind]
    rw [h.right l l hl hl, if_pos rfl]; grind
  refine ⟨h1, fun j hj => ?_⟩
  rw [hx j (by omega)]
  exact sg_congr fun i hi => by rw [h1 i hi, h.left i j hi hj]
theorem Wide.mem {v : Nat → K} (h : Wide n cols M A0) (hv : Sp n (cols + n) A0 v) : ∀ j, j < cols → v j = sg (fun i => v (cols + i) * M i j) n := by
  obtain ⟨x, hx⟩ := hv
  exact (h.coef hx).2
theorem Wide.in {v : Nat → K} (h : Wide n cols M A0) (hv : ∀ j, j < cols → v j = sg (fun i => v (cols + i) * M i j) n) : Sp n (cols + n) A0 v := by
  refine ⟨fun i => v (cols + i), fun j hj => ?_⟩
  rcases Nat.lt_or_ge j cols with g | g
  · rw [hv j g]
    exact sg_congr fun i hi => by rw [h.left i j hi g]
  · obtain ⟨l, rfl⟩ : ∃ l, j = cols + l := ⟨j - cols, by omega⟩
    rw [sg_one (k := l) (by omega) fun i hi hne => by rw [h.right i l hi (by omega), if_neg hne]; grind]
    rw [h.right l l (by omega) (by omega), if_pos rfl]; grind
theorem EEnd.kernel (h : EEnd n (cols + n) A0 cols k A pv) (hW : Wide n cols M A0) :
    (∀ i, i < n - k → Ann n cols M (fun l => A (k + i) (cols + l))) ∧ ∀ x, Ann n cols M x → Sp (n - k) n (fun i l => A (k + i) (cols + l)) x := by
  refine ⟨fun i hi j hj => ?_, fun x hx => ?_⟩
  · have := hW.mem (h.s1 (k + i) (by omega)) j hj
    rw [← this]; exact h.rest _ j (by omega) (by omega) hj
  · let v : Nat → K := fun j => if j < cols then 0 else x (j - cols)
    have hv : Sp n (cols + n) A0 v := hW.in fun j hj => by
      simp only [v]
      rw [if_pos hj, sg_congr (g := fun i => x i * M i j) fun i _ => by rw [if_neg (by omega), Nat.add_sub_cancel_left]]
      exact (hx j hj).symm
    obtain ⟨y, hy⟩ := Sp.trans h.s2 hv
    have y0 : ∀ l, l < k → y l = 0 := by
      intro l hl
      have hp := h.lt l hl
      have hkn := h.kn
      have := hy (pv l) (by omega)
      rw [sg_one (k := l) (by omega) fun i hi hne => by rw [h.piv i l hi hl, if_neg hne]; grind] at this
      rw [h.piv l l (by omega) hl, if_pos rfl] at this
      simp only [v] at this
      rw [if_pos hp] at this
      grind
    refine ⟨fun i => y (k + i), fun l hl => ?_⟩
    have := hy (cols + l) (by omega)
    simp only [v] at this
    rw [if_neg (by omega), Nat.add_sub_cancel_left] at this
    have hkn := h.kn
    rw [this, show n = k + (n - k) by omega, sg_split, sg_zero (f := fun i => y i * A i (cols + l)) fun i hi => by rw [y0 i hi]; grind]
    rw [show k + (n - k) - k = n - k by omega]; grind
theorem Ech.kernel {r s : Nat} {E : Nat → Nat → K} {c : Nat → Nat} (h : Ech r (cols + n) E c) (hW : Wide n cols M A0) (h1 : ∀ i, i < n → Sp r (cols + n) E (A0 i)) (h2 : ∀ i, i < r → Sp n (cols + n) A0 (E i)) (hs : s ≤ r) (hlo : ∀ i, i < s → c i < cols) (hhi : ∀ i, s ≤ i → i < r → cols ≤ c i) :
    Ech (r - s) n (fun i l => E (s + i) (cols + l)) (fun i => c (s + i) - cols) ∧ (∀ i, i < r - s → Ann n cols M (fun l => E (s + i) (cols + l))) ∧ ∀ x, Ann n cols M x → Sp (r - s) n (fun i l => E (s + i) (cols + l)) x := by
  refine ⟨{ lt := fun i hi => ?_, inc := fun i l hil hl => ?_, piv := fun i l hi hl => ?_, low := fun i j hi hj => ?_ }, fun i hi j hj => ?_, fun x hx => ?_⟩
  · have := h.lt (s + i) (by omega)
    have := hhi (s + i) (by omega) (by omega)
    show c (s + i) - cols < n
    omega
  · have := h.inc (s + i) (s + l) (by omega) (by omega)
    have := hhi (s + i) (by omega) (by omega)
    show c (s + i) - cols < c (s + l) - cols
    omega
  · have := hhi (s + l) (by omega) (by omega)
    show E (s + i) (cols + (c (s + l) - cols)) = _
    rw [show cols + (c (s + l) - cols) = c (s + l) by omega, h.piv _ _ (by omega) (by omega)]
    by_cases e : i = l
    · rw [if_pos e, if_pos (by omega)]
    · rw [if_neg e, if_neg (by omega)]
  · have := hhi (s + i) (by omega) (by omega)
    have hj' : j < c (s + i) - cols := hj
    exact h.low _ _ (by omega) (by omega)
  · have := hW.mem (h2 (s + i) (by omega)) j hj
    rw [← this]
    have := hhi (s + i) (by omega) (by omega)
    exact h.low _ _ (by omega) (by omega)
  · let v : Nat → K := fun j => if j < cols then 0 else x (j - cols)
    have hv : Sp n (cols + n) A0 v := hW.in fun j hj => by
      simp only [v]
      rw [if_pos hj, sg_congr (g := fun i => x i * M i j) fun i _ => by rw [if_neg (by omega), Nat.add_sub_cancel_left]]
      exact (hx j hj).symm
    have hc := h.coef (Sp.trans h1 hv)
    refine ⟨fun i => v (c (s + i)), fun l hl => ?_⟩
    have := hc (cols + l) (by omega)
    simp only [v] at this
    rw [if_neg (by omega), Nat.add_sub_cancel_left] at this
    rw [this, show r = s + (r - s) by omega, sg_split, sg_zero (f := fun k => (if c k < cols then 0 else x (c k - cols)) * E k (cols + l)) fun i hi => by rw [if_pos (hlo i hi)]; grind]
    rw [show s + (r - s) - s = r - s by omega]; simp only [v]; grind
end lin
end Go.Proofs.Ytpbomhmflllemaa

/- Elimination on lists of numbers modulo a prime. -/
namespace Go.Proofs.Ytpbomhmflllemaa
/-! ### numbers modulo p -/
section fz
variable {p : Nat} [NeZero p]
def fz (p : Nat) [NeZero p] (x : Nat) : Fin p := Fin.ofNat p x
theorem fz_val (x : Nat) : (fz p x).val = x % p := by simp [fz]
theorem fz_eq {a b : Nat} : fz p a = fz p b ↔ a % p = b % p := by rw [Fin.ext_iff, fz_val, fz_val]
theorem fz_inj {a b : Nat} (ha : a < p) (hb : b < p) (h : fz p a = fz p b) : a = b := by
  rw [fz_eq, Nat.mod_eq_of_lt ha, Nat.mod_eq_of_lt hb] at h; exact h
theorem fz_add (a b : Nat) : fz p ((a + b) % p) = fz p a + fz p b := by
  apply Fin.ext; rw [fz_val, Fin.val_add, fz_val, fz_val]; simp
theorem fz_mul (a b : Nat) : fz p (a * b % p) = fz p a * fz p b := by
  apply Fin.ext; rw [fz_val, Fin.val_mul, fz_val, fz_val]; simp [Nat.mul_mod]
theorem fz_zero : fz p 0 = 0 := by apply Fin.ext; rw [fz_val]; simp
theorem fz_one : fz p 1 = 1 := by apply Fin.ext; rw [fz_val]; rfl
theorem fz_neg {a : Nat} (ha : a ≤ p) : fz p ((0 + p - a) % p) = - fz p a := by
  have h : fz p ((0 + p - a) % p) + fz p a = 0 := by
    rw [← fz_add, Nat.mod_add_mod, show 0 + p - a + a = p by omega, Nat.mod_self, fz_zero]
  grind
theorem fz_cast (x : Fin p) : fz p x.val = x := by apply Fin.ext; rw [fz_val, Nat.mod_eq_of_lt x.isLt]
theorem fz_inv (hp : Pr p) {a : Nat} (ha : a ≠ 0) (hl : a < p) : fz p (a ^ (p - 2) % p) * fz p a = 1 := by
  rw [← fz_mul, Nat.mod_mul_mod, ← Nat.pow_succ, show (p - 2).succ = p - 1 by have := hp.1; omega, hp.one (by omega) hl, fz_one]
theorem fin10 (hp : Pr p) : (1 : Fin p) ≠ 0 := by
  rw [← fz_one, ← fz_zero]
  intro h
  have := fz_inj hp.1 (by have := hp.1; omega) h
  omega
theorem finInv (hp : Pr p) : ∀ a : Fin p, a ≠ 0 → ∃ b, a * b = 1 := by
  intro a ha
  refine ⟨fz p (a.val ^ (p - 2) % p), ?_⟩
  have h0 : a.val ≠ 0 := by
    intro e
    exact ha (Fin.ext (by rw [e]; simp))
  have := fz_inv hp h0 a.isLt
  rw [fz_cast] at this
  grind
end fz
/-! ### matrices as lists of rows -/
def ent (M : List (List Nat)) (i j : Nat) : Nat := (M.getD i []).getD j 0
def Rw (p w : Nat) (r : List Nat) : Prop := r.length = w ∧ ∀ x ∈ r, x < p
def MV (p n w : Nat) (M : List (List Nat)) : Prop := M.length = n ∧ ∀ r ∈ M, Rw p w r
section mv
variable {p n w : Nat} {M : List (List Nat)}
theorem getD_mem {α : Type} {l : List α} {i : Nat} {d : α} (h : i < l.length) : l.getD i d ∈ l := by
  rw [List.getD_eq_getElem?_getD, List.getElem?_eq_getElem h]; exact List.getElem_mem h
theorem MV.get (h : MV p n w M) {i : Nat} (hi : i < n) : Rw p w (M.getD i []) := h.2 _ (getD_mem (by rw [h.1]; exact hi))
theorem Rw.lt {r : List Nat} (h : Rw p w r) {j : Nat} (hj : j < w) : r.getD j 0 < p := h.2 _ (getD_mem (by rw [h.1]; exact hj))
theorem MV.lt (h : MV p n w M) {i j : Nat} (hi : i < n) (hj : j < w) : ent M i j < p := (h.get hi).lt hj
theorem MV.set (h : MV p n w M) {i : Nat} {r : List Nat} (hr : Rw p w r) : MV p n w (M.set i r) :=
  ⟨by rw [List.length_set]; exact h.1, fun q hq => by
    rcases List.mem_or_eq_of_mem_set hq with g | g
    · exact h.2 q g
    · exact g ▸ hr⟩
theorem getD_set {α : Type} {l : List α} {i k : Nat} {x d : α} (hk : k < l.length) : (l.set k x).getD i d = if i = k then x else l.getD i d := by
  rw [List.getD_eq_getElem?_getD, List.getElem?_set, List.getD_eq_getElem?_getD]
  by_cases e : k = i
  · subst e; rw [if_pos rfl, if_pos rfl, if_pos hk]; rfl
  · rw [if_neg e, if_neg fun e' => e e'.symm]
theorem list_ext' {a b : List Nat} (h : a.length = b.length) (k : ∀ j, j < a.length → a.getD j 0 = b.getD j 0) : a = b := by
  refine List.ext_getElem h fun i h1 h2 => ?_
  have := k i h1
  rwa [List.getD_eq_getElem?_getD, List.getElem?_eq_getElem h1, List.getD_eq_getElem?_getD, List.getElem?_eq_getElem h2] at this
theorem mat_ext {a b : List (List Nat)} (h : a.length = b.length) (k : ∀ j, j < a.length → a.getD j [] = b.getD j []) : a = b := by
  refine List.ext_getElem h fun i h1 h2 => ?_
  have := k i h1
  rwa [List.getD_eq_getElem?_getD, List.getElem?_eq_getElem h1, List.getD_eq_getElem?_getD, List.getElem?_eq_getElem h2] at this
theorem MV.ext {M' : List (List Nat)} (h : MV p n w M) (h' : MV p n w M') (k : ∀ i j, i < n → j < w → ent M i j = ent M' i j) : M = M' := by
  refine mat_ext (h.1.trans h'.1.symm) fun i hi => ?_
  rw [h.1] at hi
  exact list_ext' ((h.get hi).1.trans (h'.get hi).1.symm) fun j hj => k i j hi (by rw [(h.get hi).1] at hj; exact hj)
end mv
def searchL (M : List (List Nat)) (c : Nat) : Nat → Nat → Option Nat
  | 0, _ => none
  | f + 1, k => if ent M k c ≠ 0 then some k else searchL M c f (k + 1)
theorem searchL_none {M : List (List Nat)} {c : Nat} : ∀ {f k : Nat}, (∀ i, k ≤ i → i < k + f → ent M i c = 0) → searchL M c f k = none
  | 0, _, _ => rfl
  | f + 1, k, h => by rw [searchL, if_neg (by simp [h k (Nat.le_refl _) (by omega)]), searchL_none fun i h1 h2 => h i (by omega) (by omega)]
theorem searchL_eq {M : List (List Nat)} {c q : Nat} : ∀ {f k : Nat}, k ≤ q → q < k + f → ent M q c ≠ 0 → (∀ i, k ≤ i → i < q → ent M i c = 0) → searchL M c f k = some q
  | 0, k, h1, h2, _, _ => by omega
  | f + 1, k, h1, h2, h3, h4 => by
    rw [searchL]
    by_cases e : k = q
    · subst e; rw [if_pos h3]
    · rw [if_neg (by simp [h4 k (Nat.le_refl _) (by omega)]), searchL_eq (by omega) (by omega) h3 fun i g1 g2 => h4 i (by omega) g2]
theorem searchL_inv {M : List (List Nat)} {c : Nat} : ∀ {f k : Nat}, match searchL M c f k with
    | none => ∀ i, k ≤ i → i < k + f → ent M i c = 0
    | some q => k ≤ q ∧ q < k + f ∧ ent M q c ≠ 0 ∧ ∀ i, k ≤ i → i < q → ent M i c = 0
  | 0, k => by intro i h1 h2; omega
  | f + 1, k => by
    rw [searchL]
    by_cases e : ent M k c ≠ 0
    · rw [if_pos e]; exact ⟨Nat.le_refl _, by omega, e, fun i h1 h2 => by omega⟩
    · rw [if_neg e]
      have e' : ent M k c = 0 := Classical.not_not.1 e
      have ih := searchL_inv (M := M) (c := c) (f := f) (k := k + 1)
      cases hs : searchL M c f (k + 1) with
      | none =>
        rw [hs] at ih
        intro i h1 h2
        rcases Nat.eq_or_lt_of_le h1 with g | g
        · rw [← g]; exact e'
        · exact ih i g (by omega)
      | some q =>
        rw [hs] at ih
        refine ⟨by omega, by omega, ih.2.2.1, fun i h1 h2 => ?_⟩
        rcases Nat.eq_or_lt_of_le h1 with g | g
        · rw [← g]; exact e'
        · exact ih.2.2.2 i g h2
/-! ### rows -/
def scaleL (p b : Nat) (r : List Nat) : List Nat := r.map fun x => b * x % p
def addRw (p : Nat) (a b : List Nat) (k : Nat) : List Nat := List.zipWith (fun x y => (x + k * y % p) % p) a b
section rows
variable {p w : Nat} {a b : List Nat}
theorem scaleL_rw (hp : 0 < p) {b : Nat} {r : List Nat} (h : r.length = w) : Rw p w (scaleL p b r) :=
  ⟨by simp [scaleL, h], fun x hx => by
    obtain ⟨y, _, rfl⟩ := List.mem_map.1 hx
    exact Nat.mod_lt _ hp⟩
theorem scaleL_get {b j : Nat} {r : List Nat} (h : j < r.length) : (scaleL p b r).getD j 0 = b * r.getD j 0 % p := by
  unfold scaleL
  rw [List.getD_eq_getElem?_getD, List.getElem?_map, List.getElem?_eq_getElem h, List.getD_eq_getElem?_getD, List.getElem?_eq_getElem h]; rfl
theorem addRw_rw (hp : 0 < p) {k : Nat} (ha : a.length = w) (hb : b.length = w) : Rw p w (addRw p a b k) := by
  refine ⟨by simp [addRw, ha, hb], fun x hx => ?_⟩
  unfold addRw at hx
  rw [List.zipWith_eq_zipWith_take_min] at hx
  rw [← List.zipWith_eq_zipWith_take_min] at hx
  obtain ⟨i, hi, rfl⟩ := List.mem_iff_getElem.1 hx
  rw [List.getElem_zipWith]
  exact Nat.mod_lt _ hp
theorem addRw_get {k j : Nat} (ha : j < a.length) (hb : j < b.length) : (addRw p a b k).getD j 0 = (a.getD j 0 + k * b.getD j 0 % p) % p := by
  unfold addRw
  rw [List.getD_eq_getElem?_getD, List.getElem?_eq_getElem (by simp; omega), List.getElem_zipWith, List.getD_eq_getElem?_getD, List.getElem?_eq_getElem ha, List.getD_eq_getElem?_getD, List.getElem?_eq_getElem hb]
  rfl
theorem addRw_zero (ha : Rw p w a) (hb : b.length = w) : addRw p a b 0 = a := by
  refine list_ext' (by simp [addRw, ha.1, hb]) fun j hj => ?_
  have hjw : j < w := by simpa [addRw, ha.1, hb] using hj
  rw [addRw_get (by rw [ha.1]; exact hjw) (by omega), Nat.zero_mul, Nat.zero_mod, Nat.add_zero, Nat.mod_eq_of_lt (ha.lt hjw)]
end rows
def swapL (M : List (List Nat)) (k q : Nat) : List (List Nat) := (M.set k (M.getD q [])).set q (M.getD k [])
def clearTo (p k c h : Nat) (rk : List Nat) (M : List (List Nat)) : List (List Nat) := M.mapIdx fun i row => if i = k ∨ h ≤ i then row else addRw p row rk ((0 + p - row.getD c 0) % p)
def pivRow (p c : Nat) (r : List Nat) : List Nat := scaleL p (r.getD c 0 ^ (p - 2) % p) r
def stepL (p : Nat) (M : List (List Nat)) (k q c : Nat) : List (List Nat) := clearTo p k c M.length (pivRow p c (M.getD q [])) ((swapL M k q).set k (pivRow p c (M.getD q [])))
def elimGo (p : Nat) : Nat → Nat → List (List Nat) → List Nat → List (List Nat) × List Nat
  | 0, _, M, pv => (M, pv)
  | t + 1, c, M, pv => if pv.length < M.length then (match searchL M c (M.length - pv.length) pv.length with
      | none => elimGo p t (c + 1) M pv
      | some q => elimGo p t (c + 1) (stepL p M pv.length q c) (pv ++ [c])) else (M, pv)
def elimL (p cols : Nat) (M : List (List Nat)) : List (List Nat) × List Nat := elimGo p cols 0 M []
section step
variable {p n w k q c h : Nat} {M : List (List Nat)} {rk : List Nat}
theorem swapL_mv (hM : MV p n w M) (hk : k < n) (hq : q < n) : MV p n w (swapL M k q) := (hM.set (hM.get hq)).set (hM.get hk)
theorem swapL_get (hk : k < M.length) (hq : q < M.length) (i : Nat) : (swapL M k q).getD i [] = if i = q then M.getD k [] else if i = k then M.getD q [] else M.getD i [] := by
  unfold swapL
  rw [getD_set (by simpa using hq), getD_set hk]
theorem clearTo_len : (clearTo p k c h rk M).length = M.length := by simp [clearTo]
theorem clearTo_get {i : Nat} (hi : i < M.length) : (clearTo p k c h rk M).getD i [] = if i = k ∨ h ≤ i then M.getD i [] else addRw p (M.getD i []) rk ((0 + p - (M.getD i []).getD c 0) % p) := by
  unfold clearTo
  rw [List.getD_eq_getElem?_getD, List.getElem?_mapIdx, List.getElem?_eq_getElem hi, List.getD_eq_getElem?_getD, List.getElem?_eq_getElem hi]; rfl
theorem clearTo_zero : clearTo p k c 0 rk M = M := by
  refine mat_ext clearTo_len fun i hi => ?_
  rw [clearTo_get (by rw [clearTo_len] at hi; exact hi), if_pos (.inr (Nat.zero_le _))]
theorem clearTo_same (hh : h = k) : clearTo p k c (h + 1) rk M = clearTo p k c h rk M := by
  refine mat_ext (by rw [clearTo_len, clearTo_len]) fun i hi => ?_
  rw [clearTo_len] at hi
  rw [clearTo_get hi, clearTo_get hi]
  by_cases e : i = k
  · rw [if_pos (.inl e), if_pos (.inl e)]
  · by_cases g : h ≤ i
    · rw [if_pos (.inr (by omega)), if_pos (.inr g)]
    · rw [if_neg (by omega), if_neg (by omega)]
theorem clearTo_set (hh : h ≠ k) (hl : h < M.length) : (clearTo p k c h rk M).set h (addRw p (M.getD h []) rk ((0 + p - (M.getD h []).getD c 0) % p)) = clearTo p k c (h + 1) rk M := by
  refine mat_ext (by rw [List.length_set, clearTo_len, clearTo_len]) fun i hi => ?_
  rw [List.length_set, clearTo_len] at hi
  rw [getD_set (by rw [clearTo_len]; exact hl), clearTo_get hi, clearTo_get hi]
  by_cases e : i = h
  · subst e; rw [if_pos rfl, if_neg (by omega)]
  · rw [if_neg e]
    by_cases e2 : i = k
    · rw [if_pos (.inl e2), if_pos (.inl e2)]
    · by_cases g : h ≤ i
      · rw [if_pos (.inr g), if_pos (.inr (by omega))]
      · rw [if_neg (by omega), if_neg (by omega)]
theorem clearTo_mv (hp : 0 < p) (hM : MV p n w M) (hr : rk.length = w) : MV p n w (clearTo p k c h rk M) := by
  refine ⟨clearTo_len.trans hM.1, fun r hr' => ?_⟩
  obtain ⟨i, hi, rfl⟩ := List.mem_iff_getElem.1 hr'
  rw [clearTo_len, hM.1] at hi
  have e := clearTo_get (p := p) (k := k) (c := c) (h := h) (rk := rk) (M := M) (i := i) (by rw [hM.1]; exact hi)
  rw [List.getD_eq_getElem?_getD, List.getElem?_eq_getElem (by rw [clearTo_len, hM.1]; exact hi)] at e
  simp only [Option.getD_some] at e
  rw [e]
  split
  · exact hM.get hi
  · exact addRw_rw hp (hM.get hi).1 hr
theorem pivRow_rw (hp : 0 < p) {r : List Nat} (h : r.length = w) : Rw p w (pivRow p c r) := scaleL_rw hp h
theorem stepL_mv (hp : 0 < p) (hM : MV p n w M) (hk : k < n) (hq : q < n) : MV p n w (stepL p M k q c) :=
  clearTo_mv hp ((swapL_mv hM hk hq).set (pivRow_rw hp (hM.get hq).1)) (pivRow_rw hp (hM.get hq).1).1
variable [NeZero p]
def fM (p : Nat) [NeZero p] (M : List (List Nat)) (i j : Nat) : Fin p := fz p (ent M i j)
theorem stepL_fM (hM : MV p n w M) (hk : k < n) (hq : q < n) (hc : c < w) : ∀ i j, i < n → j < w →
    fM p (stepL p M k q c) i j = if i = k then fz p (ent M q c ^ (p - 2) % p) * fM p M q j else (if i = q then fM p M k j else fM p M i j) - (if i = q then fM p M k c else fM p M i c) * (fz p (ent M q c ^ (p - 2) % p) * fM p M q j) := by
  intro i j hi hj
  have hp : 0 < p := Nat.pos_of_ne_zero (NeZero.ne p)
  have hl : M.length = n := hM.1
  have hsw : (swapL M k q).length = n := by simp [swapL, hl]
  have hpr : ∀ j, j < w → (pivRow p c (M.getD q [])).getD j 0 = ent M q c ^ (p - 2) % p * ent M q j % p := fun j hj => scaleL_get (by rw [(hM.get hq).1]; exact hj)
  have hlen : (pivRow p c (M.getD q [])).length = w := (pivRow_rw hp (hM.get hq).1).1
  unfold fM
  have e1 : ent (stepL p M k q c) i j = if i = k then ent M q c ^ (p - 2) % p * ent M q j % p else
      ((if i = q then ent M k j else ent M i j) + ((0 + p - (if i = q then ent M k c else ent M i c)) % p) * (ent M q c ^ (p - 2) % p * ent M q j % p) % p) % p := by
    show ((stepL p M k q c).getD i []).getD j 0 = _
    unfold stepL
    rw [clearTo_get (by rw [List.length_set, hsw]; exact hi), getD_set (by rw [hsw]; exact hk), swapL_get (by omega) (by omega)]
    by_cases e : i = k
    · rw [if_pos (.inl e), if_pos e, if_pos e]; exact hpr j hj
    · rw [if_neg (by omega), if_neg e, if_neg e]
      by_cases e2 : i = q
      · rw [if_pos e2, if_pos e2, if_pos e2, if_neg e, addRw_get (by rw [(hM.get hk).1]; exact hj) (by rw [hlen]; exact hj), hpr j hj]; rfl
      · rw [if_neg e2, if_neg e2, if_neg e2, if_neg e, addRw_get (by rw [(hM.get hi).1]; exact hj) (by rw [hlen]; exact hj), hpr j hj]; rfl
  rw [e1]
  by_cases e : i = k
  · rw [if_pos e, if_pos e, fz_mul]
  · rw [if_neg e, if_neg e]
    by_cases e2 : i = q
    · rw [if_pos e2, if_pos e2, if_pos e2, if_pos e2, fz_add, fz_mul, fz_mul, fz_neg (Nat.le_of_lt (hM.lt hk hc))]; grind
    · rw [if_neg e2, if_neg e2, if_neg e2, if_neg e2, fz_add, fz_mul, fz_mul, fz_neg (Nat.le_of_lt (hM.lt hi hc))]; grind
theorem elimGo_end (hp : Pr p) {cols : Nat} (hw : cols ≤ w) {A0 : Nat → Nat → Fin p} : ∀ (t c : Nat) (M : List (List Nat)) (pv : List Nat), c + t = cols → MV p n w M → EInv n w A0 c pv.length (fM p M) (fun i => pv.getD i 0) →
    MV p n w (elimGo p t c M pv).1 ∧ EEnd n w A0 cols (elimGo p t c M pv).2.length (fM p (elimGo p t c M pv).1) (fun i => (elimGo p t c M pv).2.getD i 0)
  | 0, c, M, pv, hc, hM, hI => ⟨hM, hI.done (by omega) (.inl (by omega))⟩
  | t + 1, c, M, pv, hc, hM, hI => by
    have hl : M.length = n := hM.1
    rw [elimGo]
    by_cases hk : pv.length < M.length
    · rw [if_pos hk]
      have hs := searchL_inv (M := M) (c := c) (f := M.length - pv.length) (k := pv.length)
      cases e : searchL M c (M.length - pv.length) pv.length with
      | none =>
        rw [e] at hs
        exact elimGo_end hp hw t (c + 1) M pv (by omega) hM (hI.skip fun i h1 h2 => by
          show fz p (ent M i c) = 0
          rw [hs i h1 (by omega), fz_zero])
      | some q =>
        rw [e] at hs
        obtain ⟨h1, h2, h3, h4⟩ := hs
        have hq : q < n := by omega
        have hcw : c < w := by omega
        refine elimGo_end hp hw t (c + 1) _ _ (by omega) (stepL_mv (by have := hp.1; omega) hM (by omega) hq) ?_
        rw [List.length_append, List.length_singleton]
        refine hI.step (b := fz p (ent M q c ^ (p - 2) % p)) hcw h1 hq (fz_inv hp h3 (hM.lt hq hcw)) (stepL_fM hM (by omega) hq hcw) (fun i hi => ?_) ?_
        · simp [List.getD_eq_getElem?_getD, List.getElem?_append, hi]
        · simp [List.getD_eq_getElem?_getD]
    · rw [if_neg hk]
      exact ⟨hM, hI.done (by omega) (.inr (by have := hI.kn; omega))⟩
theorem elimL_end (hp : Pr p) {cols : Nat} (hw : cols ≤ w) (hM : MV p n w M) :
    MV p n w (elimL p cols M).1 ∧ EEnd n w (fM p M) cols (elimL p cols M).2.length (fM p (elimL p cols M).1) (fun i => (elimL p cols M).2.getD i 0) :=
  elimGo_end hp hw cols 0 M [] (by omega) hM EInv.start
end step
/-! ### the form of a matrix -/
def Same (p w : Nat) [NeZero p] (M R : List (List Nat)) : Prop := (∀ i, i < M.length → Sp R.length w (fM p R) (fM p M i)) ∧ ∀ i, i < R.length → Sp M.length w (fM p M) (fM p R i)
def rrefL (p cols : Nat) (M : List (List Nat)) : List (List Nat) × List Nat := ((elimL p cols M).1.take (elimL p cols M).2.length, (elimL p cols M).2)
section form
variable {p n w : Nat} {M R R' : List (List Nat)} {pv pv' : List Nat} [NeZero p]
theorem Same.refl : Same p w M M := ⟨fun _ hi => Sp.row hi, fun _ hi => Sp.row hi⟩
theorem Same.symm (h : Same p w M R) : Same p w R M := ⟨h.2, h.1⟩
theorem Same.trans (h : Same p w M R) (h' : Same p w R R') : Same p w M R' := ⟨fun i hi => Sp.trans h'.1 (h.1 i hi), fun i hi => Sp.trans h.2 (h'.2 i hi)⟩
end form
end Go.Proofs.Ytpbomhmflllemaa

/- Left kernels, ranks, solutions, on lists of numbers modulo a prime. -/
namespace Go.Proofs.Ytpbomhmflllemaa
theorem getD_appL {α : Type} {a b : List α} {i : Nat} {d : α} (h : i < a.length) : (a ++ b).getD i d = a.getD i d := by
  rw [List.getD_eq_getElem?_getD, List.getElem?_append_left h, List.getD_eq_getElem?_getD]
theorem getD_appR {α : Type} {a b : List α} {i : Nat} {d : α} (h : a.length ≤ i) : (a ++ b).getD i d = b.getD (i - a.length) d := by
  rw [List.getD_eq_getElem?_getD, List.getElem?_append_right h, List.getD_eq_getElem?_getD]
/-! ### the identity beside a matrix -/
def unitL (n i : Nat) : List Nat := (List.replicate n 0).set i 1
def widenL (M : List (List Nat)) (n : Nat) : List (List Nat) := M.mapIdx fun i r => r ++ unitL n i
section widen
variable {p n w : Nat} {M : List (List Nat)}
theorem unitL_len (n i : Nat) : (unitL n i).length = n := by simp [unitL]
theorem widenL_get {i : Nat} (hi : i < M.length) : (widenL M n).getD i [] = M.getD i [] ++ unitL n i := by
  unfold widenL
  rw [List.getD_eq_getElem?_getD, List.getElem?_mapIdx, List.getElem?_eq_getElem hi, List.getD_eq_getElem?_getD, List.getElem?_eq_getElem hi]; rfl
theorem widenL_mv (hp : 1 < p) (hM : MV p n w M) : MV p n (w + n) (widenL M n) := by
  refine ⟨by simp [widenL, hM.1], fun r hr => ?_⟩
  obtain ⟨i, hi, rfl⟩ := List.mem_iff_getElem.1 hr
  have hi' : i < M.length := by simpa [widenL] using hi
  have e := widenL_get (n := n) hi'
  rw [List.getD_eq_getElem?_getD, List.getElem?_eq_getElem hi] at e
  simp only [Option.getD_some] at e
  rw [e]
  have hR := hM.get (i := i) (by rw [← hM.1]; exact hi')
  refine ⟨by rw [List.length_append, hR.1, unitL_len], fun x hx => ?_⟩
  rcases List.mem_append.1 hx with h | h
  · exact hR.2 x h
  · unfold unitL at h
    rcases List.mem_or_eq_of_mem_set h with g | g
    · have := List.eq_of_mem_replicate g; omega
    · omega
variable [NeZero p]
end widen
def kernelL (p w : Nat) (M : List (List Nat)) : List (List Nat) := ((elimL p w (widenL M M.length)).1.drop (elimL p w (widenL M M.length)).2.length).map fun r => r.drop w
def leftL (p w : Nat) (M : List (List Nat)) : List (List Nat) := (rrefL p M.length (kernelL p w M)).1
section left
variable {p n w : Nat} {M L L' : List (List Nat)} [NeZero p]
theorem kernelL_mv (hp : Pr p) (hM : MV p n w M) : MV p (n - (elimL p w (widenL M n)).2.length) n (kernelL p w M) ∧
    ∀ i l, i < n - (elimL p w (widenL M n)).2.length → l < n → fM p (kernelL p w M) i l = fM p (elimL p w (widenL M n)).1 ((elimL p w (widenL M n)).2.length + i) (w + l) := by
  have hl := hM.1
  subst hl
  obtain ⟨h1, h2⟩ := elimL_end hp (Nat.le_add_right w M.length) (widenL_mv (by have := hp.1; omega) hM)
  have hk := h2.kn
  refine ⟨⟨by simp [kernelL, h1.1], fun r hr => ?_⟩, fun i l hi hl => ?_⟩
  · obtain ⟨q, hq, rfl⟩ := List.mem_map.1 hr
    have := h1.2 q (List.mem_of_mem_drop hq)
    exact ⟨by rw [List.length_drop, this.1]; omega, fun x hx => this.2 x (List.mem_of_mem_drop hx)⟩
  · show fz p (ent (kernelL p w M) i l) = fz p (ent _ _ _)
    congr 1
    unfold ent kernelL
    have hlt : (elimL p w (widenL M M.length)).2.length + i < (elimL p w (widenL M M.length)).1.length := by rw [h1.1]; omega
    have e : (List.map (fun r => List.drop w r) (List.drop (elimL p w (widenL M M.length)).2.length (elimL p w (widenL M M.length)).1)).getD i [] = ((elimL p w (widenL M M.length)).1.getD ((elimL p w (widenL M M.length)).2.length + i) []).drop w := by
      rw [List.getD_eq_getElem?_getD, List.getElem?_map, List.getElem?_drop, List.getElem?_eq_getElem hlt, List.getD_eq_getElem?_getD, List.getElem?_eq_getElem hlt]; rfl
    rw [e, List.getD_eq_getElem?_getD, List.getElem?_drop, List.getD_eq_getElem?_getD (l := List.getD _ _ _)]
end left
section left2
variable {p n w : Nat} {M : List (List Nat)} [NeZero p]
end left2
/-! ### a row more, the transpose -/
section solv
variable {p n w : Nat} {M : List (List Nat)} {b : List Nat} [NeZero p]
def fR (p : Nat) [NeZero p] (r : List Nat) (j : Nat) : Fin p := fz p (r.getD j 0)
end solv
section turn
variable {p n w : Nat} {M : List (List Nat)}
variable [NeZero p]
end turn
end Go.Proofs.Ytpbomhmflllemaa

/- Solutions, combinations of rows, on lists of numbers modulo a prime. -/
namespace Go.Proofs.Ytpbomhmflllemaa
def restGo (p : Nat) (W : List (List Nat)) : Nat → List Nat → List Nat → List Nat
  | _, [], rest => rest
  | k, c :: cs, rest => restGo p W (k + 1) cs (addRw p rest (W.getD k []) ((0 + p - rest.getD c 0) % p))
def restL (p w : Nat) (M : List (List Nat)) (b : List Nat) : List Nat := restGo p (elimL p w (widenL M M.length)).1 0 (elimL p w (widenL M M.length)).2 (b ++ List.replicate M.length 0)
def zeroL (r : List Nat) : Bool := r.all fun x => x == 0
def solveL (p w : Nat) (M : List (List Nat)) (b : List Nat) : Option (List Nat) :=
  if zeroL ((restL p w M b).take w) = true then some (((restL p w M b).drop w).map fun y => (0 + p - y) % p) else none
def actGo (p : Nat) : List Nat → List (List Nat) → List Nat → List Nat
  | x :: xs, r :: rs, out => actGo p xs rs (addRw p out r x)
  | _, _, out => out
def actL (p w : Nat) (x : List Nat) (M : List (List Nat)) : List Nat := actGo p x M (List.replicate w 0)
section s
variable {p n w : Nat} {M : List (List Nat)} {b : List Nat} [NeZero p]
theorem Rw.ext {a b : List Nat} (ha : Rw p w a) (hb : Rw p w b) (h : ∀ j, j < w → fR p a j = fR p b j) : a = b :=
  list_ext' (ha.1.trans hb.1.symm) fun j hj => fz_inj (ha.lt (by rw [← ha.1]; exact hj)) (hb.lt (by rw [← ha.1]; exact hj)) (h j (by rw [← ha.1]; exact hj))
theorem fR_row {i j : Nat} : fR p (M.getD i []) j = fM p M i j := rfl
theorem addRw_fR {a r : List Nat} {k j : Nat} (ha : a.length = w) (hr : r.length = w) (hj : j < w) : fR p (addRw p a r k) j = fR p a j + fz p k * fR p r j := by
  unfold fR
  rw [addRw_get (by omega) (by omega), fz_add, fz_mul]
theorem restGo_post {W : List (List Nat)} {pv : List Nat} {r0 : List Nat} {A0 : Nat → Nat → Fin p} {m cols : Nat} (hW : MV p n m W) (h : EEnd n m A0 cols pv.length (fM p W) (fun i => pv.getD i 0)) (hc : cols ≤ m) (hr0 : Rw p m r0) :
    ∀ (cs : List Nat) (t : Nat) (rest : List Nat), t + cs.length = pv.length → (∀ i, i < cs.length → cs.getD i 0 = pv.getD (t + i) 0) → Rw p m rest → (∀ j, j < m → fR p rest j = fR p r0 j - sg (fun i => fR p r0 (pv.getD i 0) * fM p W i j) t) →
      Rw p m (restGo p W t cs rest) ∧ ∀ j, j < m → fR p (restGo p W t cs rest) j = fR p r0 j - sg (fun i => fR p r0 (pv.getD i 0) * fM p W i j) pv.length
  | [], t, rest, ht, _, h1, h2 => ⟨h1, by rw [show pv.length = t by simpa using ht.symm]; exact h2⟩
  | c :: cs, t, rest, ht, hcs, h1, h2 => by
    have hp : 0 < p := Nat.pos_of_ne_zero (NeZero.ne p)
    have hkn := h.kn
    have htl : t < pv.length := by simp at ht; omega
    have hcv : c = pv.getD t 0 := by have := hcs 0 (by simp); simpa using this
    have hcm : c < m := by have := h.lt t htl; omega
    have hrow := hW.get (i := t) (by omega)
    refine restGo_post hW h hc hr0 cs (t + 1) _ (by simp at ht; omega) (fun i hi => ?_) (addRw_rw hp h1.1 hrow.1) fun j hj => ?_
    · have := hcs (i + 1) (by simpa using hi)
      rw [List.getD_cons_succ] at this
      rw [this, show t + (i + 1) = t + 1 + i by omega]
    · rw [addRw_fR h1.1 hrow.1 hj, fz_neg (Nat.le_of_lt (h1.lt hcm)), h2 j hj, sg]
      have e : fz p (rest.getD c 0) = fR p r0 (pv.getD t 0) := by
        show fR p rest c = _
        rw [h2 c hcm, hcv, sg_zero fun i hi => by rw [h.piv i t (by omega) htl, if_neg (by omega)]; grind]
        grind
      rw [e, fR_row]; grind
theorem restL_post (hp : Pr p) (hM : MV p n w M) (hb : Rw p w b) : Rw p (w + n) (restL p w M b) ∧ ∀ j, j < w + n → fR p (restL p w M b) j = (if j < w then fR p b j else 0) - sg (fun i => fR p b ((elimL p w (widenL M n)).2.getD i 0) * fM p (elimL p w (widenL M n)).1 i j) (elimL p w (widenL M n)).2.length := by
  have hl := hM.1
  subst hl
  obtain ⟨h1, h2⟩ := elimL_end hp (Nat.le_add_right w M.length) (widenL_mv (by have := hp.1; omega) hM)
  have hr0 : Rw p (w + M.length) (b ++ List.replicate M.length 0) := ⟨by simp [hb.1], fun x hx => by
    rcases List.mem_append.1 hx with g | g
    · exact hb.2 x g
    · rw [List.eq_of_mem_replicate g]; have := hp.1; omega⟩
  have e : ∀ j, fR p (b ++ List.replicate M.length 0) j = if j < w then fR p b j else 0 := by
    intro j
    unfold fR
    by_cases hj : j < w
    · rw [if_pos hj, getD_appL (by rw [hb.1]; exact hj)]
    · rw [if_neg hj, getD_appR (by rw [hb.1]; omega), List.getD_eq_getElem?_getD, List.getElem?_replicate]
      split <;> exact fz_zero
  obtain ⟨k1, k2⟩ := restGo_post h1 h2 (Nat.le_add_right _ _) hr0 (elimL p w (widenL M M.length)).2 0 _ (by omega) (fun i _ => by rw [Nat.zero_add]) hr0 fun j _ => by simp only [sg]; grind
  refine ⟨k1, fun j hj => (k2 j hj).trans ?_⟩
  rw [e]
  congr 1
  exact sg_congr fun i hi => by rw [e, if_pos (h2.lt i hi)]
theorem actGo_post : ∀ (x : List Nat) (rs : List (List Nat)) (out : List Nat), x.length = rs.length → (∀ r ∈ rs, r.length = w) → Rw p w out →
    Rw p w (actGo p x rs out) ∧ ∀ j, j < w → fR p (actGo p x rs out) j = fR p out j + sg (fun i => fR p x i * fM p rs i j) rs.length
  | [], [], out, _, _, h => ⟨h, fun j _ => by
    show fR p out j = fR p out j + 0
    grind⟩
  | y :: x, r :: rs, out, hl, hr, h => by
    have hp : 0 < p := Nat.pos_of_ne_zero (NeZero.ne p)
    have hrw := hr r (by simp)
    obtain ⟨h1, h2⟩ := actGo_post x rs (addRw p out r y) (by simpa using hl) (fun q hq => hr q (by simp [hq])) (addRw_rw hp h.1 hrw)
    refine ⟨h1, fun j hj => ?_⟩
    rw [actGo, h2 j hj, addRw_fR h.1 hrw hj]
    have left : ∀ (f : Nat → Fin p) (n : Nat), sg f (n + 1) = f 0 + sg (fun i => f (i + 1)) n := by
      intro f n
      induction n with
      | zero => simp only [sg]; grind
      | succ n ih => rw [sg, ih, sg]; grind
    rw [List.length_cons, left]
    have e : sg (fun i => fR p (y :: x) (i + 1) * fM p (r :: rs) (i + 1) j) rs.length = sg (fun i => fR p x i * fM p rs i j) rs.length := sg_congr fun i _ => by
      unfold fR fM ent
      rw [List.getD_cons_succ, List.getD_cons_succ]
    rw [e]
    have e2 : fR p (y :: x) 0 * fM p (r :: rs) 0 j = fz p y * fR p r j := rfl
    rw [e2]; grind
  | [], _ :: _, _, h, _, _ => by simp at h
  | _ :: _, [], _, h, _, _ => by simp at h
theorem actL_post (hM : MV p n w M) {x : List Nat} (hx : x.length = n) : Rw p w (actL p w x M) ∧ ∀ j, j < w → fR p (actL p w x M) j = sg (fun i => fR p x i * fM p M i j) n := by
  have hp : 0 < p := Nat.pos_of_ne_zero (NeZero.ne p)
  obtain ⟨h1, h2⟩ := actGo_post x M (List.replicate w 0) (hx.trans hM.1.symm) (fun r hr => (hM.2 r hr).1) ⟨by simp, fun y hy => by rw [List.eq_of_mem_replicate hy]; exact hp⟩
  refine ⟨h1, fun j hj => (h2 j hj).trans ?_⟩
  have : fR p (List.replicate w 0) j = 0 := by
    unfold fR
    rw [List.getD_eq_getElem?_getD, List.getElem?_replicate, if_pos hj]; exact fz_zero
  rw [this, hM.1]; grind
end s
end Go.Proofs.Ytpbomhmflllemaa

/- From a contract by value to a row: the arguments opened, what is shown behind the call. -/
namespace Go.Proofs.Ytpbomhmflllemaa
open Go.ChangeShapes Go.WideShapes Go.ChangeAt Go.RowKit
section
variable {H : Type} {enc : TypeId × Value → H} {P : Program} {W W' : World}
theorem trodAll_below (hl : laidOutB P = true) (hb : Below W.heap.size W W') : ∀ {ts : List TypeId} {vs : List Value} {ds : List (DataW H)} {ps : List MemPlace}, (ts.all fun t => P.readableRec t && decide (t < P.types.size)) = true → (∀ x ∈ ps, x.block < W.heap.size) →
    DataW.TrodAll enc P W 0 (fun _ => true) true ts vs ds ps → DataW.TrodAll enc P W' 0 (fun b => decide (b < W.heap.size)) true ts vs ds ps
  | [], vs, ds, ps, _, _, h => by obtain ⟨rfl, rfl, rfl⟩ := trodAll_nil h; exact trodAll_mk0
  | t :: ts, vs, ds, ps, hr, hlt, h => by
    obtain ⟨v, vs', d, ds', p, q, rfl, rfl, rfl, h1, h2⟩ := trodAll_cons h
    simp only [List.all_cons, Bool.and_eq_true, decide_eq_true_eq] at hr
    exact trodAll_cons_mk (Below.trod hl hr.1.1 hr.1.2 h1 hb fun x hx => hlt x (List.mem_append.2 (.inl hx))) (trodAll_below hl hb hr.2 (fun x hx => hlt x (List.mem_append.2 (.inr hx))) h2)
theorem law_post {f : Func} {s : ChangeSpec} {args : Array Value} {ds gs : List (DataW H)} {before : List MemPlace} {tb : TypeId} (hl : laidOutB P = true) (hr : (f.params.toList.all fun t => P.readableRec t && decide (t < P.types.size)) = true) (hres : f.resultTypes = #[tb])
    (htb : P.underlying tb = some .bool) (hvars : s.vars = []) (hs : s.fn H ds = { results := [.lit (.bool true)], args := ds }) (hW : DataW.Whole enc P f.params.toList s.vars false W args.toList ds gs before) (hb : Below W.heap.size W W') :
    s.post enc P f false true false false W args (.bool true) W' := by
  have hW' := hW
  obtain ⟨p, q, hA, hV, rfl, hz, hn⟩ := hW
  have hlt := hW'.lt
  rw [hvars] at hV
  obtain ⟨rfl, rfl⟩ := trodVars_none hV
  have e : s.fn H (ds ++ []) = { results := [.lit (.bool true)], args := ds } := by rw [List.append_nil]; exact hs
  refine ⟨ds, [], p ++ [], [], p, [], hW', ?_, ?_, ?_, hb.frame _, fun h => by cases h⟩
  · rw [e, hres]; exact trodAll_mk1 (shut_bool htb true)
  · rw [e]; exact trodAll_below hl hb hr (fun x hx => hlt x (List.mem_append.2 (.inl hx))) hA
  · rw [e, hvars]; exact rfl
theorem Rc.sc (S : Nat → Prop) (w : World) (v : Value) : Rc S w (.sc v) v := R.sc v
theorem Rc.scs (S : Nat → Prop) (w : World) (l : List Value) : Rc S w (.ag (l.map .sc)) (.agg l.toArray) :=
  R.ag (by simp) fun i x u hx hu => by
    rw [List.getElem?_map] at hx
    rw [List.getElem?_toArray] at hu
    rw [hu] at hx
    cases hx; exact .sc _
theorem AllC.nil (S : Nat → Prop) (w : World) : AllC S w [] [] := ⟨rfl, fun i x u hx => by simp at hx⟩
theorem AllC.cons {S : Nat → Prop} {w : World} {x : V} {v : Value} {xs : List V} {vs : List Value} (h : Rc S w x v) (k : AllC S w xs vs) : AllC S w (x :: xs) (v :: vs) :=
  ⟨by simp [k.1], fun i y u hy hu => by
    cases i with
    | zero => simp at hy hu; subst hy; subst hu; exact h
    | succ i => simp at hy hu; exact k.2 i y u hy hu⟩
theorem Spec.law {f : Nat} {xs : List V} {args : Array Value} (h : Spec P f xs (.sc (.bool true))) (ht : TabOK (fun b => b < W.heap.size) W) (ha : AllC (fun b => b < W.heap.size) W xs args.toList) : Calls P f args W fun e W' => e = .returned (.bool true) ∧ Below W.heap.size W W' := by
  refine (h _ W args (fun _ h => h) ht ha).mono ?_
  rintro e W' ⟨v, rfl, hg, hx⟩
  have : v = .bool true := by
    generalize hq : V.sc (.bool true) = q at hx
    cases hx <;> cases hq
    rfl
  exact ⟨by rw [this], hg.os, hg.tape, hg.output, hg.size, hg.block⟩
theorem u8_wf (n : Int) (h : (Lit.int .u8 n).wf = true) : 0 ≤ n ∧ n ≤ (255 : Nat) := by
  have h1 : IntKind.u8.min = 0 := rfl
  have h2 : IntKind.u8.max = 255 := rfl
  simp [Lit.wf] at h
  omega
end
end Go.Proofs.Ytpbomhmflllemaa

/- Arguments opened: what a readable value of a given shape is as a tree. -/
namespace Go.Proofs.Ytpbomhmflllemaa
open Go.ChangeShapes Go.WideShapes Go.ChangeAt Go.RowKit
inductive Shp where
  | int (k : IntKind) | bool | str
  | arr (n : Nat) (s : Shp)
  | slc (s : Shp)
  | st (l : List Shp)
mutual
/-- the cells of a value of the shape, as trees -/
def Shp.Rep : Shp → List V → Prop
  | .int k, ys => ∃ n : Int, ys = [.sc (.int k n)] ∧ (Lit.int k n).wf = true
  | .bool, ys => ∃ b, ys = [.sc (.bool b)]
  | .str, ys => ∃ s : ByteArray, ys = [.sc (.string s)] ∧ s.size ≤ maxLen
  | .arr n s, ys => ∃ yss : List (List V), yss.length = n ∧ ys = yss.flatten ∧ ∀ z ∈ yss, s.Rep z
  | .slc s, ys => ∃ yss : List (List V), yss.length ≤ maxLen ∧ ys = [.im yss.flatten yss.length] ∧ ∀ z ∈ yss, s.Rep z
  | .st l, ys => Shp.Reps l ys
def Shp.Reps : List Shp → List V → Prop
  | [], ys => ys = []
  | s :: r, ys => ∃ a b, ys = a ++ b ∧ s.Rep a ∧ Shp.Reps r b
end
mutual
/-- the type has the shape -/
def Shp.ok (P : Program) : Shp → TypeId → Bool
  | .int k, t => match P.underlying t with
    | some (.int k') => k' == k && P.cellsOf t == 1
    | _ => false
  | .bool, t => match P.underlying t with
    | some .bool => P.cellsOf t == 1
    | _ => false
  | .str, t => match P.underlying t with
    | some .string => P.cellsOf t == 1
    | _ => false
  | .arr n s, t => match P.underlying t with
    | some (.array m e) => m == n && s.ok P e && P.cellsOf t == n * P.cellsOf e
    | _ => false
  | .slc s, t => match P.underlying t with
    | some (.slice e) => s.ok P e && P.cellsOf t == 1
    | _ => false
  | .st l, t => match P.underlying t with
    | some (.struct fs) => Shp.oks P l fs.toList 0 (P.cellsOf t)
    | _ => false
def Shp.oks (P : Program) : List Shp → List Field → Nat → Nat → Bool
  | [], fs, off, n => fs.isEmpty && off == n
  | s :: r, fs, off, n => match fs with
    | f :: fs => f.offset == off && s.ok P f.type && Shp.oks P r fs (off + P.cellsOf f.type) n
    | [] => false
end
section
variable {S : Nat → Prop} {w : World}
theorem AllC.append {xs ys : List V} {vs us : List Value} (h : AllC S w xs vs) (k : AllC S w ys us) : AllC S w (xs ++ ys) (vs ++ us) := by
  refine ⟨by simp [h.1, k.1], fun i x u hx hu => ?_⟩
  have hl := h.1
  rw [List.getElem?_append] at hx hu
  by_cases hi : i < xs.length
  · rw [if_pos hi] at hx; rw [if_pos (by omega)] at hu
    exact h.2 i x u hx hu
  · rw [if_neg hi] at hx; rw [if_neg (by omega), ← hl] at hu
    exact k.2 _ x u hx hu
theorem AllC.rows {Q : List V → Prop} {sz : Nat} : ∀ (n : Nat) (cs : List Value), cs.length = n * sz → (∀ i, i < n → ∃ ys, Q ys ∧ AllC S w ys ((cs.drop (i * sz)).take sz)) → ∃ yss : List (List V), yss.length = n ∧ (∀ z ∈ yss, Q z) ∧ AllC S w yss.flatten cs
  | 0, cs, hl, _ => by
    have : cs = [] := List.eq_nil_of_length_eq_zero (by simpa using hl)
    subst this
    exact ⟨[], rfl, fun z hz => by simp at hz, AllC.nil _ _⟩
  | n + 1, cs, hl, h => by
    obtain ⟨ys, hq, ha⟩ := h 0 (by omega)
    rw [Nat.zero_mul, List.drop_zero] at ha
    have hl' : cs.length = n * sz + sz := by rw [hl, Nat.add_mul, Nat.one_mul]
    obtain ⟨yss, h1, h2, h3⟩ := AllC.rows (Q := Q) (sz := sz) n (cs.drop sz) (by simp [hl']) fun i hi => by
      obtain ⟨zs, hz, hb⟩ := h (i + 1) (by omega)
      refine ⟨zs, hz, ?_⟩
      rwa [List.drop_drop, show sz + i * sz = (i + 1) * sz by rw [Nat.add_mul]; omega]
    refine ⟨ys :: yss, by simp [h1], fun z hz => ?_, ?_⟩
    · rcases List.mem_cons.1 hz with rfl | hz
      · exact hq
      · exact h2 z hz
    · have := ha.append h3
      rwa [List.take_append_drop] at this
end
theorem addr_add (a : Addr) (i j : Nat) : (a.add i).add j = a.add (i + j) := by
  unfold Addr.add
  by_cases hj : j = 0
  · subst hj; simp
  · by_cases hi : i = 0
    · subst hi; simp
    · rw [if_neg hj, if_neg hi, if_neg (by omega)]; simp; omega
section
variable {H : Type} {enc : TypeId × Value → H} {P : Program} {w : World} {base : Nat} {sp : Nat → Bool} {held : Bool}
mutual
theorem open_rep : ∀ (s : Shp) {t : TypeId} {fuel : Nat} {cs : List Value} {x : DataW H × List MemPlace}, s.ok P t = true → DataW.trod enc P w base sp held fuel t cs = some x → cs.length = P.cellsOf t ∧ ∃ ys, s.Rep ys ∧ AllC (fun b => b < w.heap.size) w ys cs
  | .int k, t, fuel, cs, x, ho, h => by
    simp only [Shp.ok] at ho
    split at ho
    · rename_i k' hu
      simp only [Bool.and_eq_true, beq_iff_eq] at ho
      obtain ⟨rfl, hc⟩ := ho
      obtain ⟨n, rfl, _, hw⟩ := DataW.trod_int hu h
      exact ⟨hc.symm, _, ⟨n, rfl, hw⟩, AllC.cons (Rc.sc _ _ _) (AllC.nil _ _)⟩
    · cases ho
  | .bool, t, fuel, cs, x, ho, h => by
    simp only [Shp.ok] at ho
    split at ho
    · rename_i hu
      simp only [beq_iff_eq] at ho
      obtain ⟨n, rfl, _⟩ := DataW.trod_bool hu h
      exact ⟨ho.symm, _, ⟨n, rfl⟩, AllC.cons (Rc.sc _ _ _) (AllC.nil _ _)⟩
    · cases ho
  | .str, t, fuel, cs, x, ho, h => by
    simp only [Shp.ok] at ho
    split at ho
    · rename_i hu
      simp only [beq_iff_eq] at ho
      obtain ⟨n, rfl, _, hl⟩ := DataW.trod_string hu h
      exact ⟨ho.symm, _, ⟨n, rfl, hl⟩, AllC.cons (Rc.sc _ _ _) (AllC.nil _ _)⟩
    · cases ho
  | .arr n s, t, fuel, cs, x, ho, h => by
    simp only [Shp.ok] at ho
    split at ho
    · rename_i m e hu
      simp only [Bool.and_eq_true, beq_iff_eq] at ho
      obtain ⟨⟨rfl, ho⟩, hc⟩ := ho
      obtain ⟨xs, q, _, _, hl, hn, hel⟩ := DataW.trod_array hu h
      refine ⟨hl, ?_⟩
      obtain ⟨yss, h1, h2, h3⟩ := AllC.rows (S := fun b => b < w.heap.size) (w := w) (Q := s.Rep) m cs (by rw [hl, hc]) fun i hi => by
        have := hel i hi
        rw [List.getElem?_eq_getElem (by omega)] at this
        exact (open_rep s ho this).2
      exact ⟨_, ⟨yss, h1, rfl, h2⟩, h3⟩
    · cases ho
  | .slc s, t, fuel, cs, x, ho, h => by
    simp only [Shp.ok] at ho
    split at ho
    · rename_i e hu
      simp only [Bool.and_eq_true, beq_iff_eq] at ho
      obtain ⟨ho, hc⟩ := ho
      rcases DataW.trod_slice hu h with ⟨rfl, _⟩ | ⟨a, len, cap, elems, rest, n, _, rfl, _, hb, hl, hm, hlen, hel, _, _⟩
      · exact ⟨hc.symm, _, ⟨[], by simp, rfl, fun z hz => by simp at hz⟩, AllC.cons (.im0 (Nat.le_refl _) (by unfold maxLen; omega) (fun _ => rfl)) (AllC.nil _ _)⟩
      · refine ⟨hc.symm, ?_⟩
        obtain ⟨f, hf⟩ : ∃ f : Nat → Value, f = fun i => (w.cell? (a.add i)).getD undef := ⟨_, rfl⟩
        have each : ∀ i, i < len → w.cells? base (a.add (i * P.cellsOf e)) (P.cellsOf e) = some ((((List.range (len * P.cellsOf e)).map f).drop (i * P.cellsOf e)).take (P.cellsOf e)) ∧ ∃ y, DataW.trod enc P w base sp held n e ((((List.range (len * P.cellsOf e)).map f).drop (i * P.cellsOf e)).take (P.cellsOf e)) = some y := by
          intro i hi
          have h1 := hel i hi
          rw [List.getElem?_eq_getElem (by omega), Option.bind_eq_some_iff] at h1
          obtain ⟨cs', h2, h3⟩ := h1
          obtain ⟨_, h4, h5⟩ := World.cells?_some h2
          have hle : i * P.cellsOf e + P.cellsOf e ≤ len * P.cellsOf e := by
            have := Nat.mul_le_mul_right (P.cellsOf e) (show i + 1 ≤ len by omega)
            rwa [Nat.add_mul, Nat.one_mul] at this
          have he : cs' = (((List.range (len * P.cellsOf e)).map f).drop (i * P.cellsOf e)).take (P.cellsOf e) := by
            refine List.ext_getElem? fun j => ?_
            rw [List.getElem?_take]
            split
            · rename_i hj
              have h6 := h5 j hj
              rw [addr_add] at h6
              rw [List.getElem?_drop, List.getElem?_map, List.getElem?_range (by omega), Option.map_some, hf]
              simp only
              rw [h6, List.getElem?_eq_getElem (by omega)]; rfl
            · rw [List.getElem?_eq_none (by omega)]
          rw [← he]
          exact ⟨h2, _, h3⟩
        obtain ⟨yss, h1, h2, h3⟩ := AllC.rows (S := fun b => b < w.heap.size) (w := w) (Q := s.Rep) (sz := P.cellsOf e) len ((List.range (len * P.cellsOf e)).map f) (by simp) fun i hi => by
          obtain ⟨_, y, hy⟩ := each i hi
          exact (open_rep s ho hy).2
        refine ⟨_, ⟨yss, by omega, rfl, h2⟩, AllC.cons ?_ (AllC.nil _ _)⟩
        rw [h1]
        by_cases h0 : yss.flatten = []
        · rw [h0]; exact .im0 hl hm (fun h => by cases h)
        · have hpos : 0 < len * P.cellsOf e := by
            have h4 := h3.1
            simp only [List.length_map, List.length_range] at h4
            rw [← h4]
            exact List.length_pos_iff.2 h0
          have cell : ∀ i, i < len * P.cellsOf e → w.cell? (a.add i) = some (f i) := by
            intro i hi
            have hsz : 0 < P.cellsOf e := Nat.pos_of_ne_zero fun h => by rw [h, Nat.mul_zero] at hpos; omega
            have hd : i / P.cellsOf e < len := (Nat.div_lt_iff_lt_mul hsz).2 hi
            obtain ⟨h4, _⟩ := each (i / P.cellsOf e) hd
            obtain ⟨_, _, h5⟩ := World.cells?_some h4
            have h6 := h5 (i % P.cellsOf e) (Nat.mod_lt _ hsz)
            rw [addr_add, Nat.mul_comm, Nat.div_add_mod, List.getElem?_take, if_pos (Nat.mod_lt _ hsz), List.getElem?_drop, Nat.mul_comm, Nat.mul_comm, List.getElem?_map] at h6
            rw [h6, Nat.div_add_mod, List.getElem?_range hi]; rfl
          have c0 := cell 0 hpos
          rw [show a.add 0 = a by simp [Addr.add]] at c0
          obtain ⟨b, off, spot⟩ := a
          have hsp : spot = none := by
            cases spot with
            | none => rfl
            | some _ =>
              simp only [World.cell?] at c0
              split at c0
              · simp at c0
              · cases c0
          subst hsp
          have hbl : b < w.heap.size := by
            simp only [World.cell?] at c0
            split at c0
            · rename_i hb'; exact (Array.getElem?_eq_some_iff.1 hb').1
            · cases c0
          refine .im1 f hl hm hbl (fun i x hx => ?_) (fun i x hx => ?_)
          · have hi : i < len * P.cellsOf e := by
              have := (List.getElem?_eq_some_iff.1 hx).1
              have h4 := h3.1
              simp only [List.length_map, List.length_range] at h4
              omega
            have := cell i hi
            unfold Addr.add at this
            split at this
            · rename_i hi0; subst hi0; exact this
            · exact this
          · have hi : i < len * P.cellsOf e := by
              have := (List.getElem?_eq_some_iff.1 hx).1
              have h4 := h3.1
              simp only [List.length_map, List.length_range] at h4
              omega
            exact h3.2 i x (f i) hx (by rw [List.getElem?_map, List.getElem?_range hi]; rfl)
    · cases ho
  | .st l, t, fuel, cs, x, ho, h => by
    simp only [Shp.ok] at ho
    split at ho
    · rename_i fs hu
      obtain ⟨xs, n, _, _, hl, hn, hel⟩ := DataW.trod_struct hu h
      refine ⟨hl, ?_⟩
      obtain ⟨ys, h1, h2⟩ := open_reps l (fs := fs.toList) (off := 0) (cs := cs) (n := n) (m := P.cellsOf t) ho hl (fun i f hf => by
        have := hel i f (by simpa using hf)
        have hi := (List.getElem?_eq_some_iff.1 hf).1
        rw [List.getElem?_eq_getElem (by rw [hn]; simpa using hi)] at this
        exact ⟨_, this⟩)
      rw [List.drop_zero] at h2
      exact ⟨ys, h1, h2⟩
    · cases ho
theorem open_reps : ∀ (l : List Shp) {fs : List Field} {off n m : Nat} {cs : List Value}, Shp.oks P l fs off m = true → cs.length = m → (∀ (i : Nat) (f : Field), fs[i]? = some f → ∃ x : DataW H × List MemPlace, DataW.trod enc P w base sp held n f.type ((cs.drop f.offset).take (P.cellsOf f.type)) = some x) →
    ∃ ys, Shp.Reps l ys ∧ AllC (fun b => b < w.heap.size) w ys (cs.drop off)
  | [], fs, off, n, m, cs, ho, hl, h => by
    simp only [Shp.oks, Bool.and_eq_true, beq_iff_eq] at ho
    refine ⟨[], rfl, ?_⟩
    rw [List.drop_of_length_le (by omega)]
    exact AllC.nil _ _
  | s :: r, [], off, n, m, cs, ho, hl, h => by simp [Shp.oks] at ho
  | s :: r, f :: fs, off, n, m, cs, ho, hl, h => by
    simp only [Shp.oks, Bool.and_eq_true, beq_iff_eq] at ho
    obtain ⟨⟨h1, h2⟩, h3⟩ := ho
    obtain ⟨x, hx⟩ := h 0 f rfl
    obtain ⟨hlen, ys, h4, h5⟩ := open_rep s h2 hx
    obtain ⟨zs, h6, h7⟩ := open_reps r h3 hl fun i g hg => h (i + 1) g (by simpa using hg)
    refine ⟨ys ++ zs, ⟨ys, zs, rfl, h4, h6⟩, ?_⟩
    have := h5.append h7
    rwa [h1, ← List.drop_drop, List.take_append_drop] at this
end
def Shp.Val : Shp → V → Prop
  | .arr n s, x => ∃ ys, x = .ag ys ∧ (Shp.arr n s).Rep ys
  | .st l, x => ∃ ys, x = .ag ys ∧ Shp.Reps l ys
  | .int k, x => ∃ n : Int, x = .sc (.int k n) ∧ (Lit.int k n).wf = true
  | .bool, x => ∃ b, x = .sc (.bool b)
  | .str, x => ∃ s : ByteArray, x = .sc (.string s) ∧ s.size ≤ maxLen
  | .slc s, x => ∃ yss : List (List V), yss.length ≤ maxLen ∧ x = .im yss.flatten yss.length ∧ ∀ z ∈ yss, s.Rep z
def Shp.Vals : List Shp → List V → Prop
  | [], xs => xs = []
  | s :: r, xs => ∃ x ys, xs = x :: ys ∧ s.Val x ∧ Shp.Vals r ys
theorem rc_agg {S : Nat → Prop} {ys : List V} {cs : Array Value} (h : AllC S w ys cs.toList) : Rc S w (.ag ys) (.agg cs) :=
  .ag (by have := h.1; simpa using this) fun i x u hx hu => h.2 i x u hx (by simpa using hu)
theorem open_arg (s : Shp) {t : TypeId} {v : Value} {d : DataW H} {ps : List MemPlace} (ho : s.ok P t = true) (hval : Value.okWide P w .any 0 t v) (hd : DataW.Trod enc P w 0 (fun _ => true) true t v d ps) : ∃ x, s.Val x ∧ Rc (fun b => b < w.heap.size) w x v := by
  obtain ⟨fuel, hf⟩ := hd
  obtain ⟨_, ys, h1, h2⟩ := open_rep s ho hf
  have one : ∀ {y : V}, (∀ cs, v ≠ .agg cs) → ys = [y] → Rc (fun b => b < w.heap.size) w y v := by
    intro y hv e
    subst e
    have hc : v.cells.toList = [v] := by cases v <;> first | rfl | exact absurd rfl (hv _)
    rw [hc] at h2
    exact h2.2 0 y v rfl rfl
  cases s with
  | int k =>
    obtain ⟨n, rfl, hw⟩ := h1
    simp only [Shp.ok] at ho
    split at ho
    · rename_i hu
      obtain ⟨m, rfl⟩ := okWide_int hu hval
      exact ⟨_, ⟨n, rfl, hw⟩, one (fun cs e => by cases e) rfl⟩
    · cases ho
  | bool =>
    obtain ⟨b, rfl⟩ := h1
    simp only [Shp.ok] at ho
    split at ho
    · rename_i hu
      obtain ⟨m, rfl⟩ := okWide_bool hu hval
      exact ⟨_, ⟨b, rfl⟩, one (fun cs e => by cases e) rfl⟩
    · cases ho
  | str =>
    obtain ⟨b, rfl, hl⟩ := h1
    simp only [Shp.ok] at ho
    split at ho
    · rename_i hu
      refine ⟨_, ⟨b, rfl, hl⟩, one (fun cs e => ?_) rfl⟩
      subst e
      simp [Value.okWide, Cell.okWide, Cell.ok, hu] at hval
    · cases ho
  | slc s =>
    obtain ⟨yss, h3, rfl, h4⟩ := h1
    simp only [Shp.ok] at ho
    split at ho
    · rename_i hu
      refine ⟨_, ⟨yss, h3, rfl, h4⟩, one (fun cs e => ?_) rfl⟩
      subst e
      simp [Value.okWide, Cell.okWide, Cell.ok, hu] at hval
    · cases ho
  | arr n s =>
    have ho' := ho
    simp only [Shp.ok] at ho
    split at ho
    · rename_i hu
      obtain ⟨cs, rfl, _⟩ : ∃ cs, v = .agg cs ∧ cs.size = P.cellsOf t ∧ Row.okWide P w .any 0 t cs := by simpa [Value.okWide, hu] using hval
      exact ⟨_, ⟨ys, rfl, h1⟩, rc_agg h2⟩
    · cases ho
  | st l =>
    simp only [Shp.ok] at ho
    split at ho
    · rename_i hu
      obtain ⟨cs, rfl, _⟩ : ∃ cs, v = .agg cs ∧ cs.size = P.cellsOf t ∧ Row.okWide P w .any 0 t cs := by simpa [Value.okWide, hu] using hval
      exact ⟨_, ⟨ys, rfl, h1⟩, rc_agg h2⟩
    · cases ho
def Shp.okL (P : Program) : List Shp → List TypeId → Bool
  | [], [] => true
  | s :: r, t :: ts => s.ok P t && Shp.okL P r ts
  | _, _ => false
theorem open_args : ∀ (ss : List Shp) {ts : List TypeId} {vs : List Value} {ds : List (DataW H)} {ps : List MemPlace}, Shp.okL P ss ts = true → (∀ (j : Nat) t v, ts[j]? = some t → vs[j]? = some v → Value.okWide P w .any 0 t v) → DataW.TrodAll enc P w 0 (fun _ => true) true ts vs ds ps →
    ∃ xs, Shp.Vals ss xs ∧ AllC (fun b => b < w.heap.size) w xs vs ∧ ds.length = ts.length
  | [], [], vs, ds, ps, _, _, h => by obtain ⟨rfl, rfl, rfl⟩ := trodAll_nil h; exact ⟨[], rfl, AllC.nil _ _, rfl⟩
  | [], t :: ts, _, _, _, ho, _, _ => by cases ho
  | s :: r, [], _, _, _, ho, _, _ => by cases ho
  | s :: r, t :: ts, vs, ds, ps, ho, hv, h => by
    simp only [Shp.okL, Bool.and_eq_true] at ho
    obtain ⟨v, vs', d, ds', p, q, rfl, rfl, rfl, h1, h2⟩ := trodAll_cons h
    obtain ⟨x, h3, h4⟩ := open_arg s ho.1 (hv 0 t v rfl rfl) h1
    obtain ⟨xs, h5, h6, h7⟩ := open_args r ho.2 (fun j t v a b => hv (j + 1) t v (by simpa using a) (by simpa using b)) h2
    exact ⟨x :: xs, ⟨x, xs, rfl, h3, h5⟩, AllC.cons h4 h6, by simp [h7]⟩
theorem law_calls {f : Nat} {fn : Func} (ss : List Shp) {args : Array Value} {ds : List (DataW H)} {p : List MemPlace} (hok : Shp.okL P ss fn.params.toList = true)
    (hval : ∀ (j : Nat) t v, fn.params[j]? = some t → args[j]? = some v → Value.okWide P w .any 0 t v) (hA : DataW.TrodAll enc P w 0 (fun _ => true) true fn.params.toList args.toList ds p)
    (ht : TabOK (fun b => b < w.heap.size) w) (hs : ∀ xs, Shp.Vals ss xs → Spec P f xs (.sc (.bool true))) : ds.length = fn.params.size ∧ Calls P f args w fun e w' => e = .returned (.bool true) ∧ Below w.heap.size w w' := by
  obtain ⟨xs, h1, h2, h3⟩ := open_args ss hok (fun j t v a b => hval j t v (by simpa using a) (by simpa using b)) hA
  exact ⟨by simpa using h3, Spec.law (hs xs h1) ht h2⟩
/-! ### what is in a shape -/
theorem reps_ints {k : IntKind} : ∀ {yss : List (List V)}, (∀ z ∈ yss, (Shp.int k).Rep z) → ∃ ns : List Int, yss.flatten = ns.map (fun n => .sc (.int k n)) ∧ ns.length = yss.length ∧ ∀ n ∈ ns, (Lit.int k n).wf = true
  | [], _ => ⟨[], rfl, rfl, fun n hn => by simp at hn⟩
  | y :: r, h => by
    obtain ⟨n, rfl, hw⟩ := h y (by simp)
    obtain ⟨ns, h1, h2, h3⟩ := reps_ints (yss := r) fun z hz => h z (by simp [hz])
    exact ⟨n :: ns, by simp [h1], by simp [h2], fun m hm => by
      rcases List.mem_cons.1 hm with rfl | hm
      · exact hw
      · exact h3 m hm⟩
theorem wf_nat {k : IntKind} {M : Nat} (hk : ∀ n, (Lit.int k n).wf = true → 0 ≤ n ∧ n ≤ M) {n : Int} (h : (Lit.int k n).wf = true) : ∃ m : Nat, n = m ∧ m ≤ M := by
  obtain ⟨h1, h2⟩ := hk n h
  exact ⟨n.toNat, by omega, by omega⟩
end
end Go.Proofs.Ytpbomhmflllemaa

/- Loops of a known number of rounds: round by round. -/
namespace Go.Proofs.Ytpbomhmflllemaa
open Go.RowKit
def SR (P : Program) (B : Base) (c : Code) (cs : List Code) (Q : Exit → SS → Prop) : Nat → SS → Prop
  | 0, _ => False
  | n + 1, s => SC P B [c] (thenQ (SR P B c cs Q n) (thenQ (SC P B cs Q) Q)) s
theorem SR.next {P : Program} {B : Base} {c : Code} {cs : List Code} {Q : Exit → SS → Prop} {n : Nat} {s : SS} (h : SC P B [c] (thenQ (SR P B c cs Q n) (thenQ (SC P B cs Q) Q)) s) : SR P B c cs Q (n + 1) s := h
theorem SC.loopN {P : Program} {B : Base} {c : Code} {cs : List Code} {Q : Exit → SS → Prop} {s : SS} (n : Nat) (h : SR P B c cs Q n s) : SC P B (.loop c :: cs) Q s := by
  have key : ∀ n s, SR P B c cs Q n s → ∀ S rho A a w, Rel B S rho A s a w → Code.rounds P c (Post B (thenQ (SC P B cs Q) Q)) n a w := by
    intro n
    induction n with
    | zero => intro s h; exact h.elim
    | succ n ih =>
      intro s h S rho A a w hr
      have h1 : SWp P B c (thenQ (SC P B [] (thenQ (SR P B c cs Q n) (thenQ (SC P B cs Q) Q))) (thenQ (SR P B c cs Q n) (thenQ (SC P B cs Q) Q))) s := h
      refine wp_mono (h1 S rho A a w hr) ?_
      rintro e a w ⟨S, rho, A, s', hq, hr'⟩
      cases e with
      | normal => exact ih s' hq S rho A a w hr'
      | _ => exact ⟨S, rho, A, s', hq, hr'⟩
  intro S rho A a w hr
  exact wp_loop_rounds n (key n s h S rho A a w hr)
end Go.Proofs.Ytpbomhmflllemaa
