/- 'IntegerExt' returns true for every input, and each argument reads afterwards as it read before; the package-level tables as the program's text lays them. No other conditions. -/
import Derived.Test.YtbpcgeanpkokkaaDoorRows
import Derived.Test.YtbpcgeanpkokkaaDoorCards
import Derived.Test.YtbpcgeanpkokkaaDoorTie
import Derived.Test.YtbpcgeanpkokkaaDoorZc
import Derived.Test.YtbpcgeanpkokkaaDoorZd
import Derived.Test.YtbpcgeanpkokkaaDoorZf
import Derived.Test.YtbpcgeanpkokkaaDoorZh
set_option linter.all false

namespace Go.Proofs.YtbpcgeanpkokkaaDoor
open Go.ChangeShapes Go.WideShapes Go.ChangeAt Go.RowKit

set_option maxHeartbeats 1000000 in
theorem pext_zero : Spec Tryd.prog 40 [iv 0, iv 0] (.tu [iv 0, iv 0, iv 0]) := by
  have c1 := pabs_i 0 1 (Fits.zero _) (by omega)
  have c3 := pof_i 1 (by omega) (by omega)
  have c4 := pof_i 0 (by omega) (by omega)
  have c5 := psign_i 0 1 (Fits.zero _) (by omega)
  have e0 : ((0 : Int).natAbs : Int) = 0 := rfl
  rw [e0] at c1
  have q1 : ((0 : Int).sign != 0) = false := by decide
  have q2 : ((0 : Int).sign == 0) = true := by decide
  unfold iv sv at *
  refine Spec.run Tryd.func40 rfl Tryd.ntmps40 (by simp) (by simp (disch := omega) only [go_sem, Nat.reduceAdd]; rfl) fun B hB => ?_
  (repeat (first | refine DO.nil (by kernel_rfl) ?_ | with_reducible refine SC.seq ?_ | with_reducible refine SC.skip ?_ | with_reducible refine SC.label ?_ | with_reducible refine SC.block ?_ | with_reducible refine SC.scope ?_ | with_reducible refine SC.nil ?_ | with_reducible refine SC.exit ?_ | with_reducible refine SC.ret ?_ | with_reducible refine SO.nil ?_ | with_reducible refine tq_normal ?_ | with_reducible refine bq_normal ?_ | with_reducible refine bq_same ?_ | with_reducible refine bq_other (by decide) ?_ | with_reducible refine tq_exit ?_ | with_reducible refine tq_ret ?_ | with_reducible refine bq_ret ?_ | with_reducible refine sq_normal ?_ | with_reducible refine sq_exit ?_ | with_reducible refine sq_ret ?_ | ((with_reducible apply SC.condB); (focus (simp (disch := omega) only [go_sem, ↓reduceIte, Nat.reduceEqDiff, Nat.reduceLT, Nat.reduceLeDiff, Nat.reduceAdd, Nat.reduceMul, Nat.reduceSub, reduceCtorEq, Nat.reduceBEq, Int.reduceToNat, Int.reducePow, if_pos, if_neg]; rfl)); (first | refine pickT ?_ | refine pickF ?_)) | ((with_reducible apply SC.region); (focus (simp (disch := omega) only [go_sem, ↓reduceIte, Nat.reduceEqDiff, Nat.reduceAdd, reduceCtorEq]; rfl))) | ((with_reducible refine SC.draw Tab.mixed ?_ ?_); (focus (first | rfl | simp (disch := omega) only [go_sem, ↓reduceIte, Nat.reduceEqDiff, Nat.reduceLT, Nat.reduceLeDiff, Nat.reduceAdd, Nat.reduceMul, Nat.reduceSub, reduceCtorEq, Nat.reduceBEq, Int.reduceToNat, Int.reducePow, if_pos, if_neg]))) | (with_reducible refine SC.ops ?_) | ((first | apply SO.call | apply DO.call); (focus (simp (disch := omega) only [go_sem])); (focus (simp (disch := omega) only [go_sem, ↓reduceIte]; rfl)); (focus (simp (disch := omega) only [go_sem] <;> rfl)); (first | (apply SCall.of; (focus (first | assumption)); (focus (simp (disch := omega) only [go_sem]; rfl))) | (apply DCall.of; (focus (first | assumption)); (focus (simp (disch := omega) only [go_sem]; rfl))) | (apply SCall.ofF; (focus (first | assumption)); (focus (simp (disch := omega) only [go_sem, ↓reduceIte, Nat.reduceEqDiff, Nat.reduceLT, Nat.reduceLeDiff, Nat.reduceAdd, Nat.reduceMul, Nat.reduceSub, reduceCtorEq, Nat.reduceBEq, Int.reduceToNat, Int.reducePow, if_pos, if_neg]; rfl))))) | ((first | with_reducible apply SO.run | with_reducible apply DO.run); (focus (simp (disch := omega) only [go_sem, ↓reduceIte, Nat.reduceEqDiff, Nat.reduceLeDiff, Nat.reduceAdd, reduceCtorEq]; rfl)))))
  refine SC.loop (fun w : Unit => ⟨[(2, .pt 0 0), (3, .pt 1 0), (4, .pt 2 0), (5, .pt 3 0), (6, .pt 4 0), (7, .pt 5 0), (8, .pt 6 0), (9, .pt 7 0), (10, .pt 8 0), (11, .pt 9 0), (12, .pt 10 0)],
    [(0, ⟨28, ic 0, false⟩), (1, ⟨28, ic 0, false⟩), (2, ⟨28, z0, false⟩), (3, ⟨28, z0, false⟩), (4, ⟨28, z0, false⟩), (5, ⟨28, ic 0, false⟩), (6, ⟨28, ic 0, false⟩), (7, ⟨28, ic 1, false⟩), (8, ⟨28, ic 0, false⟩), (9, ⟨28, ic 0, false⟩), (10, ⟨28, ic 1, false⟩)], 11, 67⟩)
    (fun _ => True) (fun _ => 0) () ?_ trivial ?_
  · unfold ic z0
    (refine Le.of [] hB (by first | exact ⟨Nat.zero_le _, fun _ _ => Nat.zero_le _⟩ | (constructor <;> (try simp) <;> (try omega))) ?_ ?_ <;> (repeat' (first | exact leSl_nil | exact leHp_nil | refine leSl_cons (by simp (disch := omega) only [go_sem, ↓reduceIte, Nat.reduceEqDiff]; rfl) ?_ ?_ | refine leHp_cons (by simp (disch := omega) only [go_sem, ↓reduceIte, Nat.reduceEqDiff, reduceCtorEq]; rfl) ?_ ?_ | exact VLe.junk _ | exact VLe.refl rfl | exact VLe.nil_sl _ _ _ | exact VLe.int (by first | rfl | omega | (dsimp only; omega)) | exact VLe.bool rfl | exact VLe.sl rfl (by first | rfl | omega | (dsimp only; omega) | (simp; done)) | exact VLe.cap rfl (by first | rfl | omega | (dsimp only; omega) | (simp; done)) | exact VLe.im rfl rfl | exact HLe.new rfl | exact HLe.same rfl (LLe.refl rfl) | refine HLe.same rfl ?_ | exact LLe.nil _ | exact LLe.refl rfl | refine LLe.cons ?_ ?_)))
  · rintro w - K' hK'
    unfold ic z0
    (repeat (first | refine DO.nil (by kernel_rfl) ?_ | with_reducible refine SC.seq ?_ | with_reducible refine SC.skip ?_ | with_reducible refine SC.label ?_ | with_reducible refine SC.block ?_ | with_reducible refine SC.scope ?_ | with_reducible refine SC.nil ?_ | with_reducible refine SC.exit ?_ | with_reducible refine SC.ret ?_ | with_reducible refine SO.nil ?_ | with_reducible refine tq_normal ?_ | with_reducible refine bq_normal ?_ | with_reducible refine bq_same ?_ | with_reducible refine bq_other (by decide) ?_ | with_reducible refine tq_exit ?_ | with_reducible refine tq_ret ?_ | with_reducible refine bq_ret ?_ | with_reducible refine sq_normal ?_ | with_reducible refine sq_exit ?_ | with_reducible refine sq_ret ?_ | ((with_reducible apply SC.condB); (focus (simp (disch := omega) only [go_sem, ↓reduceIte]; rfl)); (first | refine pickT ?_ | refine pickF ?_)) | ((with_reducible apply SC.region); (focus (simp (disch := omega) only [go_sem, ↓reduceIte, Nat.reduceEqDiff, Nat.reduceLeDiff, Nat.reduceAdd, reduceCtorEq]; rfl))) | ((with_reducible refine SC.draw Tab.mixed ?_ ?_); (focus (first | rfl | simp (disch := omega) only [go_sem, ↓reduceIte, Nat.reduceEqDiff, Nat.reduceLT, Nat.reduceLeDiff, Nat.reduceAdd, Nat.reduceMul, Nat.reduceSub, reduceCtorEq, Nat.reduceBEq, Int.reduceToNat, Int.reducePow, if_pos, if_neg, q1, q2]))) | (with_reducible refine SC.ops ?_) | ((first | apply SO.call | apply DO.call); (focus (simp (disch := omega) only [go_sem])); (focus (simp (disch := omega) only [go_sem, ↓reduceIte]; rfl)); (focus (simp (disch := omega) only [go_sem] <;> rfl)); (first | (apply SCall.of; (focus (first | assumption)); (focus (simp (disch := omega) only [go_sem]; rfl))) | (apply DCall.of; (focus (first | assumption)); (focus (simp (disch := omega) only [go_sem, ↓reduceIte, Nat.reduceEqDiff, Nat.reduceLT, Nat.reduceLeDiff, Nat.reduceAdd, Nat.reduceMul, Nat.reduceSub, reduceCtorEq, Nat.reduceBEq, Int.reduceToNat, Int.reducePow, if_pos, if_neg, q1, q2]; rfl))) | (apply SCall.ofF; (focus (first | assumption)); (focus (simp (disch := omega) only [go_sem, ↓reduceIte, Nat.reduceEqDiff, Nat.reduceLT, Nat.reduceLeDiff, Nat.reduceAdd, Nat.reduceMul, Nat.reduceSub, reduceCtorEq, Nat.reduceBEq, Int.reduceToNat, Int.reducePow, if_pos, if_neg, q1, q2]; rfl))))) | ((first | with_reducible apply SO.run | with_reducible apply DO.run); (focus (simp (disch := omega) only [go_sem, ↓reduceIte, Nat.reduceEqDiff, Nat.reduceLeDiff, Nat.reduceAdd, reduceCtorEq, q1, q2]; rfl)))))
    exact retQ_ret Tryd.results40 (by simp (disch := omega) only [go_sem, ↓reduceIte, Nat.reduceEqDiff, Nat.reduceLeDiff, Nat.reduceAdd, reduceCtorEq]; rfl) (by simp (disch := omega) only [go_sem, ↓reduceIte]; rfl) rfl

set_option maxHeartbeats 8000000 in
theorem iext_s (l1 l2 : List Nat) (b1 b2 : Bool) (h1 : limbs l1) (h2 : limbs l2) (e1 : l1.length ≤ 9223372036854775807) (e2 : l2.length ≤ 9223372036854775807) :
    Spec Tryd.prog 10 [.ag [.im (lv l1) l1.length, .sc (.bool b1)], .ag [.im (lv l2) l2.length, .sc (.bool b2)]] (.sc (.bool true)) := by
  have k1 := take_le l1 6
  have k2 := take_le l2 6
  have m1 := lawmade_s (l1.take 6) _ b1 (limbs_take h1 6) rfl (by omega)
  have m2 := lawmade_s (l2.take 6) _ b2 (limbs_take h2 6) rfl (by omega)
  have fa := (made12_take h1 6 b1).mono (L := 100) (by omega)
  have fb := (made12_take h2 6 b2).mono (L := 100) (by omega)
  generalize made12 (l1.take 6) b1 = a at *
  generalize made12 (l2.take 6) b2 = b at *
  have w1 := min_take l1 6
  have w2 := min_take l2 6
  simp only [Int.cast_ofNat_Int] at w1 w2
  have u1 := take_take_len l1 6
  have u2 := take_take_len l2 6
  have c5 := rgcd_i a b 100 fa fb (by omega)
  by_cases h0 : Int.gcd a b = 0
  · have ha0 : a = 0 := by have := Int.gcd_eq_zero_iff.1 h0; exact this.1
    have hb0 : b = 0 := by have := Int.gcd_eq_zero_iff.1 h0; exact this.2
    subst ha0; subst hb0
    have c1 := pext_zero
    have c2 := rvalid_i 0 100 (Fits.zero _) (by omega)
    have c6 := same_i 0 0 (fits_short (Fits.zero 1) (by omega)) (fits_short (Fits.zero 1) (by omega))
    rw [decide_eq_true rfl] at c6
    have c7 := sign_i 0 100 (Fits.zero _) (by omega)
    have q1 : ((0 : Int).sign == 0) = true := by decide
    rw [show ((Int.gcd 0 0 : Nat) : Int) = 0 from rfl] at c5
    unfold iv sv at *
    refine Spec.run Tryd.func10 rfl Tryd.ntmps10 (by simp) (by simp (disch := omega) only [go_sem, Nat.reduceAdd]; rfl) fun B hB => ?_
    (repeat (first | refine DO.nil (by kernel_rfl) ?_ | with_reducible refine SC.seq ?_ | with_reducible refine SC.skip ?_ | with_reducible refine SC.label ?_ | with_reducible refine SC.block ?_ | with_reducible refine SC.scope ?_ | with_reducible refine SC.nil ?_ | with_reducible refine SC.exit ?_ | with_reducible refine SC.ret ?_ | with_reducible refine SO.nil ?_ | with_reducible refine tq_normal ?_ | with_reducible refine bq_normal ?_ | with_reducible refine bq_same ?_ | with_reducible refine bq_other (by decide) ?_ | with_reducible refine tq_exit ?_ | with_reducible refine tq_ret ?_ | with_reducible refine bq_ret ?_ | with_reducible refine sq_normal ?_ | with_reducible refine sq_exit ?_ | with_reducible refine sq_ret ?_ | ((with_reducible apply SC.condB); (focus (simp (disch := omega) only [go_sem, ↓reduceIte]; rfl)); (first | refine pickT ?_ | refine pickF ?_)) | ((with_reducible apply SC.region); (focus (simp (disch := omega) only [go_sem, ↓reduceIte, Nat.reduceEqDiff, Nat.reduceLeDiff, Nat.reduceAdd, reduceCtorEq]; rfl))) | ((with_reducible refine SC.draw Tab.mixed ?_ ?_); (focus (first | rfl | simp (disch := omega) only [go_sem, ↓reduceIte, Nat.reduceEqDiff, Nat.reduceLT, Nat.reduceLeDiff, Nat.reduceAdd, Nat.reduceMul, Nat.reduceSub, reduceCtorEq, Nat.reduceBEq, Int.reduceToNat, Int.reducePow, if_pos, if_neg, beq_self_eq_true, q1, w1, w2, u1, u2, lv_len, lv_take]))) | (with_reducible refine SC.ops ?_) | ((first | apply SO.call | apply DO.call); (focus (simp (disch := omega) only [go_sem])); (focus (simp (disch := omega) only [go_sem, ↓reduceIte, Nat.reduceEqDiff]; rfl)); (focus (simp (disch := omega) only [go_sem, ↓reduceIte, Nat.reduceEqDiff, beq_self_eq_true] <;> rfl)); (first | (apply SCall.of; (focus (first | assumption | exact sanity_s)); (focus (simp (disch := omega) only [go_sem]; rfl))) | (apply DCall.of; (focus (first | assumption | exact sanity_s)); (focus (simp (disch := omega) only [go_sem]; rfl))) | (apply SCall.ofF; (focus (first | assumption | exact sanity_s)); (focus (simp (disch := omega) only [go_sem, ↓reduceIte, Nat.reduceEqDiff, Nat.reduceLT, Nat.reduceLeDiff, Nat.reduceAdd, Nat.reduceMul, Nat.reduceSub, reduceCtorEq, Nat.reduceBEq, Int.reduceToNat, Int.reducePow, if_pos, if_neg, beq_self_eq_true, q1, w1, w2, u1, u2, lv_len, lv_take]; rfl))))) | ((first | with_reducible apply SO.run | with_reducible apply DO.run); (focus (simp (disch := omega) only [go_sem, ↓reduceIte, Nat.reduceEqDiff, Nat.reduceLeDiff, Nat.reduceAdd, reduceCtorEq, if_pos, beq_self_eq_true, q1, w1, w2, u1, u2, lv_take]; rfl)))))
    exact retQ_ret Tryd.results10 (by simp (disch := omega) only [go_sem, ↓reduceIte]; rfl) (by simp (disch := omega) only [go_sem]; rfl) rfl
  · have c1 := pext_i a b 100 fa fb (by omega) _ rfl h0
    have hgle := gcd_le a b
    have fg : Fits 101 (Int.gcd a b : Int) := by
      have : 4294967296 ^ 101 = 4294967296 ^ 100 * 4294967296 := by rw [← Nat.pow_succ]
      unfold Fits at *; rw [this]
      generalize 4294967296 ^ 100 = M at *
      rw [Int.natAbs_natCast]; omega
    obtain ⟨fs, ft, hB, hs, ht⟩ := ext_spec (m := 4294967296 ^ 100) (Nat.le_of_lt fa) (Nat.le_of_lt fb) (Nat.pow_pos (by omega)) h0
    generalize (if a < 0 then -(extR a.natAbs b.natAbs 1 0 0 1).1 else (extR a.natAbs b.natAbs 1 0 0 1).1) = s at *
    generalize (if b < 0 then -(extR a.natAbs b.natAbs 1 0 0 1).2 else (extR a.natAbs b.natAbs 1 0 0 1).2) = t at *
    have hK1 : 4294967296 ^ 100 < 4294967296 ^ 101 := Nat.pow_lt_pow_right (by omega) (by omega)
    have fs : Fits 101 s := Nat.lt_of_le_of_lt fs hK1
    have ft : Fits 101 t := Nat.lt_of_le_of_lt ft hK1
    clear hK1
    have fas : ∀ x : Int, Fits 101 x → Fits 101 (x.natAbs : Int) := fun x h => by unfold Fits at *; rw [Int.natAbs_natCast]; exact h
    have c2 := rvalid_i (Int.gcd a b) 101 fg (by omega)
    have c3 := rvalid_i s 101 fs (by omega)
    have c4 := rvalid_i t 101 ft (by omega)
    have c6 := same_i (Int.gcd a b) (Int.gcd a b) (fits_short fg (by omega)) (fits_short fg (by omega))
    rw [decide_eq_true rfl] at c6
    have c7 := sign_i (Int.gcd a b) 101 fg (by omega)
    have q1 : (((Int.gcd a b : Int)).sign == 0) = false := by rw [beq_eq_false_iff_ne]; intro h; exact h0 (by have := Int.sign_eq_zero_iff_zero.1 h; omega)
    have c8 := rabs_i b 101 (fb.mono (by omega)) (by omega)
    have c9 := rabs_i a 101 (fa.mono (by omega)) (by omega)
    have f8 := fas b (fb.mono (by omega))
    have f9 := fas a (fa.mono (by omega))
    have c10 := divmod_i b.natAbs (Int.gcd a b) 101 f8 fg (by omega) (by omega)
    have c11 := divmod_i a.natAbs (Int.gcd a b) 101 f9 fg (by omega) (by omega)
    have fp : Fits 101 ((b.natAbs : Int) / (Int.gcd a b : Int)) := f8.ediv
    have fq : Fits 101 ((a.natAbs : Int) / (Int.gcd a b : Int)) := f9.ediv
    have c12 := rabs_i s 101 fs (by omega)
    have c13 := rabs_i t 101 ft (by omega)
    have c14 := cmp_i s.natAbs ((b.natAbs : Int) / (Int.gcd a b : Int)) 101 (fas s fs) fp (by omega)
    have c15 := cmp_i t.natAbs ((a.natAbs : Int) / (Int.gcd a b : Int)) 101 (fas t ft) fq (by omega)
    have c16 := of_i 1 (by omega) (by omega)
    have c17 := cmp_i s.natAbs 1 101 (fas s fs) (Fits.one (by omega)) (by omega)
    have c18 := cmp_i t.natAbs 1 101 (fas t ft) (Fits.one (by omega)) (by omega)
    have c19 := mul_i s a 101 fs (fa.mono (by omega)) (by omega)
    have c20 := mul_i t b 101 ft (fb.mono (by omega)) (by omega)
    have c21 := add_i (s * a) (t * b) 202 (fs.mul (fa.mono (L := 101) (by omega))) (ft.mul (fb.mono (L := 101) (by omega))) (by omega)
    rw [hB] at c21
    have hs' : (s.natAbs : Int) ≤ (b.natAbs : Int) / (Int.gcd a b : Int) ∨ (s.natAbs : Int) ≤ 1 := by
      have e : (b.natAbs : Int) / (Int.gcd a b : Int) = ((b.natAbs / Int.gcd a b : Nat) : Int) := by simp
      rw [e]; omega
    have ht' : (t.natAbs : Int) ≤ (a.natAbs : Int) / (Int.gcd a b : Int) ∨ (t.natAbs : Int) ≤ 1 := by
      have e : (a.natAbs : Int) / (Int.gcd a b : Int) = ((a.natAbs / Int.gcd a b : Nat) : Int) := by simp
      rw [e]; omega
    have hd : ∀ x y : Int, (x ≤ y ∨ x ≤ 1) → (decide ((x - y).sign ≤ 0) = true ∧ (true == true) = true) ∨ (decide ((x - y).sign ≤ 0) = false ∧ decide ((x - 1).sign ≤ 0) = true) := fun x y h => by
      have A := sign_cases (x - y)
      have A' := sign_cases (x - 1)
      by_cases hxy : x ≤ y
      · left; exact ⟨by rw [decide_eq_true_eq]; omega, rfl⟩
      · right; exact ⟨by rw [decide_eq_false_iff_not]; omega, by rw [decide_eq_true_eq]; omega⟩
    have hS := hd _ _ hs'
    have hT := hd _ _ ht'
    have bd : ∀ x : Int, -1 ≤ x.sign ∧ x.sign ≤ 1 := fun x => by have := sign_cases x; omega
    clear hd hs' ht' hB hs ht
    unfold iv sv at *
    generalize (Int.gcd a b : Int).sign = sg at *
    generalize ((s.natAbs : Int) - (b.natAbs : Int) / (Int.gcd a b : Int)).sign = x1 at *
    generalize ((t.natAbs : Int) - (a.natAbs : Int) / (Int.gcd a b : Int)).sign = x2 at *
    generalize ((s.natAbs : Int) - 1).sign = x3 at *
    generalize ((t.natAbs : Int) - 1).sign = x4 at *
    rcases hS with ⟨q2, q3⟩ | ⟨q2, q3⟩ <;> rcases hT with ⟨q4, q5⟩ | ⟨q4, q5⟩
    all_goals
      refine Spec.run Tryd.func10 rfl Tryd.ntmps10 (by simp) (by simp (disch := omega) only [go_sem, Nat.reduceAdd]; rfl) fun B hB => ?_
      (repeat (first | refine DO.nil (by kernel_rfl) ?_ | with_reducible refine SC.seq ?_ | with_reducible refine SC.skip ?_ | with_reducible refine SC.label ?_ | with_reducible refine SC.block ?_ | with_reducible refine SC.scope ?_ | with_reducible refine SC.nil ?_ | with_reducible refine SC.exit ?_ | with_reducible refine SC.ret ?_ | with_reducible refine SO.nil ?_ | with_reducible refine tq_normal ?_ | with_reducible refine bq_normal ?_ | with_reducible refine bq_same ?_ | with_reducible refine bq_other (by decide) ?_ | with_reducible refine tq_exit ?_ | with_reducible refine tq_ret ?_ | with_reducible refine bq_ret ?_ | with_reducible refine sq_normal ?_ | with_reducible refine sq_exit ?_ | with_reducible refine sq_ret ?_ | ((with_reducible apply SC.condB); (focus (simp (disch := omega) only [go_sem, ↓reduceIte]; rfl)); (first | refine pickT ?_ | refine pickF ?_)) | ((with_reducible apply SC.region); (focus (simp (disch := omega) only [go_sem, ↓reduceIte, Nat.reduceEqDiff, Nat.reduceLeDiff, Nat.reduceAdd, reduceCtorEq]; rfl))) | ((with_reducible refine SC.draw Tab.mixed ?_ ?_); (focus (first | rfl | simp (disch := omega) only [go_sem, ↓reduceIte, Nat.reduceEqDiff, Nat.reduceLT, Nat.reduceLeDiff, Nat.reduceAdd, Nat.reduceMul, Nat.reduceSub, reduceCtorEq, Nat.reduceBEq, Int.reduceToNat, Int.reducePow, if_pos, if_neg, beq_self_eq_true, q1, q2, q3, q4, q5, w1, w2, u1, u2, lv_len, lv_take]))) | (with_reducible refine SC.ops ?_) | ((first | apply SO.call | apply DO.call); (focus (simp (disch := omega) only [go_sem])); (focus (simp (disch := omega) only [go_sem, ↓reduceIte, Nat.reduceEqDiff]; rfl)); (focus (simp (disch := omega) only [go_sem, ↓reduceIte, Nat.reduceEqDiff, beq_self_eq_true] <;> rfl)); (first | (apply SCall.of; (focus (first | assumption | exact sanity_s)); (focus (simp (disch := omega) only [go_sem]; rfl))) | (apply DCall.of; (focus (first | assumption | exact sanity_s)); (focus (simp (disch := omega) only [go_sem]; rfl))) | (apply SCall.ofF; (focus (first | assumption | exact sanity_s)); (focus (simp (disch := omega) only [go_sem, ↓reduceIte, Nat.reduceEqDiff, Nat.reduceLT, Nat.reduceLeDiff, Nat.reduceAdd, Nat.reduceMul, Nat.reduceSub, reduceCtorEq, Nat.reduceBEq, Int.reduceToNat, Int.reducePow, if_pos, if_neg, beq_self_eq_true, q1, q2, q3, q4, q5, w1, w2, u1, u2, lv_len, lv_take]; rfl))))) | ((first | with_reducible apply SO.run | with_reducible apply DO.run); (focus (simp (disch := omega) only [go_sem, ↓reduceIte, Nat.reduceEqDiff, Nat.reduceLT, Nat.reduceLeDiff, Nat.reduceAdd, reduceCtorEq, if_pos, beq_self_eq_true, q1, q2, q3, q4, q5, w1, w2, u1, u2, lv_take]; rfl)))))
      exact retQ_ret Tryd.results10 (by simp (disch := omega) only [go_sem, ↓reduceIte]; rfl) (by simp (disch := omega) only [go_sem]; rfl) rfl

theorem spec_all (xs : List V) (h : Shp.Vals [.st [.slc (.int .u32), .bool], .st [.slc (.int .u32), .bool]] xs) : Spec Tryd.prog 10 xs (.sc (.bool true)) := by
  obtain ⟨x0, ys0, rfl, h0, x1, ys1, rfl, h1, rfl⟩ := h
  obtain ⟨l0, b0, rfl, hl0, hm0⟩ := number_shape h0
  obtain ⟨l1, b1, rfl, hl1, hm1⟩ := number_shape h1
  exact iext_s l0 l1 b0 b1 hl0 hl1 (by unfold maxLen at hm0; omega) (by unfold maxLen at hm1; omega)

theorem own : ownKnob Tryd.prog.godebug = none := by kernel_rfl
theorem laidOut : laidOutB Tryd.prog = true := by kernel_rfl

set_option maxRecDepth 100000 in
theorem law_contract (H : Type) (enc : TypeId × Value → H) (W : World) (base : Nat) (args : Array Value) (ds gs : List (DataW H)) (before : List MemPlace)
    (hval : ∀ (j : Nat) t v, Tryd.f10.params[j]? = some t → args[j]? = some v → Value.okWide Tryd.prog W .any 0 t v)
    (hW : DataW.Whole enc Tryd.prog Tryd.f10.params.toList Rows.integerExtSpec.vars false W args.toList ds gs before) (hL : laidMetH Tryd.prog Rows.integerExtRow.laid W) :
    Calls Tryd.prog 10 args W fun e W' => ∃ v, e = .returned v ∧ Rows.integerExtSpec.post enc Tryd.prog Tryd.f10 false true false false W args v W' := by
  have hW' := hW
  obtain ⟨p, q, hA0, hV, rfl, hfz, hnd⟩ := hW
  obtain ⟨hl, hc⟩ := law_calls (enc := enc) [.st [.slc (.int .u32), .bool], .st [.slc (.int .u32), .bool]] (by kernel_rfl) hval hA0 (tabs hL) spec_all
  refine hc.mono fun e W' ⟨he, hb⟩ => ?_
  subst he
  rw [show Tryd.f10.params.size = 2 by kernel_rfl] at hl
  obtain ⟨d0, d1, rfl⟩ : ∃ d0 d1, ds = [d0, d1] := by
    match ds, hl with
    | [a0, a1], _ => exact ⟨a0, a1, rfl⟩
  exact ⟨_, rfl, law_post laidOut (by kernel_rfl) (by kernel_rfl) Tryd.underlying4 rfl rfl hW' hb⟩

theorem laid_met (os : Os) : laidMet Tryd.prog Rows.integerExtRow.laid ((laidWorld os).forCall (fun _ _ => 0) ⟨#[], #[.agg #[.slice none 0 0, .bool false], .agg #[.slice none 0 0, .bool false]], []⟩).memory :=
  laidMet_of_run' 8 (by kernel_rfl) (by kernel_rfl)
theorem wit_reads (os : Os) {H : Type} (enc : TypeId × Value → H) : ∃ places, DataW.whole enc Tryd.prog ((laidWorld os).forCall (fun _ _ => 0) ⟨#[], #[.agg #[.slice none 0 0, .bool false], .agg #[.slice none 0 0, .bool false]], []⟩).memory Tryd.f10.params.toList Rows.integerExtSpec.vars false (#[.agg #[.slice none 0 0, .bool false], .agg #[.slice none 0 0, .bool false]] : Array Value).toList 8 = some ([.agg [.nil, .lit (.bool false)], .agg [.nil, .lit (.bool false)]], [], places) :=
  ⟨[], by kernel_rfl⟩

set_option maxRecDepth 100000 in
theorem law_lifted (os : Os) (started : os.Started) (H : Type) (enc : TypeId × Value → H) (F : Stop.Interp) :
    ReturnsInHanded {} Tryd.checked os 10 .any ((OpenSpec.ofChange Rows.integerExtSpec).preRow enc Tryd.prog Tryd.f10 Rows.integerExtRow.domain false Rows.integerExtRow.laid) (((OpenSpec.ofChange Rows.integerExtSpec).at F).post enc Tryd.prog Tryd.f10 false true false false) := by
  obtain ⟨places, hx⟩ := wit_reads os enc
  refine returnsInHanded_of_row (C := Tryd.checked) (s := OpenSpec.ofChange Rows.integerExtSpec) own started (by kernel_rfl) Tryd.func10
    (witness_row_at (enc := enc) (C := Tryd.checked) false (laidWorld os) #[.agg #[.slice none 0 0, .bool false], .agg #[.slice none 0 0, .bool false]] rfl (by kernel_rfl) (by kernel_rfl) (by kernel_rfl)
      (OpenSpec.preRow_of_cond 8 hx (by kernel_rfl) (fun k hk => by cases hk) (by kernel_rfl) (laid_met os))) ?_
  intro W base args ds gs before hval hW _ _ _ hL _ _
  exact law_contract H enc W base args ds gs before hval hW hL

theorem said : Rows.IntegerExtSaid :=
  OpenClaim.holds_of_cond 10 Tryd.f10 rfl rfl rfl rfl rfl rfl rfl ⟨rfl, rfl, rfl, rfl, rfl⟩ rfl rfl rfl rfl rfl (by kernel_rfl) Tryd.func10 (by kernel_rfl)
    (of_decide_eq_true (by kernel_rfl)) (by unfold Func.isWrapper; first | (rw [if_pos (by decide +kernel)]; kernel_rfl) | (rw [if_neg (by decide +kernel)]; exact ⟨rfl, rfl⟩))
    (fun os started H enc _ F => by rw [OpenClaim.pre_eq_preRow]; exact law_lifted os started H enc F)

/-- no parameter wants a stand-in; the program's own looks are off -/
theorem plain (f : FuncId) (fn : Func) (hf : Tryd.pinned.checked.prog.funcNamed "torsion/torsionlaw01.IntegerExt" = some f) (hfn : Tryd.pinned.checked.prog.funcs[f]? = some fn) :
    false = Tryd.pinned.checked.prog.looks [] ∧ ∀ (j : Nat) t, fn.params[j]? = some t → Tryd.pinned.checked.prog.wantsStandIn t = false := by
  obtain rfl : f = 10 := Option.some.inj ((show Tryd.prog.funcNamed "torsion/torsionlaw01.IntegerExt" = some 10 by kernel_rfl).symm.trans hf) |>.symm
  obtain rfl : fn = Tryd.f10 := (Option.some.inj (Tryd.func10.symm.trans hfn)).symm
  refine ⟨by kernel_rfl, fun j t ht => ?_⟩
  have hm : t ∈ Tryd.f10.params.toList := by simpa using Array.mem_of_getElem? ht
  have hall : (Tryd.f10.params.toList.all fun t => !Tryd.prog.wantsStandIn t) = true := by kernel_rfl
  have := List.all_eq_true.1 hall t hm
  exact (show Tryd.prog.wantsStandIn t = false by simpa using this)

theorem law_holds : Rows.IntegerExtCardSaid :=
  Claim7.holds_tied_plain_at .later [] _ _ _ _ said (fun _ h => by cases h) (by kernel_rfl) (fun _ h => by cases h) integerExt_row_tie rfl ⟨rfl, rfl⟩ (by kernel_rfl) rfl plain (by kernel_rfl)
#print axioms law_holds
end Go.Proofs.YtbpcgeanpkokkaaDoor
