/- Texts joined: Qk Ql Qm. -/
import Derived.Test.YtiimoommhahloaaGreatDoorZe
import Derived.Test.YtiimoommhahloaaGreatDoorZg
set_option linter.all false
/- The program's division: DivMod. -/
namespace Go.Proofs.YtiimoommhahloaaGreatDoor
open Go.RowKit

theorem divide_any (X Y : Nat) (hX : (limbsOf X).length ≤ 300000000) (hY : (limbsOf Y).length ≤ 300000000) (h0 : 0 < Y) : ∃ x, DivTo X Y x ∧ Spec Tryz.prog 78 [sv (limbsOf X), sv (limbsOf Y)] x := by
  rcases Nat.lt_or_ge X Y with h | h
  · exact div_less X Y hX hY h
  · rcases Nat.lt_or_ge 2 (limbsOf X).length with h2 | h2
    · rcases Nat.lt_or_ge Y 4294967296 with h3 | h3
      · exact div_one X Y hX h2 h0 h3
      · exact div_long X Y hX h2 (limbsOf_ge h3) h
    · exact div_two X Y h2 h0 h

theorem sgn_abs (x : Int) : sgn (decide (x < 0)) x.natAbs = x := by
  unfold sgn
  by_cases h : x < 0
  · simp [h]; omega
  · simp [h]; omega
theorem pdivmod_zero (x : Int) (K : Nat) (hx : Fits K x) (hK : K ≤ 200000000) : Spec Tryz.prog 56 [iv x, iv 0] (.tu [iv 0, iv 0, .sc (.int .i64 3)]) := by
  have lx := fits_len hx
  have c1 := trim_n x.natAbs (by omega)
  have c2 := trim_n (0 : Int).natAbs (by decide)
  have q1 : (((limbsOf (0 : Int).natAbs).length : Int) == 0) = true := by simp [limbsOf_zero]
  unfold iv sv at *
  refine Spec.run Tryz.func56 rfl Tryz.ntmps56 (by simp) (by simp (disch := omega) only [go_sem, Nat.reduceAdd]; rfl) fun B hB => ?_
  (repeat (first | refine DO.nil (by kernel_rfl) ?_ | with_reducible refine SC.seq ?_ | with_reducible refine SC.skip ?_ | with_reducible refine SC.label ?_ | with_reducible refine SC.block ?_ | with_reducible refine SC.scope ?_ | with_reducible refine SC.nil ?_ | with_reducible refine SC.exit ?_ | with_reducible refine SC.ret ?_ | with_reducible refine SO.nil ?_ | with_reducible refine tq_normal ?_ | with_reducible refine bq_normal ?_ | with_reducible refine bq_same ?_ | with_reducible refine bq_other (by decide) ?_ | with_reducible refine tq_exit ?_ | with_reducible refine tq_ret ?_ | with_reducible refine bq_ret ?_ | with_reducible refine sq_normal ?_ | with_reducible refine sq_exit ?_ | with_reducible refine sq_ret ?_ | ((with_reducible apply SC.condB); (focus (simp (disch := omega) only [go_sem, ↓reduceIte]; rfl)); (first | refine pickT ?_ | refine pickF ?_)) | ((with_reducible apply SC.region); (focus (simp (disch := omega) only [go_sem, ↓reduceIte, Nat.reduceEqDiff, Nat.reduceLeDiff, Nat.reduceAdd, reduceCtorEq, q1]; rfl))) | ((with_reducible refine SC.draw Tab.mixed ?_ ?_); (focus (first | rfl | simp (disch := omega) only [go_sem, ↓reduceIte, Nat.reduceEqDiff, Nat.reduceLT, Nat.reduceLeDiff, Nat.reduceAdd, Nat.reduceMul, Nat.reduceSub, reduceCtorEq, Nat.reduceBEq, Int.reduceToNat, Int.reducePow, if_pos, if_neg, q1, lv_len]))) | (with_reducible refine SC.ops ?_) | ((first | apply SO.call | apply DO.call); (focus (simp (disch := omega) only [go_sem])); (focus (simp (disch := omega) only [go_sem, ↓reduceIte]; rfl)); (focus (simp (disch := omega) only [go_sem] <;> rfl)); (first | (apply SCall.of; (focus (first | assumption)); (focus (simp (disch := omega) only [go_sem, ↓reduceIte, Nat.reduceEqDiff, Nat.reduceLT, Nat.reduceLeDiff, Nat.reduceAdd, Nat.reduceMul, Nat.reduceSub, reduceCtorEq, Nat.reduceBEq, Int.reduceToNat, Int.reducePow, if_pos, if_neg, q1, lv_len]; rfl))) | (apply DCall.of; (focus (first | assumption)); (focus (simp (disch := omega) only [go_sem]; rfl))) | (apply SCall.ofF; (focus (first | assumption)); (focus (simp (disch := omega) only [go_sem, ↓reduceIte, Nat.reduceEqDiff, Nat.reduceLT, Nat.reduceLeDiff, Nat.reduceAdd, Nat.reduceMul, Nat.reduceSub, reduceCtorEq, Nat.reduceBEq, Int.reduceToNat, Int.reducePow, if_pos, if_neg, q1, lv_len]; rfl))))) | ((first | with_reducible apply SO.run | with_reducible apply DO.run); (focus (simp (disch := omega) only [go_sem, ↓reduceIte, Nat.reduceEqDiff, reduceCtorEq]; rfl)))))
  exact retQ_ret Tryz.results56 (by simp (disch := omega) only [go_sem, ↓reduceIte, Nat.reduceEqDiff, Nat.reduceLeDiff, Nat.reduceAdd]; rfl) (by simp (disch := omega) only [go_sem, ↓reduceIte]; rfl) rfl

set_option maxHeartbeats 1000000 in
theorem pdivmod_i (x y : Int) (K : Nat) (hx : Fits K x) (hy : Fits K y) (hK : K ≤ 200000000) (h0 : y ≠ 0) : Spec Tryz.prog 56 [iv x, iv y] (.tu [iv (x / y), iv (x % y), .sc (.int .i64 0)]) := by
  have lx := fits_len hx
  have ly := fits_len hy
  have hY : 0 < y.natAbs := by omega
  obtain ⟨r, ⟨ql, rl, rfl, hql, hrl, vq, vr, lq, lr⟩, c3⟩ := divide_any x.natAbs y.natAbs (by omega) (by omega) hY
  have c1 := trim_n x.natAbs (by omega)
  have c2 := trim_n y.natAbs (by omega)
  have c4 := trim_i rl hrl (by omega)
  rw [vr] at c4
  have hR : x.natAbs % y.natAbs < y.natAbs := Nat.mod_lt _ hY
  have lR : (limbsOf (x.natAbs % y.natAbs)).length ≤ (limbsOf y.natAbs).length := len_le_of (by omega)
  have hQ : x.natAbs / y.natAbs ≤ x.natAbs := Nat.div_le_self _ _
  have lQ : (limbsOf (x.natAbs / y.natAbs)).length ≤ (limbsOf x.natAbs).length := len_le_of hQ
  obtain ⟨s1, s2⟩ := divmod_spec (decide (x < 0)) (decide (y < 0)) x.natAbs y.natAbs hY
  rw [sgn_abs, sgn_abs] at s1 s2
  have q1 : (((limbsOf y.natAbs).length : Int) == 0) = false := by
    rw [beq_eq_false_iff_ne]
    have : limbsOf y.natAbs ≠ [] := fun h => by have := limbsOf_nil.1 h; omega
    have := List.length_pos_iff.2 this
    omega
  have hne : ∀ b c : Bool, (b != c) = decide (b ≠ c) := by intro b c; cases b <;> cases c <;> rfl
  by_cases hn : x < 0 ∧ 0 < x.natAbs % y.natAbs
  · obtain ⟨hneg, hpos⟩ := hn
    have hnx := decide_eq_true hneg
    rw [hnx] at s1 s2
    simp only [true_and, if_pos hpos] at s1 s2
    have q2 := decide_eq_true (p := (0 : Int) < ((limbsOf (x.natAbs % y.natAbs)).length : Int)) (by
      have : limbsOf (x.natAbs % y.natAbs) ≠ [] := fun h => by have := limbsOf_nil.1 h; omega
      have := List.length_pos_iff.2 this
      omega)
    have c5 := trim_i ql hql (by omega)
    rw [vq] at c5
    have c6 := pplus_i (limbsOf (x.natAbs / y.natAbs)) [1] (limbsOf_limbs _) (limbs_one (by omega)) (by omega) (by simp)
    rw [limbsOf_val, val_one] at c6
    have c7 := pminus_i (limbsOf y.natAbs) (limbsOf (x.natAbs % y.natAbs)) (limbsOf_limbs _) (limbsOf_limbs _) (by omega) lR (by rw [limbsOf_val, limbsOf_val]; omega)
    rw [limbsOf_val, limbsOf_val] at c7
    have gq := val_lt (limbsOf_limbs (x.natAbs / y.natAbs))
    rw [limbsOf_val] at gq
    have c8 := pvalue_dg (max (limbsOf (x.natAbs / y.natAbs)).length [1].length + 1) (x.natAbs / y.natAbs + 1) (true != decide (y < 0)) (x / y) (by
        rw [← s1, hne]; unfold sgn; by_cases hb : y < 0 <;> simp [hb]) (by
        have : 4294967296 ^ (limbsOf (x.natAbs / y.natAbs)).length ≤ 4294967296 ^ max (limbsOf (x.natAbs / y.natAbs)).length [1].length := Nat.pow_le_pow_right (by omega) (by omega)
        rw [Nat.pow_succ]; omega) (by simp; omega)
    have gy := val_lt (limbsOf_limbs y.natAbs)
    rw [limbsOf_val] at gy
    have c9 := pvalue_dg (limbsOf y.natAbs).length (y.natAbs - x.natAbs % y.natAbs) false (x % y) (by rw [← s2]; unfold sgn; simp; omega) (by omega) (by omega)
    unfold iv sv at *
    rw [hnx]
    rw [lv_one] at c6
    simp only [List.length_singleton] at c6 c8
    refine Spec.run Tryz.func56 rfl Tryz.ntmps56 (by simp) (by simp (disch := omega) only [go_sem, Nat.reduceAdd]; rfl) fun B hB => ?_
    (repeat (first | refine DO.nil (by kernel_rfl) ?_ | with_reducible refine SC.seq ?_ | with_reducible refine SC.skip ?_ | with_reducible refine SC.label ?_ | with_reducible refine SC.block ?_ | with_reducible refine SC.scope ?_ | with_reducible refine SC.nil ?_ | with_reducible refine SC.exit ?_ | with_reducible refine SC.ret ?_ | with_reducible refine SO.nil ?_ | with_reducible refine tq_normal ?_ | with_reducible refine bq_normal ?_ | with_reducible refine bq_same ?_ | with_reducible refine bq_other (by decide) ?_ | with_reducible refine tq_exit ?_ | with_reducible refine tq_ret ?_ | with_reducible refine bq_ret ?_ | with_reducible refine sq_normal ?_ | with_reducible refine sq_exit ?_ | with_reducible refine sq_ret ?_ | ((with_reducible apply SC.condB); (focus (simp (disch := omega) only [go_sem, ↓reduceIte]; rfl)); (first | refine pickT ?_ | refine pickF ?_)) | ((with_reducible apply SC.region); (focus (simp (disch := omega) only [go_sem, ↓reduceIte, Nat.reduceEqDiff, Nat.reduceAdd, reduceCtorEq, q1, q2]; rfl))) | ((with_reducible refine SC.draw Tab.mixed ?_ ?_); (focus (first | rfl | simp (disch := omega) only [go_sem, ↓reduceIte, Nat.reduceEqDiff, Nat.reduceLT, Nat.reduceLeDiff, Nat.reduceAdd, Nat.reduceMul, Nat.reduceSub, reduceCtorEq, Nat.reduceBEq, Int.reduceToNat, Int.reducePow, if_pos, if_neg, q1, q2, lv_len]))) | (with_reducible refine SC.ops ?_) | ((first | apply SO.call | apply DO.call); (focus (simp (disch := omega) only [go_sem])); (focus (simp (disch := omega) only [go_sem, ↓reduceIte, Nat.reduceEqDiff, Nat.reduceLeDiff]; rfl)); (focus (simp (disch := omega) only [go_sem, Nat.reduceLT] <;> rfl)); (first | (apply SCall.of; (focus (first | assumption)); (focus (simp (disch := omega) only [go_sem]; rfl))) | (apply DCall.of; (focus (first | assumption)); (focus (simp (disch := omega) only [go_sem]; rfl))) | (apply SCall.ofF; (focus (first | assumption)); (focus (simp (disch := omega) only [go_sem, ↓reduceIte, Nat.reduceBEq]; rfl))))) | ((first | with_reducible apply SO.run | with_reducible apply DO.run); (focus (simp (disch := omega) only [go_sem, ↓reduceIte, Nat.reduceEqDiff, Nat.reduceLeDiff, Nat.reduceAdd, reduceCtorEq]; rfl)))))
    exact retQ_ret Tryz.results56 (by simp (disch := omega) only [go_sem, ↓reduceIte, Nat.reduceEqDiff, Nat.reduceLeDiff, Nat.reduceAdd]; rfl) (by simp (disch := omega) only [go_sem, ↓reduceIte]; rfl) rfl
  · have hif : ¬(decide (x < 0) = true ∧ 0 < x.natAbs % y.natAbs) := by rw [decide_eq_true_eq]; exact hn
    rw [if_neg hif] at s1 s2
    have c8 := value_i (decide (x < 0) != decide (y < 0)) ql hql (by omega)
    rw [vq, show sgn (decide (x < 0) != decide (y < 0)) (x.natAbs / y.natAbs) = x / y by
      rw [← s1, hne]; unfold sgn; by_cases hb : decide (x < 0) = decide (y < 0) <;> simp [hb]] at c8
    have c9 := pvalue_n (x.natAbs % y.natAbs) false (x % y) (by rw [← s2]; rfl) (by omega)
    by_cases hneg : x < 0
    · have hnx := decide_eq_true hneg
      have q2 := decide_eq_false (p := (0 : Int) < ((limbsOf (x.natAbs % y.natAbs)).length : Int)) (by
        have : x.natAbs % y.natAbs = 0 := by omega
        rw [this, limbsOf_zero]; simp)
      unfold iv sv at *
      rw [hnx] at c8 ⊢
      refine Spec.run Tryz.func56 rfl Tryz.ntmps56 (by simp) (by simp (disch := omega) only [go_sem, Nat.reduceAdd]; rfl) fun B hB => ?_
      (repeat (first | refine DO.nil (by kernel_rfl) ?_ | with_reducible refine SC.seq ?_ | with_reducible refine SC.skip ?_ | with_reducible refine SC.label ?_ | with_reducible refine SC.block ?_ | with_reducible refine SC.scope ?_ | with_reducible refine SC.nil ?_ | with_reducible refine SC.exit ?_ | with_reducible refine SC.ret ?_ | with_reducible refine SO.nil ?_ | with_reducible refine tq_normal ?_ | with_reducible refine bq_normal ?_ | with_reducible refine bq_same ?_ | with_reducible refine bq_other (by decide) ?_ | with_reducible refine tq_exit ?_ | with_reducible refine tq_ret ?_ | with_reducible refine bq_ret ?_ | with_reducible refine sq_normal ?_ | with_reducible refine sq_exit ?_ | with_reducible refine sq_ret ?_ | ((with_reducible apply SC.condB); (focus (simp (disch := omega) only [go_sem, ↓reduceIte]; rfl)); (first | refine pickT ?_ | refine pickF ?_)) | ((with_reducible apply SC.region); (focus (simp (disch := omega) only [go_sem, ↓reduceIte, Nat.reduceEqDiff, Nat.reduceAdd, reduceCtorEq, q1, q2]; rfl))) | ((with_reducible refine SC.draw Tab.mixed ?_ ?_); (focus (first | rfl | simp (disch := omega) only [go_sem, ↓reduceIte, Nat.reduceEqDiff, Nat.reduceLT, Nat.reduceLeDiff, Nat.reduceAdd, Nat.reduceMul, Nat.reduceSub, reduceCtorEq, Nat.reduceBEq, Int.reduceToNat, Int.reducePow, if_pos, if_neg, q1, q2, lv_len]))) | (with_reducible refine SC.ops ?_) | ((first | apply SO.call | apply DO.call); (focus (simp (disch := omega) only [go_sem])); (focus (simp (disch := omega) only [go_sem, ↓reduceIte, Nat.reduceEqDiff]; rfl)); (focus (simp (disch := omega) only [go_sem, Nat.reduceLT] <;> rfl)); (first | (apply SCall.of; (focus (first | assumption)); (focus (simp (disch := omega) only [go_sem]; rfl))) | (apply DCall.of; (focus (first | assumption)); (focus (simp (disch := omega) only [go_sem]; rfl))) | (apply SCall.ofF; (focus (first | assumption)); (focus (simp (disch := omega) only [go_sem, ↓reduceIte, Nat.reduceEqDiff, Nat.reduceLT, Nat.reduceLeDiff, Nat.reduceAdd, Nat.reduceMul, Nat.reduceSub, reduceCtorEq, Nat.reduceBEq, Int.reduceToNat, Int.reducePow, if_pos, if_neg, q1, q2, lv_len]; rfl))))) | ((first | with_reducible apply SO.run | with_reducible apply DO.run); (focus (simp (disch := omega) only [go_sem, ↓reduceIte, Nat.reduceEqDiff, Nat.reduceLeDiff, Nat.reduceAdd, reduceCtorEq]; rfl)))))
      exact retQ_ret Tryz.results56 (by simp (disch := omega) only [go_sem, ↓reduceIte, Nat.reduceEqDiff, Nat.reduceLeDiff, Nat.reduceAdd]; rfl) (by simp (disch := omega) only [go_sem, ↓reduceIte]; rfl) rfl
    · have hnx := decide_eq_false hneg
      unfold iv sv at *
      rw [hnx] at c8 ⊢
      refine Spec.run Tryz.func56 rfl Tryz.ntmps56 (by simp) (by simp (disch := omega) only [go_sem, Nat.reduceAdd]; rfl) fun B hB => ?_
      (repeat (first | refine DO.nil (by kernel_rfl) ?_ | with_reducible refine SC.seq ?_ | with_reducible refine SC.skip ?_ | with_reducible refine SC.label ?_ | with_reducible refine SC.block ?_ | with_reducible refine SC.scope ?_ | with_reducible refine SC.nil ?_ | with_reducible refine SC.exit ?_ | with_reducible refine SC.ret ?_ | with_reducible refine SO.nil ?_ | with_reducible refine tq_normal ?_ | with_reducible refine bq_normal ?_ | with_reducible refine bq_same ?_ | with_reducible refine bq_other (by decide) ?_ | with_reducible refine tq_exit ?_ | with_reducible refine tq_ret ?_ | with_reducible refine bq_ret ?_ | with_reducible refine sq_normal ?_ | with_reducible refine sq_exit ?_ | with_reducible refine sq_ret ?_ | ((with_reducible apply SC.condB); (focus (simp (disch := omega) only [go_sem, ↓reduceIte]; rfl)); (first | refine pickT ?_ | refine pickF ?_)) | ((with_reducible apply SC.region); (focus (simp (disch := omega) only [go_sem, ↓reduceIte, Nat.reduceEqDiff, Nat.reduceAdd, reduceCtorEq, q1]; rfl))) | ((with_reducible refine SC.draw Tab.mixed ?_ ?_); (focus (first | rfl | simp (disch := omega) only [go_sem, ↓reduceIte, Nat.reduceEqDiff, Nat.reduceLT, Nat.reduceLeDiff, Nat.reduceAdd, Nat.reduceMul, Nat.reduceSub, reduceCtorEq, Nat.reduceBEq, Int.reduceToNat, Int.reducePow, if_pos, if_neg, q1, lv_len]))) | (with_reducible refine SC.ops ?_) | ((first | apply SO.call | apply DO.call); (focus (simp (disch := omega) only [go_sem])); (focus (simp (disch := omega) only [go_sem, ↓reduceIte, Nat.reduceEqDiff]; rfl)); (focus (simp (disch := omega) only [go_sem, Nat.reduceLT] <;> rfl)); (first | (apply SCall.of; (focus (first | assumption)); (focus (simp (disch := omega) only [go_sem]; rfl))) | (apply DCall.of; (focus (first | assumption)); (focus (simp (disch := omega) only [go_sem]; rfl))) | (apply SCall.ofF; (focus (first | assumption)); (focus (simp (disch := omega) only [go_sem, ↓reduceIte, Nat.reduceEqDiff, Nat.reduceLT, Nat.reduceLeDiff, Nat.reduceAdd, Nat.reduceMul, Nat.reduceSub, reduceCtorEq, Nat.reduceBEq, Int.reduceToNat, Int.reducePow, if_pos, if_neg, q1, lv_len]; rfl))))) | ((first | with_reducible apply SO.run | with_reducible apply DO.run); (focus (simp (disch := omega) only [go_sem, ↓reduceIte, Nat.reduceEqDiff, Nat.reduceLeDiff, Nat.reduceAdd, reduceCtorEq]; rfl)))))
      exact retQ_ret Tryz.results56 (by simp (disch := omega) only [go_sem, ↓reduceIte, Nat.reduceEqDiff, Nat.reduceLeDiff, Nat.reduceAdd]; rfl) (by simp (disch := omega) only [go_sem, ↓reduceIte]; rfl) rfl
end Go.Proofs.YtiimoommhahloaaGreatDoor

/- The reference's integers by value: Valid, Abs, Made of an absolute value. -/
namespace Go.Proofs.YtiimoommhahloaaGreatDoor
open Go.RowKit

theorem rvalid_i (z : Int) (K : Nat) (hz : Fits K z) (hK : K ≤ 1000000000) : Spec Tryz.prog 19 [iv z] (.sc (.bool true)) := by
  have lz := fits_len hz
  unfold iv sv
  by_cases h0 : z = 0
  · subst h0
    have q1 : (((limbsOf (0 : Int).natAbs).length : Int) == 0) = true := by simp [limbsOf_zero]
    refine Spec.run Tryz.func19 rfl Tryz.ntmps19 (by simp) (by simp (disch := omega) only [go_sem]; rfl) fun B hB => ?_
    (repeat (first | refine DO.nil (by kernel_rfl) ?_ | (with_reducible refine SC.condB (by simp (disch := omega) only [go_sem, ↓reduceIte]; rfl) ?_; first | with_reducible refine pickT ?_ | with_reducible refine pickF ?_) | with_reducible refine SC.seq ?_ | with_reducible refine SC.skip ?_ | with_reducible refine SC.label ?_ | with_reducible refine SC.block ?_ | with_reducible refine SC.scope ?_ | with_reducible refine SC.nil ?_ | with_reducible refine SC.exit ?_ | with_reducible refine SC.ret ?_ | with_reducible refine SO.nil ?_ | with_reducible refine tq_normal ?_ | with_reducible refine bq_normal ?_ | with_reducible refine bq_same ?_ | with_reducible refine bq_other (by decide) ?_ | with_reducible refine tq_exit ?_ | with_reducible refine tq_ret ?_ | with_reducible refine bq_ret ?_ | with_reducible refine sq_normal ?_ | with_reducible refine sq_exit ?_ | with_reducible refine sq_ret ?_ | ((with_reducible apply SC.region); (focus (simp (disch := omega) only [go_sem, ↓reduceIte, Nat.reduceEqDiff, reduceCtorEq, q1]; rfl))) | (with_reducible refine SC.draw Tab.mixed rfl ?_; (repeat (refine DO.run (by simp (disch := omega) only [go_sem, ↓reduceIte, Nat.reduceEqDiff, Nat.reduceLT, Nat.reduceLeDiff, Nat.reduceAdd, Nat.reduceMul, Nat.reduceSub, reduceCtorEq, Nat.reduceBEq, Int.reduceToNat, Int.reducePow, if_pos, if_neg, q1, lv_len]; rfl) ?_)); refine DO.nil (by kernel_rfl) ?_)))
    exact retQ_ret Tryz.results19 (by simp (disch := omega) only [go_sem, ↓reduceIte]; rfl) (by simp (disch := omega) only [go_sem]; rfl) rfl
  · have hne : limbsOf z.natAbs ≠ [] := fun h => h0 (by have := limbsOf_nil.1 h; omega)
    have hpos := List.length_pos_iff.2 hne
    have q1 : (((limbsOf z.natAbs).length : Int) == 0) = false := by rw [beq_eq_false_iff_ne]; omega
    have hi : (((limbsOf z.natAbs).length : Int) - 1).toNat = (limbsOf z.natAbs).length - 1 := by omega
    have hg := lv_get (l := limbsOf z.natAbs) (i := (limbsOf z.natAbs).length - 1) (by omega)
    have hc := limbsOf_canon z.natAbs hne
    rw [List.getLast_eq_getElem] at hc
    have hx : (limbsOf z.natAbs).getD ((limbsOf z.natAbs).length - 1) 0 ≠ 0 := by
      rw [List.getD_eq_getElem?_getD, List.getElem?_eq_getElem (by omega)]; exact hc
    have q2 : (((limbsOf z.natAbs).getD ((limbsOf z.natAbs).length - 1) 0 : Int) != 0) = true := by rw [bne_iff_ne]; omega
    refine Spec.run Tryz.func19 rfl Tryz.ntmps19 (by simp) (by simp (disch := omega) only [go_sem]; rfl) fun B hB => ?_
    (repeat (first | refine DO.nil (by kernel_rfl) ?_ | (with_reducible refine SC.condB (by simp (disch := omega) only [go_sem, ↓reduceIte]; rfl) ?_; first | with_reducible refine pickT ?_ | with_reducible refine pickF ?_) | with_reducible refine SC.seq ?_ | with_reducible refine SC.skip ?_ | with_reducible refine SC.label ?_ | with_reducible refine SC.block ?_ | with_reducible refine SC.scope ?_ | with_reducible refine SC.nil ?_ | with_reducible refine SC.exit ?_ | with_reducible refine SC.ret ?_ | with_reducible refine SO.nil ?_ | with_reducible refine tq_normal ?_ | with_reducible refine bq_normal ?_ | with_reducible refine bq_same ?_ | with_reducible refine bq_other (by decide) ?_ | with_reducible refine tq_exit ?_ | with_reducible refine tq_ret ?_ | with_reducible refine bq_ret ?_ | with_reducible refine sq_normal ?_ | with_reducible refine sq_exit ?_ | with_reducible refine sq_ret ?_ | ((with_reducible apply SC.region); (focus (simp (disch := omega) only [go_sem, ↓reduceIte, Nat.reduceEqDiff, Nat.reduceLT, reduceCtorEq, if_pos, q1, q2, hi, hg, lv_len, List.getElem?_drop]; rfl))) | (with_reducible refine SC.draw Tab.mixed rfl ?_; (repeat (refine DO.run (by simp (disch := omega) only [go_sem, ↓reduceIte, Nat.reduceEqDiff, Nat.reduceLT, Nat.reduceLeDiff, Nat.reduceAdd, Nat.reduceMul, Nat.reduceSub, reduceCtorEq, Nat.reduceBEq, Int.reduceToNat, Int.reducePow, if_pos, if_neg, q1, q2, hi, hg, lv_len, List.getElem?_drop]; rfl) ?_)); refine DO.nil (by kernel_rfl) ?_)))
    exact retQ_ret Tryz.results19 (by simp (disch := omega) only [go_sem, ↓reduceIte]; rfl) (by simp (disch := omega) only [go_sem]; rfl) rfl
end Go.Proofs.YtiimoommhahloaaGreatDoor

/- Greatest common divisors by value: the reference's Gcd, the program's Gcd. -/
namespace Go.Proofs.YtiimoommhahloaaGreatDoor
open Go.RowKit

theorem int_gcd_step (x y : Int) : Int.gcd y (x % y) = Int.gcd x y := by
  have e : x % y + y * (x / y) = x := Int.emod_add_mul_ediv x y
  apply Nat.dvd_antisymm
  · refine Int.dvd_gcd ?_ (Int.gcd_dvd_left _ _)
    have h1 := Int.gcd_dvd_left y (x % y)
    have h2 := Int.gcd_dvd_right y (x % y)
    have h3 := Int.dvd_add h2 (Int.dvd_mul_of_dvd_left (c := x / y) h1)
    rwa [e] at h3
  · refine Int.dvd_gcd (Int.gcd_dvd_right _ _) ?_
    have h1 := Int.gcd_dvd_left x y
    have h2 := Int.gcd_dvd_right x y
    rw [Int.emod_def]
    exact Int.dvd_sub h1 (Int.dvd_mul_of_dvd_left (c := x / y) h2)
theorem nat_gcd_step (x y : Nat) : Nat.gcd y (x % y) = Nat.gcd x y := by
  rw [Nat.gcd_comm x y, Nat.gcd_rec y x, Nat.gcd_comm]
theorem Fits.emod {K : Nat} {x y : Int} (hy : Fits K y) (h0 : y ≠ 0) : Fits K (x % y) := by
  have := Int.emod_nonneg x h0
  have := Int.emod_lt x h0
  unfold Fits at *; omega
theorem Fits.ediv {K : Nat} {x y : Int} (hx : Fits K x) : Fits K (x / y) := by
  have := Int.natAbs_ediv_le_natAbs x y
  unfold Fits at *; omega
theorem Fits.one {K : Nat} (h : 1 ≤ K) : Fits K 1 := by
  have := Nat.pow_le_pow_right (n := 4294967296) (by omega) h
  unfold Fits; simp at *; omega
theorem Fits.zero (K : Nat) : Fits K 0 := by unfold Fits; exact Nat.pow_pos (by omega)

/-- the cells of an integer -/
def ic (z : Int) : List V := [.sc (.bool (decide (z < 0))), .im (lv (limbsOf z.natAbs)) (limbsOf z.natAbs).length]
/-- the cells of an integer that is not yet there -/
def z0 : List V := [.sc (.bool false), .sc (.slice none 0 0)]
theorem iv_ic (z : Int) : iv z = .ag (ic z) := rfl
theorem ic_ok (ok : Nat → Bool) (z : Int) : (ic z).all (okL ok) = true := rfl
theorem LLe.ic {ok : Nat → Bool} {x y : Int} (h : x = y) : LLe ok (Go.Proofs.YtiimoommhahloaaGreatDoor.ic x) (Go.Proofs.YtiimoommhahloaaGreatDoor.ic y) := by subst h; exact LLe.refl (ic_ok _ _)

set_option maxHeartbeats 1000000 in
theorem rgcd_i (a b : Int) (K : Nat) (ha : Fits K a) (hb : Fits K b) (hK : K ≤ 100000000) : Spec Tryz.prog 62 [iv a, iv b] (iv (Int.gcd a b : Int)) := by
  unfold iv sv
  refine Spec.run Tryz.func62 rfl Tryz.ntmps62 (by simp) (by simp (disch := omega) only [go_sem, Nat.reduceAdd]; rfl) fun B hB => ?_
  (repeat (first | refine DO.nil (by kernel_rfl) ?_ | (with_reducible refine SC.condB (by simp (disch := omega) only [go_sem, ↓reduceIte, Nat.reduceEqDiff, Nat.reduceLT, Nat.reduceLeDiff, Nat.reduceAdd, Nat.reduceMul, Nat.reduceSub, reduceCtorEq, Nat.reduceBEq, Int.reduceToNat, Int.reducePow, if_pos, if_neg]; rfl) ?_; first | with_reducible refine pickT ?_ | with_reducible refine pickF ?_) | with_reducible refine SC.seq ?_ | with_reducible refine SC.skip ?_ | with_reducible refine SC.label ?_ | with_reducible refine SC.block ?_ | with_reducible refine SC.scope ?_ | with_reducible refine SC.nil ?_ | with_reducible refine SC.exit ?_ | with_reducible refine SC.ret ?_ | with_reducible refine SO.nil ?_ | with_reducible refine tq_normal ?_ | with_reducible refine bq_normal ?_ | with_reducible refine bq_same ?_ | with_reducible refine bq_other (by decide) ?_ | with_reducible refine tq_exit ?_ | with_reducible refine tq_ret ?_ | with_reducible refine bq_ret ?_ | with_reducible refine sq_normal ?_ | with_reducible refine sq_exit ?_ | with_reducible refine sq_ret ?_ | ((with_reducible apply SC.region); (focus (simp (disch := omega) only [go_sem, ↓reduceIte, Nat.reduceEqDiff, Nat.reduceAdd, reduceCtorEq]; rfl))) | (with_reducible refine SC.draw Tab.mixed rfl ?_; (repeat (refine DO.run (by simp (disch := omega) only [go_sem, ↓reduceIte, Nat.reduceEqDiff, Nat.reduceLT, Nat.reduceLeDiff, Nat.reduceAdd, Nat.reduceMul, Nat.reduceSub, reduceCtorEq, Nat.reduceBEq, Int.reduceToNat, Int.reducePow, if_pos, if_neg]; rfl) ?_)); refine DO.nil (by kernel_rfl) ?_)))
  refine SC.loop (fun u : Int × Int => ⟨[(2, .pt 0 0), (3, .pt 1 0), (4, .pt 2 0)], [(0, ⟨27, ic u.1, false⟩), (1, ⟨27, ic u.2, false⟩), (2, ⟨27, [.sc (.bool false), .sc (.slice none 0 0)], false⟩)], 3, 23⟩)
    (fun u => Fits K u.1 ∧ Fits K u.2 ∧ Int.gcd u.1 u.2 = Int.gcd a b) (fun u => u.2.natAbs) (a, b) ?_ ?_ ?_
  · unfold ic
    (refine Le.of [] hB (by first | exact ⟨Nat.zero_le _, fun _ _ => Nat.zero_le _⟩ | (constructor <;> (try simp) <;> (try omega))) ?_ ?_ <;> (repeat' (first | exact leSl_nil | exact leHp_nil | refine leSl_cons (by simp (disch := omega) only [go_sem, ↓reduceIte, Nat.reduceEqDiff]; rfl) ?_ ?_ | refine leHp_cons (by simp (disch := omega) only [go_sem, ↓reduceIte, Nat.reduceEqDiff, reduceCtorEq]; rfl) ?_ ?_ | exact VLe.junk _ | exact VLe.refl rfl | exact VLe.nil_sl _ _ _ | exact VLe.int (by first | rfl | omega | (dsimp only; omega)) | exact VLe.bool rfl | exact VLe.sl rfl (by first | rfl | omega | (dsimp only; omega) | (simp; done)) | exact VLe.cap rfl (by first | rfl | omega | (dsimp only; omega) | (simp; done)) | exact VLe.im rfl rfl | exact HLe.new rfl | exact HLe.same rfl (LLe.refl rfl) | refine HLe.same rfl ?_ | exact LLe.nil _ | exact LLe.refl rfl | refine LLe.cons ?_ ?_)))
  · exact ⟨ha, hb, rfl⟩
  · rintro ⟨x, y⟩ ⟨hx, hy, hg⟩ K' hK'
    simp only at hx hy hg ⊢
    have c1 := sign_i y K hy (by omega)
    unfold iv sv at c1
    unfold ic
    by_cases h0 : y = 0
    · subst h0
      have c2 := made_nat x.natAbs (by have := fits_len hx; omega)
      rw [Int.gcd_zero_right] at hg
      unfold iv sv at c2
      (repeat (first | refine DO.nil (by kernel_rfl) ?_ | with_reducible refine SC.seq ?_ | with_reducible refine SC.skip ?_ | with_reducible refine SC.label ?_ | with_reducible refine SC.block ?_ | with_reducible refine SC.scope ?_ | with_reducible refine SC.nil ?_ | with_reducible refine SC.exit ?_ | with_reducible refine SC.ret ?_ | with_reducible refine SO.nil ?_ | with_reducible refine tq_normal ?_ | with_reducible refine bq_normal ?_ | with_reducible refine bq_same ?_ | with_reducible refine bq_other (by decide) ?_ | with_reducible refine tq_exit ?_ | with_reducible refine tq_ret ?_ | with_reducible refine bq_ret ?_ | with_reducible refine sq_normal ?_ | with_reducible refine sq_exit ?_ | with_reducible refine sq_ret ?_ | ((with_reducible apply SC.condB); (focus (simp (disch := omega) only [go_sem, ↓reduceIte]; rfl)); (first | refine pickT ?_ | refine pickF ?_)) | ((with_reducible apply SC.region); (focus (simp (disch := omega) only [go_sem, ↓reduceIte, Nat.reduceEqDiff, Nat.reduceLT, Nat.reduceLeDiff, Nat.reduceAdd, reduceCtorEq]; rfl))) | ((with_reducible refine SC.draw Tab.mixed ?_ ?_); (focus (first | rfl | simp (disch := omega) only [go_sem, ↓reduceIte, Nat.reduceEqDiff, Nat.reduceLT, Nat.reduceLeDiff, Nat.reduceAdd, Nat.reduceMul, Nat.reduceSub, reduceCtorEq, Nat.reduceBEq, Int.reduceToNat, Int.reducePow, if_pos, if_neg]))) | (with_reducible refine SC.ops ?_) | ((first | apply SO.call | apply DO.call); (focus (simp (disch := omega) only [go_sem])); (focus (simp (disch := omega) only [go_sem, ↓reduceIte]; rfl)); (focus (simp (disch := omega) only [go_sem, Nat.reduceLT] <;> rfl)); (first | (apply SCall.of; (focus (first | assumption)); (focus (simp (disch := omega) only [go_sem]; rfl))) | (apply DCall.of; (focus (first | assumption)); (focus (simp (disch := omega) only [go_sem, ↓reduceIte, Nat.reduceEqDiff, Nat.reduceLT, Nat.reduceLeDiff, Nat.reduceAdd, Nat.reduceMul, Nat.reduceSub, reduceCtorEq, Nat.reduceBEq, Int.reduceToNat, Int.reducePow, if_pos, if_neg]; rfl))) | (apply SCall.ofF; (focus (first | assumption)); (focus (simp (disch := omega) only [go_sem, ↓reduceIte, Nat.reduceEqDiff, Nat.reduceLT, Nat.reduceLeDiff, Nat.reduceAdd, Nat.reduceMul, Nat.reduceSub, reduceCtorEq, Nat.reduceBEq, Int.reduceToNat, Int.reducePow, if_pos, if_neg]; rfl))))) | ((first | with_reducible apply SO.run | with_reducible apply DO.run); (focus (simp (disch := omega) only [go_sem, ↓reduceIte, Nat.reduceEqDiff, Nat.reduceLeDiff, Nat.reduceAdd, reduceCtorEq]; rfl)))))
      refine retQ_ret Tryz.results62 (by simp (disch := omega) only [go_sem, ↓reduceIte, Nat.reduceEqDiff, Nat.reduceLeDiff, Nat.reduceAdd, reduceCtorEq]; rfl) (by simp (disch := omega) only [go_sem, ↓reduceIte]; rfl) ?_
      rw [hg]
    · have q1 : (y.sign != 0) = true := by rw [bne_iff_ne]; exact fun h => h0 (Int.sign_eq_zero_iff_zero.1 h)
      have c2 := divmod_i x y K hx hy (by omega) h0
      unfold iv sv at c2
      (repeat (first | refine DO.nil (by kernel_rfl) ?_ | with_reducible refine SC.seq ?_ | with_reducible refine SC.skip ?_ | with_reducible refine SC.label ?_ | with_reducible refine SC.block ?_ | with_reducible refine SC.scope ?_ | with_reducible refine SC.nil ?_ | with_reducible refine SC.exit ?_ | with_reducible refine SC.ret ?_ | with_reducible refine SO.nil ?_ | with_reducible refine tq_normal ?_ | with_reducible refine bq_normal ?_ | with_reducible refine bq_same ?_ | with_reducible refine bq_other (by decide) ?_ | with_reducible refine tq_exit ?_ | with_reducible refine tq_ret ?_ | with_reducible refine bq_ret ?_ | with_reducible refine sq_normal ?_ | with_reducible refine sq_exit ?_ | with_reducible refine sq_ret ?_ | ((with_reducible apply SC.condB); (focus (simp (disch := omega) only [go_sem, ↓reduceIte]; rfl)); (first | refine pickT ?_ | refine pickF ?_)) | ((with_reducible apply SC.region); (focus (simp (disch := omega) only [go_sem, ↓reduceIte, Nat.reduceEqDiff, Nat.reduceLeDiff, Nat.reduceAdd, reduceCtorEq]; rfl))) | ((with_reducible refine SC.draw Tab.mixed ?_ ?_); (focus (first | rfl | simp (disch := omega) only [go_sem, ↓reduceIte, Nat.reduceEqDiff, Nat.reduceLT, Nat.reduceLeDiff, Nat.reduceAdd, Nat.reduceMul, Nat.reduceSub, reduceCtorEq, Nat.reduceBEq, Int.reduceToNat, Int.reducePow, if_pos, if_neg, q1]))) | (with_reducible refine SC.ops ?_) | ((first | apply SO.call | apply DO.call); (focus (simp (disch := omega) only [go_sem])); (focus (simp (disch := omega) only [go_sem, ↓reduceIte, Nat.reduceEqDiff]; rfl)); (focus (simp (disch := omega) only [go_sem] <;> rfl)); (first | (apply SCall.of; (focus (first | assumption)); (focus (simp (disch := omega) only [go_sem]; rfl))) | (apply DCall.of; (focus (first | assumption)); (focus (simp (disch := omega) only [go_sem, ↓reduceIte, Nat.reduceEqDiff, Nat.reduceLT, Nat.reduceLeDiff, Nat.reduceAdd, Nat.reduceMul, Nat.reduceSub, reduceCtorEq, Nat.reduceBEq, Int.reduceToNat, Int.reducePow, if_pos, if_neg, q1]; rfl))) | (apply SCall.ofF; (focus (first | assumption)); (focus (simp (disch := omega) only [go_sem, ↓reduceIte, Nat.reduceEqDiff, Nat.reduceLT, Nat.reduceLeDiff, Nat.reduceAdd, Nat.reduceMul, Nat.reduceSub, reduceCtorEq, Nat.reduceBEq, Int.reduceToNat, Int.reducePow, if_pos, if_neg, q1]; rfl))))) | ((first | with_reducible apply SO.run | with_reducible apply DO.run); (focus (simp (disch := omega) only [go_sem, ↓reduceIte, Nat.reduceEqDiff, Nat.reduceLeDiff, Nat.reduceAdd, reduceCtorEq, q1]; rfl)))))
      refine hK' _ (y, x % y) ?_ ⟨hy, hy.emod h0, by simp only; rw [int_gcd_step, hg]⟩ (by simp only; have := Int.emod_nonneg x h0; have := Int.emod_lt x h0; omega)
      unfold ic
      (refine Le.of [] hB (by first | exact ⟨Nat.zero_le _, fun _ _ => Nat.zero_le _⟩ | (constructor <;> (try simp) <;> (try omega))) ?_ ?_ <;> (repeat' (first | exact leSl_nil | exact leHp_nil | refine leSl_cons (by simp (disch := omega) only [go_sem, ↓reduceIte, Nat.reduceEqDiff]; rfl) ?_ ?_ | refine leHp_cons (by simp (disch := omega) only [go_sem, ↓reduceIte, Nat.reduceEqDiff, reduceCtorEq]; rfl) ?_ ?_ | exact VLe.junk _ | exact VLe.refl rfl | exact VLe.nil_sl _ _ _ | exact VLe.int (by first | rfl | omega | (dsimp only; omega)) | exact VLe.bool rfl | exact VLe.sl rfl (by first | rfl | omega | (dsimp only; omega) | (simp; done)) | exact VLe.cap rfl (by first | rfl | omega | (dsimp only; omega) | (simp; done)) | exact VLe.im rfl rfl | exact HLe.new rfl | exact HLe.same rfl (LLe.refl rfl) | refine HLe.same rfl ?_ | exact LLe.nil _ | exact LLe.refl rfl | refine LLe.cons ?_ ?_)))

theorem limbsOf_pos {n : Nat} (h : n ≠ 0) : 0 < (limbsOf n).length := List.length_pos_iff.2 fun e => h (limbsOf_nil.1 e)
theorem two_lt {n : Nat} (h : (limbsOf n).length ≤ 2) : n < 18446744073709551616 := by
  have h1 := val_lt (limbsOf_limbs n)
  rw [limbsOf_val] at h1
  have : 4294967296 ^ (limbsOf n).length ≤ 4294967296 ^ 2 := Nat.pow_le_pow_right (by omega) h
  omega
set_option maxHeartbeats 2000000 in
theorem pgcd_i (a b : Int) (K : Nat) (ha : Fits K a) (hb : Fits K b) (hK : K ≤ 100000000) : Spec Tryz.prog 68 [iv a, iv b] (iv (Int.gcd a b : Int)) := by
  have la := fits_len ha
  have lb := fits_len hb
  have t1 := trim_n a.natAbs (by omega)
  have t2 := trim_n b.natAbs (by omega)
  unfold iv sv at *
  refine Spec.run Tryz.func68 rfl Tryz.ntmps68 (by simp) (by simp (disch := omega) only [go_sem, Nat.reduceAdd]; rfl) fun B hB => ?_
  (repeat (first | refine DO.nil (by kernel_rfl) ?_ | with_reducible refine SC.seq ?_ | with_reducible refine SC.skip ?_ | with_reducible refine SC.label ?_ | with_reducible refine SC.block ?_ | with_reducible refine SC.scope ?_ | with_reducible refine SC.nil ?_ | with_reducible refine SC.exit ?_ | with_reducible refine SC.ret ?_ | with_reducible refine SO.nil ?_ | with_reducible refine tq_normal ?_ | with_reducible refine bq_normal ?_ | with_reducible refine bq_same ?_ | with_reducible refine bq_other (by decide) ?_ | with_reducible refine tq_exit ?_ | with_reducible refine tq_ret ?_ | with_reducible refine bq_ret ?_ | with_reducible refine sq_normal ?_ | with_reducible refine sq_exit ?_ | with_reducible refine sq_ret ?_ | ((with_reducible apply SC.condB); (focus (simp (disch := omega) only [go_sem, ↓reduceIte, Nat.reduceEqDiff, Nat.reduceLT, Nat.reduceLeDiff, Nat.reduceAdd, Nat.reduceMul, Nat.reduceSub, reduceCtorEq, Nat.reduceBEq, Int.reduceToNat, Int.reducePow, if_pos, if_neg]; rfl)); (first | refine pickT ?_ | refine pickF ?_)) | ((with_reducible apply SC.region); (focus (simp (disch := omega) only [go_sem, ↓reduceIte, Nat.reduceEqDiff, Nat.reduceAdd, reduceCtorEq]; rfl))) | ((with_reducible refine SC.draw Tab.mixed ?_ ?_); (focus (first | rfl | simp (disch := omega) only [go_sem, ↓reduceIte, Nat.reduceEqDiff, Nat.reduceLT, Nat.reduceLeDiff, Nat.reduceAdd, Nat.reduceMul, Nat.reduceSub, reduceCtorEq, Nat.reduceBEq, Int.reduceToNat, Int.reducePow, if_pos, if_neg]))) | (with_reducible refine SC.ops ?_) | ((first | apply SO.call | apply DO.call); (focus (simp (disch := omega) only [go_sem])); (focus (simp (disch := omega) only [go_sem, ↓reduceIte]; rfl)); (focus (simp (disch := omega) only [go_sem] <;> rfl)); (first | (apply SCall.of; (focus (first | assumption)); (focus (simp (disch := omega) only [go_sem, ↓reduceIte, Nat.reduceEqDiff, Nat.reduceLT, Nat.reduceLeDiff, Nat.reduceAdd, Nat.reduceMul, Nat.reduceSub, reduceCtorEq, Nat.reduceBEq, Int.reduceToNat, Int.reducePow, if_pos, if_neg]; rfl))) | (apply DCall.of; (focus (first | assumption)); (focus (simp (disch := omega) only [go_sem]; rfl))) | (apply SCall.ofF; (focus (first | assumption)); (focus (simp (disch := omega) only [go_sem, ↓reduceIte, Nat.reduceEqDiff, Nat.reduceLT, Nat.reduceLeDiff, Nat.reduceAdd, Nat.reduceMul, Nat.reduceSub, reduceCtorEq, Nat.reduceBEq, Int.reduceToNat, Int.reducePow, if_pos, if_neg]; rfl))))) | ((first | with_reducible apply SO.run | with_reducible apply DO.run); (focus (simp (disch := omega) only [go_sem, ↓reduceIte, Nat.reduceEqDiff, reduceCtorEq]; rfl)))))
  refine SC.loop (fun u : Nat × Nat => ⟨[(4, .pt 2 0), (5, .im (lv (limbsOf u.1)) (limbsOf u.1).length), (6, .im (lv (limbsOf u.2)) (limbsOf u.2).length)], [(2, ⟨27, [.sc (.bool false), .sc (.slice none 0 0)], false⟩)], 3, 56⟩)
    (fun u => (limbsOf u.1).length ≤ K ∧ (limbsOf u.2).length ≤ K ∧ Nat.gcd u.1 u.2 = Int.gcd a b) (fun u => u.2) (a.natAbs, b.natAbs) ?_ ?_ ?_
  · (refine Le.of [] hB (by first | exact ⟨Nat.zero_le _, fun _ _ => Nat.zero_le _⟩ | (constructor <;> (try simp) <;> (try omega))) ?_ ?_ <;> (repeat' (first | exact leSl_nil | exact leHp_nil | refine leSl_cons (by simp (disch := omega) only [go_sem, ↓reduceIte, Nat.reduceEqDiff]; rfl) ?_ ?_ | refine leHp_cons (by simp (disch := omega) only [go_sem, ↓reduceIte]; rfl) ?_ ?_ | exact VLe.junk _ | exact VLe.refl rfl | exact VLe.nil_sl _ _ _ | exact VLe.int (by first | rfl | omega | (dsimp only; omega)) | exact VLe.bool rfl | exact VLe.sl rfl (by first | rfl | omega | (dsimp only; omega) | (simp; done)) | exact VLe.cap rfl (by first | rfl | omega | (dsimp only; omega) | (simp; done)) | exact VLe.im rfl rfl | exact HLe.new rfl | exact HLe.same rfl (LLe.refl rfl) | refine HLe.same rfl ?_ | exact LLe.nil _ | exact LLe.refl rfl | refine LLe.cons ?_ ?_)))
  · exact ⟨la, lb, rfl⟩
  · rintro ⟨x, y⟩ ⟨hx, hy, hg⟩ K' hK'
    simp only at hx hy hg ⊢
    by_cases h0 : y = 0
    · subst h0
      have q1 : decide ((0 : Int) < ((limbsOf 0).length : Int)) = false := by simp [limbsOf_zero]
      have q2 : (((limbsOf 0).length : Int) == 0) = true := by simp [limbsOf_zero]
      have c1 := clone_l (limbsOf x) (by omega)
      have c2 := pvalue_n x false (x : Int) rfl (by omega)
      rw [Nat.gcd_zero_right] at hg
      unfold iv sv at *
      (repeat (first | refine DO.nil (by kernel_rfl) ?_ | with_reducible refine SC.seq ?_ | with_reducible refine SC.skip ?_ | with_reducible refine SC.label ?_ | with_reducible refine SC.block ?_ | with_reducible refine SC.scope ?_ | with_reducible refine SC.nil ?_ | with_reducible refine SC.exit ?_ | with_reducible refine SC.ret ?_ | with_reducible refine SO.nil ?_ | with_reducible refine tq_normal ?_ | with_reducible refine bq_normal ?_ | with_reducible refine bq_same ?_ | with_reducible refine bq_other (by decide) ?_ | with_reducible refine tq_exit ?_ | with_reducible refine tq_ret ?_ | with_reducible refine bq_ret ?_ | with_reducible refine sq_normal ?_ | with_reducible refine sq_exit ?_ | with_reducible refine sq_ret ?_ | ((with_reducible apply SC.condB); (focus (simp (disch := omega) only [go_sem, ↓reduceIte]; rfl)); (first | refine pickT ?_ | refine pickF ?_)) | ((with_reducible apply SC.region); (focus (simp (disch := omega) only [go_sem, ↓reduceIte, Nat.reduceEqDiff, q1, q2]; rfl))) | ((with_reducible refine SC.draw Tab.mixed ?_ ?_); (focus (first | rfl | simp (disch := omega) only [go_sem, ↓reduceIte, Nat.reduceEqDiff, Nat.reduceLT, Nat.reduceLeDiff, Nat.reduceAdd, Nat.reduceMul, Nat.reduceSub, reduceCtorEq, Nat.reduceBEq, Int.reduceToNat, Int.reducePow, if_pos, if_neg, q1, q2, lv_len]))) | (with_reducible refine SC.ops ?_) | ((first | apply SO.call | apply DO.call); (focus (simp (disch := omega) only [go_sem])); (focus (simp (disch := omega) only [go_sem, ↓reduceIte]; rfl)); (focus (simp (disch := omega) only [go_sem] <;> rfl)); (first | (apply SCall.of; (focus (first | assumption)); (focus (simp (disch := omega) only [go_sem]; rfl))) | (apply DCall.of; (focus (first | assumption)); (focus (simp (disch := omega) only [go_sem, ↓reduceIte, Nat.reduceEqDiff, Nat.reduceLT, Nat.reduceLeDiff, Nat.reduceAdd, Nat.reduceMul, Nat.reduceSub, reduceCtorEq, Nat.reduceBEq, Int.reduceToNat, Int.reducePow, if_pos, if_neg, q1, q2, lv_len]; rfl))) | (apply SCall.ofF; (focus (first | assumption)); (focus (simp (disch := omega) only [go_sem, ↓reduceIte, Nat.reduceEqDiff, Nat.reduceLT, Nat.reduceLeDiff, Nat.reduceAdd, Nat.reduceMul, Nat.reduceSub, reduceCtorEq, Nat.reduceBEq, Int.reduceToNat, Int.reducePow, if_pos, if_neg, q1, q2, lv_len]; rfl))))) | ((first | with_reducible apply SO.run | with_reducible apply DO.run); (focus (simp (disch := omega) only [go_sem, ↓reduceIte, Nat.reduceEqDiff, Nat.reduceLeDiff, Nat.reduceAdd]; rfl)))))
      refine retQ_ret Tryz.results68 (by simp (disch := omega) only [go_sem, ↓reduceIte, Nat.reduceEqDiff, Nat.reduceLeDiff, Nat.reduceAdd]; rfl) (by simp (disch := omega) only [go_sem, ↓reduceIte]; rfl) ?_
      rw [hg]
    · have hp := limbsOf_pos h0
      have q1 := decide_eq_true (p := (0 : Int) < ((limbsOf y).length : Int)) (by omega)
      have hmod : x % y < y := Nat.mod_lt _ (by omega)
      have hxy : (limbsOf (x % y)).length ≤ (limbsOf y).length := len_le_of (by omega)
      by_cases h2 : 2 < max (limbsOf x).length (limbsOf y).length
      · have q2 := decide_eq_true (p := (2 : Int) < (if ((limbsOf y).length : Int) > ((limbsOf x).length : Int) then ((limbsOf y).length : Int) else ((limbsOf x).length : Int))) (by split <;> omega)
        obtain ⟨r, ⟨ql, rl, rfl, hql, hrl, vq, vr, lq, lr⟩, c1⟩ := divide_any x y (by omega) (by omega) (by omega)
        have c2 := trim_i rl hrl (by omega)
        rw [vr] at c2
        unfold sv at *
        (repeat (first | refine DO.nil (by kernel_rfl) ?_ | with_reducible refine SC.seq ?_ | with_reducible refine SC.skip ?_ | with_reducible refine SC.label ?_ | with_reducible refine SC.block ?_ | with_reducible refine SC.scope ?_ | with_reducible refine SC.nil ?_ | with_reducible refine SC.exit ?_ | with_reducible refine SC.ret ?_ | with_reducible refine SO.nil ?_ | with_reducible refine tq_normal ?_ | with_reducible refine bq_normal ?_ | with_reducible refine bq_same ?_ | with_reducible refine bq_other (by decide) ?_ | with_reducible refine tq_exit ?_ | with_reducible refine tq_ret ?_ | with_reducible refine bq_ret ?_ | with_reducible refine sq_normal ?_ | with_reducible refine sq_exit ?_ | with_reducible refine sq_ret ?_ | ((with_reducible apply SC.condB); (focus (simp (disch := omega) only [go_sem, ↓reduceIte]; rfl)); (first | refine pickT ?_ | refine pickF ?_)) | ((with_reducible apply SC.region); (focus (simp (disch := omega) only [go_sem, ↓reduceIte, Nat.reduceEqDiff, q1, q2]; rfl))) | ((with_reducible refine SC.draw Tab.mixed ?_ ?_); (focus (first | rfl | simp (disch := omega) only [go_sem, ↓reduceIte, Nat.reduceEqDiff, Nat.reduceLT, Nat.reduceLeDiff, Nat.reduceAdd, Nat.reduceMul, Nat.reduceSub, reduceCtorEq, Nat.reduceBEq, Int.reduceToNat, Int.reducePow, if_pos, if_neg, q1, q2, lv_len]))) | (with_reducible refine SC.ops ?_) | ((first | apply SO.call | apply DO.call); (focus (simp (disch := omega) only [go_sem])); (focus (simp (disch := omega) only [go_sem, ↓reduceIte, Nat.reduceEqDiff]; rfl)); (focus (simp (disch := omega) only [go_sem] <;> rfl)); (first | (apply SCall.of; (focus (first | assumption)); (focus (simp (disch := omega) only [go_sem]; rfl))) | (apply DCall.of; (focus (first | assumption)); (focus (simp (disch := omega) only [go_sem, ↓reduceIte, Nat.reduceEqDiff, Nat.reduceLT, Nat.reduceLeDiff, Nat.reduceAdd, Nat.reduceMul, Nat.reduceSub, reduceCtorEq, Nat.reduceBEq, Int.reduceToNat, Int.reducePow, if_pos, if_neg, q1, q2, lv_len]; rfl))) | (apply SCall.ofF; (focus (first | assumption)); (focus (simp (disch := omega) only [go_sem, ↓reduceIte, Nat.reduceEqDiff, Nat.reduceLT, Nat.reduceLeDiff, Nat.reduceAdd, Nat.reduceMul, Nat.reduceSub, reduceCtorEq, Nat.reduceBEq, Int.reduceToNat, Int.reducePow, if_pos, if_neg, q1, q2, lv_len]; rfl))))) | ((first | with_reducible apply SO.run | with_reducible apply DO.run); (focus (simp (disch := omega) only [go_sem, ↓reduceIte, Nat.reduceEqDiff]; rfl)))))
        refine hK' _ (y, x % y) ?_ ⟨hy, by simp only; omega, by simp only; rw [nat_gcd_step, hg]⟩ (by simp only; omega)
        (refine Le.of [] hB (by first | exact ⟨Nat.zero_le _, fun _ _ => Nat.zero_le _⟩ | (constructor <;> (try simp) <;> (try omega))) ?_ ?_ <;> (repeat' (first | exact leSl_nil | exact leHp_nil | refine leSl_cons (by simp (disch := omega) only [go_sem, ↓reduceIte, Nat.reduceEqDiff]; rfl) ?_ ?_ | refine leHp_cons (by simp (disch := omega) only [go_sem, ↓reduceIte]; rfl) ?_ ?_ | exact VLe.junk _ | exact VLe.refl rfl | exact VLe.nil_sl _ _ _ | exact VLe.int (by first | rfl | omega | (dsimp only; omega)) | exact VLe.bool rfl | exact VLe.sl rfl (by first | rfl | omega | (dsimp only; omega) | (simp; done)) | exact VLe.cap rfl (by first | rfl | omega | (dsimp only; omega) | (simp; done)) | exact VLe.im rfl rfl | exact HLe.new rfl | exact HLe.same rfl (LLe.refl rfl) | refine HLe.same rfl ?_ | exact LLe.nil _ | exact LLe.refl rfl | refine LLe.cons ?_ ?_)))
      · have q2 := decide_eq_false (p := (2 : Int) < (if ((limbsOf y).length : Int) > ((limbsOf x).length : Int) then ((limbsOf y).length : Int) else ((limbsOf x).length : Int))) (by split <;> omega)
        have q3 : (((limbsOf y).length : Int) == 0) = false := by rw [beq_eq_false_iff_ne]; omega
        have c1 := word_i (limbsOf x) (limbsOf_limbs x) (by omega)
        have c2 := word_i (limbsOf y) (limbsOf_limbs y) (by omega)
        rw [limbsOf_val] at c1 c2
        have bx := two_lt (n := x) (by omega)
        have bY := two_lt (n := y) (by omega)
        unfold sv at *
        (repeat (first | refine DO.nil (by kernel_rfl) ?_ | with_reducible refine SC.seq ?_ | with_reducible refine SC.skip ?_ | with_reducible refine SC.label ?_ | with_reducible refine SC.block ?_ | with_reducible refine SC.scope ?_ | with_reducible refine SC.nil ?_ | with_reducible refine SC.exit ?_ | with_reducible refine SC.ret ?_ | with_reducible refine SO.nil ?_ | with_reducible refine tq_normal ?_ | with_reducible refine bq_normal ?_ | with_reducible refine bq_same ?_ | with_reducible refine bq_other (by decide) ?_ | with_reducible refine tq_exit ?_ | with_reducible refine tq_ret ?_ | with_reducible refine bq_ret ?_ | with_reducible refine sq_normal ?_ | with_reducible refine sq_exit ?_ | with_reducible refine sq_ret ?_ | ((with_reducible apply SC.condB); (focus (simp (disch := omega) only [go_sem, ↓reduceIte]; rfl)); (first | refine pickT ?_ | refine pickF ?_)) | ((with_reducible apply SC.region); (focus (simp (disch := omega) only [go_sem, ↓reduceIte, Nat.reduceEqDiff, q1, q2, q3]; rfl))) | ((with_reducible refine SC.draw Tab.mixed ?_ ?_); (focus (first | rfl | simp (disch := omega) only [go_sem, ↓reduceIte, Nat.reduceEqDiff, Nat.reduceLT, Nat.reduceLeDiff, Nat.reduceAdd, Nat.reduceMul, Nat.reduceSub, reduceCtorEq, Nat.reduceBEq, Int.reduceToNat, Int.reducePow, if_pos, if_neg, q1, q2, q3, lv_len]))) | (with_reducible refine SC.ops ?_) | ((first | apply SO.call | apply DO.call); (focus (simp (disch := omega) only [go_sem])); (focus (simp (disch := omega) only [go_sem, ↓reduceIte]; rfl)); (focus (simp (disch := omega) only [go_sem] <;> rfl)); (first | (apply SCall.of; (focus (first | assumption)); (focus (simp (disch := omega) only [go_sem]; rfl))) | (apply DCall.of; (focus (first | assumption)); (focus (simp (disch := omega) only [go_sem, ↓reduceIte, Nat.reduceEqDiff, Nat.reduceLT, Nat.reduceLeDiff, Nat.reduceAdd, Nat.reduceMul, Nat.reduceSub, reduceCtorEq, Nat.reduceBEq, Int.reduceToNat, Int.reducePow, if_pos, if_neg, q1, q2, q3, lv_len]; rfl))) | (apply SCall.ofF; (focus (first | assumption)); (focus (simp (disch := omega) only [go_sem, ↓reduceIte, Nat.reduceEqDiff, Nat.reduceLT, Nat.reduceLeDiff, Nat.reduceAdd, Nat.reduceMul, Nat.reduceSub, reduceCtorEq, Nat.reduceBEq, Int.reduceToNat, Int.reducePow, if_pos, if_neg, q1, q2, q3, lv_len]; rfl))))) | ((first | with_reducible apply SO.run | with_reducible apply DO.run); (focus (simp (disch := omega) only [go_sem, ↓reduceIte, Nat.reduceEqDiff]; rfl)))))
        refine SC.loop (fun u : Nat × Nat => ⟨[(4, .pt 2 0), (9, .sc (.int .u64 u.1)), (10, .sc (.int .u64 u.2))], [(2, ⟨27, [.sc (.bool false), .sc (.slice none 0 0)], false⟩)], 3, 56⟩)
          (fun u => u.1 < 18446744073709551616 ∧ u.2 < 18446744073709551616 ∧ Nat.gcd u.1 u.2 = Int.gcd a b) (fun u => u.2) (x, y) ?_ ?_ ?_
        · (refine Le.of [] hB (by first | exact ⟨Nat.zero_le _, fun _ _ => Nat.zero_le _⟩ | (constructor <;> (try simp) <;> (try omega))) ?_ ?_ <;> (repeat' (first | exact leSl_nil | exact leHp_nil | refine leSl_cons (by simp (disch := omega) only [go_sem, ↓reduceIte, Nat.reduceEqDiff]; rfl) ?_ ?_ | refine leHp_cons (by simp (disch := omega) only [go_sem, ↓reduceIte]; rfl) ?_ ?_ | exact VLe.junk _ | exact VLe.refl rfl | exact VLe.nil_sl _ _ _ | exact VLe.int (by first | rfl | omega | (dsimp only; omega)) | exact VLe.bool rfl | exact VLe.sl rfl (by first | rfl | omega | (dsimp only; omega) | (simp; done)) | exact VLe.cap rfl (by first | rfl | omega | (dsimp only; omega) | (simp; done)) | exact VLe.im rfl rfl | exact HLe.new rfl | exact HLe.same rfl (LLe.refl rfl) | refine HLe.same rfl ?_ | exact LLe.nil _ | exact LLe.refl rfl | refine LLe.cons ?_ ?_)))
        · exact ⟨bx, bY, hg⟩
        · rintro ⟨u, v⟩ ⟨hu, hv, hg⟩ K2 hK2
          simp only at hu hv hg ⊢
          by_cases h0 : v = 0
          · subst h0
            have c3 := limbs_s u hu
            have c4 := value_i false [u % 4294967296, u / 4294967296] (limbs_two u hu) (by simp)
            rw [Nat.gcd_zero_right] at hg
            rw [val_two] at c4
            unfold iv sv lv at c4
            simp only [List.map, List.length_cons, List.length_nil, Nat.zero_add, Nat.reduceAdd] at c4
            have q4 : decide ((0 : Int) < ((0 : Nat) : Int)) = false := by simp
            (repeat (first | refine DO.nil (by kernel_rfl) ?_ | with_reducible refine SC.seq ?_ | with_reducible refine SC.skip ?_ | with_reducible refine SC.label ?_ | with_reducible refine SC.block ?_ | with_reducible refine SC.scope ?_ | with_reducible refine SC.nil ?_ | with_reducible refine SC.exit ?_ | with_reducible refine SC.ret ?_ | with_reducible refine SO.nil ?_ | with_reducible refine tq_normal ?_ | with_reducible refine bq_normal ?_ | with_reducible refine bq_same ?_ | with_reducible refine bq_other (by decide) ?_ | with_reducible refine tq_exit ?_ | with_reducible refine tq_ret ?_ | with_reducible refine bq_ret ?_ | with_reducible refine sq_normal ?_ | with_reducible refine sq_exit ?_ | with_reducible refine sq_ret ?_ | ((with_reducible apply SC.condB); (focus (simp (disch := omega) only [go_sem, ↓reduceIte]; rfl)); (first | refine pickT ?_ | refine pickF ?_)) | ((with_reducible apply SC.region); (focus (simp (disch := omega) only [go_sem, ↓reduceIte, Nat.reduceEqDiff, q4]; rfl))) | ((with_reducible refine SC.draw Tab.mixed ?_ ?_); (focus (first | rfl | simp (disch := omega) only [go_sem, ↓reduceIte, Nat.reduceEqDiff, Nat.reduceLT, Nat.reduceLeDiff, Nat.reduceAdd, Nat.reduceMul, Nat.reduceSub, reduceCtorEq, Nat.reduceBEq, Int.reduceToNat, Int.reducePow, if_pos, if_neg, q4]))) | (with_reducible refine SC.ops ?_) | ((first | apply SO.call | apply DO.call); (focus (simp (disch := omega) only [go_sem])); (focus (simp (disch := omega) only [go_sem, ↓reduceIte]; rfl)); (focus (simp (disch := omega) only [go_sem, Nat.reduceLT] <;> rfl)); (first | (apply SCall.of; (focus (first | assumption)); (focus (simp (disch := omega) only [go_sem]; rfl))) | (apply DCall.of; (focus (first | assumption)); (focus (simp (disch := omega) only [go_sem, ↓reduceIte, Nat.reduceEqDiff, Nat.reduceLT, Nat.reduceLeDiff, Nat.reduceAdd, Nat.reduceMul, Nat.reduceSub, reduceCtorEq, Nat.reduceBEq, Int.reduceToNat, Int.reducePow, if_pos, if_neg, q4]; rfl))) | (apply SCall.ofF; (focus (first | assumption)); (focus (simp (disch := omega) only [go_sem, ↓reduceIte, Nat.reduceEqDiff, Nat.reduceLT, Nat.reduceLeDiff, Nat.reduceAdd, Nat.reduceMul, Nat.reduceSub, reduceCtorEq, Nat.reduceBEq, Int.reduceToNat, Int.reducePow, if_pos, if_neg, q4]; rfl))))) | ((first | with_reducible apply SO.run | with_reducible apply DO.run); (focus (simp (disch := omega) only [go_sem, ↓reduceIte, Nat.reduceEqDiff, Nat.reduceLeDiff, Nat.reduceAdd]; rfl)))))
            refine retQ_ret Tryz.results68 (by simp (disch := omega) only [go_sem, ↓reduceIte, Nat.reduceEqDiff, Nat.reduceLeDiff, Nat.reduceAdd]; rfl) (by simp (disch := omega) only [go_sem, ↓reduceIte]; rfl) ?_
            subst hg
            rfl
          · have q4 := decide_eq_true (p := (0 : Int) < (v : Int)) (by omega)
            have e5 : (u : Int).tmod (v : Int) = ((u % v : Nat) : Int) := (Int.ofNat_tmod _ _).symm
            have hm : u % v < v := Nat.mod_lt _ (by omega)
            (repeat (first | refine DO.nil (by kernel_rfl) ?_ | with_reducible refine SC.seq ?_ | with_reducible refine SC.skip ?_ | with_reducible refine SC.label ?_ | with_reducible refine SC.block ?_ | with_reducible refine SC.scope ?_ | with_reducible refine SC.nil ?_ | with_reducible refine SC.exit ?_ | with_reducible refine SC.ret ?_ | with_reducible refine SO.nil ?_ | with_reducible refine tq_normal ?_ | with_reducible refine bq_normal ?_ | with_reducible refine bq_same ?_ | with_reducible refine bq_other (by decide) ?_ | with_reducible refine tq_exit ?_ | with_reducible refine tq_ret ?_ | with_reducible refine bq_ret ?_ | with_reducible refine sq_normal ?_ | with_reducible refine sq_exit ?_ | with_reducible refine sq_ret ?_ | ((with_reducible apply SC.condB); (focus (simp (disch := omega) only [go_sem, ↓reduceIte]; rfl)); (first | refine pickT ?_ | refine pickF ?_)) | ((with_reducible apply SC.region); (focus (simp (disch := omega) only [go_sem, ↓reduceIte, Nat.reduceEqDiff, q4]; rfl))) | ((with_reducible refine SC.draw Tab.mixed ?_ ?_); (focus (first | rfl | simp (disch := omega) only [go_sem, ↓reduceIte, Nat.reduceEqDiff, Nat.reduceLT, Nat.reduceLeDiff, Nat.reduceAdd, Nat.reduceMul, Nat.reduceSub, reduceCtorEq, Nat.reduceBEq, Int.reduceToNat, Int.reducePow, if_pos, if_neg, q4, e5]))) | (with_reducible refine SC.ops ?_) | ((first | apply SO.call | apply DO.call); (focus (simp (disch := omega) only [go_sem, ↓reduceIte, Nat.reduceEqDiff, Nat.reduceLT, Nat.reduceLeDiff, Nat.reduceAdd, Nat.reduceMul, Nat.reduceSub, reduceCtorEq, Nat.reduceBEq, Int.reduceToNat, Int.reducePow, if_pos, if_neg, q4, e5])); (focus (simp (disch := omega) only [go_sem, ↓reduceIte, Nat.reduceEqDiff, Nat.reduceLT, Nat.reduceLeDiff, Nat.reduceAdd, Nat.reduceMul, Nat.reduceSub, reduceCtorEq, Nat.reduceBEq, Int.reduceToNat, Int.reducePow, if_pos, if_neg, q4, e5]; rfl)); (focus (simp (disch := omega) only [go_sem, ↓reduceIte, Nat.reduceEqDiff, Nat.reduceLT, Nat.reduceLeDiff, Nat.reduceAdd, Nat.reduceMul, Nat.reduceSub, reduceCtorEq, Nat.reduceBEq, Int.reduceToNat, Int.reducePow, if_pos, if_neg, q4, e5] <;> rfl)); (first | (apply SCall.of; (focus (first | assumption)); (focus (simp (disch := omega) only [go_sem, ↓reduceIte, Nat.reduceEqDiff, Nat.reduceLT, Nat.reduceLeDiff, Nat.reduceAdd, Nat.reduceMul, Nat.reduceSub, reduceCtorEq, Nat.reduceBEq, Int.reduceToNat, Int.reducePow, if_pos, if_neg, q4, e5]; rfl))) | (apply DCall.of; (focus (first | assumption)); (focus (simp (disch := omega) only [go_sem, ↓reduceIte, Nat.reduceEqDiff, Nat.reduceLT, Nat.reduceLeDiff, Nat.reduceAdd, Nat.reduceMul, Nat.reduceSub, reduceCtorEq, Nat.reduceBEq, Int.reduceToNat, Int.reducePow, if_pos, if_neg, q4, e5]; rfl))) | (apply SCall.ofF; (focus (first | assumption)); (focus (simp (disch := omega) only [go_sem, ↓reduceIte, Nat.reduceEqDiff, Nat.reduceLT, Nat.reduceLeDiff, Nat.reduceAdd, Nat.reduceMul, Nat.reduceSub, reduceCtorEq, Nat.reduceBEq, Int.reduceToNat, Int.reducePow, if_pos, if_neg, q4, e5]; rfl))))) | ((first | with_reducible apply SO.run | with_reducible apply DO.run); (focus (simp (disch := omega) only [go_sem, ↓reduceIte, Nat.reduceEqDiff, if_neg, e5]; rfl)))))
            refine hK2 _ (v, u % v) ?_ ⟨hv, by simp only; omega, by simp only; rw [nat_gcd_step, hg]⟩ (by simp only; omega)
            (refine Le.of [] hB (by first | exact ⟨Nat.zero_le _, fun _ _ => Nat.zero_le _⟩ | (constructor <;> (try simp) <;> (try omega))) ?_ ?_ <;> (repeat' (first | exact leSl_nil | exact leHp_nil | refine leSl_cons (by simp (disch := omega) only [go_sem, ↓reduceIte, Nat.reduceEqDiff]; rfl) ?_ ?_ | refine leHp_cons (by simp (disch := omega) only [go_sem, ↓reduceIte]; rfl) ?_ ?_ | exact VLe.junk _ | exact VLe.refl rfl | exact VLe.nil_sl _ _ _ | exact VLe.int (by first | rfl | omega | (dsimp only; omega)) | exact VLe.bool rfl | exact VLe.sl rfl (by first | rfl | omega | (dsimp only; omega) | (simp; done)) | exact VLe.cap rfl (by first | rfl | omega | (dsimp only; omega) | (simp; done)) | exact VLe.im rfl rfl | exact HLe.new rfl | exact HLe.same rfl (LLe.refl rfl) | refine HLe.same rfl ?_ | exact LLe.nil _ | exact LLe.refl rfl | refine LLe.cons ?_ ?_)))
end Go.Proofs.YtiimoommhahloaaGreatDoor
