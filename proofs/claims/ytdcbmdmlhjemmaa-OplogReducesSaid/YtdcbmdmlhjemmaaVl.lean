/- Texts joined: Qk Jp Ql Qm Ti Ra Rb Lq Rc Rd Re Rf. -/
import Derived.Defers
import Derived.Recover
import Derived.Tactics
import Derived.Test.YtdcbmdmlhjemmaaVh
import Derived.Test.YtdcbmdmlhjemmaaVi
import Derived.Test.YtdcbmdmlhjemmaaVj
import Derived.Test.YtdcbmdmlhjemmaaVk
set_option linter.all false
open Nat renaming reduceEqDiff → zn1, reduceLT → zn2, reduceLeDiff → zn3, reduceAdd → zn4, reduceMul → zn5, reduceSub → zn6, reduceBEq → zn7, mul_one → zn8, zero_add → zn9, one_mul → zna, le_refl → znb, zero_le → znc, add_sub_cancel_left → znd, sub_eq_zero_of_le → zne, add_assoc → znf
open Int renaming reduceToNat → zi1, reducePow → zi2
open List renaming length_append → zl1, drop_zero → zl2, take_succ_cons → zl3, take_zero → zl4, getElem?_drop → zl5, append_assoc → zl6, nil_append → zl7, cons_append → zl8, drop_succ_cons → zl9, take_of_length_le → zla, getElem?_eq_getElem → zlb, getElem?_eq_some_iff → zlc, map_cons → zld, map_nil → zle, all_eq_true → zlf
namespace Go.Proofs.Ytdcbmdmlhjemmaa
open Go.RowKit
theorem divide_any (X Y : Nat) (hX : (limbsOf X).length ≤ 300000000000) (hY : (limbsOf Y).length ≤ 300000000000) (h0 : 0 < Y) : ∃ x, DivTo X Y x ∧ Spec Try.prog 88 [sv (limbsOf X), sv (limbsOf Y)] x := by
 rcases Nat.lt_or_ge X Y with h | h
 ·exact div_less X Y hX hY h
 ·rcases Nat.lt_or_ge 2 (limbsOf X).length with h2 | h2
  ·rcases Nat.lt_or_ge Y 4294967296 with h3 | h3
   ·exact div_one X Y hX h2 h0 h3
   ·exact div_long X Y hX h2 (limbsOf_ge h3) h
  ·exact div_two X Y h2 h0 h
theorem sgn_abs (x : Int) : sgn (decide (x < 0)) x.natAbs = x := by
 unfold sgn
 by_cases h : x < 0
 ·simp [h]; omega
 ·simp [h]; omega
set_option maxHeartbeats 1000000 in
theorem pdivmod_i (x y : Int) (K : Nat) (hx : Fits K x) (hy : Fits K y) (hK : K ≤ 200000000000) (h0 : y ≠ 0) : Spec Try.prog 76 [iv x, iv y] (.tu [iv (x / y), iv (x % y), .sc (.int .i64 0)]) := by
 have lx := fits_len hx
 have ly := fits_len hy
 have hY : 0 < y.natAbs := by omega
 obtain ⟨r, ⟨ql, rl, rfl, hql, hrl, vq, vr, lq, lr⟩, c3⟩ := divide_any x.natAbs y.natAbs (by omega) (by omega) hY
 have c1 := trim_n x.natAbs (by omega)
 have c2 := trim_n y.natAbs (by omega)
 have c4 := trim_i rl hrl (by omega)
 rw [vr] at c4
 have hR : x.natAbs % y.natAbs < y.natAbs := Nat.mod_lt _ hY
 have lR : (limbsOf (x.natAbs % y.natAbs)).length ≤ (limbsOf y.natAbs).length := len_le_of (by omega)
 have hQ : x.natAbs / y.natAbs ≤ x.natAbs := Nat.div_le_self _ _
 have lQ : (limbsOf (x.natAbs / y.natAbs)).length ≤ (limbsOf x.natAbs).length := len_le_of hQ
 obtain ⟨s1, s2⟩ := divmod_spec (decide (x < 0)) (decide (y < 0)) x.natAbs y.natAbs hY
 rw [sgn_abs, sgn_abs] at s1 s2
 have q1 : (((limbsOf y.natAbs).length : Int) == 0) = false := by
  rw [beq_eq_false_iff_ne]
  have : limbsOf y.natAbs ≠ [] := fun h => by have := limbsOf_nil.1 h; omega
  have := List.length_pos_iff.2 this
  omega
 have hne : ∀ b c : Bool, (b != c) = decide (b ≠ c) := by intro b c; cases b <;> cases c <;> rfl
 by_cases hn : x < 0 ∧ 0 < x.natAbs % y.natAbs
 ·obtain ⟨hneg, hpos⟩ := hn
  have hnx := decide_eq_true hneg
  rw [hnx] at s1 s2
  simp only [true_and, if_pos hpos] at s1 s2
  have q2 := decide_eq_true (p := (0 : Int) < ((limbsOf (x.natAbs % y.natAbs)).length : Int)) (by
   have : limbsOf (x.natAbs % y.natAbs) ≠ [] := fun h => by have := limbsOf_nil.1 h; omega
   have := List.length_pos_iff.2 this
   omega)
  have c5 := trim_i ql hql (by omega)
  rw [vq] at c5
  have c6 := pplus_i (limbsOf (x.natAbs / y.natAbs)) [1] (limbsOf_limbs _) (limbs_one (by omega)) (by omega) (by simp)
  rw [limbsOf_val, val_one] at c6
  have c7 := pminus_i (limbsOf y.natAbs) (limbsOf (x.natAbs % y.natAbs)) (limbsOf_limbs _) (limbsOf_limbs _) (by omega) lR (by rw [limbsOf_val, limbsOf_val]; omega)
  rw [limbsOf_val, limbsOf_val] at c7
  have gq := val_lt (limbsOf_limbs (x.natAbs / y.natAbs))
  rw [limbsOf_val] at gq
  have c8 := pvalue_dg (max (limbsOf (x.natAbs / y.natAbs)).length [1].length + 1) (x.natAbs / y.natAbs + 1) (true != decide (y < 0)) (x / y) (by
    rw [← s1, hne]; unfold sgn; by_cases hb : y < 0 <;> simp [hb]) (by
    have : 4294967296 ^ (limbsOf (x.natAbs / y.natAbs)).length ≤ 4294967296 ^ max (limbsOf (x.natAbs / y.natAbs)).length [1].length := Nat.pow_le_pow_right (by omega) (by omega)
    rw [Nat.pow_succ]; omega) (by simp; omega)
  have gy := val_lt (limbsOf_limbs y.natAbs)
  rw [limbsOf_val] at gy
  have c9 := pvalue_dg (limbsOf y.natAbs).length (y.natAbs - x.natAbs % y.natAbs) false (x % y) (by rw [← s2]; unfold sgn; simp; omega) (by omega) (by omega)
  unfold iv sv at *
  rw [hnx]
  rw [lv_one] at c6
  simp only [List.length_singleton] at c6 c8
  refine Spec.run Try.func76 rfl Try.ntmps76 (by simp) sF fun B hB => ?_
  (repeat (first | refine DO.nil (by kernel_rfl) ?_ | (with_reducible refine oA ?_) | ((first | apply SO.call | apply DO.call); (iterate 3 (focus (simp (disch := omega) only [go_sem, ↓reduceIte, zn1, zn2, zn3] <;> rfl))); (first | apply SCall.ofX | apply DCall.ofX); (focus (assumption)); (focus (simp (disch := omega) only [go_sem, ↓reduceIte, zn7] <;> rfl))) | ((with_reducible first | apply wa | apply wb | apply wc | apply wd); (focus (simp (disch := omega) only [go_sem, ↓reduceIte, zn1, zn3, zn4, reduceCtorEq, q1, q2] <;> rfl)); (first | refine pT ?_ | refine pF ?_ | fail_if_success with_reducible refine pA ?_)) | ((with_reducible refine SC.draw Tab.mixed ?_ ?_); rfl) | (with_reducible apply SC.ops)))
  exact retQ_ret Try.results76 sF sF rfl
 ·have hif : ¬(decide (x < 0) = true ∧ 0 < x.natAbs % y.natAbs) := by rw [decide_eq_true_eq]; exact hn
  rw [if_neg hif] at s1 s2
  have c8 := value_i (decide (x < 0) != decide (y < 0)) ql hql (by omega)
  rw [vq, show sgn (decide (x < 0) != decide (y < 0)) (x.natAbs / y.natAbs) = x / y by
   rw [← s1, hne]; unfold sgn; by_cases hb : decide (x < 0) = decide (y < 0) <;> simp [hb]] at c8
  have c9 := pvalue_n (x.natAbs % y.natAbs) false (x % y) (by rw [← s2]; rfl) (by omega)
  by_cases hneg : x < 0
  ·have hnx := decide_eq_true hneg
   have q2 := decide_eq_false (p := (0 : Int) < ((limbsOf (x.natAbs % y.natAbs)).length : Int)) (by
    have : x.natAbs % y.natAbs = 0 := by omega
    rw [this, limbsOf_zero]; simp)
   unfold iv sv at *
   rw [hnx] at c8 ⊢
   refine Spec.run Try.func76 rfl Try.ntmps76 (by simp) sF fun B hB => ?_
   (repeat (first | refine DO.nil (by kernel_rfl) ?_ | (with_reducible refine oA ?_) | ((first | apply SO.call | apply DO.call); (iterate 3 (focus (simp (disch := omega) only [go_sem, ↓reduceIte, zn1, zn2] <;> rfl))); (first | apply SCall.ofX | apply DCall.ofX); (focus (assumption)); (focus (simp (disch := omega) only [go_sem] <;> rfl))) | ((with_reducible first | apply wa | apply wb | apply wc | apply wd); (focus (simp (disch := omega) only [go_sem, ↓reduceIte, zn1, zn3, zn4, reduceCtorEq, q1, q2] <;> rfl)); (first | refine pickF ?_ | fail_if_success with_reducible refine pickA ?_)) | ((with_reducible refine SC.draw Tab.mixed ?_ ?_); rfl) | (with_reducible apply SC.ops)))
   exact retQ_ret Try.results76 sF sF rfl
  ·have hnx := decide_eq_false hneg
   unfold iv sv at *
   rw [hnx] at c8 ⊢
   refine Spec.run Try.func76 rfl Try.ntmps76 (by simp) sF fun B hB => ?_
   (repeat (first | refine DO.nil (by kernel_rfl) ?_ | (with_reducible refine oA ?_) | ((first | apply SO.call | apply DO.call); (iterate 3 (focus (simp (disch := omega) only [go_sem, ↓reduceIte, zn1, zn2] <;> rfl))); (first | apply SCall.ofX | apply DCall.ofX); (focus (assumption)); (focus (simp (disch := omega) only [go_sem] <;> rfl))) | ((with_reducible first | apply wa | apply wb | apply wc | apply wd); (focus (simp (disch := omega) only [go_sem, ↓reduceIte, zn1, zn3, zn4, reduceCtorEq, q1] <;> rfl)); (first | refine pickF ?_ | fail_if_success with_reducible refine pickA ?_)) | ((with_reducible refine SC.draw Tab.mixed ?_ ?_); rfl) | (with_reducible apply SC.ops)))
   exact retQ_ret Try.results76 sF sF rfl
theorem made_int (x : Int) (h : (limbsOf x.natAbs).length ≤ 1000000000000) (b : Bool) (hb : decide (x < 0) = b) : Spec Try.prog 62 [sv (limbsOf x.natAbs), .sc (.bool b)] (iv x) := by
 have := made_i (limbsOf x.natAbs) b (limbsOf_limbs _) h
 rwa [limbsOf_val, show sgn b x.natAbs = x by rw [← hb]; unfold sgn; split <;> simp_all <;> omega] at this
theorem divmod_1 (x y : Int) (K : Nat) (hx : Fits K x) (hy : Fits K y) (hK : K ≤ 200000000000) (h0 : y ≠ 0) (hna : decide (x < 0) = false) (hnb : decide (y < 0) = false) : Spec Try.prog 35 [iv x, iv y] (.tu [iv (x / y), iv (x % y), .sc (.int .i64 0)]) := by
 have lx := fits_len hx
 have ly := fits_len hy
 have c1 := made_int x (by omega) _ hna
 have c2 := made_int y (by omega) _ hnb
 have c3 := sign_i y K hy (by omega)
 have q1 : (y.sign == 0) = false := by simp [Int.sign_eq_zero_iff_zero, h0]
 have hp : 0 < y.natAbs := by omega
 have c4 := divide_i x.natAbs y.natAbs K hx hy (by omega) hp
 have hsp := divmod_spec false false x.natAbs y.natAbs hp
 rw [show sgn false x.natAbs = x by unfold sgn; simp at hna ⊢; omega, show sgn false y.natAbs = y by unfold sgn; simp at hnb ⊢; omega] at hsp
 have hml := Nat.mod_lt x.natAbs hp
 have fq : Fits (K + 1) ((x.natAbs / y.natAbs : Nat) : Int) := (hx.mono (Nat.le_succ K)).of_natAbs_le (by rw [Int.natAbs_natCast]; exact Nat.div_le_self _ _)
 have fr : Fits (K + 1) ((x.natAbs % y.natAbs : Nat) : Int) := (hy.mono (Nat.le_succ K)).of_natAbs_le (by rw [Int.natAbs_natCast]; exact Nat.le_of_lt hml)
 simp only [Bool.false_eq_true, false_and, if_false, ne_eq, not_true_eq_false] at hsp
 rw [← hsp.1, ← hsp.2]
 generalize x.natAbs / y.natAbs = q at *
 generalize x.natAbs % y.natAbs = r at *
 unfold iv sv at *
 rw [hna, hnb]
 rw [hna] at c1
 rw [hnb] at c2 c3
 have q3 : (false != false) = false := rfl
 refine Spec.run Try.func35 rfl Try.ntmps35 (by simp) sF fun B hB => ?_
 (repeat (first | refine DO.nil (by kernel_rfl) ?_ | (with_reducible refine oA ?_) | ((first | apply SO.call | apply DO.call); (iterate 3 (focus (simp (disch := omega) only [go_sem, ↓reduceIte, zn1] <;> rfl))); (first | apply SCall.ofX | apply DCall.ofX); (focus (assumption)); (focus (simp (disch := omega) only [go_sem] <;> rfl))) | ((with_reducible first | apply wa | apply wb | apply wc | apply wd); (focus (simp (disch := omega) only [go_sem, ↓reduceIte, zn1, zn2, zn3, zn4, reduceCtorEq, q1, q3] <;> rfl)); (first | refine pickF ?_ | fail_if_success with_reducible refine pickA ?_)) | ((with_reducible refine SC.draw Tab.mixed ?_ ?_); rfl) | (with_reducible apply SC.ops)))
 exact retQ_ret Try.results35 sF sF rfl
theorem divmod_2 (x y : Int) (K : Nat) (hx : Fits K x) (hy : Fits K y) (hK : K ≤ 200000000000) (h0 : y ≠ 0) (hna : decide (x < 0) = false) (hnb : decide (y < 0) = true) : Spec Try.prog 35 [iv x, iv y] (.tu [iv (x / y), iv (x % y), .sc (.int .i64 0)]) := by
 have lx := fits_len hx
 have ly := fits_len hy
 have c1 := made_int x (by omega) _ hna
 have c2 := made_int y (by omega) _ hnb
 have c3 := sign_i y K hy (by omega)
 have q1 : (y.sign == 0) = false := by simp [Int.sign_eq_zero_iff_zero, h0]
 have hp : 0 < y.natAbs := by omega
 have c4 := divide_i x.natAbs y.natAbs K hx hy (by omega) hp
 have hsp := divmod_spec false true x.natAbs y.natAbs hp
 rw [show sgn false x.natAbs = x by unfold sgn; simp at hna ⊢; omega, show sgn true y.natAbs = y by unfold sgn; simp at hnb ⊢; omega] at hsp
 have hml := Nat.mod_lt x.natAbs hp
 have fq : Fits (K + 1) ((x.natAbs / y.natAbs : Nat) : Int) := (hx.mono (Nat.le_succ K)).of_natAbs_le (by rw [Int.natAbs_natCast]; exact Nat.div_le_self _ _)
 have fr : Fits (K + 1) ((x.natAbs % y.natAbs : Nat) : Int) := (hy.mono (Nat.le_succ K)).of_natAbs_le (by rw [Int.natAbs_natCast]; exact Nat.le_of_lt hml)
 have c10 := neg_i (((x.natAbs / y.natAbs : Nat) : Int)) (K + 2) (fq.mono (by omega)) (by omega)
 simp only [Bool.false_eq_true, false_and, if_false, ne_eq, not_false_eq_true, if_true] at hsp
 rw [← hsp.1, ← hsp.2]
 generalize x.natAbs / y.natAbs = q at *
 generalize x.natAbs % y.natAbs = r at *
 unfold iv sv at *
 rw [hna, hnb]
 rw [hna] at c1
 rw [hnb] at c2 c3
 have q3 : (false != true) = true := rfl
 refine Spec.run Try.func35 rfl Try.ntmps35 (by simp) sF fun B hB => ?_
 (repeat (first | refine DO.nil (by kernel_rfl) ?_ | (with_reducible refine oA ?_) | ((first | apply SO.call | apply DO.call); (iterate 3 (focus (simp (disch := omega) only [go_sem, ↓reduceIte, zn1] <;> rfl))); (first | apply SCall.ofX | apply DCall.ofX); (focus (assumption)); (focus (simp (disch := omega) only [go_sem] <;> rfl))) | ((with_reducible first | apply wa | apply wb | apply wc | apply wd); (focus (simp (disch := omega) only [go_sem, ↓reduceIte, zn1, zn2, zn3, zn4, reduceCtorEq, q1, q3] <;> rfl)); (first | refine pT ?_ | refine pF ?_ | fail_if_success with_reducible refine pA ?_)) | ((with_reducible refine SC.draw Tab.mixed ?_ ?_); rfl) | (with_reducible apply SC.ops)))
 exact retQ_ret Try.results35 sF sF rfl
theorem divmod_3 (x y : Int) (K : Nat) (hx : Fits K x) (hy : Fits K y) (hK : K ≤ 200000000000) (h0 : y ≠ 0) (hna : decide (x < 0) = true) (hnb : decide (y < 0) = false) (hr : 0 < x.natAbs % y.natAbs) : Spec Try.prog 35 [iv x, iv y] (.tu [iv (x / y), iv (x % y), .sc (.int .i64 0)]) := by
 have lx := fits_len hx
 have ly := fits_len hy
 have c1 := made_int x (by omega) _ hna
 have c2 := made_int y (by omega) _ hnb
 have c3 := sign_i y K hy (by omega)
 have q1 : (y.sign == 0) = false := by simp [Int.sign_eq_zero_iff_zero, h0]
 have hp : 0 < y.natAbs := by omega
 have c4 := divide_i x.natAbs y.natAbs K hx hy (by omega) hp
 have hsp := divmod_spec true false x.natAbs y.natAbs hp
 rw [show sgn true x.natAbs = x by unfold sgn; simp at hna ⊢; omega, show sgn false y.natAbs = y by unfold sgn; simp at hnb ⊢; omega] at hsp
 have hml := Nat.mod_lt x.natAbs hp
 have fq : Fits (K + 1) ((x.natAbs / y.natAbs : Nat) : Int) := (hx.mono (Nat.le_succ K)).of_natAbs_le (by rw [Int.natAbs_natCast]; exact Nat.div_le_self _ _)
 have fr : Fits (K + 1) ((x.natAbs % y.natAbs : Nat) : Int) := (hy.mono (Nat.le_succ K)).of_natAbs_le (by rw [Int.natAbs_natCast]; exact Nat.le_of_lt hml)
 have c5 := sign_i ((x.natAbs % y.natAbs : Nat) : Int) (K + 1) fr (by omega)
 have q2 : decide ((0 : Int) < (((x.natAbs % y.natAbs : Nat) : Int)).sign) = true := by rw [Int.sign_eq_one_of_pos (by omega)]; rfl
 have c6 := of_i 1 (by omega) (by omega)
 have c7 := add_i ((x.natAbs / y.natAbs : Nat) : Int) 1 (K + 1) fq (by unfold Fits; exact Nat.one_lt_pow (by omega) (by omega)) (by omega)
 have c8 := made_nat y.natAbs (by omega)
 have c9 := sub_i (y.natAbs : Int) ((x.natAbs % y.natAbs : Nat) : Int) (K + 1) ((hy.mono (Nat.le_succ K)).of_natAbs_le (by omega)) fr (by omega)
 have c10 := neg_i (((x.natAbs / y.natAbs : Nat) : Int) + 1) (K + 2) (fq.add (by unfold Fits; exact Nat.one_lt_pow (by omega) (by omega))) (by omega)
 simp only [hr, if_true, ne_eq, not_false_eq_true, reduceCtorEq, and_self] at hsp
 rw [← hsp.1, ← hsp.2]
 generalize x.natAbs / y.natAbs = q at *
 generalize x.natAbs % y.natAbs = r at *
 unfold iv sv at *
 rw [hna, hnb]
 rw [hna] at c1
 rw [hnb] at c2 c3
 have q3 : (true != false) = true := rfl
 refine Spec.run Try.func35 rfl Try.ntmps35 (by simp) sF fun B hB => ?_
 (repeat (first | refine DO.nil (by kernel_rfl) ?_ | (with_reducible refine oA ?_) | ((first | apply SO.call | apply DO.call); (iterate 3 (focus (simp (disch := omega) only [go_sem, ↓reduceIte, zn1] <;> rfl))); (first | apply SCall.ofX | apply DCall.ofX); (focus (assumption)); (focus (simp (disch := omega) only [go_sem] <;> rfl))) | ((with_reducible first | apply wa | apply wb | apply wc | apply wd); (focus (simp (disch := omega) only [go_sem, ↓reduceIte, zn1, zn2, zn3, zn4, reduceCtorEq, q1, q2] <;> rfl)); (first | refine pT ?_ | refine pF ?_ | fail_if_success with_reducible refine pA ?_)) | ((with_reducible refine SC.draw Tab.mixed ?_ ?_); rfl) | (with_reducible apply SC.ops)))
 exact retQ_ret Try.results35 sF sF rfl
theorem divmod_4 (x y : Int) (K : Nat) (hx : Fits K x) (hy : Fits K y) (hK : K ≤ 200000000000) (h0 : y ≠ 0) (hna : decide (x < 0) = true) (hnb : decide (y < 0) = true) (hr : 0 < x.natAbs % y.natAbs) : Spec Try.prog 35 [iv x, iv y] (.tu [iv (x / y), iv (x % y), .sc (.int .i64 0)]) := by
 have lx := fits_len hx
 have ly := fits_len hy
 have c1 := made_int x (by omega) _ hna
 have c2 := made_int y (by omega) _ hnb
 have c3 := sign_i y K hy (by omega)
 have q1 : (y.sign == 0) = false := by simp [Int.sign_eq_zero_iff_zero, h0]
 have hp : 0 < y.natAbs := by omega
 have c4 := divide_i x.natAbs y.natAbs K hx hy (by omega) hp
 have hsp := divmod_spec true true x.natAbs y.natAbs hp
 rw [show sgn true x.natAbs = x by unfold sgn; simp at hna ⊢; omega, show sgn true y.natAbs = y by unfold sgn; simp at hnb ⊢; omega] at hsp
 have hml := Nat.mod_lt x.natAbs hp
 have fq : Fits (K + 1) ((x.natAbs / y.natAbs : Nat) : Int) := (hx.mono (Nat.le_succ K)).of_natAbs_le (by rw [Int.natAbs_natCast]; exact Nat.div_le_self _ _)
 have fr : Fits (K + 1) ((x.natAbs % y.natAbs : Nat) : Int) := (hy.mono (Nat.le_succ K)).of_natAbs_le (by rw [Int.natAbs_natCast]; exact Nat.le_of_lt hml)
 have c5 := sign_i ((x.natAbs % y.natAbs : Nat) : Int) (K + 1) fr (by omega)
 have q2 : decide ((0 : Int) < (((x.natAbs % y.natAbs : Nat) : Int)).sign) = true := by rw [Int.sign_eq_one_of_pos (by omega)]; rfl
 have c6 := of_i 1 (by omega) (by omega)
 have c7 := add_i ((x.natAbs / y.natAbs : Nat) : Int) 1 (K + 1) fq (by unfold Fits; exact Nat.one_lt_pow (by omega) (by omega)) (by omega)
 have c8 := made_nat y.natAbs (by omega)
 have c9 := sub_i (y.natAbs : Int) ((x.natAbs % y.natAbs : Nat) : Int) (K + 1) ((hy.mono (Nat.le_succ K)).of_natAbs_le (by omega)) fr (by omega)
 simp only [hr, if_true, ne_eq, not_true_eq_false, if_false, and_self] at hsp
 rw [← hsp.1, ← hsp.2]
 generalize x.natAbs / y.natAbs = q at *
 generalize x.natAbs % y.natAbs = r at *
 unfold iv sv at *
 rw [hna, hnb]
 rw [hna] at c1
 rw [hnb] at c2 c3
 have q3 : (true != true) = false := rfl
 refine Spec.run Try.func35 rfl Try.ntmps35 (by simp) sF fun B hB => ?_
 (repeat (first | refine DO.nil (by kernel_rfl) ?_ | (with_reducible refine oA ?_) | ((first | apply SO.call | apply DO.call); (iterate 3 (focus (simp (disch := omega) only [go_sem, ↓reduceIte, zn1] <;> rfl))); (first | apply SCall.ofX | apply DCall.ofX); (focus (assumption)); (focus (simp (disch := omega) only [go_sem] <;> rfl))) | ((with_reducible first | apply wa | apply wb | apply wc | apply wd); (focus (simp (disch := omega) only [go_sem, ↓reduceIte, zn1, zn2, zn3, zn4, reduceCtorEq, q1, q2, q3] <;> rfl)); (first | refine pT ?_ | refine pF ?_ | fail_if_success with_reducible refine pA ?_)) | ((with_reducible refine SC.draw Tab.mixed ?_ ?_); rfl) | (with_reducible apply SC.ops)))
 exact retQ_ret Try.results35 sF sF rfl
theorem divmod_5 (x y : Int) (K : Nat) (hx : Fits K x) (hy : Fits K y) (hK : K ≤ 200000000000) (h0 : y ≠ 0) (hna : decide (x < 0) = true) (hnb : decide (y < 0) = false) (hr : x.natAbs % y.natAbs = 0) : Spec Try.prog 35 [iv x, iv y] (.tu [iv (x / y), iv (x % y), .sc (.int .i64 0)]) := by
 have lx := fits_len hx
 have ly := fits_len hy
 have c1 := made_int x (by omega) _ hna
 have c2 := made_int y (by omega) _ hnb
 have c3 := sign_i y K hy (by omega)
 have q1 : (y.sign == 0) = false := by simp [Int.sign_eq_zero_iff_zero, h0]
 have hp : 0 < y.natAbs := by omega
 have c4 := divide_i x.natAbs y.natAbs K hx hy (by omega) hp
 have hsp := divmod_spec true false x.natAbs y.natAbs hp
 rw [show sgn true x.natAbs = x by unfold sgn; simp at hna ⊢; omega, show sgn false y.natAbs = y by unfold sgn; simp at hnb ⊢; omega] at hsp
 have hml := Nat.mod_lt x.natAbs hp
 have fq : Fits (K + 1) ((x.natAbs / y.natAbs : Nat) : Int) := (hx.mono (Nat.le_succ K)).of_natAbs_le (by rw [Int.natAbs_natCast]; exact Nat.div_le_self _ _)
 have fr : Fits (K + 1) ((x.natAbs % y.natAbs : Nat) : Int) := (hy.mono (Nat.le_succ K)).of_natAbs_le (by rw [Int.natAbs_natCast]; exact Nat.le_of_lt hml)
 have c5 := sign_i ((x.natAbs % y.natAbs : Nat) : Int) (K + 1) fr (by omega)
 have q2 : decide ((0 : Int) < (((x.natAbs % y.natAbs : Nat) : Int)).sign) = false := by rw [hr]; rfl
 have c10 := neg_i (((x.natAbs / y.natAbs : Nat) : Int)) (K + 2) (fq.mono (by omega)) (by omega)
 simp only [hr, Nat.lt_irrefl, and_false, if_false, ne_eq, not_false_eq_true, if_true, reduceCtorEq] at hsp
 rw [← hsp.1, ← hsp.2]
 generalize x.natAbs / y.natAbs = q at *
 generalize x.natAbs % y.natAbs = r at *
 subst hr
 unfold iv sv at *
 rw [hna, hnb]
 rw [hna] at c1
 rw [hnb] at c2 c3
 have q3 : (true != false) = true := rfl
 refine Spec.run Try.func35 rfl Try.ntmps35 (by simp) sF fun B hB => ?_
 (repeat (first | refine DO.nil (by kernel_rfl) ?_ | (with_reducible refine oA ?_) | ((first | apply SO.call | apply DO.call); (iterate 3 (focus (simp (disch := omega) only [go_sem, ↓reduceIte, zn1] <;> rfl))); (first | apply SCall.ofX | apply DCall.ofX); (focus (assumption)); (focus (simp (disch := omega) only [go_sem] <;> rfl))) | ((with_reducible first | apply wa | apply wb | apply wc | apply wd); (focus (simp (disch := omega) only [go_sem, ↓reduceIte, zn1, zn2, zn3, zn4, reduceCtorEq, q1, q3, q2] <;> rfl)); (first | refine pT ?_ | refine pF ?_ | fail_if_success with_reducible refine pA ?_)) | ((with_reducible refine SC.draw Tab.mixed ?_ ?_); rfl) | (with_reducible apply SC.ops)))
 exact retQ_ret Try.results35 sF sF rfl
theorem divmod_6 (x y : Int) (K : Nat) (hx : Fits K x) (hy : Fits K y) (hK : K ≤ 200000000000) (h0 : y ≠ 0) (hna : decide (x < 0) = true) (hnb : decide (y < 0) = true) (hr : x.natAbs % y.natAbs = 0) : Spec Try.prog 35 [iv x, iv y] (.tu [iv (x / y), iv (x % y), .sc (.int .i64 0)]) := by
 have lx := fits_len hx
 have ly := fits_len hy
 have c1 := made_int x (by omega) _ hna
 have c2 := made_int y (by omega) _ hnb
 have c3 := sign_i y K hy (by omega)
 have q1 : (y.sign == 0) = false := by simp [Int.sign_eq_zero_iff_zero, h0]
 have hp : 0 < y.natAbs := by omega
 have c4 := divide_i x.natAbs y.natAbs K hx hy (by omega) hp
 have hsp := divmod_spec true true x.natAbs y.natAbs hp
 rw [show sgn true x.natAbs = x by unfold sgn; simp at hna ⊢; omega, show sgn true y.natAbs = y by unfold sgn; simp at hnb ⊢; omega] at hsp
 have hml := Nat.mod_lt x.natAbs hp
 have fq : Fits (K + 1) ((x.natAbs / y.natAbs : Nat) : Int) := (hx.mono (Nat.le_succ K)).of_natAbs_le (by rw [Int.natAbs_natCast]; exact Nat.div_le_self _ _)
 have fr : Fits (K + 1) ((x.natAbs % y.natAbs : Nat) : Int) := (hy.mono (Nat.le_succ K)).of_natAbs_le (by rw [Int.natAbs_natCast]; exact Nat.le_of_lt hml)
 have c5 := sign_i ((x.natAbs % y.natAbs : Nat) : Int) (K + 1) fr (by omega)
 have q2 : decide ((0 : Int) < (((x.natAbs % y.natAbs : Nat) : Int)).sign) = false := by rw [hr]; rfl
 simp only [hr, Nat.lt_irrefl, and_false, if_false, ne_eq, not_true_eq_false] at hsp
 rw [← hsp.1, ← hsp.2]
 generalize x.natAbs / y.natAbs = q at *
 generalize x.natAbs % y.natAbs = r at *
 subst hr
 unfold iv sv at *
 rw [hna, hnb]
 rw [hna] at c1
 rw [hnb] at c2 c3
 have q3 : (true != true) = false := rfl
 refine Spec.run Try.func35 rfl Try.ntmps35 (by simp) sF fun B hB => ?_
 (repeat (first | refine DO.nil (by kernel_rfl) ?_ | (with_reducible refine oA ?_) | ((first | apply SO.call | apply DO.call); (iterate 3 (focus (simp (disch := omega) only [go_sem, ↓reduceIte, zn1] <;> rfl))); (first | apply SCall.ofX | apply DCall.ofX); (focus (assumption)); (focus (simp (disch := omega) only [go_sem] <;> rfl))) | ((with_reducible first | apply wa | apply wb | apply wc | apply wd); (focus (simp (disch := omega) only [go_sem, ↓reduceIte, zn1, zn2, zn3, zn4, reduceCtorEq, q1, q3, q2] <;> rfl)); (first | refine pickF ?_ | fail_if_success with_reducible refine pickA ?_)) | ((with_reducible refine SC.draw Tab.mixed ?_ ?_); rfl) | (with_reducible apply SC.ops)))
 exact retQ_ret Try.results35 sF sF rfl
theorem divmod_i (x y : Int) (K : Nat) (hx : Fits K x) (hy : Fits K y) (hK : K ≤ 200000000000) (h0 : y ≠ 0) : Spec Try.prog 35 [iv x, iv y] (.tu [iv (x / y), iv (x % y), .sc (.int .i64 0)]) := by
 cases hna : decide (x < 0) <;> cases hnb : decide (y < 0)
 ·exact divmod_1 x y K hx hy hK h0 hna hnb
 ·exact divmod_2 x y K hx hy hK h0 hna hnb
 ·rcases Nat.eq_zero_or_pos (x.natAbs % y.natAbs) with h | h
  ·exact divmod_5 x y K hx hy hK h0 hna hnb h
  ·exact divmod_3 x y K hx hy hK h0 hna hnb h
 ·rcases Nat.eq_zero_or_pos (x.natAbs % y.natAbs) with h | h
  ·exact divmod_6 x y K hx hy hK h0 hna hnb h
  ·exact divmod_4 x y K hx hy hK h0 hna hnb h
theorem rvalid_i (z : Int) (K : Nat) (hz : Fits K z) (hK : K ≤ 1000000000000) : Spec Try.prog 56 [iv z] (.sc (.bool true)) := by
 have lz := fits_len hz
 unfold iv sv
 by_cases h0 : z = 0
 ·subst h0
  have q1 : (((limbsOf (0 : Int).natAbs).length : Int) == 0) = true := by simp [limbsOf_zero]
  refine Spec.run Try.func56 rfl Try.ntmps56 (by simp) sF fun B hB => ?_
  (repeat (first | (with_reducible refine SC.condB sF ?_; with_reducible refine pickT ?_) | (with_reducible refine oA ?_) | ((with_reducible apply SC.region); (focus (simp (disch := omega) only [go_sem, ↓reduceIte, zn1, reduceCtorEq, q1]; rfl)))))
  exact retQ_ret Try.results56 sF sF rfl
 ·have hne : limbsOf z.natAbs ≠ [] := fun h => h0 (by have := limbsOf_nil.1 h; omega)
  have hpos := List.length_pos_iff.2 hne
  have q1 : (((limbsOf z.natAbs).length : Int) == 0) = false := by rw [beq_eq_false_iff_ne]; omega
  have hi : (((limbsOf z.natAbs).length : Int) - 1).toNat = (limbsOf z.natAbs).length - 1 := by omega
  have hg := lv_get (l := limbsOf z.natAbs) (i := (limbsOf z.natAbs).length - 1) (by omega)
  have hc := limbsOf_canon z.natAbs hne
  rw [List.getLast_eq_getElem] at hc
  have hx : (limbsOf z.natAbs).getD ((limbsOf z.natAbs).length - 1) 0 ≠ 0 := by
   rw [List.getD_eq_getElem?_getD, zlb (by omega)]; exact hc
  have q2 : (((limbsOf z.natAbs).getD ((limbsOf z.natAbs).length - 1) 0 : Int) != 0) = true := by rw [bne_iff_ne]; omega
  refine Spec.run Try.func56 rfl Try.ntmps56 (by simp) sF fun B hB => ?_
  (repeat (first | (with_reducible refine SC.condB sF ?_; with_reducible refine pickF ?_) | (with_reducible refine oA ?_) | ((with_reducible apply SC.region); (focus (simp (disch := omega) only [go_sem, ↓reduceIte, zn1, zn2, reduceCtorEq, if_pos, q1, q2, hi, hg, lv_len, zl5]; rfl)))))
  exact retQ_ret Try.results56 sF sF rfl
theorem Fits.ediv {K : Nat} {x y : Int} (hx : Fits K x) : Fits K (x / y) := by
 have := Int.natAbs_ediv_le_natAbs x y
 unfold Fits at *; omega
theorem Fits.one {K : Nat} (h : 1 ≤ K) : Fits K 1 := by
 have := Nat.pow_le_pow_right (n := 4294967296) (by omega) h
 unfold Fits; simp at *; omega
theorem Fits.zero (K : Nat) : Fits K 0 := by unfold Fits; exact Nat.pow_pos (by omega)
def z0 : List V := [.sc (.bool false), .sc (.slice none 0 0)]
end Go.Proofs.Ytdcbmdmlhjemmaa
namespace Go.Proofs.Ytdcbmdmlhjemmaa
open Go
section
variable {P : Program}
theorem Spec.runD {f g i0 i1 n : Nat} {fn : Func} {r0 : List Oper} {o : Oper} {rest : Code} {args : List V} {x : V} {s0 s1 : SS} (hf : P.funcs[f]? = some fn) (hb : fn.body = some (.seq (.region i0 r0.toArray false) (.seq (.region i1 #[o] false) rest)))
  (ho : o.op = .defer { callee := .value (.func g), args := #[], argTypes := #[] }) (hd : o.dst = none) (hg : o.guard = none) (hi : Idle P g) (hnt : fn.ntmps = n) (hn : args.length ≤ n) (h0 : SS.start args n = s0) (h1 : runL P r0.toArray s0 r0 = some s1)
  (h : ∀ B : Base, B.Old 0 → SC P B [rest] (retQ P fn x) s1) : Spec P f args x := by
 subst hnt; subst h0
 intro S w vs hS hT hargs
 have hlen : vs.size = args.length := by have := hargs.1; simpa using this.symm
 refine calls_of_wp_defers hf hb ?_
 have hB : (⟨w, S, fun _ => False, fun _ => 0, fun _ => False, []⟩ : Base).Old 0 := fun _ h => h.elim
 refine wp_seq (wp_mono (SWp.region (Q := fun e s => e = .normal ∧ s = s1) (SOps.all h1 ⟨rfl, rfl⟩) S (fun _ => 0) (fun _ => False) ⟨vs ++ Array.replicate (fn.ntmps - vs.size) undef, []⟩ w (B := ⟨w, S, fun _ => False, fun _ => 0, fun _ => False, []⟩) ?_) ?_)
 ·refine ⟨fun t => ?_, ?_, fun _ h => h.elim, ?_, rfl⟩
  ·show R S (fun _ => 0) w (fun _ => False) (get (stSl 0 args) t) _
   rw [get_start, if_pos (znc _), Nat.sub_zero]
   cases ht : args[t]? with
   | none => exact .junk _
   | some y =>
    have hlt := (List.getElem?_eq_some_iff.1 ht).1
    have hu : vs.toList[t]? = some (vs[t]'(by omega)) := by simp [hlen, hlt]
    have := hargs.2 t y _ ht hu
    have he : (⟨vs ++ Array.replicate (fn.ntmps - vs.size) undef, []⟩ : Act).eval (.tmp t) = vs[t]'(by omega) := by
     simp [Act.eval, Array.getElem?_append, hlen, hlt]
    rw [he]; exact this
  ·exact {
    cells := fun id k hk => by cases hk
    fz := fun id k hk => by cases hk
    own := fun id k hk => by cases hk
    inj := fun id id' k k' hk => by cases hk
    slt := hS
    sub := fun _ h => h
    base := fun _ h => .inl h
    frame := ⟨rfl, rfl, rfl, znb _, fun _ _ _ => rfl, fun _ _ => rfl, fun _ _ h => h, hS, hT⟩
    keep := fun id h => h.elim }
  ·simp [SS.start]; omega
 ·rintro e a w1 ⟨S1, rho, A, s, ⟨rfl, rfl⟩, hr⟩
  have had : a.defers = [] := hr.defs
  refine wp_seq (wp_region_lit (l := [o]) (wpList_step fun K hK => ?_))
  have hw : Region.wanted o (yielded [o].toArray a.tmps) = true := by unfold Region.wanted; rw [hg]
  rw [hw, if_pos rfl]
  have hx : (execOp a.eval o).run P w1 = .ok (.defer ⟨.fn (.func g) #[], #[]⟩) w1 := by
   obtain ⟨d, op, g, ty, pos, aft⟩ := o
   simp only at ho
   subst ho
   simp only [execOp, resolve, List.map_toArray, zle, Act.eval, Deferred.ofValue, Sem.run_bind, Sem.run_pure]
   rfl
  unfold Oper.wp
  rw [hx, Oper.upon_defer]
  refine hK _ _ (wpList_nil ?_)
  rw [hd, had]
  refine wp_mono (SC.of (h ⟨w, S, fun _ => False, fun _ => 0, fun _ => False, [⟨.fn (.func g) #[], #[]⟩]⟩ (fun _ h => h.elim)) S1 rho A ⟨a.tmps, [⟨.fn (.func g) #[], #[]⟩]⟩ w1 ?_) ?_
  ·exact ⟨hr.slots, {
    cells := hr.mem.cells
    fz := hr.mem.fz
    own := hr.mem.own
    inj := hr.mem.inj
    slt := hr.mem.slt
    sub := hr.mem.sub
    base := hr.mem.base
    frame := ⟨hr.mem.frame.os, hr.mem.frame.tape, hr.mem.frame.output, hr.mem.frame.size, hr.mem.frame.block, hr.mem.frame.stay, hr.mem.frame.sz, hr.mem.frame.lt, hr.mem.frame.tab⟩
    keep := hr.mem.keep }, hr.alt, hr.nt, rfl⟩
  ·rintro e a w' ⟨S', rho, A, s, hq, hr⟩
   have fin : (∃ y ids, resV P fn s = some y ∧ frz 8 s.hp y = some (x, ids)) → Leaves P fn a.tmps (fun e w' => ∃ v', e = .returned v' ∧ Grow w w' ∧ Rc (fun b => S b ∨ (w.heap.size ≤ b ∧ b < w'.heap.size)) w' x v') a.defers .returning w' := by
    rintro ⟨y, ids, h1, h2⟩
    obtain ⟨v, h3, h4⟩ := res_sound (P := P) hr h1
    have h5 := frz_sound hr.mem 8 y v x ids h2 h4
    have hmf := hr.mem.freeze ids h5.live
    have hdf : a.defers = [⟨.fn (.func g) #[], #[]⟩] := hr.defs
    rw [hdf]
    refine leaves_cons (f := g) (args := #[]) (by simp) (by simpa [go_sem] using (hi w').1) ((hi w').2.mono ?_)
    rintro e u w2 ⟨⟨v2, rfl⟩, rfl, rfl⟩
    refine ⟨v, h3, v, rfl, ⟨hr.mem.frame.os, hr.mem.frame.tape, hr.mem.frame.output, hr.mem.frame.size, fun b hb => hr.mem.frame.block b hb (fun h => h)⟩, ?_⟩
    refine (h5.rep.wide fun b hb => ?_).rho
    rcases hmf.base b hb with h | h | h
    ·exact .inl h
    ·exact .inr ⟨h, hmf.slt b hb⟩
    ·exact h.elim
   cases e with
   | normal => exact fin hq
   | ret => exact fin hq
   | _ => exact hq.elim
end
structure OpL where
 kd : Nat
 i : Nat
 j : Nat
 k : Int
def opC (o : OpL) : List V := [.sc (.int .i64 o.kd), .sc (.int .i64 o.i), .sc (.int .i64 o.j), .sc (.bool (decide (o.k < 0))), sv (limbsOf o.k.natAbs)]
def opsC : List OpL → List V
 | [] => []
 | o :: r => opC o ++ opsC r
@[irreducible] def OL : Nat := 1000000000
theorem OL_eq : OL = 1000000000 := by unfold OL; rfl
theorem OL_le : OL ≤ 1000000000 := Nat.le_of_eq OL_eq
theorem Fits.toOL {L : Nat} {k : Int} (h : Fits L k) (hL : L ≤ 1000000000) : Fits OL k := h.mono (by rw [OL_eq]; exact hL)
structure OkOp (n : Nat) (o : OpL) : Prop where
 i : o.i < n
 k : Fits OL o.k
 c : (o.kd = 1 ∧ o.j < n ∧ o.i ≠ o.j ∧ o.k = 0) ∨ (o.kd = 2 ∧ o.j = 0 ∧ o.k = 0) ∨ (o.kd = 3 ∧ o.j < n ∧ o.i ≠ o.j)
theorem opsC_len : ∀ l : List OpL, (opsC l).length = 5 * l.length
 | [] => rfl
 | o :: r => by
  rw [opsC, zl1, opsC_len r, List.length_cons]
  show 5 + _ = _
  omega
theorem opsC_drop : ∀ {l : List OpL} {i : Nat}, i < l.length → (opsC l).drop (i * 5) = opC (l.getD i ⟨0, 0, 0, 0⟩) ++ (opsC l).drop ((i + 1) * 5)
 | o :: r, 0, _ => by
  show opC o ++ opsC r = opC o ++ (opC o ++ opsC r).drop 5
  rw [show (opC o ++ opsC r).drop 5 = opsC r from rfl]
 | o :: r, i + 1, h => by
  have e : ∀ m, (m + 1) * 5 = (opC o).length + m * 5 := by intro m; show _ = 5 + _; omega
  have hd : ∀ m, (opsC (o :: r)).drop ((m + 1) * 5) = (opsC r).drop (m * 5) := by
   intro m
   rw [e, opsC, List.drop_append]
   simp only [znd, List.drop_eq_nil_of_le (Nat.le_add_right _ _), zl7]
  rw [hd, hd]
  exact opsC_drop (by simpa using h)
theorem pvalid_i (z : Int) (K : Nat) (hz : Fits K z) (hK : K ≤ 100000000000) : Spec Try.prog 48 [iv z] (.sc (.bool true)) := by
 have hl := fits_len hz
 have h := valid_g (limbsOf z.natAbs) _ (decide (z < 0)) rfl (by omega)
 have : validB (limbsOf z.natAbs) (decide (z < 0)) = true := by
  unfold validB
  split
  ·rename_i h0
   have h1 := limbsOf_val z.natAbs
   rw [List.eq_nil_of_length_eq_zero h0] at h1
   have : z = 0 := by simp [val] at h1; omega
   subst this; rfl
  ·rename_i h0
   have hc := limbsOf_canon z.natAbs
   have hne : limbsOf z.natAbs ≠ [] := fun e => h0 (by rw [e]; rfl)
   have := hc hne
   rw [List.getLast_eq_getElem] at this
   rw [List.getD_eq_getElem?_getD, zlb (by omega)]
   simpa using this
 rw [this] at h
 exact h
theorem inN_s (i n : Int) (nx : Nat) (hnx : 1 < nx) : Inl Try.prog 72 [.sc (.int .i64 i), .pt 1 0] [(1, ⟨3, [.sc (.int .i64 n)], false⟩)] nx (.sc (.bool (decide (0 ≤ i) && decide (i < n)))) [(1, ⟨3, [.sc (.int .i64 n)], false⟩)] nx := by
 refine Inl.run Try.func72 rfl Try.ntmps72 (by simp) sF fun B hB => ?_
 by_cases h1 : 0 ≤ i
 ·have q1 := decide_eq_true h1
  (repeat (first | (with_reducible refine oA ?_) | ((with_reducible apply SC.region); (focus (simp (disch := omega) only [go_sem, ↓reduceIte, zn1, zn2, reduceCtorEq, q1] <;> rfl)); (fail_if_success with_reducible refine pickA ?_))))
  refine retI_ret Try.results72 sG ?_
  rw [q1, Bool.true_and]
  (refine Le.slots ?_ ?_ ?_ <;> (repeat' (first | (exact fun _ _ h => h) | exact znb _ | exact leSl_nil | refine leSl_cons sG ?_ ?_ | exact VLe.refl rfl)))
 ·have q1 := decide_eq_false h1
  (repeat (first | (with_reducible refine oA ?_) | ((with_reducible apply SC.region); (focus (simp (disch := omega) only [go_sem, ↓reduceIte, zn1, zn2, reduceCtorEq, q1] <;> rfl)); (fail_if_success with_reducible refine pickA ?_))))
  refine retI_ret Try.results72 sG ?_
  rw [q1, Bool.false_and]
  (refine Le.slots ?_ ?_ ?_ <;> (repeat' (first | (exact fun _ _ h => h) | exact znb _ | exact leSl_nil | refine leSl_cons sG ?_ ?_ | exact VLe.refl rfl)))
theorem onlyN (p : Nat → Prop) (n : Int) (id ty : Nat) : OnlyH p [(id, ⟨ty, [.sc (.int .i64 n)], false⟩)] := ⟨fun y hy => by simp at hy; subst hy; exact .sc _, trivial⟩
set_option maxHeartbeats 4000000 in
set_option maxRecDepth 8000 in
theorem fits_s {n : Nat} {o : OpL} (h : OkOp n o) (hn : n ≤ 1000000) : Spec Try.prog 47 [.ag (opC o), .sc (.int .i64 n)] (.sc (.bool true)) := by
 obtain ⟨kd, i, j, k⟩ := o
 obtain ⟨hi, hk, hc⟩ := h
 simp only at hi hk hc
 have hOL := OL_le
 have c1 := pvalid_i k OL hk (by omega)
 have c2 := psign_i k OL hk (by omega)
 have d1 := inN_s i n
 have d2 := inN_s j n
 have e1 : (decide ((0 : Int) ≤ (i : Int)) && decide ((i : Int) < (n : Int))) = true := by simp; omega
 rw [e1] at d1
 unfold opC
 unfold iv sv at c1 c2
 unfold sv
 simp only
 refine Spec.run Try.func47 rfl Try.ntmps47 (by simp) sF fun B hB => ?_
 (repeat (first | (with_reducible refine oA ?_) | ((apply SO.call); (iterate 3 (focus (simp (disch := omega) only [go_sem, ↓reduceIte] <;> rfl))); (apply SCall.ofX); (focus (assumption)); (focus (simp (disch := omega) only [go_sem] <;> rfl))) | ((with_reducible first | apply SC.region | apply SO.run); (focus (simp (disch := omega) only [go_sem, ↓reduceIte, zn1, zn3, zn4, reduceCtorEq] <;> rfl)); (fail_if_success with_reducible refine pickA ?_)) | (with_reducible apply SC.ops)))
 refine SO.inl sG Tab.go72 sG sG ?_
 refine SInl.of (d1 _ (by omega)) (by simp (disch := omega) only [go_sem, ↓reduceIte]) (.sc _) (onlyN _ _ _ _) sG sG ?_
 rcases hc with ⟨rfl, hj, hij, rfl⟩ | ⟨rfl, rfl, rfl⟩ | ⟨rfl, hj, hij⟩
 ·have e2 : (decide ((0 : Int) ≤ (j : Int)) && decide ((j : Int) < (n : Int))) = true := by simp; omega
  rw [e2] at d2
  have e3 : ((i : Int) != (j : Int)) = true := by simp; omega
  (repeat (first | (with_reducible refine oA ?_) | ((with_reducible first | apply SC.condB | apply SC.region | apply SO.run); (focus (simp (disch := omega) only [go_sem, ↓reduceIte, zn1, reduceCtorEq] <;> rfl)); (first | refine pT ?_ | refine pF ?_ | fail_if_success with_reducible refine pA ?_)) | (with_reducible apply SC.ops)))
  refine SO.inl sG Tab.go72 sG sG ?_
  refine SInl.of (d2 _ (by omega)) (by simp (disch := omega) only [go_sem, ↓reduceIte]) (.sc _) (onlyN _ _ _ _) sG sG ?_
  (repeat (first | (with_reducible refine oA ?_) | ((apply SO.call); (iterate 3 (focus (simp (disch := omega) only [go_sem, ↓reduceIte, zn1] <;> rfl))); (apply SCall.ofX); (focus (assumption)); (focus (simp (disch := omega) only [go_sem, Int.sign_zero] <;> rfl))) | ((with_reducible apply SO.run); (focus (simp (disch := omega) only [go_sem, ↓reduceIte, zn1, zn3, zn4, reduceCtorEq, e3] <;> rfl)); (fail_if_success with_reducible refine pickA ?_))))
  exact retQ_ret Try.results47 sG sG rfl
 ·(repeat (first | (with_reducible refine oA ?_) | ((apply SO.call); (iterate 3 (focus (simp (disch := omega) only [go_sem, ↓reduceIte, zn1] <;> rfl))); (apply SCall.ofX); (focus (assumption)); (focus (simp (disch := omega) only [go_sem, Int.sign_zero] <;> rfl))) | ((with_reducible first | apply SC.condB | apply SC.region | apply SO.run); (focus (simp (disch := omega) only [go_sem, ↓reduceIte, zn1, zn3, zn4, reduceCtorEq] <;> rfl)); (first | refine pT ?_ | refine pF ?_ | fail_if_success with_reducible refine pA ?_)) | (with_reducible apply SC.ops)))
  exact retQ_ret Try.results47 sG sG rfl
 ·have e2 : (decide ((0 : Int) ≤ (j : Int)) && decide ((j : Int) < (n : Int))) = true := by simp; omega
  rw [e2] at d2
  have e3 : ((i : Int) != (j : Int)) = true := by simp; omega
  (repeat (first | (with_reducible refine oA ?_) | ((with_reducible first | apply SC.condB | apply SC.region | apply SO.run); (focus (simp (disch := omega) only [go_sem, ↓reduceIte, zn1, reduceCtorEq] <;> rfl)); (first | refine pT ?_ | refine pF ?_ | fail_if_success with_reducible refine pA ?_)) | (with_reducible apply SC.ops)))
  refine SO.inl sG Tab.go72 sG sG ?_
  refine SInl.of (d2 _ (by omega)) (by simp (disch := omega) only [go_sem, ↓reduceIte]) (.sc _) (onlyN _ _ _ _) sG sG ?_
  (repeat (first | (with_reducible refine oA ?_) | ((with_reducible apply SO.run); (focus (simp (disch := omega) only [go_sem, ↓reduceIte, zn1, zn2, reduceCtorEq, e3] <;> rfl)); (fail_if_success with_reducible refine pickA ?_))))
  exact retQ_ret Try.results47 sG sG rfl
theorem ivalid_s {n : Nat} {l : List OpL} (h : ∀ o ∈ l, OkOp n o) (hn : n ≤ 1000000) (hl : l.length ≤ 1000000000) : Spec Try.prog 22 [.im (opsC l) l.length, .sc (.int .i64 n)] (.sc (.bool true)) := by
 refine Spec.run Try.func22 rfl Try.ntmps22 (by simp) sF fun B hB => ?_
 (repeat (first | (with_reducible refine oA ?_) | ((with_reducible apply SC.region); (focus (simp (disch := omega) only [go_sem, ↓reduceIte, reduceCtorEq] <;> rfl)); (fail_if_success with_reducible refine pickA ?_))))
 refine SC.loop (fun i : Nat => ⟨[(1, .sc (.int .i64 n)), (7, .im (opsC l) l.length), (8, .sc (.int .i64 l.length)), (9, .sc (.int .i64 i))], [], 0, 18⟩)
  (fun i => i ≤ l.length) (fun i => l.length - i) 0 ?_ ?_ ?_
 ·(refine Le.of [] hB (by exact ⟨znc _, fun _ _ => znc _⟩) ?_ ?_ <;> (repeat' (first | exact leSl_nil | exact leHp_nil | refine leSl_cons sF ?_ ?_ | exact VLe.refl rfl)))
 ·exact znc _
 ·intro i hi K hK
  by_cases hc : i < l.length
  ·have q1 := decide_eq_true (p := (i : Int) < (l.length : Int)) (by omega)
   have g1 := opsC_drop hc
   have g2 : i * 5 < (opsC l).length := by rw [opsC_len]; omega
   have c1 := fits_s (h _ (getD_mem (d := ⟨0, 0, 0, 0⟩) hc)) hn
   generalize l.getD i ⟨0, 0, 0, 0⟩ = o at *
   generalize (opsC l).drop ((i + 1) * 5) = D at *
   unfold opC at g1 c1
   simp only [zl8, zl7] at g1
   (repeat (first | (with_reducible refine oA ?_) | ((apply SO.call); (iterate 3 (focus (simp (disch := omega) only [go_sem, ↓reduceIte, zn1] <;> rfl))); (apply SCall.ofX); (focus (assumption)); (focus (simp (disch := omega) only [go_sem] <;> rfl))) | ((with_reducible first | apply SC.condB | apply SC.region | apply SO.run); (focus (simp (disch := omega) only [go_sem, ↓reduceIte, zn1, zn2, zn3, zn4, if_pos, q1, g1, g2] <;> rfl)); (first | refine pT ?_ | refine pF ?_ | fail_if_success with_reducible refine pA ?_)) | (with_reducible apply SC.ops)))
   refine hK _ (i + 1) ?_ (by omega) (by omega)
   (refine Le.of [] hB (by exact ⟨znc _, fun _ _ => znc _⟩) ?_ ?_ <;> (repeat' (first | exact leSl_nil | exact leHp_nil | refine leSl_cons sF ?_ ?_ | exact VLe.refl rfl)))
  ·have q1 := decide_eq_false (p := (i : Int) < (l.length : Int)) (by omega)
   (repeat (first | (with_reducible refine oA ?_) | ((with_reducible first | apply SC.condB | apply SC.region); (focus (simp (disch := omega) only [go_sem, ↓reduceIte, zn1, q1] <;> rfl)); (first | refine pickF ?_ | fail_if_success with_reducible refine pickA ?_))))
   exact retQ_ret Try.results22 sG sG rfl
structure Ids (o : Nat) (ids0 ids : List Nat) (n nx : Nat) : Prop where
 len : ids.length = n
 nod : ids.Nodup
 sub : ∀ i ∈ ids, i ∈ ids0
 lt : ∀ i ∈ ids, i < nx
 o1 : o < nx
 o2 : o ∉ ids
theorem Ids.more {o n nx nx' : Nat} {ids0 ids : List Nat} (h : Ids o ids0 ids n nx) (hn : nx ≤ nx') : Ids o ids0 ids n nx' :=
 ⟨h.len, h.nod, h.sub, fun i hi => Nat.lt_of_lt_of_le (h.lt i hi) hn, Nat.lt_of_lt_of_le h.o1 hn, h.o2⟩
def swapN (ids : List Nat) (k q : Nat) : List Nat := (ids.set k (ids.getD q 0)).set q (ids.getD k 0)
theorem swapN_get {ids : List Nat} {k q : Nat} (hk : k < ids.length) (hq : q < ids.length) (i : Nat) : (swapN ids k q).getD i 0 = if i = q then ids.getD k 0 else if i = k then ids.getD q 0 else ids.getD i 0 := by
 unfold swapN
 rw [getD_set (by simpa using hq), getD_set hk]
theorem Ids.swap {o n nx : Nat} {ids0 ids : List Nat} (h : Ids o ids0 ids n nx) {k q : Nat} (hk : k < n) (hq : q < n) : Ids o ids0 (swapN ids k q) n nx := by
 have hl := h.len
 have hl2 : (swapN ids k q).length = n := by simp [swapN, hl]
 have hmem : ∀ i ∈ swapN ids k q, i ∈ ids := by
  intro i hi
  obtain ⟨j, hj, rfl⟩ := List.mem_iff_getElem.1 hi
  have e := swapN_get (ids := ids) (k := k) (q := q) (by omega) (by omega) j
  rw [List.getD_eq_getElem?_getD, zlb hj] at e
  simp only [Option.getD_some] at e
  rw [e]
  split
  ·exact getD_mem' (by omega)
  ·split
   ·exact getD_mem' (by omega)
   ·exact getD_mem' (by omega)
 refine ⟨hl2, ?_, fun i hi => h.sub i (hmem i hi), fun i hi => h.lt i (hmem i hi), h.o1, fun ho => h.o2 (hmem o ho)⟩
 rw [List.nodup_iff_pairwise_ne, List.pairwise_iff_getElem]
 intro i j hi hj hij e
 have e1 := swapN_get (ids := ids) (k := k) (q := q) (by omega) (by omega) i
 have e2 := swapN_get (ids := ids) (k := k) (q := q) (by omega) (by omega) j
 rw [List.getD_eq_getElem?_getD, zlb hi] at e1
 rw [List.getD_eq_getElem?_getD, zlb hj] at e2
 simp only [Option.getD_some] at e1 e2
 rw [e1, e2] at e
 have inj := fun a b ha hb e => nodup_getD h.nod (i := a) (j := b) ha hb e
 have hi' : i < n := by omega
 have hj' : j < n := by omega
 split at e
 ·split at e
  ·omega
  ·split at e
   ·have := inj _ _ (by omega) (by omega) e; omega
   ·have := inj _ _ (by omega) (by omega) e; omega
 ·split at e
  ·split at e
   ·have := inj _ _ (by omega) (by omega) e; omega
   ·split at e
    ·omega
    ·have := inj _ _ (by omega) (by omega) e; omega
  ·split at e
   ·have := inj _ _ (by omega) (by omega) e; omega
   ·split at e
    ·have := inj _ _ (by omega) (by omega) e; omega
    ·have := inj _ _ (by omega) (by omega) e; omega
theorem less_cons {i : Nat} {b : Blk} {r r' : List (Nat × Blk)} (h : ∀ id k, hget r' id = some k → hget r id = some k) : ∀ id k, hget ((i, b) :: r') id = some k → hget ((i, b) :: r) id = some k := by
 intro id k hk
 simp only [hget] at hk ⊢
 by_cases e : id = i
 ·rw [if_pos e] at hk ⊢; exact hk
 ·rw [if_neg e] at hk ⊢; exact h id k hk
def ivC (z : Int) : List V := [.sc (.bool (decide (z < 0))), sv (limbsOf z.natAbs)]
def ivR : List Int → List V
 | [] => []
 | z :: r => ivC z ++ ivR r
theorem ivR_len : ∀ l : List Int, (ivR l).length = 2 * l.length
 | [] => rfl
 | z :: r => by
  rw [ivR, zl1, ivR_len r, List.length_cons]
  show 2 + _ = _
  omega
theorem ivR_clo : ∀ l : List Int, (ivR l).all clo = true
 | [] => rfl
 | z :: r => by
  rw [ivR, List.all_append, ivR_clo r]; rfl
theorem ivR_one : ∀ l : List Int, (ivR l).all V.one = true
 | [] => rfl
 | z :: r => by
  rw [ivR, List.all_append, ivR_one r]; rfl
theorem ivR_drop : ∀ {l : List Int} {i : Nat}, i < l.length → (ivR l).drop (i * 2) = ivC (l.getD i 0) ++ (ivR l).drop ((i + 1) * 2)
 | o :: r, 0, _ => rfl
 | o :: r, i + 1, h => by
  have e : ∀ m, (m + 1) * 2 = (ivC o).length + m * 2 := by intro m; show _ = 2 + _; omega
  have hd : ∀ m, (ivR (o :: r)).drop ((m + 1) * 2) = (ivR r).drop (m * 2) := by
   intro m
   rw [e, ivR, List.drop_append]
   simp only [znd, List.drop_eq_nil_of_le (Nat.le_add_right _ _), zl7]
  rw [hd, hd]
  exact ivR_drop (by simpa using h)
theorem ivR_set : ∀ {l : List Int} {i : Nat} (z : Int), i < l.length → setAll (ivR l) (i * 2) (ivC z) = ivR (l.set i z)
 | o :: r, 0, z, _ => rfl
 | o :: r, i + 1, z, h => by
  have h' : i < r.length := by simpa using h
  have ih := ivR_set z h'
  rw [setAll_all _ _ _ (by rw [ivR_len]; show _ + 2 ≤ _; omega)] at ih
  rw [setAll_all _ _ _ (by rw [ivR_len, List.length_cons]; show _ + 2 ≤ _; omega)]
  have e : (i + 1) * 2 = (ivC o).length + i * 2 := by show _ = 2 + _; omega
  have e2 : (i + 1) * 2 + (ivC z).length = (ivC o).length + (i * 2 + (ivC z).length) := by omega
  rw [e2, e, ivR, List.take_length_add_append, List.drop_length_add_append, zl6, zl6, ← zl6 ((ivR r).take _), ih]
  rfl
def rI (M : List (List Int)) : List (List V) := M.map ivR
theorem rI_len (M : List (List Int)) : (rI M).length = M.length := by simp [rI]
theorem rI_getD (M : List (List Int)) (i : Nat) : (rI M).getD i [] = ivR (M.getD i []) := by
 unfold rI
 rw [List.getD_eq_getElem?_getD, List.getElem?_map, List.getD_eq_getElem?_getD]
 cases M[i]? <;> rfl
theorem rI_set (M : List (List Int)) (i : Nat) (r : List Int) : (rI M).set i (ivR r) = rI (M.set i r) := by simp [rI, List.map_set]
theorem rI_clo (M : List (List Int)) : ∀ r ∈ rI M, r.all clo = true := by
 intro r hr; obtain ⟨q, _, rfl⟩ := List.mem_map.1 hr; exact ivR_clo q
structure MI (h w K : Nat) (M : List (List Int)) : Prop where
 len : M.length = h
 row : ∀ r ∈ M, r.length = w ∧ ∀ x ∈ r, Fits K x
theorem MI.get {h w K : Nat} {M : List (List Int)} (hM : MI h w K M) {i : Nat} (hi : i < h) : (M.getD i []).length = w ∧ ∀ x ∈ M.getD i [], Fits K x := hM.row _ (getD_mem (d := []) (by rw [hM.len]; exact hi))
theorem MI.fit {h w K : Nat} {M : List (List Int)} (hM : MI h w K M) {i j : Nat} (hi : i < h) (hj : j < w) : Fits K ((M.getD i []).getD j 0) := (hM.get hi).2 _ (getD_mem (d := 0) (by rw [(hM.get hi).1]; exact hj))
theorem MI.mono {h w K L : Nat} {M : List (List Int)} (hM : MI h w K M) (hl : K ≤ L) : MI h w L M := ⟨hM.len, fun r hr => ⟨(hM.row r hr).1, fun x hx => ((hM.row r hr).2 x hx).mono hl⟩⟩
theorem MI.set {h w K : Nat} {M : List (List Int)} (hM : MI h w K M) {i : Nat} {r : List Int} (hr : r.length = w ∧ ∀ x ∈ r, Fits K x) : MI h w K (M.set i r) :=
 ⟨by rw [List.length_set]; exact hM.len, fun q hq => by rcases List.mem_or_eq_of_mem_set hq with e | e; exact hM.row q e; exact e ▸ hr⟩
def mI (w : Nat) (M : List (List Int)) : V := .im (imR w (rI M)) M.length
def mat (w : Nat) (M : List (List Int)) : V := .ag [.sc (.int .i64 M.length), .sc (.int .i64 w), .im (imR w (rI M)) M.length]
theorem imI_len (w : Nat) (M : List (List Int)) : (imR w (rI M)).length = M.length := by simp [imR, rI]
theorem imI_get {w i : Nat} {M : List (List Int)} (h : i < M.length) : (imR w (rI M))[i]? = some (.im (ivR (M.getD i [])) w) := by
 unfold imR rI
 rw [List.getElem?_map, List.getElem?_map, getD_get' (d := []) h]; rfl
theorem rI_rows {h w K : Nat} {M : List (List Int)} (hM : MI h w K M) : ∀ r ∈ rI M, r.length = w * 2 ∧ r.all clo = true := by
 intro r hr
 obtain ⟨q, hq, rfl⟩ := List.mem_map.1 hr
 refine ⟨?_, ivR_clo q⟩
 rw [ivR_len, (hM.row q hq).1, Nat.mul_comm]
def swapI (M : List (List Int)) (i j : Nat) : List (List Int) := (M.set i (M.getD j [])).set j (M.getD i [])
def negI (r : List Int) : List Int := r.map fun x => -x
def addI (a b : List Int) (k : Int) : List Int := a.mapIdx fun c x => x + k * b.getD c 0
def actO (M : List (List Int)) (o : OpL) : List (List Int) :=
 if o.kd = 1 then swapI M o.i o.j else if o.kd = 2 then M.set o.i (negI (M.getD o.i [])) else M.set o.i (addI (M.getD o.i []) (M.getD o.j []) o.k)
theorem negI_len (r : List Int) : (negI r).length = r.length := by simp [negI]
theorem addI_len (a b : List Int) (k : Int) : (addI a b k).length = a.length := by simp [addI]
theorem negI_get {r : List Int} {c : Nat} (h : c < r.length) : (negI r).getD c 0 = -(r.getD c 0) := by
 unfold negI
 rw [List.getD_eq_getElem?_getD, List.getElem?_map, getD_get' (d := 0) h]; rfl
theorem addI_get {a b : List Int} {k : Int} {c : Nat} (h : c < a.length) : (addI a b k).getD c 0 = a.getD c 0 + k * b.getD c 0 := by
 unfold addI
 rw [List.getD_eq_getElem?_getD, List.getElem?_mapIdx, getD_get' (d := 0) h]; rfl
theorem swapI_get {M : List (List Int)} {i j : Nat} (hi : i < M.length) (hj : j < M.length) (k : Nat) : (swapI M i j).getD k [] = if k = j then M.getD i [] else if k = i then M.getD j [] else M.getD k [] := by
 unfold swapI
 rw [getD_set (by simpa using hj), getD_set hi]
theorem swapI_len (M : List (List Int)) (i j : Nat) : (swapI M i j).length = M.length := by simp [swapI]
theorem actO_len (M : List (List Int)) (o : OpL) : (actO M o).length = M.length := by
 unfold actO
 split
 ·exact swapI_len _ _ _
 ·split <;> exact List.length_set
theorem fits_add {K L : Nat} {x y k : Int} (hx : Fits K x) (hy : Fits K y) (hk : Fits L k) : Fits (K + L + 1) (x + k * y) := by
 unfold Fits at *
 have h1 := Int.natAbs_add_le x (k * y)
 rw [Int.natAbs_mul] at h1
 have h2 : k.natAbs * y.natAbs ≤ 4294967296 ^ L * 4294967296 ^ K := Nat.mul_le_mul (Nat.le_of_lt hk) (Nat.le_of_lt hy)
 have h3 : 0 < 4294967296 ^ L := Nat.pow_pos (by omega)
 have h4 : 4294967296 ^ K ≤ 4294967296 ^ L * 4294967296 ^ K := Nat.le_mul_of_pos_left _ h3
 have e : 4294967296 ^ (K + L + 1) = 4294967296 * (4294967296 ^ L * 4294967296 ^ K) := by rw [Nat.pow_succ, Nat.pow_add, Nat.mul_comm (4294967296 ^ K), Nat.mul_comm _ 4294967296]
 rw [e]
 generalize 4294967296 ^ L * 4294967296 ^ K = P at *
 generalize 4294967296 ^ K = T at *
 omega
theorem MI.act {h w K : Nat} {M : List (List Int)} (hM : MI h w K M) {o : OpL} (ho : OkOp h o) : MI h w (K + OL + 1) (actO M o) := by
 have hM2 := hM.mono (show K ≤ K + OL + 1 by omega)
 have gi := hM.get ho.i
 unfold actO
 split
 ·rename_i h1
  have hj : o.j < h := by rcases ho.c with ⟨_, hj, _⟩ | ⟨e, _⟩ | ⟨e, _⟩ <;> omega
  exact (hM2.set (hM2.get hj)).set (hM2.get ho.i)
 ·split
  ·refine hM2.set ⟨by rw [negI_len]; exact gi.1, fun x hx => ?_⟩
   obtain ⟨y, hy, rfl⟩ := List.mem_map.1 hx
   have := (hM2.get ho.i).2 y hy
   unfold Fits at *
   rwa [Int.natAbs_neg]
  ·rename_i h1 h2
   have hj : o.j < h := by rcases ho.c with ⟨e, _⟩ | ⟨e, _⟩ | ⟨_, hj, _⟩ <;> omega
   refine hM2.set ⟨by rw [addI_len]; exact gi.1, fun x hx => ?_⟩
   obtain ⟨c, hc, rfl⟩ := List.mem_iff_getElem.1 hx
   rw [addI_len] at hc
   have e := addI_get (a := M.getD o.i []) (b := M.getD o.j []) (k := o.k) hc
   rw [List.getD_eq_getElem?_getD, zlb (by rw [addI_len]; exact hc)] at e
   simp only [Option.getD_some] at e
   rw [e]
   exact fits_add (hM.fit ho.i (by omega)) (hM.fit hj (by omega)) ho.k
def actsO : List (List Int) → List OpL → List (List Int)
 | M, [] => M
 | M, o :: l => actsO (actO M o) l
theorem cloneI_s (r : List Int) (w nx : Nat) (hr : r.length = w) (hw : w ≤ 1000000) : Inl Try.prog 49 [.im (ivR r) w] [] nx (.sl nx 0 w 2 none) [(nx, ⟨43, ivR r, false⟩)] (nx + 1) := by
 have hl := ivR_len r
 rw [hr] at hl
 have h1 := ivR_one r
 have h2 : (ivR r).take (w * 2) = ivR r := zla (by omega)
 have e2 : 2 * w = w * 2 := Nat.mul_comm _ _
 rw [e2] at hl
 refine Inl.run Try.func49 rfl Try.ntmps49 (by simp) sF fun B hB => ?_
 by_cases h0 : w = 0
 ·subst h0
  have hrn : r = [] := List.eq_nil_of_length_eq_zero hr
  subst hrn
  (repeat (first | (with_reducible refine oA ?_) | ((with_reducible first | apply SC.region | apply SO.run); (focus (simp (disch := omega) only [go_sem, ↓reduceIte, zn2, reduceCtorEq] <;> rfl)); (fail_if_success with_reducible refine pickA ?_)) | (with_reducible apply SC.ops)))
  refine SO.nilq sG sG sG sG fun b => ?_
  cases b
  ·(repeat (first | (with_reducible refine oA ?_) | ((with_reducible first | apply SC.condB | apply SC.region); (focus (simp (disch := omega) only [go_sem, ↓reduceIte, zn1, zn2, zn3, zn4, reduceCtorEq] <;> rfl)); (first | refine pickF ?_ | fail_if_success with_reducible refine pickA ?_))))
   exact retI_ret Try.results49 sG (Le.newSlice hB (Nat.le_succ _) sG sG rfl)
  ·(repeat (first | (with_reducible refine oA ?_) | ((with_reducible first | apply SC.condB | apply SC.region); (focus (simp (disch := omega) only [go_sem, ↓reduceIte] <;> rfl)); (first | refine pickT ?_ | fail_if_success with_reducible refine pickA ?_))))
   exact retI_ret Try.results49 sG (Le.nilSlice hB sG)
 ·(repeat (first | (with_reducible refine oA ?_) | ((with_reducible first | apply SC.condB | apply SC.region); (focus (simp (disch := omega) only [go_sem, ↓reduceIte, zn1, zn2, zn3, zn4, reduceCtorEq, if_pos, hl, h1] <;> rfl)); (first | refine pickF ?_ | fail_if_success with_reducible refine pickA ?_))))
  exact retI_ret Try.results49 sG (Le.newSlice hB (Nat.le_succ _) sG sG (ivR_clo r))
def RowsI (w : Nat) (M : List (List Int)) (nx : Nat) (x : V) (hp' : List (Nat × Blk)) (nx' : Nat) : Prop :=
 ∃ o ids, RowsOk o ids M.length nx nx' ∧ x = .sl o 0 M.length 1 none ∧ hp' = (o, ⟨73, slR 2 w ids, false⟩) :: rowsH 43 ids (rI M)
set_option maxHeartbeats 1000000 in
theorem icopied_s {h w K : Nat} {M : List (List Int)} (hM : MI h w K M) (nx : Nat) (hn : h ≤ 1000000) (hw : w ≤ 1000000) : InlQ Try.prog 25 [mI w M] [] nx (RowsI w M nx) := by
 have hl := hM.len
 have gl := imI_len w M
 unfold mI
 refine InlQ.run Try.func25 rfl Try.ntmps25 (by simp) sF fun B hB => ?_
 (repeat (first | (with_reducible refine oA ?_) | ((with_reducible apply SC.region); (focus (simp (disch := omega) only [go_sem, ↓reduceIte, reduceCtorEq, if_pos] <;> rfl)); (fail_if_success with_reducible refine pickA ?_))))
 refine SC.loop (fun x : Nat × List Nat => ⟨[(3, .sl nx 0 M.length 1 (some M.length)), (9, .im (imR w (rI M)) M.length), (10, .sc (.int .i64 M.length)), (11, .sc (.int .i64 x.1))], (nx, ⟨73, slR 2 w x.2 ++ List.replicate (h - x.1) (.sc (.slice none 0 0)), false⟩) :: rowsH 43 x.2 (rI (M.take x.1)), nx + 1 + x.1, 23⟩)
  (fun x => x.1 ≤ h ∧ RowsOk nx x.2 x.1 nx (nx + 1 + x.1)) (fun x => h - x.1) (0, []) ?_ ?_ ?_
 ·rw [← hl]
  (refine Le.slots ?_ ?_ ?_ <;> (repeat' (first | (exact fun _ _ h => h) | exact znb _ | exact leSl_nil | refine leSl_cons sG ?_ ?_ | exact VLe.refl rfl)))
 ·exact ⟨znc _, ⟨rfl, List.nodup_nil, by simp, by omega, by simp⟩⟩
 ·rintro ⟨i, ids⟩ ⟨hi, hR⟩ K hK
  simp only at hi hR ⊢
  have hlt : ∀ j ∈ ids, j < nx + 1 + i := fun j hj => (hR.lt j hj).2
  by_cases hc : i < h
  ·have q1 := decide_eq_true (p := (i : Int) < (M.length : Int)) (by omega)
   have g1 := imI_get (w := w) (M := M) (i := i) (by omega)
   have hr := hM.get hc
   have c1 := (cloneI_s (M.getD i []) w (nx + 1 + i) hr.1 hw).toQ
   have hts := take_snoc (d := []) (l := M) (i := i) (by omega)
   have hcl := ivR_clo (M.getD i [])
   have hcells : (slR 2 w ids ++ List.replicate (h - i) (V.sc (.slice none 0 0))).length = h := by simp [slR_len, hR.len]; omega
   have hset : (slR 2 w ids ++ List.replicate (h - i) (V.sc (.slice none 0 0))).set i (V.sl (nx + 1 + i) 0 w 2 none) = slR 2 w ids ++ V.sl (nx + 1 + i) 0 w 2 none :: List.replicate (h - (i + 1)) (V.sc (.slice none 0 0)) := by
    rw [List.set_append_right _ _ (by rw [slR_len, hR.len]; exact znb _), slR_len, hR.len, Nat.sub_self, show h - i = (h - (i + 1)) + 1 by omega, List.replicate_succ, List.set_cons_zero]
   generalize M.getD i [] = r at *
   generalize hC : slR 2 w ids ++ List.replicate (h - i) (V.sc (.slice none 0 0)) = C at *
   (repeat (first | (with_reducible refine oA ?_) | ((with_reducible first | apply SC.condB | apply SC.region | apply SO.run); (focus (simp (disch := omega) only [go_sem, ↓reduceIte, zn1, if_pos, q1, gl, g1, zl5] <;> rfl)); (first | refine pickT ?_ | fail_if_success with_reducible refine pickA ?_)) | (with_reducible apply SC.ops)))
   refine SO.inlQ sG Tab.go49 sG sG (SInlQ.new c1 ?_ ?_ ?_)
   ·exact klc (by omega) (klr hlt)
   ·rintro x hp' nx' ⟨rfl, rfl, rfl⟩
    exact ⟨.sl (znb _), ⟨fun y hy => Only.clo (List.all_eq_true.1 hcl y hy), trivial⟩⟩
   ·rintro x hp' nx' ⟨rfl, rfl, rfl⟩
    (repeat (first | (with_reducible refine oA ?_) | ((with_reducible first | apply SC.region | apply SO.run); (focus (simp (disch := omega) only [go_sem, ↓reduceIte, zn1, if_pos, if_neg, hcells, hset] <;> rfl)); (fail_if_success with_reducible refine pickA ?_))))
    refine hK _ (i + 1, ids ++ [nx + 1 + i]) ?_ ⟨by simp only; omega, ?_⟩ (by simp only; omega)
    ·rw [hts]
     have e : rI (M.take i ++ [r]) = rI (M.take i) ++ [ivR r] := by simp [rI]
     simp only [e]
     refine Le.rowIn ⟨nx, hB, by omega⟩ (by omega) (fun j hj => by have := hlt j hj; omega) (by omega) (fun h => by have := hlt _ h; omega) ?_ hcl (rI_clo _) (fun x hx => List.eq_of_mem_replicate hx) ?_
     ·rw [rI_len, hR.len, List.length_take]; omega
     ·(repeat' (first | exact trivial | refine mapSl_cons sG ?_ ?_ | exact VMap.sc _ | exact VMap.clo rfl | exact VMap.sl rfl (by omega)))
    ·refine ⟨by simp [hR.len], ?_, fun j hj => ?_, by omega, ?_⟩
     ·rw [List.nodup_append]
      exact ⟨hR.nod, by simp, fun a ha b hb => by simp at hb; subst hb; have := hlt a ha; omega⟩
     ·rcases List.mem_append.1 hj with g | g
      ·have := hR.lt j g; omega
      ·simp at g; omega
     ·intro h
      rcases List.mem_append.1 h with g | g
      ·exact hR.o2 g
      ·simp at g; omega
  ·have q1 := decide_eq_false (p := (i : Int) < (M.length : Int)) (by omega)
   have hin : i = h := by omega
   subst hin
   (repeat (first | (with_reducible refine oA ?_) | ((with_reducible first | apply SC.condB | apply SC.region); (focus (simp (disch := omega) only [go_sem, ↓reduceIte, zn1, zn2, q1] <;> rfl)); (first | refine pickF ?_ | fail_if_success with_reducible refine pickA ?_))))
   refine retIQ_ret (.sl nx 0 M.length 1 none) ((nx, ⟨73, slR 2 w ids, false⟩) :: rowsH 43 ids (rI M)) (nx + 1 + i) Try.results25 sF ⟨nx, ids, by rw [hl]; exact hR, rfl, rfl⟩ ?_
   rw [Nat.sub_self, zla (by omega)]
   simp only [List.replicate_zero, List.append_nil]
   exact Le.slots (leSl_cons sF (VLe.cap rfl rfl) leSl_nil) (fun _ _ h => h) (by omega)
def ActQ (w h o : Nat) (ids0 : List Nat) (M : List (List Int)) (nx : Nat) (x : V) (hp' : List (Nat × Blk)) (nx' : Nat) : Prop :=
 ∃ ids', Ids o ids0 ids' h nx ∧ x = .tu [] ∧ nx' = nx ∧ hp' = (o, ⟨73, slR 2 w ids', false⟩) :: rowsH 43 ids' (rI M)
theorem rowsI_swap {ty : TypeId} {ids : List Nat} {M : List (List Int)} {k q : Nat} (hn : ids.Nodup) (hl : ids.length = M.length) (hk : k < ids.length) (hq : q < ids.length) : ∀ id b, hget (rowsH ty (swapN ids k q) (rI (swapI M k q))) id = some b → hget (rowsH ty ids (rI M)) id = some b := by
 refine rows_perm hn (by rw [rI_len]; exact hl) fun i h1 h2 => ?_
 have h1' : i < ids.length := by simpa [swapN] using h1
 have e1 := swapN_get (ids := ids) hk hq i
 have e2 := swapI_get (M := M) (i := k) (j := q) (by omega) (by omega) i
 rw [rI_getD, e2]
 by_cases a : i = q
 ·exact ⟨k, hk, by rw [e1, if_pos a], by rw [if_pos a, rI_getD]⟩
 ·by_cases b : i = k
  ·exact ⟨q, hq, by rw [e1, if_neg a, if_pos b], by rw [if_neg a, if_pos b, rI_getD]⟩
  ·exact ⟨i, h1', by rw [e1, if_neg a, if_neg b], by rw [if_neg a, if_neg b, rI_getD]⟩
theorem VMap.tu0 {f : Nat → Nat} {D : Nat → Prop} : VMap f D (.tu []) (.tu []) := fun _ _ _ _ _ hx => by
 cases hx with
 | tu h1 h2 => exact .tu h1 fun i x u hx => by cases hx
def clS : V → Bool
 | .sc _ => true
 | x => clo x
theorem VMap.clS {f : Nat → Nat} {D : Nat → Prop} {x : V} (h : clS x = true) : VMap f D x x := by
 cases x <;> first | exact VMap.sc _ | exact VMap.clo h
theorem Le.rowsDown (pre : List (Nat × Blk)) {B : Base} {sl sl' : List (Nat × V)} {hp : List (Nat × Blk)} {o m z nx nx1 nt : Nat} {ty tr : TypeId} {ids : List Nat} {rs : List (List V)} (hpre : ∀ i k, hget pre i = some k → k.cs.all clS = true) (hB : ∃ m, B.Old m ∧ m ≤ nx) (ho : o < nx) (hi : ∀ i ∈ ids, i < nx) (hrc : ∀ r ∈ rs, r.all clo = true)
  (hs : ∀ id k, hget (pre ++ (o, (⟨ty, slR z m ids, false⟩ : Blk)) :: rowsH tr ids rs) id = some k → hget hp id = some k) (h1 : mapSl (fun i => i) (fun i => i < nx) sl sl') :
  Le B ⟨sl, hp, nx1, nt⟩ ⟨sl', pre ++ (o, ⟨ty, slR z m ids, false⟩) :: rowsH tr ids rs, nx, nt⟩ := by
 obtain ⟨m0, hB, hm0⟩ := hB
 refine Le.map (fun i => i) (fun i => i < nx) hB (fun i hi => ⟨by omega, rfl⟩) (fun i h => h) (fun i j _ _ e => e) h1 (fun i k' hk' hlt => ?_)
 rw [hs i k' hk']
 rw [hget_app] at hk'
 cases hp : hget pre i with
 | some q =>
  rw [hp] at hk'
  cases hk'
  exact ⟨_, rfl, rfl, rfl, fun j y hy => ⟨y, hy, VMap.clS (List.all_eq_true.1 (hpre i _ hp) y (List.mem_of_getElem? hy))⟩⟩
 | none =>
  rw [hp] at hk'
  simp only [hget] at hk'
  split at hk'
  ·cases hk'
   refine ⟨_, rfl, rfl, rfl, fun j y hy => ⟨y, hy, ?_⟩⟩
   obtain ⟨q, hq, rfl⟩ := List.mem_map.1 (List.mem_of_getElem? hy)
   exact VMap.sl rfl (hi q hq)
  ·obtain ⟨q, q1, q2, q3, rfl⟩ := rows_inv hk'
   exact BMap.clo (hrc _ (by rw [List.getD_eq_getElem?_getD, zlb q2]; exact List.getElem_mem q2))
theorem pre0 : ∀ i k, hget ([] : List (Nat × Blk)) i = some k → k.cs.all clS = true := fun i k h => by cases h
theorem pre1 {n : Nat} {b : Blk} (hb : b.cs.all clS = true) : ∀ i k, hget [(n, b)] i = some k → k.cs.all clS = true := fun i k h => by
 simp only [hget] at h
 split at h
 ·cases h; exact hb
 ·cases h
theorem less_new {n : Nat} {b : Blk} {r r' : List (Nat × Blk)} (h : ∀ id k, hget r' id = some k → hget r id = some k) (hn : ∀ id k, hget r' id = some k → id ≠ n) : ∀ id k, hget r' id = some k → hget ((n, b) :: r) id = some k := by
 intro id k hk
 simp only [hget]
 rw [if_neg (hn id k hk)]; exact h id k hk
theorem rows_lt {n : Nat} {o : Nat} {b : Blk} {tr : TypeId} {ids : List Nat} {rs : List (List V)} (ho : o < n) (hi : ∀ i ∈ ids, i < n) : ∀ id k, hget ((o, b) :: rowsH tr ids rs) id = some k → id < n := by
 intro id k hk
 simp only [hget] at hk
 split at hk
 ·omega
 ·obtain ⟨q, q1, q2, q3, rfl⟩ := rows_inv hk
  rw [← q3]; exact hi _ (getD_mem' q1)
set_option maxHeartbeats 4000000 in
set_option maxRecDepth 4000 in
theorem perfS_s {h w K o nx : Nat} {M : List (List Int)} {ids0 ids : List Nat} (hM : MI h w K M) (hI : Ids o ids0 ids h nx) {op : OpL} (hi : op.i < h) (hj : op.j < h) (hn : h ≤ 1000000) (hw : w ≤ 1000000) :
  InlQ Try.prog 50 [.sl o 0 h 1 none, .ag (opC op)] ((o, ⟨73, slR 2 w ids, false⟩) :: rowsH 43 ids (rI M)) nx (ActQ w h o ids0 (swapI M op.i op.j) nx) := by
 obtain ⟨kd, i, j, k⟩ := op
 simp only at hi hj
 unfold opC sv
 simp only
 have hl := hM.len
 have hidl := hI.len
 have ho := hI.o1
 have ho2 : o + 1 - nx = 0 := by omega
 have g1 := slR_len 2 w ids
 rw [hidl] at g1
 have gi := slR_get (z := 2) (m := w) (ids := ids) (k := i) (by omega)
 have gj := slR_get (z := 2) (m := w) (ids := ids) (k := j) (by omega)
 have hkl := klB_rows (ty := 43) (rs := rI M) (n := nx) (fun j hj => by have := hI.lt j hj; omega)
 have hkl2 := klB_rows (ty := 43) (rs := rI M) (n := nx + 1) (fun j hj => by have := hI.lt j hj; omega)
 have hsw : (ids.set i (ids.getD j 0)).set j (ids.getD i 0) = swapN ids i j := rfl
 refine InlQ.run Try.func50 rfl Try.ntmps50 (by simp) sF fun B hB => ?_
 (repeat (first | refine DO.nilF (fun i => i + 1 - nx) (by simp (disch := omega) only [go_sem, zld, zle, Option.map_some, Option.map_none, znd, zne] <;> rfl) (by kernel_rfl) ?_ | (with_reducible refine oA ?_) | ((with_reducible first | apply SC.region | apply DO.run); (focus (simp (disch := omega) only [go_sem, ↓reduceIte, zn1, zn2, reduceCtorEq, if_pos, if_neg, g1, gi, gj, slR_set, slR_len, List.length_set, hidl, hsw] <;> rfl)); (fail_if_success with_reducible refine pickA ?_)) | ((with_reducible refine SC.draw Tab.mixed ?_ ?_); (focus (simp (disch := omega) only [go_sem, ↓reduceIte, if_pos, hkl2])))))
 refine retIQ_normal (rs := []) (.tu []) ((o, ⟨73, slR 2 w (swapN ids i j), false⟩) :: rowsH 43 (swapN ids i j) (rI (swapI M i j))) nx Try.results50 rfl ⟨_, hI.swap hi hj, rfl, rfl, rfl⟩ ?_
 have hI2 := hI.swap hi hj
 refine Le.rowsDown [] pre0 ⟨nx, hB, znb _⟩ ho hI2.lt (rI_clo _) (less_new (less_cons (rowsI_swap hI.nod (by omega) (by omega) (by omega))) (fun id k hk => Nat.ne_of_lt (rows_lt ho hI2.lt id k hk))) ?_
 exact mapSl_cons rfl VMap.tu0 trivial
theorem setI_self {M : List (List Int)} {i : Nat} (h : i < M.length) : M.set i (M.getD i []) = M := by
 rw [List.getD_eq_getElem?_getD, zlb h]
 exact List.set_getElem_self h
def negPre (t : Nat) (r : List Int) : List Int := r.mapIdx fun c x => if c < t then -x else x
theorem negPre_len {t : Nat} {r : List Int} : (negPre t r).length = r.length := by simp [negPre]
theorem negPre_get {t c : Nat} {r : List Int} (h : c < r.length) : (negPre t r).getD c 0 = if c < t then -(r.getD c 0) else r.getD c 0 := by
 unfold negPre
 rw [List.getD_eq_getElem?_getD, List.getElem?_mapIdx, getD_get' (d := 0) h]; rfl
theorem ilist_ext {a b : List Int} (h : a.length = b.length) (hx : ∀ j, j < a.length → a.getD j 0 = b.getD j 0) : a = b := by
 refine List.ext_getElem h fun j h1 h2 => ?_
 have := hx j h1
 rw [List.getD_eq_getElem?_getD, List.getD_eq_getElem?_getD, zlb h1, zlb h2] at this
 simpa using this
theorem negPre_zero {r : List Int} : negPre 0 r = r := ilist_ext negPre_len fun j hj => by rw [negPre_get (by rw [negPre_len] at hj; exact hj), if_neg (by omega)]
theorem negPre_set {t : Nat} {r : List Int} (h : t < r.length) : (negPre t r).set t (-(r.getD t 0)) = negPre (t + 1) r := by
 refine ilist_ext (by rw [List.length_set, negPre_len, negPre_len]) fun j hj => ?_
 rw [List.length_set, negPre_len] at hj
 rw [getD_set (by rw [negPre_len]; exact h), negPre_get hj, negPre_get hj]
 by_cases e : j = t
 ·subst e; rw [if_pos rfl, if_pos (by omega)]
 ·rw [if_neg e]
  by_cases g : j < t
  ·rw [if_pos g, if_pos (by omega)]
  ·rw [if_neg g, if_neg (by omega)]
theorem negPre_end {w : Nat} {r : List Int} (h : r.length = w) : negPre w r = negI r := by
 refine ilist_ext (by rw [negPre_len, negI_len]) fun j hj => ?_
 rw [negPre_len] at hj
 rw [negPre_get hj, if_pos (by omega), negI_get hj]
set_option maxHeartbeats 8000000 in
set_option maxRecDepth 4000 in
theorem perfN_s {h w K o nx : Nat} {M : List (List Int)} {ids0 ids : List Nat} (hM : MI h w K M) (hK : K ≤ 100000000000) (hI : Ids o ids0 ids h nx) {op : OpL} (hi : op.i < h) (hn : h ≤ 1000000) (hw : w ≤ 1000000) :
  InlQ Try.prog 51 [.sl o 0 h 1 none, .ag (opC op)] ((o, ⟨73, slR 2 w ids, false⟩) :: rowsH 43 ids (rI M)) nx (ActQ w h o ids0 (M.set op.i (negI (M.getD op.i []))) nx) := by
 obtain ⟨kd, i, j, k⟩ := op
 simp only at hi
 unfold opC sv
 simp only
 have hl := hM.len
 have hidl := hI.len
 have ho := hI.o1
 have g1 := slR_len 2 w ids
 rw [hidl] at g1
 have gi := slR_get (z := 2) (m := w) (ids := ids) (k := i) (by omega)
 have hr := hM.get hi
 have hfit := fun c hc => hM.fit hi (j := c) hc
 have hmem := getD_mem' (ids := ids) (k := i) (by omega)
 have hidk := hI.lt _ hmem
 have hne : ids.getD i 0 ≠ o := fun e => hI.o2 (by rw [← e]; exact hmem)
 have e0 : M.set i (negPre 0 (M.getD i [])) = M := by
  rw [negPre_zero]
  exact setI_self (by omega)
 refine InlQ.run Try.func51 rfl Try.ntmps51 (by simp) sF fun B hB => ?_
 (repeat (first | (with_reducible refine oA ?_) | ((with_reducible apply SC.region); (focus (simp (disch := omega) only [go_sem, ↓reduceIte, zn1, reduceCtorEq, if_pos, if_neg, gi] <;> rfl)); (fail_if_success with_reducible refine pickA ?_))))
 refine SC.loop (fun t : Nat => ⟨[(0, .sl o 0 h 1 none), (3, .pt nx 0), (10, .sl (ids.getD i 0) 0 w 2 none), (11, .sc (.int .i64 w)), (12, .sc (.int .i64 t))], (nx, ⟨45, [.sc (.int .i64 kd), .sc (.int .i64 i), .sc (.int .i64 j), .sc (.bool (decide (k < 0))), .im (lv (limbsOf k.natAbs)) (limbsOf k.natAbs).length], false⟩) :: (o, ⟨73, slR 2 w ids, false⟩) :: rowsH 43 ids (rI (M.set i (negPre t (M.getD i [])))), nx + 1, 27⟩)
  (fun t => t ≤ w) (fun t => w - t) 0 ?_ ?_ ?_
 ·rw [e0]
  (refine Le.slots ?_ ?_ ?_ <;> (repeat' (first | (exact fun _ _ h => h) | exact znb _ | exact leSl_nil | refine leSl_cons sG ?_ ?_ | exact VLe.refl rfl)))
 ·exact znc _
 ·intro t ht K2 hK2
  by_cases hc : t < w
  ·have q1 := decide_eq_true (p := (t : Int) < (w : Int)) (by omega)
   have gR := rows_get (ty := 43) (rs := rI (M.set i (negPre t (M.getD i [])))) (k := i) hI.nod (by omega) (by rw [rI_len]; simp; omega)
   rw [rI_getD, getD_set (by omega), if_pos rfl] at gR
   have hf := hfit t hc
   have c1 := pneg_i _ K hf (by omega)
   have gl := ivR_len (negPre t (M.getD i []))
   rw [negPre_len, hr.1] at gl
   have gd := ivR_drop (l := negPre t (M.getD i [])) (i := t) (by rw [negPre_len]; omega)
   rw [negPre_get (by omega), if_neg (by omega)] at gd
   have gs := ivR_set (l := negPre t (M.getD i [])) (i := t) (-((M.getD i []).getD t 0)) (by rw [negPre_len]; omega)
   rw [negPre_set (by omega)] at gs
   have hrs := rows_set (ty := 43) (rs := rI (M.set i (negPre t (M.getD i [])))) (k := i) (r := ivR (negPre (t + 1) (M.getD i []))) hI.nod (by omega) (by rw [rI_len]; simp; omega)
   rw [rI_set, List.set_set] at hrs
   generalize (ivR (negPre t (M.getD i []))).drop ((t + 1) * 2) = D at *
   generalize hA : ivR (negPre t (M.getD i [])) = A at *
   generalize (M.getD i []).getD t 0 = x at *
   generalize hA' : ivR (negPre (t + 1) (M.getD i [])) = A' at *
   have hkl := klB_rows (ty := 43) (rs := rI (M.set i (negPre t (M.getD i [])))) (n := nx + 1) (fun j hj => by have := hI.lt j hj; omega)
   have hkl2 := klB_rows (ty := 43) (rs := rI (M.set i (negPre t (M.getD i [])))) (n := nx + 1 + 1) (fun j hj => by have := hI.lt j hj; omega)
   generalize hH : rowsH 43 ids (rI (M.set i (negPre t (M.getD i [])))) = H at *
   generalize ids.getD i 0 = idk at *
   unfold iv sv at c1
   unfold ivC sv at gd gs
   simp only [zl8, zl7] at gd
   have g2 : t * 2 < A.length := by omega
   (repeat (first | refine DO.nilF (fun i => i + 1 - nx) (by simp (disch := omega) only [go_sem, zn4, zld, zle, Option.map_some, Option.map_none, znd, zne, znf, zn4] <;> rfl) (by kernel_rfl) ?_ | (with_reducible refine oA ?_) | ((apply DO.call); (iterate 3 (focus (simp (disch := omega) only [go_sem, ↓reduceIte] <;> rfl))); (apply DCall.ofX); (focus (assumption)); (focus (simp (disch := omega) only [go_sem] <;> rfl))) | ((with_reducible first | apply SC.condB | apply SC.region | apply DO.run); (focus (simp (disch := omega) only [go_sem, ↓reduceIte, zn1, zn2, zn3, zn4, reduceCtorEq, if_pos, if_neg, q1, gi, gR, gl, gd, gs, hrs] <;> rfl)); (first | refine pickT ?_ | fail_if_success with_reducible refine pickA ?_)) | ((with_reducible refine SC.draw Tab.mixed ?_ ?_); (focus (simp (disch := omega) only [go_sem, ↓reduceIte, if_pos, hkl2])))))
   refine hK2 _ (t + 1) ?_ (by omega) (by omega)
   refine Le.rowsDown [(nx, _)] (pre1 rfl) ⟨nx, hB, Nat.le_succ _⟩ (by omega) (fun c hc => by have := hI.lt c hc; omega) (rI_clo _) (fun id b hb => ?_) ?_
   ·exact less_new (fun id b hb => hb) (fun id b hb => Nat.ne_of_lt (klc (Nat.lt_succ_self nx) (klc (Nat.lt_succ_of_lt ho) (klr fun c hc => Nat.lt_succ_of_lt (hI.lt c hc))) id b hb)) id b hb
   ·(repeat' (first | exact trivial | refine mapSl_cons sG ?_ ?_ | exact VMap.sc _ | exact VMap.sl rfl (by omega) | exact VMap.pt rfl (by omega)))
  ·have q1 := decide_eq_false (p := (t : Int) < (w : Int)) (by omega)
   have htw : w = t := by omega
   subst htw
   rw [negPre_end hr.1]
   (repeat (first | (with_reducible refine oA ?_) | ((with_reducible first | apply SC.condB | apply SC.region); (focus (simp (disch := omega) only [go_sem, ↓reduceIte, zn1, reduceCtorEq, q1] <;> rfl)); (first | refine pickF ?_ | fail_if_success with_reducible refine pickA ?_))))
   refine retIQ_normal (rs := []) (.tu []) ((o, ⟨73, slR 2 w ids, false⟩) :: rowsH 43 ids (rI (M.set i (negI (M.getD i []))))) nx Try.results51 rfl ⟨_, hI, rfl, rfl, rfl⟩ ?_
   refine Le.rowsDown [] pre0 ⟨nx, hB, znb _⟩ ho hI.lt (rI_clo _) (less_new (fun id k hk => hk) (fun id k hk => Nat.ne_of_lt (rows_lt ho hI.lt id k hk))) ?_
   exact mapSl_cons rfl VMap.tu0 trivial
def addPreI (t : Nat) (a b : List Int) (k : Int) : List Int := a.mapIdx fun c x => if c < t then x + k * b.getD c 0 else x
theorem addPreI_len {t : Nat} {a b : List Int} {k : Int} : (addPreI t a b k).length = a.length := by simp [addPreI]
theorem addPreI_get {t c : Nat} {a b : List Int} {k : Int} (h : c < a.length) : (addPreI t a b k).getD c 0 = if c < t then a.getD c 0 + k * b.getD c 0 else a.getD c 0 := by
 unfold addPreI
 rw [List.getD_eq_getElem?_getD, List.getElem?_mapIdx, getD_get' (d := 0) h]; rfl
theorem addPreI_zero {a b : List Int} {k : Int} : addPreI 0 a b k = a := ilist_ext addPreI_len fun j hj => by rw [addPreI_get (by rw [addPreI_len] at hj; exact hj), if_neg (by omega)]
theorem addPreI_set {t : Nat} {a b : List Int} {k : Int} (h : t < a.length) : (addPreI t a b k).set t (a.getD t 0 + k * b.getD t 0) = addPreI (t + 1) a b k := by
 refine ilist_ext (by rw [List.length_set, addPreI_len, addPreI_len]) fun j hj => ?_
 rw [List.length_set, addPreI_len] at hj
 rw [getD_set (by rw [addPreI_len]; exact h), addPreI_get hj, addPreI_get hj]
 by_cases e : j = t
 ·subst e; rw [if_pos rfl, if_pos (by omega)]
 ·rw [if_neg e]
  by_cases g : j < t
  ·rw [if_pos g, if_pos (by omega)]
  ·rw [if_neg g, if_neg (by omega)]
theorem addPreI_end {w : Nat} {a b : List Int} {k : Int} (h : a.length = w) : addPreI w a b k = addI a b k := by
 refine ilist_ext (by rw [addPreI_len, addI_len]) fun j hj => ?_
 rw [addPreI_len] at hj
 rw [addPreI_get hj, if_pos (by omega), addI_get hj]
theorem fits_mulK {K L : Nat} {y k : Int} (hy : Fits K y) (hk : Fits L k) : Fits (K + L) (k * y) := by
 unfold Fits at *
 rw [Int.natAbs_mul]
 have h3 : 0 < 4294967296 ^ K := Nat.pow_pos (by omega)
 have e : 4294967296 ^ (K + L) = 4294967296 ^ L * 4294967296 ^ K := by rw [Nat.pow_add, Nat.mul_comm]
 rw [e]
 calc k.natAbs * y.natAbs ≤ k.natAbs * 4294967296 ^ K := Nat.mul_le_mul (znb _) (Nat.le_of_lt hy)
  _ < 4294967296 ^ L * 4294967296 ^ K := Nat.mul_lt_mul_of_pos_right hk h3
set_option maxHeartbeats 8000000 in
set_option maxRecDepth 4000 in
theorem perfA_s {h w K o nx : Nat} {M : List (List Int)} {ids0 ids : List Nat} (hM : MI h w K M) (hK : K ≤ 100000000000) (hI : Ids o ids0 ids h nx) {op : OpL} (hi : op.i < h) (hj : op.j < h) (hij : op.i ≠ op.j) (hk : Fits OL op.k) (hn : h ≤ 1000000) (hw : w ≤ 1000000) :
  InlQ Try.prog 52 [.sl o 0 h 1 none, .ag (opC op)] ((o, ⟨73, slR 2 w ids, false⟩) :: rowsH 43 ids (rI M)) nx (ActQ w h o ids0 (M.set op.i (addI (M.getD op.i []) (M.getD op.j []) op.k)) nx) := by
 obtain ⟨kd, i, j, k⟩ := op
 simp only at hi hj hij hk
 unfold opC sv
 simp only
 have hl := hM.len
 have hidl := hI.len
 have ho := hI.o1
 have g1 := slR_len 2 w ids
 rw [hidl] at g1
 have gi := slR_get (z := 2) (m := w) (ids := ids) (k := i) (by omega)
 have gj := slR_get (z := 2) (m := w) (ids := ids) (k := j) (by omega)
 have hr := hM.get hi
 have hrj := hM.get hj
 have hfitj := fun c hc => hM.fit hj (j := c) hc
 have hfit := fun c hc => hM.fit hi (j := c) hc
 have hmem := getD_mem' (ids := ids) (k := i) (by omega)
 have hidk := hI.lt _ hmem
 have hne : ids.getD i 0 ≠ o := fun e => hI.o2 (by rw [← e]; exact hmem)
 have hmemj := getD_mem' (ids := ids) (k := j) (by omega)
 have hidj := hI.lt _ hmemj
 have hnej : ids.getD j 0 ≠ o := fun e => hI.o2 (by rw [← e]; exact hmemj)
 have hneij : ids.getD i 0 ≠ ids.getD j 0 := fun e => hij (nodup_getD hI.nod (by omega) (by omega) e)
 have e0 : M.set i (addPreI 0 (M.getD i []) (M.getD j []) k) = M := by
  rw [addPreI_zero]
  exact setI_self (by omega)
 refine InlQ.run Try.func52 rfl Try.ntmps52 (by simp) sF fun B hB => ?_
 (repeat (first | (with_reducible refine oA ?_) | ((with_reducible apply SC.region); (focus (simp (disch := omega) only [go_sem, ↓reduceIte, zn1, reduceCtorEq, if_pos, if_neg, gj] <;> rfl)); (fail_if_success with_reducible refine pickA ?_))))
 refine SC.loop (fun t : Nat => ⟨[(0, .sl o 0 h 1 none), (3, .pt nx 0), (10, .sl (ids.getD j 0) 0 w 2 none), (11, .sc (.int .i64 w)), (12, .sc (.int .i64 t))], (nx, ⟨45, [.sc (.int .i64 kd), .sc (.int .i64 i), .sc (.int .i64 j), .sc (.bool (decide (k < 0))), .im (lv (limbsOf k.natAbs)) (limbsOf k.natAbs).length], false⟩) :: (o, ⟨73, slR 2 w ids, false⟩) :: rowsH 43 ids (rI (M.set i (addPreI t (M.getD i []) (M.getD j []) k))), nx + 1, 38⟩)
  (fun t => t ≤ w) (fun t => w - t) 0 ?_ ?_ ?_
 ·rw [e0]
  (refine Le.slots ?_ ?_ ?_ <;> (repeat' (first | (exact fun _ _ h => h) | exact znb _ | exact leSl_nil | refine leSl_cons sG ?_ ?_ | exact VLe.refl rfl)))
 ·exact znc _
 ·intro t ht K2 hK2
  by_cases hc : t < w
  ·have q1 := decide_eq_true (p := (t : Int) < (w : Int)) (by omega)
   have gR := rows_get (ty := 43) (rs := rI (M.set i (addPreI t (M.getD i []) (M.getD j []) k))) (k := i) hI.nod (by omega) (by rw [rI_len]; simp; omega)
   rw [rI_getD, getD_set (by omega), if_pos rfl] at gR
   have hf := hfit t hc
   have gRj := rows_get (ty := 43) (rs := rI (M.set i (addPreI t (M.getD i []) (M.getD j []) k))) (k := j) hI.nod (by omega) (by rw [rI_len]; simp; omega)
   rw [rI_getD, getD_set (by omega), if_neg (fun e => hij e.symm)] at gRj
   have hfj := hfitj t hc
   have hOL := OL_le
   have c1 := pmul_i k _ (K + OL) (hk.mono (by omega)) (hfj.mono (by omega)) (by omega)
   have c2 := padd_i _ _ (K + OL) (hf.mono (by omega)) (fits_mulK hfj hk) (by omega)
   have gdj := ivR_drop (l := M.getD j []) (i := t) (by omega)
   have glj := ivR_len (M.getD j [])
   rw [hrj.1] at glj
   have gl := ivR_len (addPreI t (M.getD i []) (M.getD j []) k)
   rw [addPreI_len, hr.1] at gl
   have gd := ivR_drop (l := addPreI t (M.getD i []) (M.getD j []) k) (i := t) (by rw [addPreI_len]; omega)
   rw [addPreI_get (by omega), if_neg (by omega)] at gd
   have gs := ivR_set (l := addPreI t (M.getD i []) (M.getD j []) k) (i := t) ((M.getD i []).getD t 0 + k * (M.getD j []).getD t 0) (by rw [addPreI_len]; omega)
   rw [addPreI_set (by omega)] at gs
   have hrs := rows_set (ty := 43) (rs := rI (M.set i (addPreI t (M.getD i []) (M.getD j []) k))) (k := i) (r := ivR (addPreI (t + 1) (M.getD i []) (M.getD j []) k)) hI.nod (by omega) (by rw [rI_len]; simp; omega)
   rw [rI_set, List.set_set] at hrs
   generalize (ivR (addPreI t (M.getD i []) (M.getD j []) k)).drop ((t + 1) * 2) = D at *
   generalize hA : ivR (addPreI t (M.getD i []) (M.getD j []) k) = A at *
   generalize (M.getD i []).getD t 0 = x at *
   generalize (ivR (M.getD j [])).drop ((t + 1) * 2) = Dj at *
   generalize hAj : ivR (M.getD j []) = Aj at *
   generalize (M.getD j []).getD t 0 = y at *
   generalize hA' : ivR (addPreI (t + 1) (M.getD i []) (M.getD j []) k) = A' at *
   have hkl := klB_rows (ty := 43) (rs := rI (M.set i (addPreI t (M.getD i []) (M.getD j []) k))) (n := nx + 1) (fun j hj => by have := hI.lt j hj; omega)
   have hkl2 := klB_rows (ty := 43) (rs := rI (M.set i (addPreI t (M.getD i []) (M.getD j []) k))) (n := nx + 1 + 1) (fun j hj => by have := hI.lt j hj; omega)
   generalize hH : rowsH 43 ids (rI (M.set i (addPreI t (M.getD i []) (M.getD j []) k))) = H at *
   generalize ids.getD i 0 = idk at *
   generalize ids.getD j 0 = idj at *
   unfold iv sv at c1 c2
   unfold ivC sv at gd gs gdj
   simp only [zl8, zl7] at gd gdj
   have g2j : t * 2 < Aj.length := by omega
   have g2 : t * 2 < A.length := by omega
   (repeat (first | refine DO.nilF (fun i => i + 1 - nx) (by simp (disch := omega) only [go_sem, zn4, zld, zle, Option.map_some, Option.map_none, znd, zne, znf, zn4] <;> rfl) (by kernel_rfl) ?_ | (with_reducible refine oA ?_) | ((apply DO.call); (iterate 3 (focus (simp (disch := omega) only [go_sem, ↓reduceIte, zn1] <;> rfl))); (apply DCall.ofX); (focus (assumption)); (focus (simp (disch := omega) only [go_sem] <;> rfl))) | ((with_reducible first | apply SC.condB | apply SC.region | apply DO.run); (focus (simp (disch := omega) only [go_sem, ↓reduceIte, zn1, zn2, zn3, zn4, reduceCtorEq, if_pos, if_neg, q1, gi, gR, gRj, gl, glj, gd, gdj, gs, hrs] <;> rfl)); (first | refine pickT ?_ | fail_if_success with_reducible refine pickA ?_)) | ((with_reducible refine SC.draw Tab.mixed ?_ ?_); (focus (simp (disch := omega) only [go_sem, ↓reduceIte, if_pos, hkl2])))))
   refine hK2 _ (t + 1) ?_ (by omega) (by omega)
   refine Le.rowsDown [(nx, _)] (pre1 rfl) ⟨nx, hB, Nat.le_succ _⟩ (by omega) (fun c hc => by have := hI.lt c hc; omega) (rI_clo _) (fun id b hb => ?_) ?_
   ·exact less_new (fun id b hb => hb) (fun id b hb => Nat.ne_of_lt (klc (Nat.lt_succ_self nx) (klc (Nat.lt_succ_of_lt ho) (klr fun c hc => Nat.lt_succ_of_lt (hI.lt c hc))) id b hb)) id b hb
   ·(repeat' (first | exact trivial | refine mapSl_cons sG ?_ ?_ | exact VMap.sc _ | exact VMap.sl rfl (by omega) | exact VMap.pt rfl (by omega)))
  ·have q1 := decide_eq_false (p := (t : Int) < (w : Int)) (by omega)
   have htw : w = t := by omega
   subst htw
   rw [addPreI_end hr.1]
   (repeat (first | (with_reducible refine oA ?_) | ((with_reducible first | apply SC.condB | apply SC.region); (focus (simp (disch := omega) only [go_sem, ↓reduceIte, zn1, reduceCtorEq, q1] <;> rfl)); (first | refine pickF ?_ | fail_if_success with_reducible refine pickA ?_))))
   refine retIQ_normal (rs := []) (.tu []) ((o, ⟨73, slR 2 w ids, false⟩) :: rowsH 43 ids (rI (M.set i (addI (M.getD i []) (M.getD j []) k)))) nx Try.results52 rfl ⟨_, hI, rfl, rfl, rfl⟩ ?_
   refine Le.rowsDown [] pre0 ⟨nx, hB, znb _⟩ ho hI.lt (rI_clo _) (less_new (fun id k hk => hk) (fun id k hk => Nat.ne_of_lt (rows_lt ho hI.lt id k hk))) ?_
   exact mapSl_cons rfl VMap.tu0 trivial
end Go.Proofs.Ytdcbmdmlhjemmaa
