/- Texts joined: Ua Up Ut Ub Uc Ud Ue. -/
import Derived.Test.YtpodnbcdddcdmaaGreatDoorVb
import Derived.Test.YtpodnbcdddcdmaaGreatDoorVc
import Derived.Test.YtpodnbcdddcdmaaGreatDoorVd
import Derived.Test.YtpodnbcdddcdmaaGreatDoorVf
import Derived.Test.YtpodnbcdddcdmaaGreatDoorVg
set_option linter.all false
/- Rational numbers by value: their trees, plain laws. -/
namespace Go.Proofs.YtpodnbcdddcdmaaGreatDoor
open Go.RowKit
def rt (n d : Int) : V := .ag [.sc (.bool (decide (n < 0))), .im (lv (limbsOf n.natAbs)) (limbsOf n.natAbs).length, .sc (.bool (decide (d < 0))), .im (lv (limbsOf d.natAbs)) (limbsOf d.natAbs).length]
def rv (q : Rat) : V := rt q.num (q.den : Int)
def RF (K : Nat) (q : Rat) : Prop := Fits K q.num ∧ Fits K (q.den : Int)
theorem RF.mono {K L : Nat} {q : Rat} (h : RF K q) (hl : K ≤ L) : RF L q := ⟨h.1.mono hl, h.2.mono hl⟩
theorem den_ne (q : Rat) : (q.den : Int) ≠ 0 := by have := q.den_pos; omega
theorem RF.divInt {K : Nat} {n d : Int} (hn : Fits K n) (hd : Fits K d) (h0 : d ≠ 0) : RF K (Rat.divInt n d) := by
  constructor
  · rw [Rat.num_divInt]
    have h1 := Int.natAbs_ediv_le_natAbs (d.sign * n) ((d.gcd n : Nat) : Int)
    have h2 : (d.sign * n).natAbs ≤ n.natAbs := by
      rw [Int.natAbs_mul]
      have : d.sign.natAbs ≤ 1 := by have := sign_cases d; omega
      have := Nat.mul_le_mul_right n.natAbs this
      omega
    unfold Fits at *; omega
  · rw [Rat.den_divInt, if_neg h0]
    have := Nat.div_le_self d.natAbs (d.gcd n)
    unfold Fits at *; rw [Int.natAbs_natCast]; omega
theorem RF.neg {K : Nat} {q : Rat} (h : RF K q) : RF K (-q) := ⟨by rw [Rat.neg_num]; exact h.1.neg, by rw [Rat.neg_den]; exact h.2⟩
theorem rat_add (a b : Rat) : a + b = Rat.divInt (a.num * b.den + b.num * a.den) (a.den * b.den) := by
  have := Rat.divInt_add_divInt a.num b.num (den_ne a) (den_ne b)
  rwa [Rat.num_divInt_den, Rat.num_divInt_den] at this
theorem rat_sub (a b : Rat) : a - b = Rat.divInt (a.num * b.den - b.num * a.den) (a.den * b.den) := by
  rw [Rat.sub_eq_add_neg, rat_add, Rat.neg_num, Rat.neg_den, Int.neg_mul, ← Int.sub_eq_add_neg]
theorem rat_mul (a b : Rat) : a * b = Rat.divInt (a.num * b.num) (a.den * b.den) := by
  have := Rat.divInt_mul_divInt a.num b.num (d₁ := a.den) (d₂ := b.den)
  rwa [Rat.num_divInt_den, Rat.num_divInt_den] at this
theorem rat_div (a b : Rat) (h : b ≠ 0) : a / b = Rat.divInt (a.num * b.den) (a.den * b.num) := by
  have hb : b.num ≠ 0 := fun e => h (by rw [← Rat.num_divInt_den b, e, Rat.zero_divInt])
  have e : a = Rat.divInt (a.num * b.den) (a.den * b.num) * b := by
    have e1 := Rat.divInt_mul_divInt (a.num * b.den) b.num (d₁ := a.den * b.num) (d₂ := b.den)
    rw [Rat.num_divInt_den] at e1
    rw [e1]
    have e2 := Rat.num_divInt_den a
    have e3 := (Rat.divInt_eq_divInt_iff (n₁ := a.num) (n₂ := a.num * b.den * b.num) (den_ne a) (Int.mul_ne_zero (Int.mul_ne_zero (den_ne a) hb) (den_ne b))).2 (by grind)
    rw [e2] at e3
    exact e3
  generalize Rat.divInt (a.num * b.den) (a.den * b.num) = c at *
  subst e
  grind
theorem RF.add {K : Nat} {a b : Rat} (ha : RF K a) (hb : RF K b) : RF (K + K + 1) (a + b) := by
  rw [rat_add]
  exact RF.divInt ((ha.1.mul hb.2).add (hb.1.mul ha.2)) ((ha.2.mul hb.2).mono (by omega)) (Int.mul_ne_zero (den_ne a) (den_ne b))
theorem RF.sub {K : Nat} {a b : Rat} (ha : RF K a) (hb : RF K b) : RF (K + K + 1) (a - b) := by
  rw [Rat.sub_eq_add_neg]; exact ha.add hb.neg
theorem RF.mul {K : Nat} {a b : Rat} (ha : RF K a) (hb : RF K b) : RF (K + K) (a * b) := by
  rw [rat_mul]
  exact RF.divInt (ha.1.mul hb.1) (ha.2.mul hb.2) (Int.mul_ne_zero (den_ne a) (den_ne b))
theorem num_ne {b : Rat} (h : b ≠ 0) : b.num ≠ 0 := fun e => h (by rw [← Rat.num_divInt_den b, e, Rat.zero_divInt])
theorem RF.div {K : Nat} {a b : Rat} (ha : RF K a) (hb : RF K b) (h : b ≠ 0) : RF (K + K) (a / b) := by
  rw [rat_div a b h]
  exact RF.divInt (ha.1.mul hb.2) (ha.2.mul hb.1) (Int.mul_ne_zero (den_ne a) (num_ne h))
theorem red_num {n d : Int} (h : d ≠ 0) : n / (if d < 0 then -((Int.gcd n d : Nat) : Int) else ((Int.gcd n d : Nat) : Int)) = (Rat.divInt n d).num := by
  rw [Rat.num_divInt, Int.gcd_comm d n]
  split
  · rename_i hd
    rw [Int.sign_eq_neg_one_of_neg hd, Int.ediv_neg, Int.neg_one_mul, Int.neg_ediv_of_dvd (Int.gcd_dvd_left n d)]
  · rw [Int.sign_eq_one_of_pos (by omega), Int.one_mul]
theorem red_den {n d : Int} (h : d ≠ 0) : d / (if d < 0 then -((Int.gcd n d : Nat) : Int) else ((Int.gcd n d : Nat) : Int)) = ((Rat.divInt n d).den : Int) := by
  rw [Rat.den_divInt, if_neg h, Int.gcd_comm d n]
  have hd := Int.gcd_dvd_right n d
  split
  · rename_i hn
    rw [Int.ediv_neg, ← Int.neg_ediv_of_dvd hd, show -d = (d.natAbs : Int) by omega]; rfl
  · rename_i hn
    conv => lhs; rw [show d = (d.natAbs : Int) by omega]
    rfl
theorem rat_eq {a b : Rat} : a = b ↔ a.num = b.num ∧ (a.den : Int) = b.den := by
  constructor
  · intro h; subst h; exact ⟨rfl, rfl⟩
  · rintro ⟨h1, h2⟩
    have e1 := Rat.num_divInt_den a
    rw [h1, h2, Rat.num_divInt_den] at e1
    exact e1.symm
end Go.Proofs.YtpodnbcdddcdmaaGreatDoor

/- Plain laws of rational numbers: how they compare, floors, nearest integers. -/
namespace Go.Proofs.YtpodnbcdddcdmaaGreatDoor
def rcmp (a b : Rat) : Int := (a.num * b.den - b.num * a.den).sign
def rround (a : Rat) : Int := (a.num + a.num + a.den) / (a.den + a.den)
end Go.Proofs.YtpodnbcdddcdmaaGreatDoor

/- Lists cut to a length. -/
namespace Go.Proofs.YtpodnbcdddcdmaaGreatDoor
theorem take_le (l : List Nat) (n : Nat) : (l.take n).length ≤ l.length := by simp; omega
theorem take_take_len (l : List Nat) (n : Nat) : l.take (l.take n).length = l.take n := by
  rw [List.length_take]
  rcases Nat.le_total n l.length with h | h
  · rw [Nat.min_eq_left h]
  · rw [Nat.min_eq_right h, List.take_of_length_le (Nat.le_refl _), List.take_of_length_le h]
theorem min_take (l : List Nat) (n : Nat) : (if (n : Int) < (l.length : Int) then (n : Int) else (l.length : Int)) = (((l.take n).length : Nat) : Int) := by
  rw [List.length_take]; split <;> omega
end Go.Proofs.YtpodnbcdddcdmaaGreatDoor

/- The reference's rational numbers by value. -/
namespace Go.Proofs.YtpodnbcdddcdmaaGreatDoor
open Go.RowKit
theorem rOf_zero (n : Int) (K : Nat) (hn : Fits K n) (hK : K ≤ 1000000) : Spec Tryz.prog 10 [iv n, iv 0] (.tu [rt 0 0, .sc (.int .i64 3)]) := by
  have c1 := sign_i 0 1 (Fits.zero _) (by omega)
  have q1 : ((0 : Int).sign == 0) = true := by decide
  ((try unfold rt at *); (try unfold iv at *); (try unfold sv at *))
  refine Spec.run Tryz.func10 rfl Tryz.ntmps10 (by simp) (by simp (disch := omega) only [go_sem, Nat.reduceAdd]; rfl) fun B hB => ?_
  (repeat (first | refine DO.nil (by kernel_rfl) ?_ | (with_reducible refine oz (by constructor <;> decide) ?_) | ((first | apply SO.call | apply DO.call); (iterate 3 (focus (simp (disch := omega) only [go_sem, ↓reduceIte] <;> rfl))); (first | apply SCall.ofX | apply DCall.ofX); (focus (first | assumption)); (focus (simp (disch := omega) only [go_sem] <;> rfl))) | ((with_reducible first | apply SC.condB | apply SC.region | apply SO.run | apply DO.run); (focus (simp (disch := omega) only [go_sem, ↓reduceIte, Nat.reduceEqDiff, Nat.reduceLeDiff, Nat.reduceAdd, reduceCtorEq, q1] <;> rfl)); (first | refine pickT ?_ | refine pickF ?_ | fail_if_success with_reducible refine pickA ?_)) | ((with_reducible refine SC.draw Tab.mixed ?_ ?_); (focus rfl)) | (with_reducible apply SC.ops)))
  exact retQ_ret Tryz.results10 (by simp (disch := omega) only [go_sem, ↓reduceIte, Nat.reduceEqDiff, Nat.reduceLeDiff, Nat.reduceAdd]; rfl) (by simp (disch := omega) only [go_sem, ↓reduceIte]; rfl) rfl
set_option maxHeartbeats 1000000 in
theorem rOf_i (n d : Int) (K : Nat) (hn : Fits K n) (hd : Fits K d) (hK : K ≤ 1000000) (h0 : d ≠ 0) : Spec Tryz.prog 10 [iv n, iv d] (.tu [rv (Rat.divInt n d), .sc (.int .i64 0)]) := by
  have c1 := sign_i d K hd (by omega)
  have q1 : (d.sign == 0) = false := by rw [beq_eq_false_iff_ne]; exact fun h => h0 (Int.sign_eq_zero_iff_zero.1 h)
  have hg0 : Int.gcd n d ≠ 0 := fun h => h0 (Int.gcd_eq_zero_iff.1 h).2
  have hg1 : Int.gcd n d ∣ d.natAbs := Int.gcd_dvd_natAbs_right n d
  have hgle := Nat.le_of_dvd (by omega) hg1
  have fg : Fits K (Int.gcd n d : Int) := by unfold Fits at *; rw [Int.natAbs_natCast]; omega
  have e1 := red_num (n := n) h0
  have e2 := red_den (n := n) h0
  by_cases hneg : d < 0
  · rw [if_pos hneg] at e1 e2
    have q2 : decide (d.sign < 0) = true := by rw [decide_eq_true_eq, Int.sign_eq_neg_one_of_neg hneg]; omega
    have c2 := neg_i n K hn (by omega)
    have c3 := neg_i d K hd (by omega)
    have c4 := rgcd_i (-n) (-d) K hn.neg hd.neg (by omega)
    rw [Int.gcd_neg, Int.neg_gcd] at c4
    have c5 := divmod_i (-n) (Int.gcd n d) K hn.neg fg (by omega) (by omega)
    have c6 := divmod_i (-d) (Int.gcd n d) K hd.neg fg (by omega) (by omega)
    rw [show -n / ((Int.gcd n d : Nat) : Int) = (Rat.divInt n d).num by rw [← e1, Int.ediv_neg, Int.neg_ediv_of_dvd (Int.gcd_dvd_left n d)]] at c5
    rw [show -d / ((Int.gcd n d : Nat) : Int) = ((Rat.divInt n d).den : Int) by rw [← e2, Int.ediv_neg, Int.neg_ediv_of_dvd (Int.gcd_dvd_right n d)]] at c6
    ((try unfold rv at *); (try unfold rt at *); (try unfold iv at *); (try unfold sv at *))
    generalize (Rat.divInt n d).num = x at *
    generalize ((Rat.divInt n d).den : Int) = y at *
    generalize d.sign = ds at *
    refine Spec.run Tryz.func10 rfl Tryz.ntmps10 (by simp) (by simp (disch := omega) only [go_sem, Nat.reduceAdd]; rfl) fun B hB => ?_
    (repeat (first | refine DO.nil (by kernel_rfl) ?_ | (with_reducible refine oz (by constructor <;> decide) ?_) | ((first | apply SO.call | apply DO.call); (iterate 3 (focus (simp (disch := omega) only [go_sem, ↓reduceIte, Nat.reduceEqDiff] <;> rfl))); (first | apply SCall.ofX | apply DCall.ofX); (focus (first | assumption)); (focus (simp (disch := omega) only [go_sem] <;> rfl))) | ((with_reducible first | apply SC.condB | apply SC.region | apply SO.run | apply DO.run); (focus (simp (disch := omega) only [go_sem, ↓reduceIte, Nat.reduceEqDiff, Nat.reduceLT, Nat.reduceLeDiff, Nat.reduceAdd, reduceCtorEq, q1, q2] <;> rfl)); (first | refine pickT ?_ | refine pickF ?_ | fail_if_success with_reducible refine pickA ?_)) | ((with_reducible refine SC.draw Tab.mixed ?_ ?_); (focus rfl)) | (with_reducible apply SC.ops)))
    exact retQ_ret Tryz.results10 (by simp (disch := omega) only [go_sem, ↓reduceIte, Nat.reduceEqDiff, Nat.reduceLeDiff, Nat.reduceAdd]; rfl) (by simp (disch := omega) only [go_sem, ↓reduceIte]; rfl) rfl
  · rw [if_neg hneg] at e1 e2
    have q2 : decide (d.sign < 0) = false := by rw [decide_eq_false_iff_not, Int.sign_eq_one_of_pos (by omega)]; omega
    have c4 := rgcd_i n d K hn hd (by omega)
    have c5 := divmod_i n (Int.gcd n d) K hn fg (by omega) (by omega)
    have c6 := divmod_i d (Int.gcd n d) K hd fg (by omega) (by omega)
    rw [e1] at c5
    rw [e2] at c6
    ((try unfold rv at *); (try unfold rt at *); (try unfold iv at *); (try unfold sv at *))
    generalize (Rat.divInt n d).num = x at *
    generalize ((Rat.divInt n d).den : Int) = y at *
    generalize d.sign = ds at *
    refine Spec.run Tryz.func10 rfl Tryz.ntmps10 (by simp) (by simp (disch := omega) only [go_sem, Nat.reduceAdd]; rfl) fun B hB => ?_
    (repeat (first | refine DO.nil (by kernel_rfl) ?_ | (with_reducible refine oz (by constructor <;> decide) ?_) | ((first | apply SO.call | apply DO.call); (iterate 3 (focus (simp (disch := omega) only [go_sem, ↓reduceIte, Nat.reduceEqDiff] <;> rfl))); (first | apply SCall.ofX | apply DCall.ofX); (focus (first | assumption)); (focus (simp (disch := omega) only [go_sem] <;> rfl))) | ((with_reducible first | apply SC.condB | apply SC.region | apply SO.run | apply DO.run); (focus (simp (disch := omega) only [go_sem, ↓reduceIte, Nat.reduceEqDiff, Nat.reduceLT, Nat.reduceLeDiff, Nat.reduceAdd, reduceCtorEq, q1, q2] <;> rfl)); (first | refine pickT ?_ | refine pickF ?_ | fail_if_success with_reducible refine pickA ?_)) | ((with_reducible refine SC.draw Tab.mixed ?_ ?_); (focus rfl)) | (with_reducible apply SC.ops)))
    exact retQ_ret Tryz.results10 (by simp (disch := omega) only [go_sem, ↓reduceIte, Nat.reduceEqDiff, Nat.reduceLeDiff, Nat.reduceAdd]; rfl) (by simp (disch := omega) only [go_sem, ↓reduceIte]; rfl) rfl
theorem rof_i (n d : Int) (K : Nat) (hn : Fits K n) (hd : Fits K d) (hK : K ≤ 1000000) (h0 : d ≠ 0) : Spec Tryz.prog 42 [iv n, iv d] (rv (Rat.divInt n d)) := by
  have c1 := rOf_i n d K hn hd hK h0
  ((try unfold rv at *); (try unfold rt at *); (try unfold iv at *); (try unfold sv at *))
  refine Spec.run Tryz.func42 rfl Tryz.ntmps42 (by simp) (by simp (disch := omega) only [go_sem, Nat.reduceAdd]; rfl) fun B hB => ?_
  (repeat (first | refine DO.nil (by kernel_rfl) ?_ | (with_reducible refine oz (by constructor <;> decide) ?_) | ((first | apply SO.call | apply DO.call); (iterate 3 (focus (simp (disch := omega) only [go_sem, ↓reduceIte, Nat.reduceEqDiff] <;> rfl))); (first | apply SCall.ofX | apply DCall.ofX); (focus (first | assumption)); (focus (simp (disch := omega) only [go_sem] <;> rfl))) | ((with_reducible first | apply SC.condB | apply SC.region | apply SO.run | apply DO.run); (focus (simp (disch := omega) only [go_sem, ↓reduceIte, Nat.reduceEqDiff, Nat.reduceLT, Nat.reduceLeDiff, Nat.reduceAdd, reduceCtorEq] <;> rfl)); (first | refine pickT ?_ | refine pickF ?_ | fail_if_success with_reducible refine pickA ?_)) | ((with_reducible refine SC.draw Tab.mixed ?_ ?_); (focus rfl)) | (with_reducible apply SC.ops)))
  exact retQ_ret Tryz.results42 (by simp (disch := omega) only [go_sem, ↓reduceIte, Nat.reduceEqDiff, Nat.reduceLeDiff, Nat.reduceAdd]; rfl) (by simp (disch := omega) only [go_sem, ↓reduceIte]; rfl) rfl
theorem rWhole_i (a : Int) : Spec Tryz.prog 24 [iv a] (rv (a : Rat)) := by
  have c1 := of_i 1 (by omega) (by omega)
  have e1 : ((a : Rat)).num = a := Rat.num_intCast a
  have e2 : (((a : Rat)).den : Int) = 1 := by rw [Rat.den_intCast]; rfl
  unfold rv
  rw [e1, e2]
  ((try unfold rt at *); (try unfold iv at *); (try unfold sv at *))
  refine Spec.run Tryz.func24 rfl Tryz.ntmps24 (by simp) (by simp (disch := omega) only [go_sem]; rfl) fun B hB => ?_
  (repeat (first | refine DO.nil (by kernel_rfl) ?_ | (with_reducible refine oz (by constructor <;> decide) ?_) | ((first | apply SO.call | apply DO.call); (iterate 3 (focus (simp (disch := omega) only [go_sem] <;> rfl))); (first | apply SCall.ofX | apply DCall.ofX); (focus (first | assumption)); (focus (simp (disch := omega) only [go_sem] <;> rfl))) | ((with_reducible first | apply SC.condB | apply SC.region | apply SO.run | apply DO.run); (focus (simp (disch := omega) only [go_sem, ↓reduceIte, Nat.reduceEqDiff, Nat.reduceLT, Nat.reduceLeDiff, Nat.reduceAdd, reduceCtorEq] <;> rfl)); (first | refine pickT ?_ | refine pickF ?_ | fail_if_success with_reducible refine pickA ?_)) | ((with_reducible refine SC.draw Tab.mixed ?_ ?_); (focus rfl)) | (with_reducible apply SC.ops)))
  exact retQ_ret Tryz.results24 (by simp (disch := omega) only [go_sem, ↓reduceIte, Nat.reduceEqDiff, Nat.reduceLeDiff, Nat.reduceAdd]; rfl) (by simp (disch := omega) only [go_sem, ↓reduceIte]; rfl) rfl
theorem rMade_i (n d : Int) (h1 : -9223372036854775808 ≤ n) (h2 : n < 9223372036854775808) (h3 : -9223372036854775808 ≤ d) (h4 : d < 9223372036854775808) (h0 : d ≠ 0) : Spec Tryz.prog 38 [.sc (.int .i64 n), .sc (.int .i64 d)] (rv (Rat.divInt n d)) := by
  have c1 := of_i n h1 h2
  have c2 := of_i d h3 h4
  have c3 := rof_i n d 2 (fits_two (by omega)) (fits_two (by omega)) (by omega) h0
  have q1 : (d == 0) = false := by rw [beq_eq_false_iff_ne]; exact h0
  ((try unfold rv at *); (try unfold rt at *); (try unfold iv at *); (try unfold sv at *))
  refine Spec.run Tryz.func38 rfl Tryz.ntmps38 (by simp) (by simp (disch := omega) only [go_sem, Nat.reduceAdd]; rfl) fun B hB => ?_
  (repeat (first | refine DO.nil (by kernel_rfl) ?_ | (with_reducible refine oz (by constructor <;> decide) ?_) | ((first | apply SO.call | apply DO.call); (iterate 3 (focus (simp (disch := omega) only [go_sem, ↓reduceIte, Nat.reduceEqDiff, Nat.reduceLT] <;> rfl))); (first | apply SCall.ofX | apply DCall.ofX); (focus (first | assumption)); (focus (simp (disch := omega) only [go_sem] <;> rfl))) | ((with_reducible first | apply SC.condB | apply SC.region | apply SO.run | apply DO.run); (focus (simp (disch := omega) only [go_sem, ↓reduceIte, Nat.reduceEqDiff, Nat.reduceLeDiff, Nat.reduceAdd, reduceCtorEq, q1] <;> rfl)); (first | refine pickT ?_ | refine pickF ?_ | fail_if_success with_reducible refine pickA ?_)) | ((with_reducible refine SC.draw Tab.mixed ?_ ?_); (focus rfl)) | (with_reducible apply SC.ops)))
  exact retQ_ret Tryz.results38 (by simp (disch := omega) only [go_sem, ↓reduceIte, Nat.reduceEqDiff, Nat.reduceLeDiff, Nat.reduceAdd]; rfl) (by simp (disch := omega) only [go_sem, ↓reduceIte]; rfl) rfl
theorem rSame_i (a b : Rat) (K : Nat) (ha : RF K a) (hb : RF K b) (hK : K ≤ 1000000) : Spec Tryz.prog 8 [rv a, rv b] (.sc (.bool (decide (a = b)))) := by
  have c1 := same_i a.num b.num (fits_short ha.1 (by omega)) (fits_short hb.1 (by omega))
  have c2 := same_i (a.den : Int) (b.den : Int) (fits_short ha.2 (by omega)) (fits_short hb.2 (by omega))
  by_cases h1 : a.num = b.num
  · have hd : decide (a = b) = decide ((a.den : Int) = (b.den : Int)) := decide_eq_decide.2 (by rw [rat_eq]; exact ⟨fun h => h.2, fun h => ⟨h1, h⟩⟩)
    rw [hd]
    rw [decide_eq_true h1] at c1
    ((try unfold rv at *); (try unfold rt at *); (try unfold iv at *); (try unfold sv at *))
    refine Spec.run Tryz.func8 rfl Tryz.ntmps8 (by simp) (by simp (disch := omega) only [go_sem, Nat.reduceAdd]; rfl) fun B hB => ?_
    (repeat (first | refine DO.nil (by kernel_rfl) ?_ | (with_reducible refine oz (by constructor <;> decide) ?_) | ((first | apply SO.call | apply DO.call); (iterate 3 (focus (simp (disch := omega) only [go_sem, ↓reduceIte, Nat.reduceEqDiff] <;> rfl))); (first | apply SCall.ofX | apply DCall.ofX); (focus (first | assumption)); (focus (simp (disch := omega) only [go_sem] <;> rfl))) | ((with_reducible first | apply SC.condB | apply SC.region | apply SO.run | apply DO.run); (focus (simp (disch := omega) only [go_sem, ↓reduceIte, Nat.reduceEqDiff, Nat.reduceLT, Nat.reduceLeDiff, Nat.reduceAdd, reduceCtorEq] <;> rfl)); (first | refine pickT ?_ | refine pickF ?_ | fail_if_success with_reducible refine pickA ?_)) | ((with_reducible refine SC.draw Tab.mixed ?_ ?_); (focus rfl)) | (with_reducible apply SC.ops)))
    exact retQ_ret Tryz.results8 (by simp (disch := omega) only [go_sem, ↓reduceIte]; rfl) (by simp (disch := omega) only [go_sem]; rfl) rfl
  · have hd : decide (a = b) = false := by rw [decide_eq_false_iff_not, rat_eq]; exact fun h => h1 h.1
    rw [hd]
    rw [decide_eq_false h1] at c1
    ((try unfold rv at *); (try unfold rt at *); (try unfold iv at *); (try unfold sv at *))
    refine Spec.run Tryz.func8 rfl Tryz.ntmps8 (by simp) (by simp (disch := omega) only [go_sem, Nat.reduceAdd]; rfl) fun B hB => ?_
    (repeat (first | refine DO.nil (by kernel_rfl) ?_ | (with_reducible refine oz (by constructor <;> decide) ?_) | ((first | apply SO.call | apply DO.call); (iterate 3 (focus (simp (disch := omega) only [go_sem, ↓reduceIte, Nat.reduceEqDiff] <;> rfl))); (first | apply SCall.ofX | apply DCall.ofX); (focus (first | assumption)); (focus (simp (disch := omega) only [go_sem] <;> rfl))) | ((with_reducible first | apply SC.condB | apply SC.region | apply SO.run | apply DO.run); (focus (simp (disch := omega) only [go_sem, ↓reduceIte, Nat.reduceEqDiff, Nat.reduceLT, Nat.reduceLeDiff, Nat.reduceAdd, reduceCtorEq] <;> rfl)); (first | refine pickT ?_ | refine pickF ?_ | fail_if_success with_reducible refine pickA ?_)) | ((with_reducible refine SC.draw Tab.mixed ?_ ?_); (focus rfl)) | (with_reducible apply SC.ops)))
    exact retQ_ret Tryz.results8 (by simp (disch := omega) only [go_sem, ↓reduceIte]; rfl) (by simp (disch := omega) only [go_sem]; rfl) rfl
theorem rSign_i (a : Rat) (K : Nat) (ha : RF K a) (hK : K ≤ 1000000) : Spec Tryz.prog 35 [rv a] (.sc (.int .i64 a.num.sign)) := by
  have c1 := sign_i a.num K ha.1 (by omega)
  ((try unfold rv at *); (try unfold rt at *); (try unfold iv at *); (try unfold sv at *))
  refine Spec.run Tryz.func35 rfl Tryz.ntmps35 (by simp) (by simp (disch := omega) only [go_sem]; rfl) fun B hB => ?_
  (repeat (first | refine DO.nil (by kernel_rfl) ?_ | (with_reducible refine oz (by constructor <;> decide) ?_) | ((first | apply SO.call | apply DO.call); (iterate 3 (focus (simp (disch := omega) only [go_sem, ↓reduceIte, Nat.reduceLT] <;> rfl))); (first | apply SCall.ofX | apply DCall.ofX); (focus (first | assumption)); (focus (simp (disch := omega) only [go_sem] <;> rfl))) | ((with_reducible first | apply SC.condB | apply SC.region | apply SO.run | apply DO.run); (focus (simp (disch := omega) only [go_sem, ↓reduceIte, Nat.reduceEqDiff, Nat.reduceLT, Nat.reduceLeDiff, Nat.reduceAdd, reduceCtorEq] <;> rfl)); (first | refine pickT ?_ | refine pickF ?_ | fail_if_success with_reducible refine pickA ?_)) | ((with_reducible refine SC.draw Tab.mixed ?_ ?_); (focus rfl)) | (with_reducible apply SC.ops)))
  exact retQ_ret Tryz.results35 (by simp (disch := omega) only [go_sem, ↓reduceIte]; rfl) (by simp (disch := omega) only [go_sem]; rfl) rfl
theorem rCmp_i (a b : Rat) (K : Nat) (ha : RF K a) (hb : RF K b) (hK : K ≤ 1000000) : Spec Tryz.prog 33 [rv a, rv b] (.sc (.int .i64 (rcmp a b))) := by
  have c1 := mul_i a.num b.den K ha.1 hb.2 (by omega)
  have c2 := mul_i b.num a.den K hb.1 ha.2 (by omega)
  have c3 := cmp_i (a.num * b.den) (b.num * a.den) (K + K) (ha.1.mul hb.2) (hb.1.mul ha.2) (by omega)
  ((try unfold rcmp at *); (try unfold rv at *); (try unfold rt at *); (try unfold iv at *); (try unfold sv at *))
  refine Spec.run Tryz.func33 rfl Tryz.ntmps33 (by simp) (by simp (disch := omega) only [go_sem, Nat.reduceAdd]; rfl) fun B hB => ?_
  (repeat (first | refine DO.nil (by kernel_rfl) ?_ | (with_reducible refine oz (by constructor <;> decide) ?_) | ((first | apply SO.call | apply DO.call); (iterate 3 (focus (simp (disch := omega) only [go_sem, ↓reduceIte, Nat.reduceEqDiff, Nat.reduceLT] <;> rfl))); (first | apply SCall.ofX | apply DCall.ofX); (focus (first | assumption)); (focus (simp (disch := omega) only [go_sem] <;> rfl))) | ((with_reducible first | apply SC.condB | apply SC.region | apply SO.run | apply DO.run); (focus (simp (disch := omega) only [go_sem, ↓reduceIte, Nat.reduceEqDiff, Nat.reduceLeDiff, Nat.reduceAdd, reduceCtorEq] <;> rfl)); (first | refine pickT ?_ | refine pickF ?_ | fail_if_success with_reducible refine pickA ?_)) | ((with_reducible refine SC.draw Tab.mixed ?_ ?_); (focus rfl)) | (with_reducible apply SC.ops)))
  exact retQ_ret Tryz.results33 (by simp (disch := omega) only [go_sem, ↓reduceIte]; rfl) (by simp (disch := omega) only [go_sem]; rfl) rfl
theorem rNeg_i (a : Rat) (K : Nat) (ha : RF K a) (hK : K ≤ 1000000) : Spec Tryz.prog 22 [rv a] (rv (-a)) := by
  have c1 := neg_i a.num K ha.1 (by omega)
  unfold rv
  rw [Rat.neg_num, Rat.neg_den]
  ((try unfold rt at *); (try unfold iv at *); (try unfold sv at *))
  refine Spec.run Tryz.func22 rfl Tryz.ntmps22 (by simp) (by simp (disch := omega) only [go_sem]; rfl) fun B hB => ?_
  (repeat (first | refine DO.nil (by kernel_rfl) ?_ | (with_reducible refine oz (by constructor <;> decide) ?_) | ((first | apply SO.call | apply DO.call); (iterate 3 (focus (simp (disch := omega) only [go_sem, ↓reduceIte] <;> rfl))); (first | apply SCall.ofX | apply DCall.ofX); (focus (first | assumption)); (focus (simp (disch := omega) only [go_sem] <;> rfl))) | ((with_reducible first | apply SC.condB | apply SC.region | apply SO.run | apply DO.run); (focus (simp (disch := omega) only [go_sem, ↓reduceIte, Nat.reduceEqDiff, Nat.reduceLT, Nat.reduceLeDiff, Nat.reduceAdd, reduceCtorEq] <;> rfl)); (first | refine pickT ?_ | refine pickF ?_ | fail_if_success with_reducible refine pickA ?_)) | ((with_reducible refine SC.draw Tab.mixed ?_ ?_); (focus rfl)) | (with_reducible apply SC.ops)))
  exact retQ_ret Tryz.results22 (by simp (disch := omega) only [go_sem, ↓reduceIte, Nat.reduceEqDiff, Nat.reduceLeDiff, Nat.reduceAdd]; rfl) (by simp (disch := omega) only [go_sem, ↓reduceIte]; rfl) rfl
theorem rAdd_i (a b : Rat) (K : Nat) (ha : RF K a) (hb : RF K b) (hK : K ≤ 100000) : Spec Tryz.prog 16 [rv a, rv b] (rv (a + b)) := by
  have c1 := mul_i a.num b.den K ha.1 hb.2 (by omega)
  have c2 := mul_i b.num a.den K hb.1 ha.2 (by omega)
  have f1 := (ha.1.mul hb.2).add (hb.1.mul ha.2)
  have f2 := (ha.2.mul hb.2).mono (L := K + K + 1) (by omega)
  have c3 := add_i (a.num * b.den) (b.num * a.den) (K + K) (ha.1.mul hb.2) (hb.1.mul ha.2) (by omega)
  have c4 := mul_i a.den b.den K ha.2 hb.2 (by omega)
  have c5 := rof_i _ _ (K + K + 1) f1 f2 (by omega) (Int.mul_ne_zero (den_ne a) (den_ne b))
  rw [← rat_add] at c5
  ((try unfold rv at *); (try unfold rt at *); (try unfold iv at *); (try unfold sv at *))
  generalize a + b = s at *
  refine Spec.run Tryz.func16 rfl Tryz.ntmps16 (by simp) (by simp (disch := omega) only [go_sem, Nat.reduceAdd]; rfl) fun B hB => ?_
  (repeat (first | refine DO.nil (by kernel_rfl) ?_ | (with_reducible refine oz (by constructor <;> decide) ?_) | ((first | apply SO.call | apply DO.call); (iterate 3 (focus (simp (disch := omega) only [go_sem, ↓reduceIte, Nat.reduceEqDiff, Nat.reduceLT] <;> rfl))); (first | apply SCall.ofX | apply DCall.ofX); (focus (first | assumption)); (focus (simp (disch := omega) only [go_sem] <;> rfl))) | ((with_reducible first | apply SC.condB | apply SC.region | apply SO.run | apply DO.run); (focus (simp (disch := omega) only [go_sem, ↓reduceIte, Nat.reduceEqDiff, Nat.reduceLeDiff, Nat.reduceAdd, reduceCtorEq] <;> rfl)); (first | refine pickT ?_ | refine pickF ?_ | fail_if_success with_reducible refine pickA ?_)) | ((with_reducible refine SC.draw Tab.mixed ?_ ?_); (focus rfl)) | (with_reducible apply SC.ops)))
  exact retQ_ret Tryz.results16 (by simp (disch := omega) only [go_sem, ↓reduceIte, Nat.reduceEqDiff, Nat.reduceLeDiff, Nat.reduceAdd]; rfl) (by simp (disch := omega) only [go_sem, ↓reduceIte]; rfl) rfl
theorem rSub_i (a b : Rat) (K : Nat) (ha : RF K a) (hb : RF K b) (hK : K ≤ 100000) : Spec Tryz.prog 18 [rv a, rv b] (rv (a - b)) := by
  have c1 := rNeg_i b K hb (by omega)
  have c2 := rAdd_i a (-b) K ha hb.neg hK
  rw [← Rat.sub_eq_add_neg] at c2
  ((try unfold rv at *); (try unfold rt at *); (try unfold iv at *); (try unfold sv at *))
  refine Spec.run Tryz.func18 rfl Tryz.ntmps18 (by simp) (by simp (disch := omega) only [go_sem, Nat.reduceAdd]; rfl) fun B hB => ?_
  (repeat (first | refine DO.nil (by kernel_rfl) ?_ | (with_reducible refine oz (by constructor <;> decide) ?_) | ((first | apply SO.call | apply DO.call); (iterate 3 (focus (simp (disch := omega) only [go_sem, ↓reduceIte, Nat.reduceEqDiff, Nat.reduceLT] <;> rfl))); (first | apply SCall.ofX | apply DCall.ofX); (focus (first | assumption)); (focus (simp (disch := omega) only [go_sem] <;> rfl))) | ((with_reducible first | apply SC.condB | apply SC.region | apply SO.run | apply DO.run); (focus (simp (disch := omega) only [go_sem, ↓reduceIte, Nat.reduceEqDiff, Nat.reduceLeDiff, Nat.reduceAdd, reduceCtorEq] <;> rfl)); (first | refine pickT ?_ | refine pickF ?_ | fail_if_success with_reducible refine pickA ?_)) | ((with_reducible refine SC.draw Tab.mixed ?_ ?_); (focus rfl)) | (with_reducible apply SC.ops)))
  exact retQ_ret Tryz.results18 (by simp (disch := omega) only [go_sem, ↓reduceIte, Nat.reduceEqDiff, Nat.reduceLeDiff, Nat.reduceAdd]; rfl) (by simp (disch := omega) only [go_sem, ↓reduceIte]; rfl) rfl
def fromQ (l1 l2 : List Nat) (neg : Bool) : Rat := Rat.divInt (sgn neg (val (l1.take 3))) (if val (l2.take 3) = 0 then 1 else (val (l2.take 3) : Int))
theorem fromQ_fits {l1 l2 : List Nat} (h1 : limbs l1) (h2 : limbs l2) (neg : Bool) : RF 3 (fromQ l1 l2 neg) := by
  unfold fromQ
  refine RF.divInt ((fits_val (limbs_take h1 3) neg).mono (by simp; omega)) ?_ (by split <;> omega)
  split
  · exact Fits.one (by omega)
  · exact (fits_val (limbs_take h2 3) false).mono (by simp; omega)
set_option maxHeartbeats 1000000 in
theorem rFrom_i (l1 l2 : List Nat) (neg : Bool) (h1 : limbs l1) (h2 : limbs l2) (e1 : l1.length ≤ 9223372036854775807) (e2 : l2.length ≤ 9223372036854775807) :
    Spec Tryz.prog 6 [.ag [.im (lv l1) l1.length, .im (lv l2) l2.length, .sc (.bool neg)]] (rv (fromQ l1 l2 neg)) := by
  have k1 := take_le l1 3
  have k2 := take_le l2 3
  have g1 := min_take l1 3
  have g2 := min_take l2 3
  simp only [Int.cast_ofNat_Int] at g1 g2
  have u1 := take_take_len l1 3
  have u2 := take_take_len l2 3
  have c1 := made_i (l1.take 3) neg (limbs_take h1 3) (by simp; omega)
  have c2 := made_i (l2.take 3) false (limbs_take h2 3) (by simp; omega)
  have f1 : Fits 3 (sgn neg (val (l1.take 3))) := (fits_val (limbs_take h1 3) neg).mono (by simp; omega)
  have f2 : Fits 3 ((val (l2.take 3) : Nat) : Int) := (fits_val (limbs_take h2 3) false).mono (by simp; omega)
  rw [show sgn false (val (l2.take 3)) = ((val (l2.take 3) : Nat) : Int) from rfl] at c2
  have c3 := sign_i ((val (l2.take 3) : Nat) : Int) 3 f2 (by omega)
  unfold fromQ
  generalize sgn neg (val (l1.take 3)) = x at *
  generalize val (l2.take 3) = y at *
  by_cases hy : y = 0
  · subst hy
    rw [if_pos rfl]
    have c4 := of_i 1 (by omega) (by omega)
    have c5 := rof_i x 1 3 f1 (Fits.one (by omega)) (by omega) (by omega)
    have q1 : ((((0 : Nat) : Int)).sign == 0) = true := by decide
    ((try unfold rv at *); (try unfold rt at *); (try unfold iv at *); (try unfold sv at *))
    generalize Rat.divInt x 1 = r at *
    refine Spec.run Tryz.func6 rfl Tryz.ntmps6 (by simp) (by simp (disch := omega) only [go_sem]; rfl) fun B hB => ?_
    (repeat (first | refine DO.nil (by kernel_rfl) ?_ | (with_reducible refine oz (by constructor <;> decide) ?_) | ((first | apply SO.call | apply DO.call); (iterate 3 (focus (simp (disch := omega) only [go_sem, ↓reduceIte, Nat.reduceEqDiff, Nat.reduceLT] <;> rfl))); (first | apply SCall.ofX | apply DCall.ofX); (focus (first | assumption)); (focus (simp (disch := omega) only [go_sem] <;> rfl))) | ((with_reducible first | apply SC.condB | apply SC.region | apply SO.run | apply DO.run); (focus (simp (disch := omega) only [go_sem, ↓reduceIte, Nat.reduceEqDiff, Nat.reduceLT, Nat.reduceLeDiff, Nat.reduceAdd, reduceCtorEq, if_pos, q1, g1, g2, u1, u2, lv_take] <;> rfl)); (first | refine pickT ?_ | refine pickF ?_ | fail_if_success with_reducible refine pickA ?_)) | ((with_reducible refine SC.draw Tab.mixed ?_ ?_); (focus rfl)) | (with_reducible apply SC.ops)))
    exact retQ_ret Tryz.results6 (by simp (disch := omega) only [go_sem, ↓reduceIte, Nat.reduceEqDiff, Nat.reduceLeDiff, Nat.reduceAdd]; rfl) (by simp (disch := omega) only [go_sem, ↓reduceIte]; rfl) rfl
  · rw [if_neg hy]
    have c5 := rof_i x y 3 f1 f2 (by omega) (by omega)
    have q1 : (((y : Int)).sign == 0) = false := by rw [beq_eq_false_iff_ne]; intro h; have := Int.sign_eq_zero_iff_zero.1 h; omega
    ((try unfold rv at *); (try unfold rt at *); (try unfold iv at *); (try unfold sv at *))
    generalize Rat.divInt x (y : Int) = r at *
    generalize (y : Int).sign = sy at *
    refine Spec.run Tryz.func6 rfl Tryz.ntmps6 (by simp) (by simp (disch := omega) only [go_sem]; rfl) fun B hB => ?_
    (repeat (first | refine DO.nil (by kernel_rfl) ?_ | (with_reducible refine oz (by constructor <;> decide) ?_) | ((first | apply SO.call | apply DO.call); (iterate 3 (focus (simp (disch := omega) only [go_sem, ↓reduceIte, Nat.reduceEqDiff, Nat.reduceLT] <;> rfl))); (first | apply SCall.ofX | apply DCall.ofX); (focus (first | assumption)); (focus (simp (disch := omega) only [go_sem] <;> rfl))) | ((with_reducible first | apply SC.condB | apply SC.region | apply SO.run | apply DO.run); (focus (simp (disch := omega) only [go_sem, ↓reduceIte, Nat.reduceEqDiff, Nat.reduceLT, Nat.reduceLeDiff, Nat.reduceAdd, reduceCtorEq, if_pos, q1, g1, g2, u1, u2, lv_take] <;> rfl)); (first | refine pickT ?_ | refine pickF ?_ | fail_if_success with_reducible refine pickA ?_)) | ((with_reducible refine SC.draw Tab.mixed ?_ ?_); (focus rfl)) | (with_reducible apply SC.ops)))
    exact retQ_ret Tryz.results6 (by simp (disch := omega) only [go_sem, ↓reduceIte, Nat.reduceEqDiff, Nat.reduceLeDiff, Nat.reduceAdd]; rfl) (by simp (disch := omega) only [go_sem, ↓reduceIte]; rfl) rfl
end Go.Proofs.YtpodnbcdddcdmaaGreatDoor

/- The program's rational numbers by value. -/
namespace Go.Proofs.YtpodnbcdddcdmaaGreatDoor
open Go.RowKit
set_option maxHeartbeats 1000000 in
theorem plow_i (n d : Int) (K : Nat) (hn : Fits K n) (hd : Fits K d) (hK : K ≤ 1000000) (h0 : d ≠ 0) : Spec Tryz.prog 45 [rt n d] (rv (Rat.divInt n d)) := by
  have c1 := psign_i d K hd (by omega)
  have q1 : (d.sign == 0) = false := by rw [beq_eq_false_iff_ne]; exact fun h => h0 (Int.sign_eq_zero_iff_zero.1 h)
  have hg0 : Int.gcd n d ≠ 0 := fun h => h0 (Int.gcd_eq_zero_iff.1 h).2
  have hg1 : Int.gcd n d ∣ d.natAbs := Int.gcd_dvd_natAbs_right n d
  have hgle := Nat.le_of_dvd (by omega) hg1
  have fg : Fits K (Int.gcd n d : Int) := by unfold Fits at *; rw [Int.natAbs_natCast]; omega
  have e1 := red_num (n := n) h0
  have e2 := red_den (n := n) h0
  have c2 := pgcd_i n d K hn hd (by omega)
  by_cases hneg : d < 0
  · rw [if_pos hneg] at e1 e2
    have q2 : decide (d.sign < 0) = true := by rw [decide_eq_true_eq, Int.sign_eq_neg_one_of_neg hneg]; omega
    have c3 := pneg_i (Int.gcd n d) K fg (by omega)
    have c5 := pdivmod_i n (-(Int.gcd n d : Nat)) K hn fg.neg (by omega) (by omega)
    have c6 := pdivmod_i d (-(Int.gcd n d : Nat)) K hd fg.neg (by omega) (by omega)
    rw [e1] at c5
    rw [e2] at c6
    ((try unfold rv at *); (try unfold rt at *); (try unfold iv at *); (try unfold sv at *))
    generalize (Rat.divInt n d).num = x at *
    generalize ((Rat.divInt n d).den : Int) = y at *
    generalize d.sign = ds at *
    refine Spec.run Tryz.func45 rfl Tryz.ntmps45 (by simp) (by simp (disch := omega) only [go_sem]; rfl) fun B hB => ?_
    (repeat (first | refine DO.nil (by kernel_rfl) ?_ | (with_reducible refine oz (by constructor <;> decide) ?_) | ((first | apply SO.call | apply DO.call); (iterate 3 (focus (simp (disch := omega) only [go_sem, ↓reduceIte, Nat.reduceEqDiff] <;> rfl))); (first | apply SCall.ofX | apply DCall.ofX); (focus (first | assumption)); (focus (simp (disch := omega) only [go_sem] <;> rfl))) | ((with_reducible first | apply SC.condB | apply SC.region | apply SO.run | apply DO.run); (focus (simp (disch := omega) only [go_sem, ↓reduceIte, Nat.reduceEqDiff, Nat.reduceLT, Nat.reduceLeDiff, Nat.reduceAdd, reduceCtorEq, q1, q2] <;> rfl)); (first | refine pickT ?_ | refine pickF ?_ | fail_if_success with_reducible refine pickA ?_)) | ((with_reducible refine SC.draw Tab.mixed ?_ ?_); (focus rfl)) | (with_reducible apply SC.ops)))
    exact retQ_ret Tryz.results45 (by simp (disch := omega) only [go_sem, ↓reduceIte, Nat.reduceEqDiff, Nat.reduceLeDiff, Nat.reduceAdd]; rfl) (by simp (disch := omega) only [go_sem, ↓reduceIte]; rfl) rfl
  · rw [if_neg hneg] at e1 e2
    have q2 : decide (d.sign < 0) = false := by rw [decide_eq_false_iff_not, Int.sign_eq_one_of_pos (by omega)]; omega
    have c5 := pdivmod_i n (Int.gcd n d) K hn fg (by omega) (by omega)
    have c6 := pdivmod_i d (Int.gcd n d) K hd fg (by omega) (by omega)
    rw [e1] at c5
    rw [e2] at c6
    ((try unfold rv at *); (try unfold rt at *); (try unfold iv at *); (try unfold sv at *))
    generalize (Rat.divInt n d).num = x at *
    generalize ((Rat.divInt n d).den : Int) = y at *
    generalize d.sign = ds at *
    refine Spec.run Tryz.func45 rfl Tryz.ntmps45 (by simp) (by simp (disch := omega) only [go_sem]; rfl) fun B hB => ?_
    (repeat (first | refine DO.nil (by kernel_rfl) ?_ | (with_reducible refine oz (by constructor <;> decide) ?_) | ((first | apply SO.call | apply DO.call); (iterate 3 (focus (simp (disch := omega) only [go_sem, ↓reduceIte, Nat.reduceEqDiff] <;> rfl))); (first | apply SCall.ofX | apply DCall.ofX); (focus (first | assumption)); (focus (simp (disch := omega) only [go_sem] <;> rfl))) | ((with_reducible first | apply SC.condB | apply SC.region | apply SO.run | apply DO.run); (focus (simp (disch := omega) only [go_sem, ↓reduceIte, Nat.reduceEqDiff, Nat.reduceLT, Nat.reduceLeDiff, Nat.reduceAdd, reduceCtorEq, q1, q2] <;> rfl)); (first | refine pickT ?_ | refine pickF ?_ | fail_if_success with_reducible refine pickA ?_)) | ((with_reducible refine SC.draw Tab.mixed ?_ ?_); (focus rfl)) | (with_reducible apply SC.ops)))
    exact retQ_ret Tryz.results45 (by simp (disch := omega) only [go_sem, ↓reduceIte, Nat.reduceEqDiff, Nat.reduceLeDiff, Nat.reduceAdd]; rfl) (by simp (disch := omega) only [go_sem, ↓reduceIte]; rfl) rfl
theorem pfadd_i (a b c d : Int) (K : Nat) (ha : Fits K a) (hb : Fits K b) (hc : Fits K c) (hd : Fits K d) (hK : K ≤ 1000000) : Spec Tryz.prog 58 [rt a b, rt c d] (rt (a * d + c * b) (b * d)) := by
  have c1 := pmul_i a d K ha hd (by omega)
  have c2 := pmul_i c b K hc hb (by omega)
  have c3 := padd_i (a * d) (c * b) (K + K) (ha.mul hd) (hc.mul hb) (by omega)
  have c4 := pmul_i b d K hb hd (by omega)
  ((try unfold rt at *); (try unfold iv at *); (try unfold sv at *))
  refine Spec.run Tryz.func58 rfl Tryz.ntmps58 (by simp) (by simp (disch := omega) only [go_sem, Nat.reduceAdd]; rfl) fun B hB => ?_
  (repeat (first | refine DO.nil (by kernel_rfl) ?_ | (with_reducible refine oz (by constructor <;> decide) ?_) | ((first | apply SO.call | apply DO.call); (iterate 3 (focus (simp (disch := omega) only [go_sem, ↓reduceIte, Nat.reduceEqDiff] <;> rfl))); (first | apply SCall.ofX | apply DCall.ofX); (focus (first | assumption)); (focus (simp (disch := omega) only [go_sem] <;> rfl))) | ((with_reducible first | apply SC.condB | apply SC.region | apply SO.run | apply DO.run); (focus (simp (disch := omega) only [go_sem, ↓reduceIte, Nat.reduceEqDiff, Nat.reduceLT, Nat.reduceLeDiff, Nat.reduceAdd, reduceCtorEq] <;> rfl)); (first | refine pickT ?_ | refine pickF ?_ | fail_if_success with_reducible refine pickA ?_)) | ((with_reducible refine SC.draw Tab.mixed ?_ ?_); (focus rfl)) | (with_reducible apply SC.ops)))
  exact retQ_ret Tryz.results58 (by simp (disch := omega) only [go_sem, ↓reduceIte, Nat.reduceEqDiff, Nat.reduceLeDiff, Nat.reduceAdd]; rfl) (by simp (disch := omega) only [go_sem, ↓reduceIte]; rfl) rfl
theorem pfsub_i (a b c d : Int) (K : Nat) (ha : Fits K a) (hb : Fits K b) (hc : Fits K c) (hd : Fits K d) (hK : K ≤ 1000000) : Spec Tryz.prog 60 [rt a b, rt c d] (rt (a * d - c * b) (b * d)) := by
  have c1 := pmul_i a d K ha hd (by omega)
  have c2 := pmul_i c b K hc hb (by omega)
  have c3 := psub_i (a * d) (c * b) (K + K) (ha.mul hd) (hc.mul hb) (by omega)
  have c4 := pmul_i b d K hb hd (by omega)
  ((try unfold rt at *); (try unfold iv at *); (try unfold sv at *))
  refine Spec.run Tryz.func60 rfl Tryz.ntmps60 (by simp) (by simp (disch := omega) only [go_sem, Nat.reduceAdd]; rfl) fun B hB => ?_
  (repeat (first | refine DO.nil (by kernel_rfl) ?_ | (with_reducible refine oz (by constructor <;> decide) ?_) | ((first | apply SO.call | apply DO.call); (iterate 3 (focus (simp (disch := omega) only [go_sem, ↓reduceIte, Nat.reduceEqDiff] <;> rfl))); (first | apply SCall.ofX | apply DCall.ofX); (focus (first | assumption)); (focus (simp (disch := omega) only [go_sem] <;> rfl))) | ((with_reducible first | apply SC.condB | apply SC.region | apply SO.run | apply DO.run); (focus (simp (disch := omega) only [go_sem, ↓reduceIte, Nat.reduceEqDiff, Nat.reduceLT, Nat.reduceLeDiff, Nat.reduceAdd, reduceCtorEq] <;> rfl)); (first | refine pickT ?_ | refine pickF ?_ | fail_if_success with_reducible refine pickA ?_)) | ((with_reducible refine SC.draw Tab.mixed ?_ ?_); (focus rfl)) | (with_reducible apply SC.ops)))
  exact retQ_ret Tryz.results60 (by simp (disch := omega) only [go_sem, ↓reduceIte, Nat.reduceEqDiff, Nat.reduceLeDiff, Nat.reduceAdd]; rfl) (by simp (disch := omega) only [go_sem, ↓reduceIte]; rfl) rfl
theorem pfmul_i (a b c d : Int) (K : Nat) (ha : Fits K a) (hb : Fits K b) (hc : Fits K c) (hd : Fits K d) (hK : K ≤ 1000000) : Spec Tryz.prog 61 [rt a b, rt c d] (rt (a * c) (b * d)) := by
  have c1 := pmul_i a c K ha hc (by omega)
  have c4 := pmul_i b d K hb hd (by omega)
  ((try unfold rt at *); (try unfold iv at *); (try unfold sv at *))
  refine Spec.run Tryz.func61 rfl Tryz.ntmps61 (by simp) (by simp (disch := omega) only [go_sem, Nat.reduceAdd]; rfl) fun B hB => ?_
  (repeat (first | refine DO.nil (by kernel_rfl) ?_ | (with_reducible refine oz (by constructor <;> decide) ?_) | ((first | apply SO.call | apply DO.call); (iterate 3 (focus (simp (disch := omega) only [go_sem, ↓reduceIte, Nat.reduceEqDiff] <;> rfl))); (first | apply SCall.ofX | apply DCall.ofX); (focus (first | assumption)); (focus (simp (disch := omega) only [go_sem] <;> rfl))) | ((with_reducible first | apply SC.condB | apply SC.region | apply SO.run | apply DO.run); (focus (simp (disch := omega) only [go_sem, ↓reduceIte, Nat.reduceEqDiff, Nat.reduceLT, Nat.reduceLeDiff, Nat.reduceAdd, reduceCtorEq] <;> rfl)); (first | refine pickT ?_ | refine pickF ?_ | fail_if_success with_reducible refine pickA ?_)) | ((with_reducible refine SC.draw Tab.mixed ?_ ?_); (focus rfl)) | (with_reducible apply SC.ops)))
  exact retQ_ret Tryz.results61 (by simp (disch := omega) only [go_sem, ↓reduceIte, Nat.reduceEqDiff, Nat.reduceLeDiff, Nat.reduceAdd]; rfl) (by simp (disch := omega) only [go_sem, ↓reduceIte]; rfl) rfl
theorem pfdiv_i (a b c d : Int) (K : Nat) (ha : Fits K a) (hb : Fits K b) (hc : Fits K c) (hd : Fits K d) (hK : K ≤ 1000000) : Spec Tryz.prog 49 [rt a b, rt c d] (rt (a * d) (b * c)) := by
  have c1 := pmul_i a d K ha hd (by omega)
  have c4 := pmul_i b c K hb hc (by omega)
  ((try unfold rt at *); (try unfold iv at *); (try unfold sv at *))
  refine Spec.run Tryz.func49 rfl Tryz.ntmps49 (by simp) (by simp (disch := omega) only [go_sem, Nat.reduceAdd]; rfl) fun B hB => ?_
  (repeat (first | refine DO.nil (by kernel_rfl) ?_ | (with_reducible refine oz (by constructor <;> decide) ?_) | ((first | apply SO.call | apply DO.call); (iterate 3 (focus (simp (disch := omega) only [go_sem, ↓reduceIte, Nat.reduceEqDiff] <;> rfl))); (first | apply SCall.ofX | apply DCall.ofX); (focus (first | assumption)); (focus (simp (disch := omega) only [go_sem] <;> rfl))) | ((with_reducible first | apply SC.condB | apply SC.region | apply SO.run | apply DO.run); (focus (simp (disch := omega) only [go_sem, ↓reduceIte, Nat.reduceEqDiff, Nat.reduceLT, Nat.reduceLeDiff, Nat.reduceAdd, reduceCtorEq] <;> rfl)); (first | refine pickT ?_ | refine pickF ?_ | fail_if_success with_reducible refine pickA ?_)) | ((with_reducible refine SC.draw Tab.mixed ?_ ?_); (focus rfl)) | (with_reducible apply SC.ops)))
  exact retQ_ret Tryz.results49 (by simp (disch := omega) only [go_sem, ↓reduceIte, Nat.reduceEqDiff, Nat.reduceLeDiff, Nat.reduceAdd]; rfl) (by simp (disch := omega) only [go_sem, ↓reduceIte]; rfl) rfl
theorem pOf_zero (n : Int) : Spec Tryz.prog 9 [iv n, iv 0] (.tu [rt 0 0, .sc (.int .i64 3)]) := by
  have c1 := psign_i 0 1 (Fits.zero _) (by omega)
  have q1 : ((0 : Int).sign == 0) = true := by decide
  ((try unfold rt at *); (try unfold iv at *); (try unfold sv at *))
  refine Spec.run Tryz.func9 rfl Tryz.ntmps9 (by simp) (by simp (disch := omega) only [go_sem, Nat.reduceAdd]; rfl) fun B hB => ?_
  (repeat (first | refine DO.nil (by kernel_rfl) ?_ | (with_reducible refine oz (by constructor <;> decide) ?_) | ((first | apply SO.call | apply DO.call); (iterate 3 (focus (simp (disch := omega) only [go_sem, ↓reduceIte] <;> rfl))); (first | apply SCall.ofX | apply DCall.ofX); (focus (first | assumption)); (focus (simp (disch := omega) only [go_sem] <;> rfl))) | ((with_reducible first | apply SC.condB | apply SC.region | apply SO.run | apply DO.run); (focus (simp (disch := omega) only [go_sem, ↓reduceIte, Nat.reduceEqDiff, Nat.reduceLeDiff, Nat.reduceAdd, reduceCtorEq, q1] <;> rfl)); (first | refine pickT ?_ | refine pickF ?_ | fail_if_success with_reducible refine pickA ?_)) | ((with_reducible refine SC.draw Tab.mixed ?_ ?_); (focus rfl)) | (with_reducible apply SC.ops)))
  exact retQ_ret Tryz.results9 (by simp (disch := omega) only [go_sem, ↓reduceIte, Nat.reduceEqDiff, Nat.reduceLeDiff, Nat.reduceAdd]; rfl) (by simp (disch := omega) only [go_sem, ↓reduceIte]; rfl) rfl
theorem pOf_i (n d : Int) (K : Nat) (hn : Fits K n) (hd : Fits K d) (hK : K ≤ 1000000) (h0 : d ≠ 0) : Spec Tryz.prog 9 [iv n, iv d] (.tu [rv (Rat.divInt n d), .sc (.int .i64 0)]) := by
  have c1 := psign_i d K hd (by omega)
  have q1 : (d.sign == 0) = false := by rw [beq_eq_false_iff_ne]; exact fun h => h0 (Int.sign_eq_zero_iff_zero.1 h)
  have c2 := plow_i n d K hn hd hK h0
  ((try unfold rv at *); (try unfold rt at *); (try unfold iv at *); (try unfold sv at *))
  generalize Rat.divInt n d = r at *
  generalize d.sign = ds at *
  refine Spec.run Tryz.func9 rfl Tryz.ntmps9 (by simp) (by simp (disch := omega) only [go_sem, Nat.reduceAdd]; rfl) fun B hB => ?_
  (repeat (first | refine DO.nil (by kernel_rfl) ?_ | (with_reducible refine oz (by constructor <;> decide) ?_) | ((first | apply SO.call | apply DO.call); (iterate 3 (focus (simp (disch := omega) only [go_sem, ↓reduceIte, Nat.reduceLT] <;> rfl))); (first | apply SCall.ofX | apply DCall.ofX); (focus (first | assumption)); (focus (simp (disch := omega) only [go_sem] <;> rfl))) | ((with_reducible first | apply SC.condB | apply SC.region | apply SO.run | apply DO.run); (focus (simp (disch := omega) only [go_sem, ↓reduceIte, Nat.reduceEqDiff, Nat.reduceLT, Nat.reduceLeDiff, Nat.reduceAdd, reduceCtorEq, q1] <;> rfl)); (first | refine pickT ?_ | refine pickF ?_ | fail_if_success with_reducible refine pickA ?_)) | ((with_reducible refine SC.draw Tab.mixed ?_ ?_); (focus rfl)) | (with_reducible apply SC.ops)))
  exact retQ_ret Tryz.results9 (by simp (disch := omega) only [go_sem, ↓reduceIte, Nat.reduceEqDiff, Nat.reduceLeDiff, Nat.reduceAdd]; rfl) (by simp (disch := omega) only [go_sem, ↓reduceIte]; rfl) rfl
theorem pWhole_i (a : Int) (K : Nat) (ha : Fits K a) (hK : K ≤ 1000000) : Spec Tryz.prog 23 [iv a] (rv (a : Rat)) := by
  have c1 := pof_i 1 (by omega) (by omega)
  have c2 := padd_i a 0 K ha (Fits.zero _) (by omega)
  rw [Int.add_zero] at c2
  have e1 : ((a : Rat)).num = a := Rat.num_intCast a
  have e2 : (((a : Rat)).den : Int) = 1 := by rw [Rat.den_intCast]; rfl
  unfold rv
  rw [e1, e2]
  ((try unfold rt at *); (try unfold iv at *); (try unfold sv at *))
  refine Spec.run Tryz.func23 rfl Tryz.ntmps23 (by simp) (by simp (disch := omega) only [go_sem]; rfl) fun B hB => ?_
  (repeat (first | refine DO.nil (by kernel_rfl) ?_ | (with_reducible refine oz (by constructor <;> decide) ?_) | ((first | apply SO.call | apply DO.call); (iterate 3 (focus (simp (disch := omega) only [go_sem, ↓reduceIte, Nat.reduceEqDiff] <;> rfl))); (first | apply SCall.ofX | apply DCall.ofX); (focus (first | assumption)); (focus (simp (disch := omega) only [go_sem] <;> rfl))) | ((with_reducible first | apply SC.condB | apply SC.region | apply SO.run | apply DO.run); (focus (simp (disch := omega) only [go_sem, ↓reduceIte, Nat.reduceEqDiff, Nat.reduceLT, Nat.reduceLeDiff, Nat.reduceAdd, reduceCtorEq] <;> rfl)); (first | refine pickT ?_ | refine pickF ?_ | fail_if_success with_reducible refine pickA ?_)) | ((with_reducible refine SC.draw Tab.mixed ?_ ?_); (focus rfl)) | (with_reducible apply SC.ops)))
  exact retQ_ret Tryz.results23 (by simp (disch := omega) only [go_sem, ↓reduceIte, Nat.reduceEqDiff, Nat.reduceLeDiff, Nat.reduceAdd]; rfl) (by simp (disch := omega) only [go_sem, ↓reduceIte]; rfl) rfl
theorem pCmp_i (a b : Rat) (K : Nat) (ha : RF K a) (hb : RF K b) (hK : K ≤ 1000000) : Spec Tryz.prog 32 [rv a, rv b] (.sc (.int .i64 (rcmp a b))) := by
  have c1 := pmul_i a.num b.den K ha.1 hb.2 (by omega)
  have c2 := pmul_i b.num a.den K hb.1 ha.2 (by omega)
  have c3 := pcmp_i (a.num * b.den) (b.num * a.den) (K + K) (ha.1.mul hb.2) (hb.1.mul ha.2) (by omega)
  ((try unfold rcmp at *); (try unfold rv at *); (try unfold rt at *); (try unfold iv at *); (try unfold sv at *))
  refine Spec.run Tryz.func32 rfl Tryz.ntmps32 (by simp) (by simp (disch := omega) only [go_sem, Nat.reduceAdd]; rfl) fun B hB => ?_
  (repeat (first | refine DO.nil (by kernel_rfl) ?_ | (with_reducible refine oz (by constructor <;> decide) ?_) | ((first | apply SO.call | apply DO.call); (iterate 3 (focus (simp (disch := omega) only [go_sem, ↓reduceIte, Nat.reduceEqDiff, Nat.reduceLT] <;> rfl))); (first | apply SCall.ofX | apply DCall.ofX); (focus (first | assumption)); (focus (simp (disch := omega) only [go_sem] <;> rfl))) | ((with_reducible first | apply SC.condB | apply SC.region | apply SO.run | apply DO.run); (focus (simp (disch := omega) only [go_sem, ↓reduceIte, Nat.reduceEqDiff, Nat.reduceLeDiff, Nat.reduceAdd, reduceCtorEq] <;> rfl)); (first | refine pickT ?_ | refine pickF ?_ | fail_if_success with_reducible refine pickA ?_)) | ((with_reducible refine SC.draw Tab.mixed ?_ ?_); (focus rfl)) | (with_reducible apply SC.ops)))
  exact retQ_ret Tryz.results32 (by simp (disch := omega) only [go_sem, ↓reduceIte]; rfl) (by simp (disch := omega) only [go_sem]; rfl) rfl
theorem pSign_i (a : Rat) (K : Nat) (ha : RF K a) (hK : K ≤ 1000000) : Spec Tryz.prog 34 [rv a] (.sc (.int .i64 a.num.sign)) := by
  have c1 := psign_i a.num K ha.1 (by omega)
  ((try unfold rv at *); (try unfold rt at *); (try unfold iv at *); (try unfold sv at *))
  refine Spec.run Tryz.func34 rfl Tryz.ntmps34 (by simp) (by simp (disch := omega) only [go_sem]; rfl) fun B hB => ?_
  (repeat (first | refine DO.nil (by kernel_rfl) ?_ | (with_reducible refine oz (by constructor <;> decide) ?_) | ((first | apply SO.call | apply DO.call); (iterate 3 (focus (simp (disch := omega) only [go_sem, ↓reduceIte, Nat.reduceLT] <;> rfl))); (first | apply SCall.ofX | apply DCall.ofX); (focus (first | assumption)); (focus (simp (disch := omega) only [go_sem] <;> rfl))) | ((with_reducible first | apply SC.condB | apply SC.region | apply SO.run | apply DO.run); (focus (simp (disch := omega) only [go_sem, ↓reduceIte, Nat.reduceEqDiff, Nat.reduceLT, Nat.reduceLeDiff, Nat.reduceAdd, reduceCtorEq] <;> rfl)); (first | refine pickT ?_ | refine pickF ?_ | fail_if_success with_reducible refine pickA ?_)) | ((with_reducible refine SC.draw Tab.mixed ?_ ?_); (focus rfl)) | (with_reducible apply SC.ops)))
  exact retQ_ret Tryz.results34 (by simp (disch := omega) only [go_sem, ↓reduceIte]; rfl) (by simp (disch := omega) only [go_sem]; rfl) rfl
theorem pNeg_i (a : Rat) (K : Nat) (ha : RF K a) (hK : K ≤ 1000000) : Spec Tryz.prog 21 [rv a] (rv (-a)) := by
  have c1 := pneg_i a.num K ha.1 (by omega)
  have c2 := padd_i (a.den : Int) 0 K ha.2 (Fits.zero _) (by omega)
  rw [Int.add_zero] at c2
  unfold rv
  rw [Rat.neg_num, Rat.neg_den]
  ((try unfold rt at *); (try unfold iv at *); (try unfold sv at *))
  refine Spec.run Tryz.func21 rfl Tryz.ntmps21 (by simp) (by simp (disch := omega) only [go_sem]; rfl) fun B hB => ?_
  (repeat (first | refine DO.nil (by kernel_rfl) ?_ | (with_reducible refine oz (by constructor <;> decide) ?_) | ((first | apply SO.call | apply DO.call); (iterate 3 (focus (simp (disch := omega) only [go_sem, ↓reduceIte, Nat.reduceEqDiff] <;> rfl))); (first | apply SCall.ofX | apply DCall.ofX); (focus (first | assumption)); (focus (simp (disch := omega) only [go_sem] <;> rfl))) | ((with_reducible first | apply SC.condB | apply SC.region | apply SO.run | apply DO.run); (focus (simp (disch := omega) only [go_sem, ↓reduceIte, Nat.reduceEqDiff, Nat.reduceLT, Nat.reduceLeDiff, Nat.reduceAdd, reduceCtorEq] <;> rfl)); (first | refine pickT ?_ | refine pickF ?_ | fail_if_success with_reducible refine pickA ?_)) | ((with_reducible refine SC.draw Tab.mixed ?_ ?_); (focus rfl)) | (with_reducible apply SC.ops)))
  exact retQ_ret Tryz.results21 (by simp (disch := omega) only [go_sem, ↓reduceIte, Nat.reduceEqDiff, Nat.reduceLeDiff, Nat.reduceAdd]; rfl) (by simp (disch := omega) only [go_sem, ↓reduceIte]; rfl) rfl
theorem pFloor_i (a : Rat) (K : Nat) (ha : RF K a) (hK : K ≤ 1000000) : Spec Tryz.prog 26 [rv a] (iv (a.num / a.den)) := by
  have c1 := pdivmod_i a.num a.den K ha.1 ha.2 (by omega) (den_ne a)
  ((try unfold rv at *); (try unfold rt at *); (try unfold iv at *); (try unfold sv at *))
  refine Spec.run Tryz.func26 rfl Tryz.ntmps26 (by simp) (by simp (disch := omega) only [go_sem]; rfl) fun B hB => ?_
  (repeat (first | refine DO.nil (by kernel_rfl) ?_ | (with_reducible refine oz (by constructor <;> decide) ?_) | ((first | apply SO.call | apply DO.call); (iterate 3 (focus (simp (disch := omega) only [go_sem, ↓reduceIte, Nat.reduceEqDiff] <;> rfl))); (first | apply SCall.ofX | apply DCall.ofX); (focus (first | assumption)); (focus (simp (disch := omega) only [go_sem] <;> rfl))) | ((with_reducible first | apply SC.condB | apply SC.region | apply SO.run | apply DO.run); (focus (simp (disch := omega) only [go_sem, ↓reduceIte, Nat.reduceEqDiff, Nat.reduceLT, Nat.reduceLeDiff, Nat.reduceAdd, reduceCtorEq] <;> rfl)); (first | refine pickT ?_ | refine pickF ?_ | fail_if_success with_reducible refine pickA ?_)) | ((with_reducible refine SC.draw Tab.mixed ?_ ?_); (focus rfl)) | (with_reducible apply SC.ops)))
  exact retQ_ret Tryz.results26 (by simp (disch := omega) only [go_sem, ↓reduceIte, Nat.reduceEqDiff, Nat.reduceLeDiff, Nat.reduceAdd]; rfl) (by simp (disch := omega) only [go_sem, ↓reduceIte]; rfl) rfl
theorem pRound_i (a : Rat) (K : Nat) (ha : RF K a) (hK : K ≤ 1000000) : Spec Tryz.prog 28 [rv a] (iv (rround a)) := by
  have c1 := padd_i a.num a.num K ha.1 ha.1 (by omega)
  have f1 := ha.1.add ha.1
  have f2 := ha.2.add ha.2
  have c2 := padd_i (a.num + a.num) a.den (K + 1) f1 (ha.2.mono (by omega)) (by omega)
  have c3 := padd_i a.den a.den K ha.2 ha.2 (by omega)
  have c4 := pdivmod_i (a.num + a.num + a.den) (a.den + a.den) (K + 1 + 1) (f1.add (ha.2.mono (by omega))) (f2.mono (by omega)) (by omega) (by have := a.den_pos; omega)
  ((try unfold rround at *); (try unfold rv at *); (try unfold rt at *); (try unfold iv at *); (try unfold sv at *))
  refine Spec.run Tryz.func28 rfl Tryz.ntmps28 (by simp) (by simp (disch := omega) only [go_sem]; rfl) fun B hB => ?_
  (repeat (first | refine DO.nil (by kernel_rfl) ?_ | (with_reducible refine oz (by constructor <;> decide) ?_) | ((first | apply SO.call | apply DO.call); (iterate 3 (focus (simp (disch := omega) only [go_sem, ↓reduceIte, Nat.reduceEqDiff] <;> rfl))); (first | apply SCall.ofX | apply DCall.ofX); (focus (first | assumption)); (focus (simp (disch := omega) only [go_sem] <;> rfl))) | ((with_reducible first | apply SC.condB | apply SC.region | apply SO.run | apply DO.run); (focus (simp (disch := omega) only [go_sem, ↓reduceIte, Nat.reduceEqDiff, Nat.reduceLT, Nat.reduceLeDiff, Nat.reduceAdd, reduceCtorEq] <;> rfl)); (first | refine pickT ?_ | refine pickF ?_ | fail_if_success with_reducible refine pickA ?_)) | ((with_reducible refine SC.draw Tab.mixed ?_ ?_); (focus rfl)) | (with_reducible apply SC.ops)))
  exact retQ_ret Tryz.results28 (by simp (disch := omega) only [go_sem, ↓reduceIte, Nat.reduceEqDiff, Nat.reduceLeDiff, Nat.reduceAdd]; rfl) (by simp (disch := omega) only [go_sem, ↓reduceIte]; rfl) rfl
theorem pIntegral_i (a : Rat) (K : Nat) (ha : RF K a) (hK : K ≤ 1000000) (hK1 : 1 ≤ K) : Spec Tryz.prog 30 [rv a] (.sc (.bool (decide (a.den = 1)))) := by
  have c1 := pof_i 1 (by omega) (by omega)
  have c2 := pcmp_i (a.den : Int) 1 K ha.2 (Fits.one hK1) (by omega)
  have e : (((a.den : Int) - 1).sign == 0) = decide (a.den = 1) := by
    by_cases h : a.den = 1
    · rw [h]; rfl
    · rw [decide_eq_false h, beq_eq_false_iff_ne]; intro h2; have := Int.sign_eq_zero_iff_zero.1 h2; omega
  ((try unfold rv at *); (try unfold rt at *); (try unfold iv at *); (try unfold sv at *))
  refine Spec.run Tryz.func30 rfl Tryz.ntmps30 (by simp) (by simp (disch := omega) only [go_sem]; rfl) fun B hB => ?_
  (repeat (first | refine DO.nil (by kernel_rfl) ?_ | (with_reducible refine oz (by constructor <;> decide) ?_) | ((first | apply SO.call | apply DO.call); (iterate 3 (focus (simp (disch := omega) only [go_sem, ↓reduceIte, Nat.reduceEqDiff] <;> rfl))); (first | apply SCall.ofX | apply DCall.ofX); (focus (first | assumption)); (focus (simp (disch := omega) only [go_sem] <;> rfl))) | ((with_reducible first | apply SC.condB | apply SC.region | apply SO.run | apply DO.run); (focus (simp (disch := omega) only [go_sem, ↓reduceIte, Nat.reduceEqDiff, Nat.reduceLT, Nat.reduceLeDiff, Nat.reduceAdd, reduceCtorEq, e] <;> rfl)); (first | refine pickT ?_ | refine pickF ?_ | fail_if_success with_reducible refine pickA ?_)) | ((with_reducible refine SC.draw Tab.mixed ?_ ?_); (focus rfl)) | (with_reducible apply SC.ops)))
  exact retQ_ret Tryz.results30 (by simp (disch := omega) only [go_sem, ↓reduceIte]; rfl) (by simp (disch := omega) only [go_sem]; rfl) rfl
end Go.Proofs.YtpodnbcdddcdmaaGreatDoor

/- The program's operations on rational numbers: method values. -/
namespace Go.Proofs.YtpodnbcdddcdmaaGreatDoor
open Go.RowKit
set_option maxRecDepth 4000 in
theorem ponAdd_i (a b : Rat) (K : Nat) (ha : RF K a) (hb : RF K b) (hK : K ≤ 100000) : Spec Tryz.prog 50 [.ag [.fn (.func 58) [rv a] []], rv b] (rv (a + b)) := by
  have c1 := pfadd_i a.num a.den b.num b.den K ha.1 ha.2 hb.1 hb.2 (by omega)
  have f1 := (ha.1.mul hb.2).add (hb.1.mul ha.2)
  have f2 := (ha.2.mul hb.2).mono (L := K + K + 1) (by omega)
  have c2 := plow_i _ _ (K + K + 1) f1 f2 (by omega) (Int.mul_ne_zero (den_ne a) (den_ne b))
  rw [← rat_add] at c2
  ((try unfold rv at *); (try unfold rt at *); (try unfold iv at *); (try unfold sv at *))
  generalize a + b = r at *
  refine Spec.run Tryz.func50 rfl Tryz.ntmps50 (by simp) (by simp (disch := omega) only [go_sem, Nat.reduceAdd]; rfl) fun B hB => ?_
  (repeat (first | refine DO.nil (by kernel_rfl) ?_ | (with_reducible refine oz (by constructor <;> decide) ?_) | ((first | apply SO.call | apply DO.call); (iterate 3 (focus (simp (disch := omega) only [go_sem, ↓reduceIte, Nat.reduceLT] <;> rfl))); (first | apply SCall.ofX | apply DCall.ofX); (focus (first | assumption)); (focus (simp (disch := omega) only [go_sem] <;> rfl))) | ((apply DO.callL; (iterate 3 (focus (simp (disch := omega) only [go_sem, ↓reduceIte, Nat.reduceEqDiff, Nat.reduceLT, Nat.reduceLeDiff, Nat.reduceAdd, Nat.reduceMul, Nat.reduceSub, reduceCtorEq, Nat.reduceBEq, Int.reduceToNat, Int.reducePow, if_pos, if_neg] <;> rfl)))); apply DCall.ofX; (focus (first | assumption)); (focus (simp (disch := omega) only [go_sem, ↓reduceIte, Nat.reduceEqDiff, Nat.reduceLT, Nat.reduceLeDiff, Nat.reduceAdd, Nat.reduceMul, Nat.reduceSub, reduceCtorEq, Nat.reduceBEq, Int.reduceToNat, Int.reducePow, if_pos, if_neg] <;> rfl))) | ((first | apply SO.callV | apply DO.callV); (focus (simp (disch := omega) only [go_sem, ↓reduceIte, Nat.reduceEqDiff]; rfl)); (focus (simp (disch := omega) only [go_sem])); (focus (simp (disch := omega) only [go_sem, ↓reduceIte]; rfl)); (focus (simp (disch := omega) only [go_sem] <;> rfl)); (first | apply SCallV.of | apply DCall.ofX); (focus (first | assumption)); (focus (simp (disch := omega) only [go_sem, ↓reduceIte] <;> rfl))) | ((with_reducible first | apply SC.condB | apply SC.region | apply SO.run | apply DO.run); (focus (simp (disch := omega) only [go_sem, ↓reduceIte, Nat.reduceEqDiff, Nat.reduceLeDiff, Nat.reduceAdd, reduceCtorEq] <;> rfl)); (first | refine pickT ?_ | refine pickF ?_ | fail_if_success with_reducible refine pickA ?_)) | ((with_reducible refine SC.draw Tab.mixed ?_ ?_); (focus rfl)) | (with_reducible apply SC.ops)))
  exact retQ_ret Tryz.results50 (by simp (disch := omega) only [go_sem, ↓reduceIte, Nat.reduceEqDiff, Nat.reduceLeDiff, Nat.reduceAdd]; rfl) (by simp (disch := omega) only [go_sem, ↓reduceIte]; rfl) rfl
theorem pAdd_i (a b : Rat) (K : Nat) (ha : RF K a) (hb : RF K b) (hK : K ≤ 100000) : Spec Tryz.prog 15 [rv a, rv b] (rv (a + b)) := by
  have c1 := ponAdd_i a b K ha hb hK
  ((try unfold rv at *); (try unfold rt at *); (try unfold iv at *); (try unfold sv at *))
  generalize a + b = r at *
  refine Spec.run Tryz.func15 rfl Tryz.ntmps15 (by simp) (by simp (disch := omega) only [go_sem, Nat.reduceAdd]; rfl) fun B hB => ?_
  (repeat (first | refine DO.nil (by kernel_rfl) ?_ | (with_reducible refine oz (by constructor <;> decide) ?_) | ((first | apply SO.call | apply DO.call); (iterate 3 (focus (simp (disch := omega) only [go_sem, ↓reduceIte, Nat.reduceEqDiff, Nat.reduceLT] <;> rfl))); (first | apply SCall.ofX | apply DCall.ofX); (focus (first | assumption)); (focus (simp (disch := omega) only [go_sem] <;> rfl))) | ((with_reducible first | apply SC.condB | apply SC.region | apply SO.run | apply DO.run); (focus (simp (disch := omega) only [go_sem, ↓reduceIte, Nat.reduceEqDiff, Nat.reduceLT, Nat.reduceLeDiff, Nat.reduceAdd, reduceCtorEq] <;> rfl)); (first | refine pickT ?_ | refine pickF ?_ | fail_if_success with_reducible refine pickA ?_)) | ((with_reducible refine SC.draw Tab.mixed ?_ ?_); (focus rfl)) | (with_reducible apply SC.ops)))
  exact retQ_ret Tryz.results15 (by simp (disch := omega) only [go_sem, ↓reduceIte, Nat.reduceEqDiff, Nat.reduceLeDiff, Nat.reduceAdd]; rfl) (by simp (disch := omega) only [go_sem, ↓reduceIte]; rfl) rfl
set_option maxRecDepth 4000 in
theorem ponSub_i (a b : Rat) (K : Nat) (ha : RF K a) (hb : RF K b) (hK : K ≤ 100000) : Spec Tryz.prog 50 [.ag [.fn (.func 60) [rv a] []], rv b] (rv (a - b)) := by
  have c1 := pfsub_i a.num a.den b.num b.den K ha.1 ha.2 hb.1 hb.2 (by omega)
  have f1 := (ha.1.mul hb.2).sub (hb.1.mul ha.2)
  have f2 := (ha.2.mul hb.2).mono (L := K + K + 1) (by omega)
  have c2 := plow_i _ _ (K + K + 1) f1 f2 (by omega) (Int.mul_ne_zero (den_ne a) (den_ne b))
  rw [← rat_sub] at c2
  ((try unfold rv at *); (try unfold rt at *); (try unfold iv at *); (try unfold sv at *))
  generalize a - b = r at *
  refine Spec.run Tryz.func50 rfl Tryz.ntmps50 (by simp) (by simp (disch := omega) only [go_sem, Nat.reduceAdd]; rfl) fun B hB => ?_
  (repeat (first | refine DO.nil (by kernel_rfl) ?_ | (with_reducible refine oz (by constructor <;> decide) ?_) | ((first | apply SO.call | apply DO.call); (iterate 3 (focus (simp (disch := omega) only [go_sem, ↓reduceIte, Nat.reduceLT] <;> rfl))); (first | apply SCall.ofX | apply DCall.ofX); (focus (first | assumption)); (focus (simp (disch := omega) only [go_sem] <;> rfl))) | ((apply DO.callL; (iterate 3 (focus (simp (disch := omega) only [go_sem, ↓reduceIte, Nat.reduceEqDiff, Nat.reduceLT, Nat.reduceLeDiff, Nat.reduceAdd, Nat.reduceMul, Nat.reduceSub, reduceCtorEq, Nat.reduceBEq, Int.reduceToNat, Int.reducePow, if_pos, if_neg] <;> rfl)))); apply DCall.ofX; (focus (first | assumption)); (focus (simp (disch := omega) only [go_sem, ↓reduceIte, Nat.reduceEqDiff, Nat.reduceLT, Nat.reduceLeDiff, Nat.reduceAdd, Nat.reduceMul, Nat.reduceSub, reduceCtorEq, Nat.reduceBEq, Int.reduceToNat, Int.reducePow, if_pos, if_neg] <;> rfl))) | ((first | apply SO.callV | apply DO.callV); (focus (simp (disch := omega) only [go_sem, ↓reduceIte, Nat.reduceEqDiff]; rfl)); (focus (simp (disch := omega) only [go_sem])); (focus (simp (disch := omega) only [go_sem, ↓reduceIte]; rfl)); (focus (simp (disch := omega) only [go_sem] <;> rfl)); (first | apply SCallV.of | apply DCall.ofX); (focus (first | assumption)); (focus (simp (disch := omega) only [go_sem, ↓reduceIte] <;> rfl))) | ((with_reducible first | apply SC.condB | apply SC.region | apply SO.run | apply DO.run); (focus (simp (disch := omega) only [go_sem, ↓reduceIte, Nat.reduceEqDiff, Nat.reduceLeDiff, Nat.reduceAdd, reduceCtorEq] <;> rfl)); (first | refine pickT ?_ | refine pickF ?_ | fail_if_success with_reducible refine pickA ?_)) | ((with_reducible refine SC.draw Tab.mixed ?_ ?_); (focus rfl)) | (with_reducible apply SC.ops)))
  exact retQ_ret Tryz.results50 (by simp (disch := omega) only [go_sem, ↓reduceIte, Nat.reduceEqDiff, Nat.reduceLeDiff, Nat.reduceAdd]; rfl) (by simp (disch := omega) only [go_sem, ↓reduceIte]; rfl) rfl
theorem pSub_i (a b : Rat) (K : Nat) (ha : RF K a) (hb : RF K b) (hK : K ≤ 100000) : Spec Tryz.prog 17 [rv a, rv b] (rv (a - b)) := by
  have c1 := ponSub_i a b K ha hb hK
  ((try unfold rv at *); (try unfold rt at *); (try unfold iv at *); (try unfold sv at *))
  generalize a - b = r at *
  refine Spec.run Tryz.func17 rfl Tryz.ntmps17 (by simp) (by simp (disch := omega) only [go_sem, Nat.reduceAdd]; rfl) fun B hB => ?_
  (repeat (first | refine DO.nil (by kernel_rfl) ?_ | (with_reducible refine oz (by constructor <;> decide) ?_) | ((first | apply SO.call | apply DO.call); (iterate 3 (focus (simp (disch := omega) only [go_sem, ↓reduceIte, Nat.reduceEqDiff, Nat.reduceLT] <;> rfl))); (first | apply SCall.ofX | apply DCall.ofX); (focus (first | assumption)); (focus (simp (disch := omega) only [go_sem] <;> rfl))) | ((with_reducible first | apply SC.condB | apply SC.region | apply SO.run | apply DO.run); (focus (simp (disch := omega) only [go_sem, ↓reduceIte, Nat.reduceEqDiff, Nat.reduceLT, Nat.reduceLeDiff, Nat.reduceAdd, reduceCtorEq] <;> rfl)); (first | refine pickT ?_ | refine pickF ?_ | fail_if_success with_reducible refine pickA ?_)) | ((with_reducible refine SC.draw Tab.mixed ?_ ?_); (focus rfl)) | (with_reducible apply SC.ops)))
  exact retQ_ret Tryz.results17 (by simp (disch := omega) only [go_sem, ↓reduceIte, Nat.reduceEqDiff, Nat.reduceLeDiff, Nat.reduceAdd]; rfl) (by simp (disch := omega) only [go_sem, ↓reduceIte]; rfl) rfl
set_option maxRecDepth 4000 in
theorem ponMul_i (a b : Rat) (K : Nat) (ha : RF K a) (hb : RF K b) (hK : K ≤ 100000) : Spec Tryz.prog 50 [.ag [.fn (.func 61) [rv a] []], rv b] (rv (a * b)) := by
  have c1 := pfmul_i a.num a.den b.num b.den K ha.1 ha.2 hb.1 hb.2 (by omega)
  have f1 := (ha.1.mul hb.1).mono (L := K + K + 1) (by omega)
  have f2 := (ha.2.mul hb.2).mono (L := K + K + 1) (by omega)
  have c2 := plow_i _ _ (K + K + 1) f1 f2 (by omega) (Int.mul_ne_zero (den_ne a) (den_ne b))
  rw [← rat_mul] at c2
  ((try unfold rv at *); (try unfold rt at *); (try unfold iv at *); (try unfold sv at *))
  generalize a * b = r at *
  refine Spec.run Tryz.func50 rfl Tryz.ntmps50 (by simp) (by simp (disch := omega) only [go_sem, Nat.reduceAdd]; rfl) fun B hB => ?_
  (repeat (first | refine DO.nil (by kernel_rfl) ?_ | (with_reducible refine oz (by constructor <;> decide) ?_) | ((first | apply SO.call | apply DO.call); (iterate 3 (focus (simp (disch := omega) only [go_sem, ↓reduceIte, Nat.reduceLT] <;> rfl))); (first | apply SCall.ofX | apply DCall.ofX); (focus (first | assumption)); (focus (simp (disch := omega) only [go_sem] <;> rfl))) | ((apply DO.callL; (iterate 3 (focus (simp (disch := omega) only [go_sem, ↓reduceIte, Nat.reduceEqDiff, Nat.reduceLT, Nat.reduceLeDiff, Nat.reduceAdd, Nat.reduceMul, Nat.reduceSub, reduceCtorEq, Nat.reduceBEq, Int.reduceToNat, Int.reducePow, if_pos, if_neg] <;> rfl)))); apply DCall.ofX; (focus (first | assumption)); (focus (simp (disch := omega) only [go_sem, ↓reduceIte, Nat.reduceEqDiff, Nat.reduceLT, Nat.reduceLeDiff, Nat.reduceAdd, Nat.reduceMul, Nat.reduceSub, reduceCtorEq, Nat.reduceBEq, Int.reduceToNat, Int.reducePow, if_pos, if_neg] <;> rfl))) | ((first | apply SO.callV | apply DO.callV); (focus (simp (disch := omega) only [go_sem, ↓reduceIte, Nat.reduceEqDiff]; rfl)); (focus (simp (disch := omega) only [go_sem])); (focus (simp (disch := omega) only [go_sem, ↓reduceIte]; rfl)); (focus (simp (disch := omega) only [go_sem] <;> rfl)); (first | apply SCallV.of | apply DCall.ofX); (focus (first | assumption)); (focus (simp (disch := omega) only [go_sem, ↓reduceIte] <;> rfl))) | ((with_reducible first | apply SC.condB | apply SC.region | apply SO.run | apply DO.run); (focus (simp (disch := omega) only [go_sem, ↓reduceIte, Nat.reduceEqDiff, Nat.reduceLeDiff, Nat.reduceAdd, reduceCtorEq] <;> rfl)); (first | refine pickT ?_ | refine pickF ?_ | fail_if_success with_reducible refine pickA ?_)) | ((with_reducible refine SC.draw Tab.mixed ?_ ?_); (focus rfl)) | (with_reducible apply SC.ops)))
  exact retQ_ret Tryz.results50 (by simp (disch := omega) only [go_sem, ↓reduceIte, Nat.reduceEqDiff, Nat.reduceLeDiff, Nat.reduceAdd]; rfl) (by simp (disch := omega) only [go_sem, ↓reduceIte]; rfl) rfl
theorem pMul_i (a b : Rat) (K : Nat) (ha : RF K a) (hb : RF K b) (hK : K ≤ 100000) : Spec Tryz.prog 19 [rv a, rv b] (rv (a * b)) := by
  have c1 := ponMul_i a b K ha hb hK
  ((try unfold rv at *); (try unfold rt at *); (try unfold iv at *); (try unfold sv at *))
  generalize a * b = r at *
  refine Spec.run Tryz.func19 rfl Tryz.ntmps19 (by simp) (by simp (disch := omega) only [go_sem, Nat.reduceAdd]; rfl) fun B hB => ?_
  (repeat (first | refine DO.nil (by kernel_rfl) ?_ | (with_reducible refine oz (by constructor <;> decide) ?_) | ((first | apply SO.call | apply DO.call); (iterate 3 (focus (simp (disch := omega) only [go_sem, ↓reduceIte, Nat.reduceEqDiff, Nat.reduceLT] <;> rfl))); (first | apply SCall.ofX | apply DCall.ofX); (focus (first | assumption)); (focus (simp (disch := omega) only [go_sem] <;> rfl))) | ((with_reducible first | apply SC.condB | apply SC.region | apply SO.run | apply DO.run); (focus (simp (disch := omega) only [go_sem, ↓reduceIte, Nat.reduceEqDiff, Nat.reduceLT, Nat.reduceLeDiff, Nat.reduceAdd, reduceCtorEq] <;> rfl)); (first | refine pickT ?_ | refine pickF ?_ | fail_if_success with_reducible refine pickA ?_)) | ((with_reducible refine SC.draw Tab.mixed ?_ ?_); (focus rfl)) | (with_reducible apply SC.ops)))
  exact retQ_ret Tryz.results19 (by simp (disch := omega) only [go_sem, ↓reduceIte, Nat.reduceEqDiff, Nat.reduceLeDiff, Nat.reduceAdd]; rfl) (by simp (disch := omega) only [go_sem, ↓reduceIte]; rfl) rfl
set_option maxRecDepth 4000 in
theorem ponDiv_i (a b : Rat) (K : Nat) (ha : RF K a) (hb : RF K b) (hK : K ≤ 100000) (h0 : b ≠ 0) : Spec Tryz.prog 50 [.ag [.fn (.func 49) [rv a] []], rv b] (rv (a / b)) := by
  have c1 := pfdiv_i a.num a.den b.num b.den K ha.1 ha.2 hb.1 hb.2 (by omega)
  have c2 := plow_i _ _ (K + K) (ha.1.mul hb.2) (ha.2.mul hb.1) (by omega) (Int.mul_ne_zero (den_ne a) (num_ne h0))
  rw [← rat_div a b h0] at c2
  ((try unfold rv at *); (try unfold rt at *); (try unfold iv at *); (try unfold sv at *))
  generalize a / b = r at *
  refine Spec.run Tryz.func50 rfl Tryz.ntmps50 (by simp) (by simp (disch := omega) only [go_sem, Nat.reduceAdd]; rfl) fun B hB => ?_
  (repeat (first | refine DO.nil (by kernel_rfl) ?_ | (with_reducible refine oz (by constructor <;> decide) ?_) | ((first | apply SO.call | apply DO.call); (iterate 3 (focus (simp (disch := omega) only [go_sem, ↓reduceIte, Nat.reduceLT] <;> rfl))); (first | apply SCall.ofX | apply DCall.ofX); (focus (first | assumption)); (focus (simp (disch := omega) only [go_sem] <;> rfl))) | ((apply DO.callL; (iterate 3 (focus (simp (disch := omega) only [go_sem, ↓reduceIte, Nat.reduceEqDiff, Nat.reduceLT, Nat.reduceLeDiff, Nat.reduceAdd, Nat.reduceMul, Nat.reduceSub, reduceCtorEq, Nat.reduceBEq, Int.reduceToNat, Int.reducePow, if_pos, if_neg] <;> rfl)))); apply DCall.ofX; (focus (first | assumption)); (focus (simp (disch := omega) only [go_sem, ↓reduceIte, Nat.reduceEqDiff, Nat.reduceLT, Nat.reduceLeDiff, Nat.reduceAdd, Nat.reduceMul, Nat.reduceSub, reduceCtorEq, Nat.reduceBEq, Int.reduceToNat, Int.reducePow, if_pos, if_neg] <;> rfl))) | ((first | apply SO.callV | apply DO.callV); (focus (simp (disch := omega) only [go_sem, ↓reduceIte, Nat.reduceEqDiff]; rfl)); (focus (simp (disch := omega) only [go_sem])); (focus (simp (disch := omega) only [go_sem, ↓reduceIte]; rfl)); (focus (simp (disch := omega) only [go_sem] <;> rfl)); (first | apply SCallV.of | apply DCall.ofX); (focus (first | assumption)); (focus (simp (disch := omega) only [go_sem, ↓reduceIte] <;> rfl))) | ((with_reducible first | apply SC.condB | apply SC.region | apply SO.run | apply DO.run); (focus (simp (disch := omega) only [go_sem, ↓reduceIte, Nat.reduceEqDiff, Nat.reduceLeDiff, Nat.reduceAdd, reduceCtorEq] <;> rfl)); (first | refine pickT ?_ | refine pickF ?_ | fail_if_success with_reducible refine pickA ?_)) | ((with_reducible refine SC.draw Tab.mixed ?_ ?_); (focus rfl)) | (with_reducible apply SC.ops)))
  exact retQ_ret Tryz.results50 (by simp (disch := omega) only [go_sem, ↓reduceIte, Nat.reduceEqDiff, Nat.reduceLeDiff, Nat.reduceAdd]; rfl) (by simp (disch := omega) only [go_sem, ↓reduceIte]; rfl) rfl
theorem pDiv_i (a b : Rat) (K : Nat) (ha : RF K a) (hb : RF K b) (hK : K ≤ 100000) (h0 : b ≠ 0) : Spec Tryz.prog 11 [rv a, rv b] (.tu [rv (a / b), .sc (.int .i64 0)]) := by
  have c1 := ponDiv_i a b K ha hb hK h0
  have c2 := pSign_i b K hb (by omega)
  have q1 : (b.num.sign == 0) = false := by rw [beq_eq_false_iff_ne]; exact fun h => num_ne h0 (Int.sign_eq_zero_iff_zero.1 h)
  ((try unfold rv at *); (try unfold rt at *); (try unfold iv at *); (try unfold sv at *))
  generalize a / b = r at *
  generalize b.num.sign = sb at *
  refine Spec.run Tryz.func11 rfl Tryz.ntmps11 (by simp) (by simp (disch := omega) only [go_sem, Nat.reduceAdd]; rfl) fun B hB => ?_
  (repeat (first | refine DO.nil (by kernel_rfl) ?_ | (with_reducible refine oz (by constructor <;> decide) ?_) | ((first | apply SO.call | apply DO.call); (iterate 3 (focus (simp (disch := omega) only [go_sem, ↓reduceIte, Nat.reduceEqDiff, Nat.reduceLT] <;> rfl))); (first | apply SCall.ofX | apply DCall.ofX); (focus (first | assumption)); (focus (simp (disch := omega) only [go_sem] <;> rfl))) | ((with_reducible first | apply SC.condB | apply SC.region | apply SO.run | apply DO.run); (focus (simp (disch := omega) only [go_sem, ↓reduceIte, Nat.reduceEqDiff, Nat.reduceLT, Nat.reduceLeDiff, Nat.reduceAdd, reduceCtorEq, q1] <;> rfl)); (first | refine pickT ?_ | refine pickF ?_ | fail_if_success with_reducible refine pickA ?_)) | ((with_reducible refine SC.draw Tab.mixed ?_ ?_); (focus rfl)) | (with_reducible apply SC.ops)))
  exact retQ_ret Tryz.results11 (by simp (disch := omega) only [go_sem, ↓reduceIte, Nat.reduceEqDiff, Nat.reduceLeDiff, Nat.reduceAdd]; rfl) (by simp (disch := omega) only [go_sem, ↓reduceIte]; rfl) rfl
theorem pDiv_zero (a : Rat) : Spec Tryz.prog 11 [rv a, rv 0] (.tu [rt 0 0, .sc (.int .i64 3)]) := by
  have c2 := pSign_i 0 1 ⟨Fits.zero _, Fits.one (Nat.le_refl _)⟩ (by omega)
  have q1 : ((0 : Rat).num.sign == 0) = true := by decide
  ((try unfold rv at *); (try unfold rt at *); (try unfold iv at *); (try unfold sv at *))
  refine Spec.run Tryz.func11 rfl Tryz.ntmps11 (by simp) (by simp (disch := omega) only [go_sem, Nat.reduceAdd]; rfl) fun B hB => ?_
  (repeat (first | refine DO.nil (by kernel_rfl) ?_ | (with_reducible refine oz (by constructor <;> decide) ?_) | ((first | apply SO.call | apply DO.call); (iterate 3 (focus (simp (disch := omega) only [go_sem, ↓reduceIte] <;> rfl))); (first | apply SCall.ofX | apply DCall.ofX); (focus (first | assumption)); (focus (simp (disch := omega) only [go_sem] <;> rfl))) | ((with_reducible first | apply SC.condB | apply SC.region | apply SO.run | apply DO.run); (focus (simp (disch := omega) only [go_sem, ↓reduceIte, Nat.reduceEqDiff, Nat.reduceLeDiff, Nat.reduceAdd, reduceCtorEq, q1] <;> rfl)); (first | refine pickT ?_ | refine pickF ?_ | fail_if_success with_reducible refine pickA ?_)) | ((with_reducible refine SC.draw Tab.mixed ?_ ?_); (focus rfl)) | (with_reducible apply SC.ops)))
  exact retQ_ret Tryz.results11 (by simp (disch := omega) only [go_sem, ↓reduceIte, Nat.reduceEqDiff, Nat.reduceLeDiff, Nat.reduceAdd]; rfl) (by simp (disch := omega) only [go_sem, ↓reduceIte]; rfl) rfl
end Go.Proofs.YtpodnbcdddcdmaaGreatDoor

/- Add, Sub, Mul, Div of the program; the law's arguments. -/
namespace Go.Proofs.YtpodnbcdddcdmaaGreatDoor
open Go.ChangeShapes Go.WideShapes Go.ChangeAt Go.RowKit
theorem raw_shape {x : V} (h : (Shp.st [.slc (.int .u32), .slc (.int .u32), .bool]).Val x) : ∃ (l1 l2 : List Nat) (b : Bool), x = .ag [.im (lv l1) l1.length, .im (lv l2) l2.length, .sc (.bool b)] ∧ limbs l1 ∧ limbs l2 ∧ l1.length ≤ maxLen ∧ l2.length ≤ maxLen := by
  obtain ⟨ys, rfl, a, r, rfl, ⟨yss, h1, rfl, h2⟩, a2, r2, rfl, ⟨zss, k1, rfl, k2⟩, c, d, rfl, ⟨b, rfl⟩, rfl⟩ := h
  obtain ⟨ns, h3, h4, h5⟩ := reps_nats u32_wf h2
  obtain ⟨ms, k3, k4, k5⟩ := reps_nats u32_wf k2
  refine ⟨ns, ms, b, ?_, fun n hn => by have := h5 n hn; omega, fun n hn => by have := k5 n hn; omega, by omega, by omega⟩
  rw [h3, ← h4, k3, ← k4]; rfl
theorem from_shape {x : V} (h : (Shp.st [.slc (.int .u32), .slc (.int .u32), .bool]).Val x) : ∃ q : Rat, RF 3 q ∧ Spec Tryz.prog 6 [x] (rv q) ∧ ∃ (l1 l2 : List Nat) (b : Bool), x = .ag [.im (lv l1) l1.length, .im (lv l2) l2.length, .sc (.bool b)] := by
  obtain ⟨l1, l2, b, rfl, h1, h2, h3, h4⟩ := raw_shape h
  unfold maxLen at h3 h4
  exact ⟨_, fromQ_fits h1 h2 b, rFrom_i l1 l2 b h1 h2 (by omega) (by omega), l1, l2, b, rfl⟩
theorem rSame_t (a : Rat) (K : Nat) (ha : RF K a) (hK : K ≤ 1000000) : Spec Tryz.prog 8 [rv a, rv a] (.sc (.bool true)) := by
  have := rSame_i a a K ha ha hK
  rwa [decide_eq_true rfl] at this
end Go.Proofs.YtpodnbcdddcdmaaGreatDoor
