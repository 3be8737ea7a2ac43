/- Texts joined: Za Zb Zc Zd Ze Zf Zg Zh. -/
import Derived.Test.YtpodnbcdddcdmaaGreatDoorVb
import Derived.Test.YtpodnbcdddcdmaaGreatDoorVc
import Derived.Test.YtpodnbcdddcdmaaGreatDoorVg
set_option linter.all false
/- Decimal digits of natural numbers, as bytes; reading them back. No program in sight. -/
namespace Go.Proofs.YtpodnbcdddcdmaaGreatDoor
def decP : Nat → Nat → List Nat
  | 0, _ => []
  | w + 1, n => decP w (n / 10) ++ [48 + n % 10]
def dec (n : Nat) : List Nat := if n < 10 then [48 + n] else dec (n / 10) ++ [48 + n % 10]
termination_by n
decreasing_by omega
@[simp] theorem decP_length (w n : Nat) : (decP w n).length = w := by
  induction w generalizing n with
  | zero => rfl
  | succ w ih => simp [decP, ih]
theorem decP_zero (w : Nat) : decP w 0 = List.replicate w 48 := by
  induction w with
  | zero => rfl
  | succ w ih => rw [decP, List.replicate_succ', Nat.zero_div, ih]
theorem dec_lt {n : Nat} (h : n < 10) : dec n = [48 + n] := by rw [dec, if_pos h]
theorem dec_ge {n : Nat} (h : 10 ≤ n) : dec n = dec (n / 10) ++ [48 + n % 10] := by rw [dec, if_neg (by omega)]
theorem dec_decP {w n : Nat} (h1 : 10 ^ w ≤ n) (h2 : n < 10 ^ (w + 1)) : dec n = decP (w + 1) n := by
  induction w generalizing n with
  | zero => rw [dec_lt (by simpa using h2)]; simp [decP]; omega
  | succ w ih =>
    have h3 : 10 ≤ n := Nat.le_trans (by rw [Nat.pow_succ]; have := Nat.pow_pos (n := w) (show 0 < 10 by omega); omega) h1
    rw [dec_ge h3, ih (by rw [Nat.pow_succ] at h1; omega) (by rw [Nat.pow_succ] at h2; omega)]
    rfl
theorem dec_ne (n : Nat) : dec n ≠ [] := by rw [dec]; split <;> simp
theorem dec_cat {q r : Nat} (w : Nat) (hq : 0 < q) (hr : r < 10 ^ w) : dec (q * 10 ^ w + r) = dec q ++ decP w r := by
  induction w generalizing r with
  | zero => simp at hr; simp [decP, hr]
  | succ w ih =>
    have e : (q * 10 ^ (w + 1) + r) / 10 = q * 10 ^ w + r / 10 := by
      rw [Nat.pow_succ, ← Nat.mul_assoc]; omega
    have e2 : (q * 10 ^ (w + 1) + r) % 10 = r % 10 := by
      rw [Nat.pow_succ, ← Nat.mul_assoc]; omega
    have h3 : 10 ≤ q * 10 ^ (w + 1) + r := by
      have := Nat.mul_le_mul hq (Nat.pow_pos (n := w) (show 0 < 10 by omega)); rw [Nat.pow_succ]
      rw [← Nat.mul_assoc]; omega
    rw [dec_ge h3, e, e2, ih (by rw [Nat.pow_succ] at hr; omega), decP, List.append_assoc]
theorem dec_length_pos (n : Nat) : 0 < (dec n).length := List.length_pos_iff.2 (dec_ne n)
theorem decP_pad {w r : Nat} (hr : r < 10 ^ (w + 1)) : (dec r).length ≤ w + 1 ∧ decP (w + 1) r = List.replicate (w + 1 - (dec r).length) 48 ++ dec r := by
  induction w generalizing r with
  | zero =>
    rw [dec_lt (by simpa using hr)]; simp [decP]; omega
  | succ w ih =>
    by_cases h : r < 10
    · rw [dec_lt h, decP, show r / 10 = 0 by omega, decP_zero, Nat.mod_eq_of_lt h]; simp
    · obtain ⟨h1, h2⟩ := ih (r := r / 10) (by rw [Nat.pow_succ] at hr; omega)
      rw [dec_ge (by omega), decP, h2]
      simp; omega
/-! ### reading digits -/
def numOf (l : List Nat) : Nat := l.foldl (fun a d => 10 * a + (d - 48)) 0
theorem fold_numOf (l : List Nat) (a : Nat) : l.foldl (fun a d => 10 * a + (d - 48)) a = a * 10 ^ l.length + numOf l := by
  induction l generalizing a with
  | nil => simp [numOf]
  | cons x l ih =>
    have e : numOf (x :: l) = (x - 48) * 10 ^ l.length + numOf l := by
      show List.foldl _ (10 * 0 + (x - 48)) l = _
      rw [ih, Nat.mul_zero, Nat.zero_add]
    rw [List.foldl_cons, ih, e, List.length_cons, Nat.pow_succ, Nat.add_mul]
    rw [Nat.mul_comm 10 a, Nat.mul_assoc, Nat.mul_comm 10, Nat.add_assoc]
theorem numOf_append (a b : List Nat) : numOf (a ++ b) = numOf a * 10 ^ b.length + numOf b := by
  rw [numOf, List.foldl_append, fold_numOf]; rfl
theorem numOf_one (d : Nat) : numOf [d] = d - 48 := by simp [numOf]
theorem numOf_dec (n : Nat) : numOf (dec n) = n := by
  induction n using Nat.strongRecOn with
  | _ n ih =>
    by_cases h : n < 10
    · rw [dec_lt h, numOf_one]; omega
    · rw [dec_ge (by omega), numOf_append, ih _ (by omega), numOf_one]; simp; omega
theorem dec_inj {m n : Nat} (h : dec m = dec n) : m = n := by rw [← numOf_dec m, h, numOf_dec]
def Digs (l : List Nat) : Prop := ∀ x ∈ l, 48 ≤ x ∧ x ≤ 57
theorem dec_digs (n : Nat) : Digs (dec n) := by
  induction n using Nat.strongRecOn with
  | _ n ih =>
    by_cases h : n < 10
    · rw [dec_lt h]; intro x hx; simp at hx; omega
    · rw [dec_ge (by omega)]; intro x hx; simp at hx
      rcases hx with hx | hx
      · exact ih _ (by omega) x hx
      · omega
theorem dec_len_le {n w : Nat} (h : n < 10 ^ (w + 1)) : (dec n).length ≤ w + 1 := (decP_pad h).1
theorem dec_step {m q r : Nat} (w : Nat) (hm : m = q * 10 ^ (w + 1) + r) (hr : r < 10 ^ (w + 1)) (hq : 0 < q) : dec m = dec q ++ (List.replicate (w + 1 - (dec r).length) 48 ++ dec r) := by
  rw [hm, dec_cat _ hq hr, (decP_pad hr).2]
end Go.Proofs.YtpodnbcdddcdmaaGreatDoor

/- strconv: how many digits a number has; the digits of a number below a hundred. -/
namespace Go.Proofs.YtpodnbcdddcdmaaGreatDoor
open Go.RowKit
/-! functions of the library that the tables leave out -/
@[go_sem] theorem goI0 : isGo Tryz.prog 88 = true := by kernel_rfl
@[go_sem] theorem goI2 : isGo Tryz.prog 102 = true := by kernel_rfl
@[go_sem] theorem goI3 : isGo Tryz.prog 103 = true := by kernel_rfl
@[go_sem] theorem goI4 : isGo Tryz.prog 104 = true := by kernel_rfl
@[go_sem] theorem goI5 : isGo Tryz.prog 108 = true := by kernel_rfl
@[go_sem] theorem goI6 : isGo Tryz.prog 113 = true := by kernel_rfl
@[go_sem] theorem goI7 : isGo Tryz.prog 115 = true := by kernel_rfl
def st (l : List Nat) : ByteArray := ⟨(l.map UInt8.ofNat).toArray⟩
def pw10 : List V := (List.range 20).map fun i => .sc (.int .u64 ((10 ^ i : Nat) : Int))
theorem globP : globV 0 = .pi pw10 := by rfl
theorem pw10_get {i : Nat} (h : i < 20) : pw10[i]? = some (.sc (.int .u64 ((10 ^ i : Nat) : Int))) := by
  unfold pw10; rw [List.getElem?_map, List.getElem?_range h]; rfl
theorem nd_tab : ∀ L, L < 31 → 1 ≤ L → 10 ^ (L * 78913 / 262144 - 1) ≤ 2 ^ (L - 1) ∧ 2 ^ L ≤ 10 ^ (L * 78913 / 262144 + 1) ∧ L * 78913 / 262144 ≤ 9 := by decide
theorem dec_len {w n : Nat} (h1 : 10 ^ w ≤ n) (h2 : n < 10 ^ (w + 1)) : (dec n).length = w + 1 := by rw [dec_decP h1 h2, decP_length]
theorem nd_law {x : Nat} (h0 : 1 ≤ x) (h : x < 1000000000) : bl x * 78913 / 262144 ≤ 9 ∧ (10 ^ (bl x * 78913 / 262144) ≤ x → (dec x).length = bl x * 78913 / 262144 + 1) ∧ (x < 10 ^ (bl x * 78913 / 262144) → (dec x).length = bl x * 78913 / 262144) := by
  obtain ⟨a, b⟩ := bl_le (x := x) (by omega)
  have c := bl_lt x
  have d : bl x ≤ 30 := bl_le_of (by omega)
  obtain ⟨e1, e2, e3⟩ := nd_tab (bl x) (by omega) b
  generalize bl x * 78913 / 262144 = nd at *
  refine ⟨e3, fun h1 => dec_len h1 (by omega), fun h1 => ?_⟩
  match nd, h1, e1 with
  | 0, h1, _ => simp at h1; omega
  | k + 1, h1, e1 => exact dec_len (by simpa using Nat.le_trans e1 a) h1
set_option maxRecDepth 100000 in
theorem len64_t (x : Nat) (hx : x < 4294967296) : Spec Tryz.prog 114 [.sc (.int .u64 x)] (.sc (.int .i64 (bl x : Nat))) := by
  have p1 := decide_eq_false (p := (4294967296 : Int) ≤ (x : Int)) (by omega)
  have d1 : (x : Int).fdiv 65536 = ((x / 65536 : Nat) : Int) := by rw [Int.fdiv_eq_ediv_of_nonneg _ (by omega)]; rfl
  have d2 : (x : Int).fdiv 256 = ((x / 256 : Nat) : Int) := by rw [Int.fdiv_eq_ediv_of_nonneg _ (by omega)]; rfl
  have d3 : ((x / 65536 : Nat) : Int).fdiv 256 = ((x / 65536 / 256 : Nat) : Int) := by rw [Int.fdiv_eq_ediv_of_nonneg _ (by omega)]; rfl
  have mi16 : min 16 64 = 16 := rfl
  have mi8 : min 8 64 = 8 := rfl
  have hb : bl x ≤ 32 := bl_le_of (by omega)
  by_cases h1 : 65536 ≤ x
  · have q1 := decide_eq_true (p := (65536 : Int) ≤ (x : Int)) (by omega)
    by_cases h2 : 256 ≤ x / 65536
    · have q2 := decide_eq_true (p := (256 : Int) ≤ ((x / 65536 : Nat) : Int)) (by omega)
      have e1 := bl_div (x := x) (k := 16) (by omega)
      have e2 := bl_div (x := x / 65536) (k := 8) (by omega)
      have hy : x / 65536 / 256 < 256 := by omega
      simp only [Nat.reducePow] at e1 e2
      generalize x / 65536 / 256 = y at *
      have hby : bl y ≤ 8 := by omega
      refine Spec.run Tryz.func114 rfl Tryz.ntmps114 (by simp) (by simp (disch := omega) only [go_sem]; rfl) fun B hB => ?_
      (repeat (first | refine DO.nil (by kernel_rfl) ?_ | (with_reducible refine SC.condB (by simp (disch := omega) only [go_sem, ↓reduceIte]; rfl) ?_; first | with_reducible refine pickT ?_ | with_reducible refine pickF ?_) | (with_reducible refine oz (by constructor <;> decide) ?_) | ((with_reducible apply SC.region); (focus (simp (disch := omega) only [go_sem, ↓reduceIte, Nat.reduceEqDiff, reduceCtorEq, Int.reduceToNat, Int.reducePow, if_neg, p1, q1, q2, d1, d3, mi16, mi8]; rfl))) | (with_reducible refine SC.draw Tab.mixed rfl ?_; (repeat (refine DO.run (by simp (disch := omega) only [go_sem, ↓reduceIte, Nat.reduceEqDiff, Nat.reduceLT, Nat.reduceLeDiff, Nat.reduceAdd, Nat.reduceMul, Nat.reduceSub, reduceCtorEq, Nat.reduceBEq, Int.reduceToNat, Int.reducePow, if_pos, if_neg, p1, q1, q2, d1, d3, mi16, mi8]; rfl) ?_)); refine DO.nil (by kernel_rfl) ?_)))
      refine SC.ops ?_
      (repeat (refine SO.run (by simp (disch := omega) only [go_sem, ↓reduceIte, reduceCtorEq]; rfl) ?_))
      refine SO.run (by simp (disch := omega) only [go_sem, ↓reduceIte]; rw [strIx_tab hy]; rotate_left; kernel_rfl; simp (disch := omega) only [go_sem]; rfl) ?_
      (repeat (refine SO.run (by simp (disch := omega) only [go_sem, ↓reduceIte, Nat.reduceEqDiff, Nat.reduceLT]; rfl) ?_))
      (repeat (first | refine DO.nil (by kernel_rfl) ?_ | (with_reducible refine SC.condB (by simp (disch := omega) only [go_sem, ↓reduceIte, Nat.reduceEqDiff, Nat.reduceLT, Nat.reduceLeDiff, Nat.reduceAdd, Nat.reduceMul, Nat.reduceSub, reduceCtorEq, Nat.reduceBEq, Int.reduceToNat, Int.reducePow, if_pos, if_neg]; rfl) ?_; first | with_reducible refine pickT ?_ | with_reducible refine pickF ?_) | (with_reducible refine oz (by constructor <;> decide) ?_) | ((with_reducible apply SC.region); (focus (simp (disch := omega) only [go_sem, ↓reduceIte, Nat.reduceEqDiff, Nat.reduceLT, Nat.reduceLeDiff, Nat.reduceAdd, Nat.reduceMul, Nat.reduceSub, reduceCtorEq, Nat.reduceBEq, Int.reduceToNat, Int.reducePow, if_pos, if_neg]; rfl))) | (with_reducible refine SC.draw Tab.mixed rfl ?_; (repeat (refine DO.run (by simp (disch := omega) only [go_sem, ↓reduceIte, Nat.reduceEqDiff, Nat.reduceLT, Nat.reduceLeDiff, Nat.reduceAdd, Nat.reduceMul, Nat.reduceSub, reduceCtorEq, Nat.reduceBEq, Int.reduceToNat, Int.reducePow, if_pos, if_neg]; rfl) ?_)); refine DO.nil (by kernel_rfl) ?_)))
      refine retQ_ret Tryz.results114 (by simp (disch := omega) only [go_sem, ↓reduceIte]; rfl) (by simp (disch := omega) only [go_sem]; rfl) ?_
      rw [e1, e2]; congr 2; omega
    · have q2 := decide_eq_false (p := (256 : Int) ≤ ((x / 65536 : Nat) : Int)) (by omega)
      have e1 := bl_div (x := x) (k := 16) (by omega)
      have hy : x / 65536 < 256 := by omega
      simp only [Nat.reducePow] at e1
      generalize x / 65536 = y at *
      refine Spec.run Tryz.func114 rfl Tryz.ntmps114 (by simp) (by simp (disch := omega) only [go_sem]; rfl) fun B hB => ?_
      (repeat (first | refine DO.nil (by kernel_rfl) ?_ | (with_reducible refine SC.condB (by simp (disch := omega) only [go_sem, ↓reduceIte]; rfl) ?_; first | with_reducible refine pickT ?_ | with_reducible refine pickF ?_) | (with_reducible refine oz (by constructor <;> decide) ?_) | ((with_reducible apply SC.region); (focus (simp (disch := omega) only [go_sem, ↓reduceIte, Nat.reduceEqDiff, reduceCtorEq, Int.reduceToNat, Int.reducePow, if_neg, p1, q1, q2, d1, mi16]; rfl))) | (with_reducible refine SC.draw Tab.mixed rfl ?_; (repeat (refine DO.run (by simp (disch := omega) only [go_sem, ↓reduceIte, Nat.reduceEqDiff, Nat.reduceLT, Nat.reduceLeDiff, Nat.reduceAdd, Nat.reduceMul, Nat.reduceSub, reduceCtorEq, Nat.reduceBEq, Int.reduceToNat, Int.reducePow, if_pos, if_neg, p1, q1, q2, d1, mi16, mi8]; rfl) ?_)); refine DO.nil (by kernel_rfl) ?_)))
      refine SC.ops ?_
      (repeat (refine SO.run (by simp (disch := omega) only [go_sem, ↓reduceIte, Nat.reduceEqDiff, reduceCtorEq]; rfl) ?_))
      refine SO.run (by simp (disch := omega) only [go_sem, ↓reduceIte]; rw [strIx_tab hy]; rotate_left; kernel_rfl; simp (disch := omega) only [go_sem]; rfl) ?_
      (repeat (refine SO.run (by simp (disch := omega) only [go_sem, ↓reduceIte, Nat.reduceEqDiff, Nat.reduceLT]; rfl) ?_))
      (repeat (first | refine DO.nil (by kernel_rfl) ?_ | (with_reducible refine SC.condB (by simp (disch := omega) only [go_sem, ↓reduceIte, Nat.reduceEqDiff, Nat.reduceLT, Nat.reduceLeDiff, Nat.reduceAdd, Nat.reduceMul, Nat.reduceSub, reduceCtorEq, Nat.reduceBEq, Int.reduceToNat, Int.reducePow, if_pos, if_neg]; rfl) ?_; first | with_reducible refine pickT ?_ | with_reducible refine pickF ?_) | (with_reducible refine oz (by constructor <;> decide) ?_) | ((with_reducible apply SC.region); (focus (simp (disch := omega) only [go_sem, ↓reduceIte, Nat.reduceEqDiff, Nat.reduceLT, Nat.reduceLeDiff, Nat.reduceAdd, Nat.reduceMul, Nat.reduceSub, reduceCtorEq, Nat.reduceBEq, Int.reduceToNat, Int.reducePow, if_pos, if_neg]; rfl))) | (with_reducible refine SC.draw Tab.mixed rfl ?_; (repeat (refine DO.run (by simp (disch := omega) only [go_sem, ↓reduceIte, Nat.reduceEqDiff, Nat.reduceLT, Nat.reduceLeDiff, Nat.reduceAdd, Nat.reduceMul, Nat.reduceSub, reduceCtorEq, Nat.reduceBEq, Int.reduceToNat, Int.reducePow, if_pos, if_neg]; rfl) ?_)); refine DO.nil (by kernel_rfl) ?_)))
      refine retQ_ret Tryz.results114 (by simp (disch := omega) only [go_sem, ↓reduceIte]; rfl) (by simp (disch := omega) only [go_sem]; rfl) ?_
      rw [e1]; congr 2; omega
  · have q1 := decide_eq_false (p := (65536 : Int) ≤ (x : Int)) (by omega)
    by_cases h2 : 256 ≤ x
    · have q2 := decide_eq_true (p := (256 : Int) ≤ (x : Int)) (by omega)
      have e1 := bl_div (x := x) (k := 8) (by omega)
      have hy : x / 256 < 256 := by omega
      simp only [Nat.reducePow] at e1
      generalize x / 256 = y at *
      refine Spec.run Tryz.func114 rfl Tryz.ntmps114 (by simp) (by simp (disch := omega) only [go_sem]; rfl) fun B hB => ?_
      (repeat (first | refine DO.nil (by kernel_rfl) ?_ | (with_reducible refine SC.condB (by simp (disch := omega) only [go_sem, ↓reduceIte]; rfl) ?_; first | with_reducible refine pickT ?_ | with_reducible refine pickF ?_) | (with_reducible refine oz (by constructor <;> decide) ?_) | ((with_reducible apply SC.region); (focus (simp (disch := omega) only [go_sem, ↓reduceIte, Nat.reduceEqDiff, reduceCtorEq, Int.reduceToNat, Int.reducePow, if_neg, p1, q1, q2, d2, mi8]; rfl))) | (with_reducible refine SC.draw Tab.mixed rfl ?_; (repeat (refine DO.run (by simp (disch := omega) only [go_sem, ↓reduceIte, Nat.reduceEqDiff, Nat.reduceLT, Nat.reduceLeDiff, Nat.reduceAdd, Nat.reduceMul, Nat.reduceSub, reduceCtorEq, Nat.reduceBEq, Int.reduceToNat, Int.reducePow, if_pos, if_neg, p1, q1, q2, d2, mi16, mi8]; rfl) ?_)); refine DO.nil (by kernel_rfl) ?_)))
      refine SC.ops ?_
      (repeat (refine SO.run (by simp (disch := omega) only [go_sem, ↓reduceIte, reduceCtorEq]; rfl) ?_))
      refine SO.run (by simp (disch := omega) only [go_sem, ↓reduceIte]; rw [strIx_tab hy]; rotate_left; kernel_rfl; simp (disch := omega) only [go_sem]; rfl) ?_
      (repeat (refine SO.run (by simp (disch := omega) only [go_sem, ↓reduceIte, Nat.reduceEqDiff, Nat.reduceLT]; rfl) ?_))
      (repeat (first | refine DO.nil (by kernel_rfl) ?_ | (with_reducible refine SC.condB (by simp (disch := omega) only [go_sem, ↓reduceIte, Nat.reduceEqDiff, Nat.reduceLT, Nat.reduceLeDiff, Nat.reduceAdd, Nat.reduceMul, Nat.reduceSub, reduceCtorEq, Nat.reduceBEq, Int.reduceToNat, Int.reducePow, if_pos, if_neg]; rfl) ?_; first | with_reducible refine pickT ?_ | with_reducible refine pickF ?_) | (with_reducible refine oz (by constructor <;> decide) ?_) | ((with_reducible apply SC.region); (focus (simp (disch := omega) only [go_sem, ↓reduceIte, Nat.reduceEqDiff, Nat.reduceLT, Nat.reduceLeDiff, Nat.reduceAdd, Nat.reduceMul, Nat.reduceSub, reduceCtorEq, Nat.reduceBEq, Int.reduceToNat, Int.reducePow, if_pos, if_neg]; rfl))) | (with_reducible refine SC.draw Tab.mixed rfl ?_; (repeat (refine DO.run (by simp (disch := omega) only [go_sem, ↓reduceIte, Nat.reduceEqDiff, Nat.reduceLT, Nat.reduceLeDiff, Nat.reduceAdd, Nat.reduceMul, Nat.reduceSub, reduceCtorEq, Nat.reduceBEq, Int.reduceToNat, Int.reducePow, if_pos, if_neg]; rfl) ?_)); refine DO.nil (by kernel_rfl) ?_)))
      refine retQ_ret Tryz.results114 (by simp (disch := omega) only [go_sem, ↓reduceIte]; rfl) (by simp (disch := omega) only [go_sem]; rfl) ?_
      rw [e1]; congr 2; omega
    · have q2 := decide_eq_false (p := (256 : Int) ≤ (x : Int)) (by omega)
      have hy : x < 256 := by omega
      refine Spec.run Tryz.func114 rfl Tryz.ntmps114 (by simp) (by simp (disch := omega) only [go_sem]; rfl) fun B hB => ?_
      (repeat (first | refine DO.nil (by kernel_rfl) ?_ | (with_reducible refine SC.condB (by simp (disch := omega) only [go_sem, ↓reduceIte]; rfl) ?_; first | with_reducible refine pickT ?_ | with_reducible refine pickF ?_) | (with_reducible refine oz (by constructor <;> decide) ?_) | ((with_reducible apply SC.region); (focus (simp (disch := omega) only [go_sem, ↓reduceIte, Nat.reduceEqDiff, reduceCtorEq, p1, q1, q2]; rfl))) | (with_reducible refine SC.draw Tab.mixed rfl ?_; (repeat (refine DO.run (by simp (disch := omega) only [go_sem, ↓reduceIte, Nat.reduceEqDiff, Nat.reduceLT, Nat.reduceLeDiff, Nat.reduceAdd, Nat.reduceMul, Nat.reduceSub, reduceCtorEq, Nat.reduceBEq, Int.reduceToNat, Int.reducePow, if_pos, if_neg, p1, q1, q2]; rfl) ?_)); refine DO.nil (by kernel_rfl) ?_)))
      refine SC.ops ?_
      (repeat (refine SO.run (by simp (disch := omega) only [go_sem, ↓reduceIte, Nat.reduceEqDiff, reduceCtorEq]; rfl) ?_))
      refine SO.run (by simp (disch := omega) only [go_sem, ↓reduceIte]; rw [strIx_tab hy]; rotate_left; kernel_rfl; simp (disch := omega) only [go_sem]; rfl) ?_
      (repeat (refine SO.run (by simp (disch := omega) only [go_sem, ↓reduceIte, Nat.reduceEqDiff, Nat.reduceLT]; rfl) ?_))
      (repeat (first | refine DO.nil (by kernel_rfl) ?_ | (with_reducible refine SC.condB (by simp (disch := omega) only [go_sem, ↓reduceIte, Nat.reduceEqDiff, Nat.reduceLT, Nat.reduceLeDiff, Nat.reduceAdd, Nat.reduceMul, Nat.reduceSub, reduceCtorEq, Nat.reduceBEq, Int.reduceToNat, Int.reducePow, if_pos, if_neg]; rfl) ?_; first | with_reducible refine pickT ?_ | with_reducible refine pickF ?_) | (with_reducible refine oz (by constructor <;> decide) ?_) | ((with_reducible apply SC.region); (focus (simp (disch := omega) only [go_sem, ↓reduceIte, Nat.reduceEqDiff, Nat.reduceLT, Nat.reduceLeDiff, Nat.reduceAdd, Nat.reduceMul, Nat.reduceSub, reduceCtorEq, Nat.reduceBEq, Int.reduceToNat, Int.reducePow, if_pos, if_neg]; rfl))) | (with_reducible refine SC.draw Tab.mixed rfl ?_; (repeat (refine DO.run (by simp (disch := omega) only [go_sem, ↓reduceIte, Nat.reduceEqDiff, Nat.reduceLT, Nat.reduceLeDiff, Nat.reduceAdd, Nat.reduceMul, Nat.reduceSub, reduceCtorEq, Nat.reduceBEq, Int.reduceToNat, Int.reducePow, if_pos, if_neg]; rfl) ?_)); refine DO.nil (by kernel_rfl) ?_)))
      refine retQ_ret Tryz.results114 (by simp (disch := omega) only [go_sem, ↓reduceIte]; rfl) (by simp (disch := omega) only [go_sem]; rfl) ?_
      congr 2; omega
theorem log10_s (n : Nat) (hn : n ≤ 64) : Spec Tryz.prog 113 [.sc (.int .i64 n)] (.sc (.int .i64 ((n * 78913 / 262144 : Nat) : Int))) := by
  have d1 : ((n : Int) * 78913).fdiv 262144 = ((n * 78913 / 262144 : Nat) : Int) := by rw [Int.fdiv_eq_ediv_of_nonneg _ (by omega)]; rfl
  have mi : min 18 64 = 18 := rfl
  refine Spec.run Tryz.func113 rfl Tryz.ntmps113 (by simp) (by simp (disch := omega) only [go_sem]; rfl) fun B hB => ?_
  (repeat (first | refine DO.nil (by kernel_rfl) ?_ | (with_reducible refine oz (by constructor <;> decide) ?_) | ((with_reducible first | apply SC.condB | apply SC.region | apply SO.run | apply DO.run); (focus (simp (disch := omega) only [go_sem, ↓reduceIte, Nat.reduceLT, reduceCtorEq, Int.reduceToNat, Int.reducePow, if_neg, d1, mi] <;> rfl)); (first | refine pickT ?_ | refine pickF ?_ | fail_if_success with_reducible refine pickA ?_)) | ((with_reducible refine SC.draw Tab.mixed ?_ ?_); (focus rfl)) | (with_reducible apply SC.ops)))
  exact retQ_ret Tryz.results113 (by simp (disch := omega) only [go_sem, ↓reduceIte]; rfl) (by simp (disch := omega) only [go_sem]; rfl) rfl
theorem bool2_s (b : Bool) : Spec Tryz.prog 115 [.sc (.bool b)] (.sc (.int .i64 (if b then 1 else 0))) := by
  cases b <;>
  · refine Spec.run Tryz.func115 rfl Tryz.ntmps115 (by simp) (by simp (disch := omega) only [go_sem]; rfl) fun B hB => ?_
    (repeat (first | refine DO.nil (by kernel_rfl) ?_ | (with_reducible refine oz (by constructor <;> decide) ?_) | ((with_reducible first | apply SC.condB | apply SC.region | apply SO.run | apply DO.run); (focus (simp (disch := omega) only [go_sem, ↓reduceIte, Nat.reduceLT, reduceCtorEq] <;> rfl)); (first | refine pickT ?_ | refine pickF ?_ | fail_if_success with_reducible refine pickA ?_)) | ((with_reducible refine SC.draw Tab.mixed ?_ ?_); (focus rfl)) | (with_reducible apply SC.ops)))
    exact retQ_ret Tryz.results115 (by simp (disch := omega) only [go_sem, ↓reduceIte]; rfl) (by simp (disch := omega) only [go_sem, ↓reduceIte]; rfl) rfl
theorem numDigits_s (x : Nat) (h0 : 1 ≤ x) (hx : x < 1000000000) : Spec Tryz.prog 103 [.sc (.int .u64 x)] (.sc (.int .i64 ((dec x).length : Nat))) := by
  have d : bl x ≤ 30 := bl_le_of (by omega)
  obtain ⟨e3, e4, e5⟩ := nd_law h0 hx
  have c1 := len64_t x (by omega)
  have c2 := log10_s (bl x) (by omega)
  generalize bl x * 78913 / 262144 = nd at *
  have gp := globP
  have hl : pw10.length = 20 := rfl
  have gk := pw10_get (i := nd) (by omega)
  by_cases hc : 10 ^ nd ≤ x
  · have q1 := decide_eq_true (p := (((10 ^ nd : Nat) : Int)) ≤ (x : Int)) (by omega)
    have c3 := bool2_s true
    rw [e4 hc]
    clear e4 e5
    generalize 10 ^ nd = p at *
    generalize pw10 = T at *
    refine Spec.run Tryz.func103 rfl Tryz.ntmps103 (by simp) (by simp (disch := omega) only [go_sem]; rfl) fun B hB => ?_
    (repeat (first | refine DO.nil (by kernel_rfl) ?_ | (with_reducible refine oz (by constructor <;> decide) ?_) | ((first | apply SO.call | apply DO.call); (iterate 3 (focus (simp (disch := omega) only [go_sem, ↓reduceIte] <;> rfl))); (first | apply SCall.ofX | apply DCall.ofX); (focus (first | assumption)); (focus (simp (disch := omega) only [go_sem, ↓reduceIte] <;> rfl))) | ((with_reducible first | apply SC.condB | apply SC.region | apply SO.run | apply DO.run); (focus (simp (disch := omega) only [go_sem, ↓reduceIte, Nat.reduceEqDiff, Nat.reduceLT, reduceCtorEq, if_pos, gp, gk, q1, List.getElem?_drop] <;> rfl)); (first | refine pickT ?_ | refine pickF ?_ | fail_if_success with_reducible refine pickA ?_)) | ((with_reducible refine SC.draw Tab.mixed ?_ ?_); (focus rfl)) | (with_reducible apply SC.ops)))
    refine retQ_ret Tryz.results103 (by simp (disch := omega) only [go_sem, ↓reduceIte]; rfl) (by simp (disch := omega) only [go_sem]; rfl) ?_
    congr 2
  · have q1 := decide_eq_false (p := (((10 ^ nd : Nat) : Int)) ≤ (x : Int)) (by omega)
    have c3 := bool2_s false
    rw [e5 (by omega)]
    clear e4 e5
    generalize 10 ^ nd = p at *
    generalize pw10 = T at *
    refine Spec.run Tryz.func103 rfl Tryz.ntmps103 (by simp) (by simp (disch := omega) only [go_sem]; rfl) fun B hB => ?_
    (repeat (first | refine DO.nil (by kernel_rfl) ?_ | (with_reducible refine oz (by constructor <;> decide) ?_) | ((first | apply SO.call | apply DO.call); (iterate 3 (focus (simp (disch := omega) only [go_sem, ↓reduceIte] <;> rfl))); (first | apply SCall.ofX | apply DCall.ofX); (focus (first | assumption)); (focus (simp (disch := omega) only [go_sem, ↓reduceIte] <;> rfl))) | ((with_reducible first | apply SC.condB | apply SC.region | apply SO.run | apply DO.run); (focus (simp (disch := omega) only [go_sem, ↓reduceIte, Nat.reduceEqDiff, Nat.reduceLT, reduceCtorEq, if_pos, gp, gk, q1, List.getElem?_drop] <;> rfl)); (first | refine pickT ?_ | refine pickF ?_ | fail_if_success with_reducible refine pickA ?_)) | ((with_reducible refine SC.draw Tab.mixed ?_ ?_); (focus rfl)) | (with_reducible apply SC.ops)))
    refine retQ_ret Tryz.results103 (by simp (disch := omega) only [go_sem, ↓reduceIte]; rfl) (by simp (disch := omega) only [go_sem]; rfl) ?_
    congr 2
end Go.Proofs.YtpodnbcdddcdmaaGreatDoor

/- strconv: slices and bytes of constant strings; small. -/
namespace Go.Proofs.YtpodnbcdddcdmaaGreatDoor
open Go.RowKit
def strSl (s : ByteArray) (a b : Int) : Option V := if 0 ≤ a ∧ a ≤ b ∧ b ≤ s.size then some (.sc (.string (s.extract a.toNat b.toNat))) else none
section
variable {P : Program} {hp : List (Nat × Blk)}
@[go_sem] theorem exSlice_str (T : Nat) (s : ByteArray) (k1 k2 : IntKind) (a b : Int) : exSlice P hp T (.sc (.string s)) (some (.sc (.int k1 a))) (some (.sc (.int k2 b))) none = if isStr P T = true then strSl s a b else none := by
  unfold strSl
  by_cases ht : isStr P T = true
  · by_cases h : 0 ≤ a ∧ a ≤ b ∧ b ≤ s.size
    · have h2 : a.toNat ≤ b.toNat ∧ b.toNat ≤ s.size := by omega
      simp [exSlice, boundsV, lowV, highV, intV, ht, h, show (0 : Int) ≤ b by omega]; omega
    · simp only [exSlice, boundsV, lowV, highV, intV, ht, if_neg h, if_true, Option.bind_some]
      by_cases h1 : 0 ≤ a
      · by_cases h3 : 0 ≤ b
        · have h2 : ¬ (a.toNat ≤ b.toNat ∧ b.toNat ≤ s.size) := by omega
          simp [h1, h3]; omega
        · simp [h1, h3]
      · simp [h1]
  · simp [exSlice, ht]
@[go_sem] theorem exSlice_strTo (T : Nat) (s : ByteArray) (k2 : IntKind) (b : Int) : exSlice P hp T (.sc (.string s)) none (some (.sc (.int k2 b))) none = if isStr P T = true then strSl s 0 b else none := by
  rw [← exSlice_str (hp := hp) T s k2 k2 0 b]; rfl
@[go_sem] theorem exSlice_strFrom (T : Nat) (s : ByteArray) (k2 : IntKind) (a : Int) : exSlice P hp T (.sc (.string s)) (some (.sc (.int k2 a))) none none = if isStr P T = true then strSl s a s.size else none := by
  rw [← exSlice_str (hp := hp) T s k2 k2 a s.size]
  simp [exSlice, boundsV, highV, intV]
end
theorem st_size (l : List Nat) : (st l).size = l.length := by simp [st, ByteArray.size]
theorem st_extract (l : List Nat) (a b : Nat) : (st l).extract a b = st ((l.drop a).take (b - a)) := by
  apply ByteArray.ext
  simp [st, ByteArray.data_extract, List.map_drop, List.map_take, List.extract_toArray]
theorem strSl_st {l : List Nat} {a b : Nat} (h1 : a ≤ b) (h2 : b ≤ l.length) : strSl (st l) a b = some (.sc (.string (st ((l.drop a).take (b - a))))) := by
  unfold strSl
  rw [st_size, if_pos (by omega), Int.toNat_natCast, Int.toNat_natCast, st_extract]
theorem strIx_st {l : List Nat} (hl : ∀ x ∈ l, x < 256) {i : Nat} (h : i < l.length) : strIx (st l) (i : Int) = some (.sc (.int .u8 (l.getD i 0 : Nat))) := by
  unfold strIx
  rw [if_pos (by omega), Int.toNat_natCast]
  have e : (st l)[i]? = some (UInt8.ofNat (l.getD i 0)) := by
    have hs : i < (st l).size := by rw [st_size]; exact h
    rw [getElem?_pos (st l) i hs]
    simp [st, ByteArray.getElem_eq_getElem_data, List.getD_eq_getElem?_getD, h]
  have hx : l.getD i 0 < 256 := by
    rw [List.getD_eq_getElem?_getD, List.getElem?_eq_getElem h]; exact hl _ (List.getElem_mem h)
  rw [e]
  show some (V.sc (.int .u8 ((UInt8.ofNat (l.getD i 0)).toNat : Nat))) = _
  rw [UInt8.toNat_ofNat_of_lt' hx]
def smL : List Nat := (List.range 100).flatMap fun i => [48 + i / 10, 48 + i % 10]
def dgL : List Nat := [48, 49, 50, 51, 52, 53, 54, 55, 56, 57, 97, 98, 99, 100, 101, 102, 103, 104, 105, 106, 107, 108, 109, 110, 111, 112, 113, 114, 115, 116, 117, 118, 119, 120, 121, 122]
set_option maxRecDepth 20000 in
theorem smL_lt : ∀ x ∈ smL, x < 256 := by decide
set_option maxRecDepth 20000 in
theorem smL_len : smL.length = 200 := by decide
set_option maxRecDepth 20000 in
theorem smL_get : ∀ i, i < 100 → smL.getD (2 * i) 0 = 48 + i / 10 ∧ smL.getD (2 * i + 1) 0 = 48 + i % 10 ∧ (smL.drop (2 * i)).take 2 = [48 + i / 10, 48 + i % 10] := by decide
theorem dgL_get : ∀ i, i < 10 → (dgL.drop i).take 1 = [48 + i] := by decide
theorem strSl_sm {s : ByteArray} {i : Nat} (h : i < 100) (hs : s = st smL) : strSl s ((2 * i : Nat) : Int) ((2 * i + 2 : Nat) : Int) = some (.sc (.string (st [48 + i / 10, 48 + i % 10]))) := by
  rw [hs, strSl_st (by omega) (by rw [smL_len]; omega), show 2 * i + 2 - 2 * i = 2 by omega, (smL_get i h).2.2]
theorem strSl_dg {s : ByteArray} {i : Nat} (h : i < 10) (hs : s = st dgL) : strSl s (i : Int) ((i + 1 : Nat) : Int) = some (.sc (.string (st [48 + i]))) := by
  rw [hs, strSl_st (by omega) (by show i + 1 ≤ 36; omega), show i + 1 - i = 1 by omega, dgL_get i h]
set_option maxRecDepth 100000 in
theorem small_s (i : Nat) (h : i < 100) : Spec Tryz.prog 102 [.sc (.int .i64 i)] (.sc (.string (st (dec i)))) := by
  by_cases h1 : i < 10
  · have q1 := decide_eq_true (p := (i : Int) < 10) (by omega)
    rw [dec_lt h1]
    refine Spec.run Tryz.func102 rfl Tryz.ntmps102 (by simp) (by simp (disch := omega) only [go_sem]; rfl) fun B hB => ?_
    (repeat (first | refine DO.nil (by kernel_rfl) ?_ | (with_reducible refine SC.condB (by simp (disch := omega) only [go_sem, ↓reduceIte]; rfl) ?_; first | with_reducible refine pickT ?_ | with_reducible refine pickF ?_) | (with_reducible refine oz (by constructor <;> decide) ?_) | ((with_reducible apply SC.region); (focus (simp (disch := omega) only [go_sem, ↓reduceIte, Nat.reduceEqDiff, reduceCtorEq, q1]; rfl))) | (with_reducible refine SC.draw Tab.mixed rfl ?_; (repeat (refine DO.run (by simp (disch := omega) only [go_sem, ↓reduceIte, Nat.reduceEqDiff, Nat.reduceLT, Nat.reduceLeDiff, Nat.reduceAdd, Nat.reduceMul, Nat.reduceSub, reduceCtorEq, Nat.reduceBEq, Int.reduceToNat, Int.reducePow, if_pos, if_neg, q1]; rfl) ?_)); refine DO.nil (by kernel_rfl) ?_)))
    refine SC.ops ?_
    (repeat (refine SO.run (by simp (disch := omega) only [go_sem, ↓reduceIte, Nat.reduceEqDiff, reduceCtorEq]; rfl) ?_))
    refine SO.run (by simp (disch := omega) only [go_sem, ↓reduceIte, Nat.reduceEqDiff]; rw [show ((i : Int) + 1) = ((i + 1 : Nat) : Int) by omega, strSl_dg h1]; rotate_left; kernel_rfl; simp (disch := omega) only [go_sem]; rfl) ?_
    (repeat (refine SO.run (by simp (disch := omega) only [go_sem, ↓reduceIte]; rfl) ?_))
    (repeat (first | refine DO.nil (by kernel_rfl) ?_ | (with_reducible refine SC.condB (by simp (disch := omega) only [go_sem, ↓reduceIte, Nat.reduceEqDiff, Nat.reduceLT, Nat.reduceLeDiff, Nat.reduceAdd, Nat.reduceMul, Nat.reduceSub, reduceCtorEq, Nat.reduceBEq, Int.reduceToNat, Int.reducePow, if_pos, if_neg]; rfl) ?_; first | with_reducible refine pickT ?_ | with_reducible refine pickF ?_) | (with_reducible refine oz (by constructor <;> decide) ?_) | ((with_reducible apply SC.region); (focus (simp (disch := omega) only [go_sem, ↓reduceIte, Nat.reduceEqDiff, Nat.reduceLT, Nat.reduceLeDiff, Nat.reduceAdd, Nat.reduceMul, Nat.reduceSub, reduceCtorEq, Nat.reduceBEq, Int.reduceToNat, Int.reducePow, if_pos, if_neg]; rfl))) | (with_reducible refine SC.draw Tab.mixed rfl ?_; (repeat (refine DO.run (by simp (disch := omega) only [go_sem, ↓reduceIte, Nat.reduceEqDiff, Nat.reduceLT, Nat.reduceLeDiff, Nat.reduceAdd, Nat.reduceMul, Nat.reduceSub, reduceCtorEq, Nat.reduceBEq, Int.reduceToNat, Int.reducePow, if_pos, if_neg]; rfl) ?_)); refine DO.nil (by kernel_rfl) ?_)))
    exact retQ_ret Tryz.results102 (by simp (disch := omega) only [go_sem, ↓reduceIte]; rfl) (by simp (disch := omega) only [go_sem]; rfl) rfl
  · have q1 := decide_eq_false (p := (i : Int) < 10) (by omega)
    rw [dec_ge (by omega), dec_lt (by omega)]
    refine Spec.run Tryz.func102 rfl Tryz.ntmps102 (by simp) (by simp (disch := omega) only [go_sem]; rfl) fun B hB => ?_
    (repeat (first | refine DO.nil (by kernel_rfl) ?_ | (with_reducible refine SC.condB (by simp (disch := omega) only [go_sem, ↓reduceIte]; rfl) ?_; first | with_reducible refine pickT ?_ | with_reducible refine pickF ?_) | (with_reducible refine oz (by constructor <;> decide) ?_) | ((with_reducible apply SC.region); (focus (simp (disch := omega) only [go_sem, ↓reduceIte, Nat.reduceEqDiff, Nat.reduceLT, reduceCtorEq, q1]; rfl))) | (with_reducible refine SC.draw Tab.mixed rfl ?_; (repeat (refine DO.run (by simp (disch := omega) only [go_sem, ↓reduceIte, Nat.reduceEqDiff, Nat.reduceLT, Nat.reduceLeDiff, Nat.reduceAdd, Nat.reduceMul, Nat.reduceSub, reduceCtorEq, Nat.reduceBEq, Int.reduceToNat, Int.reducePow, if_pos, if_neg, q1]; rfl) ?_)); refine DO.nil (by kernel_rfl) ?_)))
    refine SC.ops ?_
    (repeat (refine SO.run (by simp (disch := omega) only [go_sem, ↓reduceIte, Nat.reduceEqDiff, Nat.reduceLT, reduceCtorEq]; rfl) ?_))
    refine SO.run (by simp (disch := omega) only [go_sem, ↓reduceIte, Nat.reduceEqDiff, Nat.reduceLT]; rw [show ((i : Int) * 2 + 2) = ((2 * i + 2 : Nat) : Int) by omega, show ((i : Int) * 2) = ((2 * i : Nat) : Int) by omega, strSl_sm h]; rotate_left; kernel_rfl; simp (disch := omega) only [go_sem]; rfl) ?_
    (repeat (refine SO.run (by simp (disch := omega) only [go_sem, ↓reduceIte]; rfl) ?_))
    (repeat (first | refine DO.nil (by kernel_rfl) ?_ | (with_reducible refine SC.condB (by simp (disch := omega) only [go_sem, ↓reduceIte, Nat.reduceEqDiff, Nat.reduceLT, Nat.reduceLeDiff, Nat.reduceAdd, Nat.reduceMul, Nat.reduceSub, reduceCtorEq, Nat.reduceBEq, Int.reduceToNat, Int.reducePow, if_pos, if_neg]; rfl) ?_; first | with_reducible refine pickT ?_ | with_reducible refine pickF ?_) | (with_reducible refine oz (by constructor <;> decide) ?_) | ((with_reducible apply SC.region); (focus (simp (disch := omega) only [go_sem, ↓reduceIte, Nat.reduceEqDiff, Nat.reduceLT, Nat.reduceLeDiff, Nat.reduceAdd, Nat.reduceMul, Nat.reduceSub, reduceCtorEq, Nat.reduceBEq, Int.reduceToNat, Int.reducePow, if_pos, if_neg]; rfl))) | (with_reducible refine SC.draw Tab.mixed rfl ?_; (repeat (refine DO.run (by simp (disch := omega) only [go_sem, ↓reduceIte, Nat.reduceEqDiff, Nat.reduceLT, Nat.reduceLeDiff, Nat.reduceAdd, Nat.reduceMul, Nat.reduceSub, reduceCtorEq, Nat.reduceBEq, Int.reduceToNat, Int.reducePow, if_pos, if_neg]; rfl) ?_)); refine DO.nil (by kernel_rfl) ?_)))
    exact retQ_ret Tryz.results102 (by simp (disch := omega) only [go_sem, ↓reduceIte]; rfl) (by simp (disch := omega) only [go_sem]; rfl) rfl
end Go.Proofs.YtpodnbcdddcdmaaGreatDoor

/- strconv.formatBase10 on a block of its caller. -/
namespace Go.Proofs.YtpodnbcdddcdmaaGreatDoor
open Go.RowKit
theorem sm_at {s : ByteArray} (hs : s = st smL) (n : Int) (h0 : 0 ≤ n) (h : n < 200) : strIx s n = some (.sc (.int .u8 (smL.getD n.toNat 0 : Nat))) := by
  obtain ⟨i, rfl⟩ := Int.eq_ofNat_of_zero_le h0
  rw [hs, strIx_st smL_lt (by rw [smL_len]; omega), Int.toNat_natCast]
theorem sm_one {s : ByteArray} (hs : s = st smL) (n : Int) (h0 : 0 ≤ n) (h : n < 100) : strIx s (n * 2 + 1) = some (.sc (.int .u8 (48 + n % 10))) := by
  obtain ⟨x, rfl⟩ := Int.eq_ofNat_of_zero_le h0
  rw [sm_at hs _ (by omega) (by omega), show ((x : Int) * 2 + 1).toNat = 2 * x + 1 by omega, (smL_get x (by omega)).2.1]
  congr 3
theorem sm_two {s : ByteArray} (hs : s = st smL) (n : Int) (h0 : 0 ≤ n) (h : n < 100) : strIx s (n * 2) = some (.sc (.int .u8 (48 + n / 10))) := by
  obtain ⟨x, rfl⟩ := Int.eq_ofNat_of_zero_le h0
  rw [sm_at hs _ (by omega) (by omega), show ((x : Int) * 2).toNat = 2 * x by omega, (smL_get x (by omega)).1]
  congr 3
def bN (l : List Nat) : List V := l.map fun x : Nat => .sc (.int .u8 (x : Int))
theorem bN_cons (x : Nat) (l : List Nat) : bN (x :: l) = .sc (.int .u8 (x : Int)) :: bN l := rfl
theorem bN_nil : bN [] = [] := rfl
theorem retI_n {P : Program} {B : Base} {fn : Func} {x y : V} {sl : List (Nat × V)} {hp hp' : List (Nat × Blk)} {nx nx' nt : Nat} {rs : List ResultVar} (hr : fn.results = rs.toArray) (h1 : resG P ⟨sl, hp, nx, nt⟩ rs = some y) (h2 : Le B ⟨[(0, y)], hp, nx, 1⟩ ⟨[(0, x)], hp', nx', 1⟩) : retI P fn B x hp' nx' .normal ⟨sl, hp, nx, nt⟩ := retI_r hr h1 h2
theorem tu_le {ok : Nat → Bool} {cs ds : List V} (h : LLe ok cs ds) (hl : cs.length = ds.length) : VLe ok (.tu cs) (.tu ds) := by
  intro S rho A w v hr
  cases hr with
  | tu h1 h2 =>
    refine .tu (by omega) fun i x u hx hu => ?_
    have hi := (List.getElem?_eq_some_iff.1 hx).1
    have hy : cs[i]? = some cs[i] := List.getElem?_eq_getElem (by omega)
    exact h.2 i _ x hy hx _ _ _ _ _ (h2 i _ u hy hu)
theorem tu_nil {ok : Nat → Bool} : VLe ok (.tu []) (.tu []) := tu_le (LLe.nil _) rfl
theorem cell_eq {a b : Int} (h : a = b) : V.sc (.int .u8 a) = V.sc (.int .u8 b) := by rw [h]
set_option maxRecDepth 100000 in
set_option maxHeartbeats 4000000 in
theorem fb3 (x : Nat) (hx : x < 1000) : Inl Tryz.prog 104 [.sl 0 0 3 1 (some 24), .sc (.int .u64 x)] [(0, ⟨108, [.sc (.int .u8 0), .sc (.int .u8 0), .sc (.int .u8 0), .sc (.int .u8 0), .sc (.int .u8 0), .sc (.int .u8 0), .sc (.int .u8 0), .sc (.int .u8 0), .sc (.int .u8 0), .sc (.int .u8 0), .sc (.int .u8 0), .sc (.int .u8 0), .sc (.int .u8 0), .sc (.int .u8 0), .sc (.int .u8 0), .sc (.int .u8 0), .sc (.int .u8 0), .sc (.int .u8 0), .sc (.int .u8 0), .sc (.int .u8 0), .sc (.int .u8 0), .sc (.int .u8 0), .sc (.int .u8 0), .sc (.int .u8 0)], false⟩)] 1
      (.tu []) [(0, ⟨108, bN (decP 3 x) ++ [.sc (.int .u8 0), .sc (.int .u8 0), .sc (.int .u8 0), .sc (.int .u8 0), .sc (.int .u8 0), .sc (.int .u8 0), .sc (.int .u8 0), .sc (.int .u8 0), .sc (.int .u8 0), .sc (.int .u8 0), .sc (.int .u8 0), .sc (.int .u8 0), .sc (.int .u8 0), .sc (.int .u8 0), .sc (.int .u8 0), .sc (.int .u8 0), .sc (.int .u8 0), .sc (.int .u8 0), .sc (.int .u8 0), .sc (.int .u8 0), .sc (.int .u8 0)], false⟩)] 1 := by
  have he : bN (decP 3 x) ++ [.sc (.int .u8 0), .sc (.int .u8 0), .sc (.int .u8 0), .sc (.int .u8 0), .sc (.int .u8 0), .sc (.int .u8 0), .sc (.int .u8 0), .sc (.int .u8 0), .sc (.int .u8 0), .sc (.int .u8 0), .sc (.int .u8 0), .sc (.int .u8 0), .sc (.int .u8 0), .sc (.int .u8 0), .sc (.int .u8 0), .sc (.int .u8 0), .sc (.int .u8 0), .sc (.int .u8 0), .sc (.int .u8 0), .sc (.int .u8 0), .sc (.int .u8 0)] = [.sc (.int .u8 (48 + ((x : Int) / 100))), .sc (.int .u8 (48 + (x : Int) % 100 / 10)), .sc (.int .u8 (48 + (x : Int) % 100 % 10)), .sc (.int .u8 0), .sc (.int .u8 0), .sc (.int .u8 0), .sc (.int .u8 0), .sc (.int .u8 0), .sc (.int .u8 0), .sc (.int .u8 0), .sc (.int .u8 0), .sc (.int .u8 0), .sc (.int .u8 0), .sc (.int .u8 0), .sc (.int .u8 0), .sc (.int .u8 0), .sc (.int .u8 0), .sc (.int .u8 0), .sc (.int .u8 0), .sc (.int .u8 0), .sc (.int .u8 0), .sc (.int .u8 0), .sc (.int .u8 0), .sc (.int .u8 0)] := by
    simp only [decP, List.nil_append, List.cons_append, bN_cons, bN_nil, List.cons.injEq, and_true]
    refine ⟨?_, ?_, ?_⟩ <;> exact cell_eq (by omega)
  rw [he]; clear he
  refine Inl.run Tryz.func104 rfl Tryz.ntmps104 (by simp) (by simp (disch := omega) only [go_sem, Nat.reduceAdd]; rfl) fun B hB => ?_
  generalize hS : (ByteArray.mk (List.toArray _)) = S
  have hS2 : S = st smL := by rw [← hS]; kernel_rfl
  clear hS
  have s1 := sm_one hS2
  have s2 := sm_two hS2
  (repeat (first | refine DO.nil (by kernel_rfl) ?_ | (with_reducible refine oz (by constructor <;> decide) ?_) | ((with_reducible first | apply SC.condB | apply SC.region | apply SO.run | apply DO.run); (focus (simp (disch := omega) only [go_sem, ↓reduceIte] <;> rfl)); (first | refine pickT ?_ | refine pickF ?_ | fail_if_success with_reducible refine pickA ?_)) | ((with_reducible refine SC.draw Tab.mixed ?_ ?_); (focus rfl)) | (with_reducible apply SC.ops)))
  refine SC.loop (fun _ : Unit => ⟨[(0, .sl 0 0 3 1 (some 24)), (1, .sc (.int .u64 x)), (4, .sc (.int .i64 3))], [(0, ⟨108, [.sc (.int .u8 0), .sc (.int .u8 0), .sc (.int .u8 0), .sc (.int .u8 0), .sc (.int .u8 0), .sc (.int .u8 0), .sc (.int .u8 0), .sc (.int .u8 0), .sc (.int .u8 0), .sc (.int .u8 0), .sc (.int .u8 0), .sc (.int .u8 0), .sc (.int .u8 0), .sc (.int .u8 0), .sc (.int .u8 0), .sc (.int .u8 0), .sc (.int .u8 0), .sc (.int .u8 0), .sc (.int .u8 0), .sc (.int .u8 0), .sc (.int .u8 0), .sc (.int .u8 0), .sc (.int .u8 0), .sc (.int .u8 0)], false⟩)], 1, 167⟩) (fun _ => True) (fun _ => 0) () ?_ ?_ ?_
  · (refine Le.of [] hB (by first | exact ⟨Nat.zero_le _, fun _ _ => Nat.zero_le _⟩ | (constructor <;> (try simp) <;> (try omega))) ?_ ?_ <;> (repeat' (first | exact leSl_nil | exact leHp_nil | refine leSl_cons (by simp (disch := omega) only [go_sem, ↓reduceIte, Nat.reduceEqDiff, reduceCtorEq]; rfl) ?_ ?_ | refine leHp_cons (by simp (disch := omega) only [go_sem, ↓reduceIte]; rfl) ?_ ?_ | exact VLe.junk _ | exact VLe.refl rfl | exact VLe.nil_sl _ _ _ | exact VLe.int (by first | rfl | omega | (dsimp only; omega)) | exact VLe.bool rfl | exact VLe.sl rfl (by first | rfl | omega | (dsimp only; omega) | (simp; done)) | exact VLe.cap rfl (by first | rfl | omega | (dsimp only; omega) | (simp; done)) | exact VLe.im rfl rfl | exact HLe.new rfl | exact HLe.same rfl (LLe.refl rfl) | refine HLe.same rfl ?_ | exact LLe.nil _ | exact LLe.refl rfl | refine LLe.cons ?_ ?_)))
  · trivial
  · intro _ _ K hK
    clear hK
    (repeat (first | refine DO.nil (by kernel_rfl) ?_ | (with_reducible refine oz (by constructor <;> decide) ?_) | ((with_reducible first | apply SC.condB | apply SC.region | apply SO.run | apply DO.run); (focus (simp (disch := omega) only [go_sem, ↓reduceIte, Nat.reduceEqDiff, Nat.reduceLT, Nat.reduceLeDiff, Nat.reduceAdd, reduceCtorEq, Int.reduceToNat, if_pos, if_neg, s1, s2] <;> rfl)); (first | refine pickT ?_ | refine pickF ?_ | fail_if_success with_reducible refine pickA ?_)) | ((with_reducible refine SC.draw Tab.mixed ?_ ?_); (focus rfl)) | (with_reducible apply SC.ops)))
    refine retI_n Tryz.results104 rfl ?_
    (refine Le.of [] hB (by first | exact ⟨Nat.zero_le _, fun _ _ => Nat.zero_le _⟩ | (constructor <;> (try simp) <;> (try omega))) ?_ ?_ <;> (repeat' (first | exact leSl_nil | exact leHp_nil | refine leSl_cons (by simp (disch := omega) only [go_sem, ↓reduceIte]; rfl) ?_ ?_ | refine leHp_cons (by simp (disch := omega) only [go_sem, ↓reduceIte]; rfl) ?_ ?_ | exact VLe.junk _ | exact VLe.refl rfl | exact VLe.nil_sl _ _ _ | exact VLe.int (by first | rfl | omega | (dsimp only; omega)) | exact VLe.bool rfl | exact VLe.sl rfl (by first | rfl | omega | (dsimp only; omega) | (simp; done)) | exact VLe.cap rfl (by first | rfl | omega | (dsimp only; omega) | (simp; done)) | exact VLe.im rfl rfl | exact HLe.new rfl | exact HLe.same rfl (LLe.refl rfl) | refine HLe.same rfl ?_ | exact LLe.nil _ | exact LLe.refl rfl | refine LLe.cons ?_ ?_)))
    exact tu_nil
set_option maxRecDepth 100000 in
set_option maxHeartbeats 4000000 in
theorem fb4 (x : Nat) (hx : x < 10000) : Inl Tryz.prog 104 [.sl 0 0 4 1 (some 24), .sc (.int .u64 x)] [(0, ⟨108, [.sc (.int .u8 0), .sc (.int .u8 0), .sc (.int .u8 0), .sc (.int .u8 0), .sc (.int .u8 0), .sc (.int .u8 0), .sc (.int .u8 0), .sc (.int .u8 0), .sc (.int .u8 0), .sc (.int .u8 0), .sc (.int .u8 0), .sc (.int .u8 0), .sc (.int .u8 0), .sc (.int .u8 0), .sc (.int .u8 0), .sc (.int .u8 0), .sc (.int .u8 0), .sc (.int .u8 0), .sc (.int .u8 0), .sc (.int .u8 0), .sc (.int .u8 0), .sc (.int .u8 0), .sc (.int .u8 0), .sc (.int .u8 0)], false⟩)] 1
      (.tu []) [(0, ⟨108, bN (decP 4 x) ++ [.sc (.int .u8 0), .sc (.int .u8 0), .sc (.int .u8 0), .sc (.int .u8 0), .sc (.int .u8 0), .sc (.int .u8 0), .sc (.int .u8 0), .sc (.int .u8 0), .sc (.int .u8 0), .sc (.int .u8 0), .sc (.int .u8 0), .sc (.int .u8 0), .sc (.int .u8 0), .sc (.int .u8 0), .sc (.int .u8 0), .sc (.int .u8 0), .sc (.int .u8 0), .sc (.int .u8 0), .sc (.int .u8 0), .sc (.int .u8 0)], false⟩)] 1 := by
  have he : bN (decP 4 x) ++ [.sc (.int .u8 0), .sc (.int .u8 0), .sc (.int .u8 0), .sc (.int .u8 0), .sc (.int .u8 0), .sc (.int .u8 0), .sc (.int .u8 0), .sc (.int .u8 0), .sc (.int .u8 0), .sc (.int .u8 0), .sc (.int .u8 0), .sc (.int .u8 0), .sc (.int .u8 0), .sc (.int .u8 0), .sc (.int .u8 0), .sc (.int .u8 0), .sc (.int .u8 0), .sc (.int .u8 0), .sc (.int .u8 0), .sc (.int .u8 0)] = [.sc (.int .u8 (48 + ((x : Int) % 10000) / 100 / 10)), .sc (.int .u8 (48 + ((x : Int) % 10000) / 100 % 10)), .sc (.int .u8 (48 + ((x : Int) % 10000) % 100 / 10)), .sc (.int .u8 (48 + ((x : Int) % 10000) % 100 % 10)), .sc (.int .u8 0), .sc (.int .u8 0), .sc (.int .u8 0), .sc (.int .u8 0), .sc (.int .u8 0), .sc (.int .u8 0), .sc (.int .u8 0), .sc (.int .u8 0), .sc (.int .u8 0), .sc (.int .u8 0), .sc (.int .u8 0), .sc (.int .u8 0), .sc (.int .u8 0), .sc (.int .u8 0), .sc (.int .u8 0), .sc (.int .u8 0), .sc (.int .u8 0), .sc (.int .u8 0), .sc (.int .u8 0), .sc (.int .u8 0)] := by
    simp only [decP, List.nil_append, List.cons_append, bN_cons, bN_nil, List.cons.injEq, and_true]
    refine ⟨?_, ?_, ?_, ?_⟩ <;> exact cell_eq (by omega)
  rw [he]; clear he
  refine Inl.run Tryz.func104 rfl Tryz.ntmps104 (by simp) (by simp (disch := omega) only [go_sem, Nat.reduceAdd]; rfl) fun B hB => ?_
  generalize hS : (ByteArray.mk (List.toArray _)) = S
  have hS2 : S = st smL := by rw [← hS]; kernel_rfl
  clear hS
  have s1 := sm_one hS2
  have s2 := sm_two hS2
  (repeat (first | refine DO.nil (by kernel_rfl) ?_ | (with_reducible refine oz (by constructor <;> decide) ?_) | ((with_reducible first | apply SC.condB | apply SC.region | apply SO.run | apply DO.run); (focus (simp (disch := omega) only [go_sem, ↓reduceIte] <;> rfl)); (first | refine pickT ?_ | refine pickF ?_ | fail_if_success with_reducible refine pickA ?_)) | ((with_reducible refine SC.draw Tab.mixed ?_ ?_); (focus rfl)) | (with_reducible apply SC.ops)))
  refine SC.loop (fun _ : Unit => ⟨[(0, .sl 0 0 4 1 (some 24)), (1, .sc (.int .u64 x)), (4, .sc (.int .i64 4))], [(0, ⟨108, [.sc (.int .u8 0), .sc (.int .u8 0), .sc (.int .u8 0), .sc (.int .u8 0), .sc (.int .u8 0), .sc (.int .u8 0), .sc (.int .u8 0), .sc (.int .u8 0), .sc (.int .u8 0), .sc (.int .u8 0), .sc (.int .u8 0), .sc (.int .u8 0), .sc (.int .u8 0), .sc (.int .u8 0), .sc (.int .u8 0), .sc (.int .u8 0), .sc (.int .u8 0), .sc (.int .u8 0), .sc (.int .u8 0), .sc (.int .u8 0), .sc (.int .u8 0), .sc (.int .u8 0), .sc (.int .u8 0), .sc (.int .u8 0)], false⟩)], 1, 167⟩) (fun _ => True) (fun _ => 0) () ?_ ?_ ?_
  · (refine Le.of [] hB (by first | exact ⟨Nat.zero_le _, fun _ _ => Nat.zero_le _⟩ | (constructor <;> (try simp) <;> (try omega))) ?_ ?_ <;> (repeat' (first | exact leSl_nil | exact leHp_nil | refine leSl_cons (by simp (disch := omega) only [go_sem, ↓reduceIte, Nat.reduceEqDiff, reduceCtorEq]; rfl) ?_ ?_ | refine leHp_cons (by simp (disch := omega) only [go_sem, ↓reduceIte]; rfl) ?_ ?_ | exact VLe.junk _ | exact VLe.refl rfl | exact VLe.nil_sl _ _ _ | exact VLe.int (by first | rfl | omega | (dsimp only; omega)) | exact VLe.bool rfl | exact VLe.sl rfl (by first | rfl | omega | (dsimp only; omega) | (simp; done)) | exact VLe.cap rfl (by first | rfl | omega | (dsimp only; omega) | (simp; done)) | exact VLe.im rfl rfl | exact HLe.new rfl | exact HLe.same rfl (LLe.refl rfl) | refine HLe.same rfl ?_ | exact LLe.nil _ | exact LLe.refl rfl | refine LLe.cons ?_ ?_)))
  · trivial
  · intro _ _ K hK
    clear hK
    (repeat (first | refine DO.nil (by kernel_rfl) ?_ | (with_reducible refine oz (by constructor <;> decide) ?_) | ((with_reducible first | apply SC.condB | apply SC.region | apply SO.run | apply DO.run); (focus (simp (disch := omega) only [go_sem, ↓reduceIte, Nat.reduceEqDiff, Nat.reduceLeDiff, Nat.reduceAdd, reduceCtorEq, if_pos, if_neg, s1, s2] <;> rfl)); (first | refine pickT ?_ | refine pickF ?_ | fail_if_success with_reducible refine pickA ?_)) | ((with_reducible refine SC.draw Tab.mixed ?_ ?_); (focus rfl)) | (with_reducible apply SC.ops)))
    refine retI_n Tryz.results104 rfl ?_
    (refine Le.of [] hB (by first | exact ⟨Nat.zero_le _, fun _ _ => Nat.zero_le _⟩ | (constructor <;> (try simp) <;> (try omega))) ?_ ?_ <;> (repeat' (first | exact leSl_nil | exact leHp_nil | refine leSl_cons (by simp (disch := omega) only [go_sem, ↓reduceIte]; rfl) ?_ ?_ | refine leHp_cons (by simp (disch := omega) only [go_sem, ↓reduceIte]; rfl) ?_ ?_ | exact VLe.junk _ | exact VLe.refl rfl | exact VLe.nil_sl _ _ _ | exact VLe.int (by first | rfl | omega | (dsimp only; omega)) | exact VLe.bool rfl | exact VLe.sl rfl (by first | rfl | omega | (dsimp only; omega) | (simp; done)) | exact VLe.cap rfl (by first | rfl | omega | (dsimp only; omega) | (simp; done)) | exact VLe.im rfl rfl | exact HLe.new rfl | exact HLe.same rfl (LLe.refl rfl) | refine HLe.same rfl ?_ | exact LLe.nil _ | exact LLe.refl rfl | refine LLe.cons ?_ ?_)))
    exact tu_nil
set_option maxRecDepth 100000 in
set_option maxHeartbeats 4000000 in
theorem fb5 (x : Nat) (hx : x < 100000) : Inl Tryz.prog 104 [.sl 0 0 5 1 (some 24), .sc (.int .u64 x)] [(0, ⟨108, [.sc (.int .u8 0), .sc (.int .u8 0), .sc (.int .u8 0), .sc (.int .u8 0), .sc (.int .u8 0), .sc (.int .u8 0), .sc (.int .u8 0), .sc (.int .u8 0), .sc (.int .u8 0), .sc (.int .u8 0), .sc (.int .u8 0), .sc (.int .u8 0), .sc (.int .u8 0), .sc (.int .u8 0), .sc (.int .u8 0), .sc (.int .u8 0), .sc (.int .u8 0), .sc (.int .u8 0), .sc (.int .u8 0), .sc (.int .u8 0), .sc (.int .u8 0), .sc (.int .u8 0), .sc (.int .u8 0), .sc (.int .u8 0)], false⟩)] 1
      (.tu []) [(0, ⟨108, bN (decP 5 x) ++ [.sc (.int .u8 0), .sc (.int .u8 0), .sc (.int .u8 0), .sc (.int .u8 0), .sc (.int .u8 0), .sc (.int .u8 0), .sc (.int .u8 0), .sc (.int .u8 0), .sc (.int .u8 0), .sc (.int .u8 0), .sc (.int .u8 0), .sc (.int .u8 0), .sc (.int .u8 0), .sc (.int .u8 0), .sc (.int .u8 0), .sc (.int .u8 0), .sc (.int .u8 0), .sc (.int .u8 0), .sc (.int .u8 0)], false⟩)] 1 := by
  have he : bN (decP 5 x) ++ [.sc (.int .u8 0), .sc (.int .u8 0), .sc (.int .u8 0), .sc (.int .u8 0), .sc (.int .u8 0), .sc (.int .u8 0), .sc (.int .u8 0), .sc (.int .u8 0), .sc (.int .u8 0), .sc (.int .u8 0), .sc (.int .u8 0), .sc (.int .u8 0), .sc (.int .u8 0), .sc (.int .u8 0), .sc (.int .u8 0), .sc (.int .u8 0), .sc (.int .u8 0), .sc (.int .u8 0), .sc (.int .u8 0)] = [.sc (.int .u8 (48 + ((x : Int) / 10000))), .sc (.int .u8 (48 + ((x : Int) % 10000) / 100 / 10)), .sc (.int .u8 (48 + ((x : Int) % 10000) / 100 % 10)), .sc (.int .u8 (48 + ((x : Int) % 10000) % 100 / 10)), .sc (.int .u8 (48 + ((x : Int) % 10000) % 100 % 10)), .sc (.int .u8 0), .sc (.int .u8 0), .sc (.int .u8 0), .sc (.int .u8 0), .sc (.int .u8 0), .sc (.int .u8 0), .sc (.int .u8 0), .sc (.int .u8 0), .sc (.int .u8 0), .sc (.int .u8 0), .sc (.int .u8 0), .sc (.int .u8 0), .sc (.int .u8 0), .sc (.int .u8 0), .sc (.int .u8 0), .sc (.int .u8 0), .sc (.int .u8 0), .sc (.int .u8 0), .sc (.int .u8 0)] := by
    simp only [decP, List.nil_append, List.cons_append, bN_cons, bN_nil, List.cons.injEq, and_true]
    refine ⟨?_, ?_, ?_, ?_, ?_⟩ <;> exact cell_eq (by omega)
  rw [he]; clear he
  refine Inl.run Tryz.func104 rfl Tryz.ntmps104 (by simp) (by simp (disch := omega) only [go_sem, Nat.reduceAdd]; rfl) fun B hB => ?_
  generalize hS : (ByteArray.mk (List.toArray _)) = S
  have hS2 : S = st smL := by rw [← hS]; kernel_rfl
  clear hS
  have s1 := sm_one hS2
  have s2 := sm_two hS2
  (repeat (first | refine DO.nil (by kernel_rfl) ?_ | (with_reducible refine oz (by constructor <;> decide) ?_) | ((with_reducible first | apply SC.condB | apply SC.region | apply SO.run | apply DO.run); (focus (simp (disch := omega) only [go_sem, ↓reduceIte] <;> rfl)); (first | refine pickT ?_ | refine pickF ?_ | fail_if_success with_reducible refine pickA ?_)) | ((with_reducible refine SC.draw Tab.mixed ?_ ?_); (focus rfl)) | (with_reducible apply SC.ops)))
  refine SC.loop (fun _ : Unit => ⟨[(0, .sl 0 0 5 1 (some 24)), (1, .sc (.int .u64 x)), (4, .sc (.int .i64 5))], [(0, ⟨108, [.sc (.int .u8 0), .sc (.int .u8 0), .sc (.int .u8 0), .sc (.int .u8 0), .sc (.int .u8 0), .sc (.int .u8 0), .sc (.int .u8 0), .sc (.int .u8 0), .sc (.int .u8 0), .sc (.int .u8 0), .sc (.int .u8 0), .sc (.int .u8 0), .sc (.int .u8 0), .sc (.int .u8 0), .sc (.int .u8 0), .sc (.int .u8 0), .sc (.int .u8 0), .sc (.int .u8 0), .sc (.int .u8 0), .sc (.int .u8 0), .sc (.int .u8 0), .sc (.int .u8 0), .sc (.int .u8 0), .sc (.int .u8 0)], false⟩)], 1, 167⟩) (fun _ => True) (fun _ => 0) () ?_ ?_ ?_
  · (refine Le.of [] hB (by first | exact ⟨Nat.zero_le _, fun _ _ => Nat.zero_le _⟩ | (constructor <;> (try simp) <;> (try omega))) ?_ ?_ <;> (repeat' (first | exact leSl_nil | exact leHp_nil | refine leSl_cons (by simp (disch := omega) only [go_sem, ↓reduceIte, Nat.reduceEqDiff, reduceCtorEq]; rfl) ?_ ?_ | refine leHp_cons (by simp (disch := omega) only [go_sem, ↓reduceIte]; rfl) ?_ ?_ | exact VLe.junk _ | exact VLe.refl rfl | exact VLe.nil_sl _ _ _ | exact VLe.int (by first | rfl | omega | (dsimp only; omega)) | exact VLe.bool rfl | exact VLe.sl rfl (by first | rfl | omega | (dsimp only; omega) | (simp; done)) | exact VLe.cap rfl (by first | rfl | omega | (dsimp only; omega) | (simp; done)) | exact VLe.im rfl rfl | exact HLe.new rfl | exact HLe.same rfl (LLe.refl rfl) | refine HLe.same rfl ?_ | exact LLe.nil _ | exact LLe.refl rfl | refine LLe.cons ?_ ?_)))
  · trivial
  · intro _ _ K hK
    clear hK
    (repeat (first | refine DO.nil (by kernel_rfl) ?_ | (with_reducible refine oz (by constructor <;> decide) ?_) | ((with_reducible first | apply SC.condB | apply SC.region | apply SO.run | apply DO.run); (focus (simp (disch := omega) only [go_sem, ↓reduceIte, Nat.reduceEqDiff, Nat.reduceLT, Nat.reduceLeDiff, Nat.reduceAdd, reduceCtorEq, Int.reduceToNat, if_pos, if_neg, s1, s2] <;> rfl)); (first | refine pickT ?_ | refine pickF ?_ | fail_if_success with_reducible refine pickA ?_)) | ((with_reducible refine SC.draw Tab.mixed ?_ ?_); (focus rfl)) | (with_reducible apply SC.ops)))
    refine retI_n Tryz.results104 rfl ?_
    (refine Le.of [] hB (by first | exact ⟨Nat.zero_le _, fun _ _ => Nat.zero_le _⟩ | (constructor <;> (try simp) <;> (try omega))) ?_ ?_ <;> (repeat' (first | exact leSl_nil | exact leHp_nil | refine leSl_cons (by simp (disch := omega) only [go_sem, ↓reduceIte]; rfl) ?_ ?_ | refine leHp_cons (by simp (disch := omega) only [go_sem, ↓reduceIte]; rfl) ?_ ?_ | exact VLe.junk _ | exact VLe.refl rfl | exact VLe.nil_sl _ _ _ | exact VLe.int (by first | rfl | omega | (dsimp only; omega)) | exact VLe.bool rfl | exact VLe.sl rfl (by first | rfl | omega | (dsimp only; omega) | (simp; done)) | exact VLe.cap rfl (by first | rfl | omega | (dsimp only; omega) | (simp; done)) | exact VLe.im rfl rfl | exact HLe.new rfl | exact HLe.same rfl (LLe.refl rfl) | refine HLe.same rfl ?_ | exact LLe.nil _ | exact LLe.refl rfl | refine LLe.cons ?_ ?_)))
    exact tu_nil
set_option maxRecDepth 100000 in
set_option maxHeartbeats 4000000 in
theorem fb6 (x : Nat) (hx : x < 1000000) : Inl Tryz.prog 104 [.sl 0 0 6 1 (some 24), .sc (.int .u64 x)] [(0, ⟨108, [.sc (.int .u8 0), .sc (.int .u8 0), .sc (.int .u8 0), .sc (.int .u8 0), .sc (.int .u8 0), .sc (.int .u8 0), .sc (.int .u8 0), .sc (.int .u8 0), .sc (.int .u8 0), .sc (.int .u8 0), .sc (.int .u8 0), .sc (.int .u8 0), .sc (.int .u8 0), .sc (.int .u8 0), .sc (.int .u8 0), .sc (.int .u8 0), .sc (.int .u8 0), .sc (.int .u8 0), .sc (.int .u8 0), .sc (.int .u8 0), .sc (.int .u8 0), .sc (.int .u8 0), .sc (.int .u8 0), .sc (.int .u8 0)], false⟩)] 1
      (.tu []) [(0, ⟨108, bN (decP 6 x) ++ [.sc (.int .u8 0), .sc (.int .u8 0), .sc (.int .u8 0), .sc (.int .u8 0), .sc (.int .u8 0), .sc (.int .u8 0), .sc (.int .u8 0), .sc (.int .u8 0), .sc (.int .u8 0), .sc (.int .u8 0), .sc (.int .u8 0), .sc (.int .u8 0), .sc (.int .u8 0), .sc (.int .u8 0), .sc (.int .u8 0), .sc (.int .u8 0), .sc (.int .u8 0), .sc (.int .u8 0)], false⟩)] 1 := by
  have he : bN (decP 6 x) ++ [.sc (.int .u8 0), .sc (.int .u8 0), .sc (.int .u8 0), .sc (.int .u8 0), .sc (.int .u8 0), .sc (.int .u8 0), .sc (.int .u8 0), .sc (.int .u8 0), .sc (.int .u8 0), .sc (.int .u8 0), .sc (.int .u8 0), .sc (.int .u8 0), .sc (.int .u8 0), .sc (.int .u8 0), .sc (.int .u8 0), .sc (.int .u8 0), .sc (.int .u8 0), .sc (.int .u8 0)] = [.sc (.int .u8 (48 + ((x : Int) / 10000) % 100 / 10)), .sc (.int .u8 (48 + ((x : Int) / 10000) % 100 % 10)), .sc (.int .u8 (48 + ((x : Int) % 10000) / 100 / 10)), .sc (.int .u8 (48 + ((x : Int) % 10000) / 100 % 10)), .sc (.int .u8 (48 + ((x : Int) % 10000) % 100 / 10)), .sc (.int .u8 (48 + ((x : Int) % 10000) % 100 % 10)), .sc (.int .u8 0), .sc (.int .u8 0), .sc (.int .u8 0), .sc (.int .u8 0), .sc (.int .u8 0), .sc (.int .u8 0), .sc (.int .u8 0), .sc (.int .u8 0), .sc (.int .u8 0), .sc (.int .u8 0), .sc (.int .u8 0), .sc (.int .u8 0), .sc (.int .u8 0), .sc (.int .u8 0), .sc (.int .u8 0), .sc (.int .u8 0), .sc (.int .u8 0), .sc (.int .u8 0)] := by
    simp only [decP, List.nil_append, List.cons_append, bN_cons, bN_nil, List.cons.injEq, and_true]
    refine ⟨?_, ?_, ?_, ?_, ?_, ?_⟩ <;> exact cell_eq (by omega)
  rw [he]; clear he
  refine Inl.run Tryz.func104 rfl Tryz.ntmps104 (by simp) (by simp (disch := omega) only [go_sem, Nat.reduceAdd]; rfl) fun B hB => ?_
  generalize hS : (ByteArray.mk (List.toArray _)) = S
  have hS2 : S = st smL := by rw [← hS]; kernel_rfl
  clear hS
  have s1 := sm_one hS2
  have s2 := sm_two hS2
  (repeat (first | refine DO.nil (by kernel_rfl) ?_ | (with_reducible refine oz (by constructor <;> decide) ?_) | ((with_reducible first | apply SC.condB | apply SC.region | apply SO.run | apply DO.run); (focus (simp (disch := omega) only [go_sem, ↓reduceIte] <;> rfl)); (first | refine pickT ?_ | refine pickF ?_ | fail_if_success with_reducible refine pickA ?_)) | ((with_reducible refine SC.draw Tab.mixed ?_ ?_); (focus rfl)) | (with_reducible apply SC.ops)))
  refine SC.loop (fun _ : Unit => ⟨[(0, .sl 0 0 6 1 (some 24)), (1, .sc (.int .u64 x)), (4, .sc (.int .i64 6))], [(0, ⟨108, [.sc (.int .u8 0), .sc (.int .u8 0), .sc (.int .u8 0), .sc (.int .u8 0), .sc (.int .u8 0), .sc (.int .u8 0), .sc (.int .u8 0), .sc (.int .u8 0), .sc (.int .u8 0), .sc (.int .u8 0), .sc (.int .u8 0), .sc (.int .u8 0), .sc (.int .u8 0), .sc (.int .u8 0), .sc (.int .u8 0), .sc (.int .u8 0), .sc (.int .u8 0), .sc (.int .u8 0), .sc (.int .u8 0), .sc (.int .u8 0), .sc (.int .u8 0), .sc (.int .u8 0), .sc (.int .u8 0), .sc (.int .u8 0)], false⟩)], 1, 167⟩) (fun _ => True) (fun _ => 0) () ?_ ?_ ?_
  · (refine Le.of [] hB (by first | exact ⟨Nat.zero_le _, fun _ _ => Nat.zero_le _⟩ | (constructor <;> (try simp) <;> (try omega))) ?_ ?_ <;> (repeat' (first | exact leSl_nil | exact leHp_nil | refine leSl_cons (by simp (disch := omega) only [go_sem, ↓reduceIte, Nat.reduceEqDiff, reduceCtorEq]; rfl) ?_ ?_ | refine leHp_cons (by simp (disch := omega) only [go_sem, ↓reduceIte]; rfl) ?_ ?_ | exact VLe.junk _ | exact VLe.refl rfl | exact VLe.nil_sl _ _ _ | exact VLe.int (by first | rfl | omega | (dsimp only; omega)) | exact VLe.bool rfl | exact VLe.sl rfl (by first | rfl | omega | (dsimp only; omega) | (simp; done)) | exact VLe.cap rfl (by first | rfl | omega | (dsimp only; omega) | (simp; done)) | exact VLe.im rfl rfl | exact HLe.new rfl | exact HLe.same rfl (LLe.refl rfl) | refine HLe.same rfl ?_ | exact LLe.nil _ | exact LLe.refl rfl | refine LLe.cons ?_ ?_)))
  · trivial
  · intro _ _ K hK
    clear hK
    (repeat (first | refine DO.nil (by kernel_rfl) ?_ | (with_reducible refine oz (by constructor <;> decide) ?_) | ((with_reducible first | apply SC.condB | apply SC.region | apply SO.run | apply DO.run); (focus (simp (disch := omega) only [go_sem, ↓reduceIte, Nat.reduceEqDiff, Nat.reduceLeDiff, Nat.reduceAdd, reduceCtorEq, if_pos, if_neg, s1, s2] <;> rfl)); (first | refine pickT ?_ | refine pickF ?_ | fail_if_success with_reducible refine pickA ?_)) | ((with_reducible refine SC.draw Tab.mixed ?_ ?_); (focus rfl)) | (with_reducible apply SC.ops)))
    refine retI_n Tryz.results104 rfl ?_
    (refine Le.of [] hB (by first | exact ⟨Nat.zero_le _, fun _ _ => Nat.zero_le _⟩ | (constructor <;> (try simp) <;> (try omega))) ?_ ?_ <;> (repeat' (first | exact leSl_nil | exact leHp_nil | refine leSl_cons (by simp (disch := omega) only [go_sem, ↓reduceIte]; rfl) ?_ ?_ | refine leHp_cons (by simp (disch := omega) only [go_sem, ↓reduceIte]; rfl) ?_ ?_ | exact VLe.junk _ | exact VLe.refl rfl | exact VLe.nil_sl _ _ _ | exact VLe.int (by first | rfl | omega | (dsimp only; omega)) | exact VLe.bool rfl | exact VLe.sl rfl (by first | rfl | omega | (dsimp only; omega) | (simp; done)) | exact VLe.cap rfl (by first | rfl | omega | (dsimp only; omega) | (simp; done)) | exact VLe.im rfl rfl | exact HLe.new rfl | exact HLe.same rfl (LLe.refl rfl) | refine HLe.same rfl ?_ | exact LLe.nil _ | exact LLe.refl rfl | refine LLe.cons ?_ ?_)))
    exact tu_nil
set_option maxRecDepth 100000 in
set_option maxHeartbeats 4000000 in
theorem fb7 (x : Nat) (hx : x < 10000000) : Inl Tryz.prog 104 [.sl 0 0 7 1 (some 24), .sc (.int .u64 x)] [(0, ⟨108, [.sc (.int .u8 0), .sc (.int .u8 0), .sc (.int .u8 0), .sc (.int .u8 0), .sc (.int .u8 0), .sc (.int .u8 0), .sc (.int .u8 0), .sc (.int .u8 0), .sc (.int .u8 0), .sc (.int .u8 0), .sc (.int .u8 0), .sc (.int .u8 0), .sc (.int .u8 0), .sc (.int .u8 0), .sc (.int .u8 0), .sc (.int .u8 0), .sc (.int .u8 0), .sc (.int .u8 0), .sc (.int .u8 0), .sc (.int .u8 0), .sc (.int .u8 0), .sc (.int .u8 0), .sc (.int .u8 0), .sc (.int .u8 0)], false⟩)] 1
      (.tu []) [(0, ⟨108, bN (decP 7 x) ++ [.sc (.int .u8 0), .sc (.int .u8 0), .sc (.int .u8 0), .sc (.int .u8 0), .sc (.int .u8 0), .sc (.int .u8 0), .sc (.int .u8 0), .sc (.int .u8 0), .sc (.int .u8 0), .sc (.int .u8 0), .sc (.int .u8 0), .sc (.int .u8 0), .sc (.int .u8 0), .sc (.int .u8 0), .sc (.int .u8 0), .sc (.int .u8 0), .sc (.int .u8 0)], false⟩)] 1 := by
  have he : bN (decP 7 x) ++ [.sc (.int .u8 0), .sc (.int .u8 0), .sc (.int .u8 0), .sc (.int .u8 0), .sc (.int .u8 0), .sc (.int .u8 0), .sc (.int .u8 0), .sc (.int .u8 0), .sc (.int .u8 0), .sc (.int .u8 0), .sc (.int .u8 0), .sc (.int .u8 0), .sc (.int .u8 0), .sc (.int .u8 0), .sc (.int .u8 0), .sc (.int .u8 0), .sc (.int .u8 0)] = [.sc (.int .u8 (48 + (((x : Int) / 10000) / 100))), .sc (.int .u8 (48 + ((x : Int) / 10000) % 100 / 10)), .sc (.int .u8 (48 + ((x : Int) / 10000) % 100 % 10)), .sc (.int .u8 (48 + ((x : Int) % 10000) / 100 / 10)), .sc (.int .u8 (48 + ((x : Int) % 10000) / 100 % 10)), .sc (.int .u8 (48 + ((x : Int) % 10000) % 100 / 10)), .sc (.int .u8 (48 + ((x : Int) % 10000) % 100 % 10)), .sc (.int .u8 0), .sc (.int .u8 0), .sc (.int .u8 0), .sc (.int .u8 0), .sc (.int .u8 0), .sc (.int .u8 0), .sc (.int .u8 0), .sc (.int .u8 0), .sc (.int .u8 0), .sc (.int .u8 0), .sc (.int .u8 0), .sc (.int .u8 0), .sc (.int .u8 0), .sc (.int .u8 0), .sc (.int .u8 0), .sc (.int .u8 0), .sc (.int .u8 0)] := by
    simp only [decP, List.nil_append, List.cons_append, bN_cons, bN_nil, List.cons.injEq, and_true]
    refine ⟨?_, ?_, ?_, ?_, ?_, ?_, ?_⟩ <;> exact cell_eq (by omega)
  rw [he]; clear he
  refine Inl.run Tryz.func104 rfl Tryz.ntmps104 (by simp) (by simp (disch := omega) only [go_sem, Nat.reduceAdd]; rfl) fun B hB => ?_
  generalize hS : (ByteArray.mk (List.toArray _)) = S
  have hS2 : S = st smL := by rw [← hS]; kernel_rfl
  clear hS
  have s1 := sm_one hS2
  have s2 := sm_two hS2
  (repeat (first | refine DO.nil (by kernel_rfl) ?_ | (with_reducible refine oz (by constructor <;> decide) ?_) | ((with_reducible first | apply SC.condB | apply SC.region | apply SO.run | apply DO.run); (focus (simp (disch := omega) only [go_sem, ↓reduceIte] <;> rfl)); (first | refine pickT ?_ | refine pickF ?_ | fail_if_success with_reducible refine pickA ?_)) | ((with_reducible refine SC.draw Tab.mixed ?_ ?_); (focus rfl)) | (with_reducible apply SC.ops)))
  refine SC.loop (fun _ : Unit => ⟨[(0, .sl 0 0 7 1 (some 24)), (1, .sc (.int .u64 x)), (4, .sc (.int .i64 7))], [(0, ⟨108, [.sc (.int .u8 0), .sc (.int .u8 0), .sc (.int .u8 0), .sc (.int .u8 0), .sc (.int .u8 0), .sc (.int .u8 0), .sc (.int .u8 0), .sc (.int .u8 0), .sc (.int .u8 0), .sc (.int .u8 0), .sc (.int .u8 0), .sc (.int .u8 0), .sc (.int .u8 0), .sc (.int .u8 0), .sc (.int .u8 0), .sc (.int .u8 0), .sc (.int .u8 0), .sc (.int .u8 0), .sc (.int .u8 0), .sc (.int .u8 0), .sc (.int .u8 0), .sc (.int .u8 0), .sc (.int .u8 0), .sc (.int .u8 0)], false⟩)], 1, 167⟩) (fun _ => True) (fun _ => 0) () ?_ ?_ ?_
  · (refine Le.of [] hB (by first | exact ⟨Nat.zero_le _, fun _ _ => Nat.zero_le _⟩ | (constructor <;> (try simp) <;> (try omega))) ?_ ?_ <;> (repeat' (first | exact leSl_nil | exact leHp_nil | refine leSl_cons (by simp (disch := omega) only [go_sem, ↓reduceIte, Nat.reduceEqDiff, reduceCtorEq]; rfl) ?_ ?_ | refine leHp_cons (by simp (disch := omega) only [go_sem, ↓reduceIte]; rfl) ?_ ?_ | exact VLe.junk _ | exact VLe.refl rfl | exact VLe.nil_sl _ _ _ | exact VLe.int (by first | rfl | omega | (dsimp only; omega)) | exact VLe.bool rfl | exact VLe.sl rfl (by first | rfl | omega | (dsimp only; omega) | (simp; done)) | exact VLe.cap rfl (by first | rfl | omega | (dsimp only; omega) | (simp; done)) | exact VLe.im rfl rfl | exact HLe.new rfl | exact HLe.same rfl (LLe.refl rfl) | refine HLe.same rfl ?_ | exact LLe.nil _ | exact LLe.refl rfl | refine LLe.cons ?_ ?_)))
  · trivial
  · intro _ _ K hK
    clear hK
    (repeat (first | refine DO.nil (by kernel_rfl) ?_ | (with_reducible refine oz (by constructor <;> decide) ?_) | ((with_reducible first | apply SC.condB | apply SC.region | apply SO.run | apply DO.run); (focus (simp (disch := omega) only [go_sem, ↓reduceIte, Nat.reduceEqDiff, Nat.reduceLT, Nat.reduceLeDiff, Nat.reduceAdd, reduceCtorEq, Int.reduceToNat, if_pos, if_neg, s1, s2] <;> rfl)); (first | refine pickT ?_ | refine pickF ?_ | fail_if_success with_reducible refine pickA ?_)) | ((with_reducible refine SC.draw Tab.mixed ?_ ?_); (focus rfl)) | (with_reducible apply SC.ops)))
    refine retI_n Tryz.results104 rfl ?_
    (refine Le.of [] hB (by first | exact ⟨Nat.zero_le _, fun _ _ => Nat.zero_le _⟩ | (constructor <;> (try simp) <;> (try omega))) ?_ ?_ <;> (repeat' (first | exact leSl_nil | exact leHp_nil | refine leSl_cons (by simp (disch := omega) only [go_sem, ↓reduceIte]; rfl) ?_ ?_ | refine leHp_cons (by simp (disch := omega) only [go_sem, ↓reduceIte]; rfl) ?_ ?_ | exact VLe.junk _ | exact VLe.refl rfl | exact VLe.nil_sl _ _ _ | exact VLe.int (by first | rfl | omega | (dsimp only; omega)) | exact VLe.bool rfl | exact VLe.sl rfl (by first | rfl | omega | (dsimp only; omega) | (simp; done)) | exact VLe.cap rfl (by first | rfl | omega | (dsimp only; omega) | (simp; done)) | exact VLe.im rfl rfl | exact HLe.new rfl | exact HLe.same rfl (LLe.refl rfl) | refine HLe.same rfl ?_ | exact LLe.nil _ | exact LLe.refl rfl | refine LLe.cons ?_ ?_)))
    exact tu_nil
set_option maxRecDepth 100000 in
set_option maxHeartbeats 4000000 in
theorem fb8 (x : Nat) (hx : x < 100000000) : Inl Tryz.prog 104 [.sl 0 0 8 1 (some 24), .sc (.int .u64 x)] [(0, ⟨108, [.sc (.int .u8 0), .sc (.int .u8 0), .sc (.int .u8 0), .sc (.int .u8 0), .sc (.int .u8 0), .sc (.int .u8 0), .sc (.int .u8 0), .sc (.int .u8 0), .sc (.int .u8 0), .sc (.int .u8 0), .sc (.int .u8 0), .sc (.int .u8 0), .sc (.int .u8 0), .sc (.int .u8 0), .sc (.int .u8 0), .sc (.int .u8 0), .sc (.int .u8 0), .sc (.int .u8 0), .sc (.int .u8 0), .sc (.int .u8 0), .sc (.int .u8 0), .sc (.int .u8 0), .sc (.int .u8 0), .sc (.int .u8 0)], false⟩)] 1
      (.tu []) [(0, ⟨108, bN (decP 8 x) ++ [.sc (.int .u8 0), .sc (.int .u8 0), .sc (.int .u8 0), .sc (.int .u8 0), .sc (.int .u8 0), .sc (.int .u8 0), .sc (.int .u8 0), .sc (.int .u8 0), .sc (.int .u8 0), .sc (.int .u8 0), .sc (.int .u8 0), .sc (.int .u8 0), .sc (.int .u8 0), .sc (.int .u8 0), .sc (.int .u8 0), .sc (.int .u8 0)], false⟩)] 1 := by
  have he : bN (decP 8 x) ++ [.sc (.int .u8 0), .sc (.int .u8 0), .sc (.int .u8 0), .sc (.int .u8 0), .sc (.int .u8 0), .sc (.int .u8 0), .sc (.int .u8 0), .sc (.int .u8 0), .sc (.int .u8 0), .sc (.int .u8 0), .sc (.int .u8 0), .sc (.int .u8 0), .sc (.int .u8 0), .sc (.int .u8 0), .sc (.int .u8 0), .sc (.int .u8 0)] = [.sc (.int .u8 (48 + (((x : Int) % 100000000) / 10000) / 100 / 10)), .sc (.int .u8 (48 + (((x : Int) % 100000000) / 10000) / 100 % 10)), .sc (.int .u8 (48 + (((x : Int) % 100000000) / 10000) % 100 / 10)), .sc (.int .u8 (48 + (((x : Int) % 100000000) / 10000) % 100 % 10)), .sc (.int .u8 (48 + (((x : Int) % 100000000) % 10000) / 100 / 10)), .sc (.int .u8 (48 + (((x : Int) % 100000000) % 10000) / 100 % 10)), .sc (.int .u8 (48 + (((x : Int) % 100000000) % 10000) % 100 / 10)), .sc (.int .u8 (48 + (((x : Int) % 100000000) % 10000) % 100 % 10)), .sc (.int .u8 0), .sc (.int .u8 0), .sc (.int .u8 0), .sc (.int .u8 0), .sc (.int .u8 0), .sc (.int .u8 0), .sc (.int .u8 0), .sc (.int .u8 0), .sc (.int .u8 0), .sc (.int .u8 0), .sc (.int .u8 0), .sc (.int .u8 0), .sc (.int .u8 0), .sc (.int .u8 0), .sc (.int .u8 0), .sc (.int .u8 0)] := by
    simp only [decP, List.nil_append, List.cons_append, bN_cons, bN_nil, List.cons.injEq, and_true]
    refine ⟨?_, ?_, ?_, ?_, ?_, ?_, ?_, ?_⟩ <;> exact cell_eq (by omega)
  rw [he]; clear he
  refine Inl.run Tryz.func104 rfl Tryz.ntmps104 (by simp) (by simp (disch := omega) only [go_sem, Nat.reduceAdd]; rfl) fun B hB => ?_
  generalize hS : (ByteArray.mk (List.toArray _)) = S
  have hS2 : S = st smL := by rw [← hS]; kernel_rfl
  clear hS
  have s1 := sm_one hS2
  have s2 := sm_two hS2
  (repeat (first | refine DO.nil (by kernel_rfl) ?_ | (with_reducible refine oz (by constructor <;> decide) ?_) | ((with_reducible first | apply SC.condB | apply SC.region | apply SO.run | apply DO.run); (focus (simp (disch := omega) only [go_sem, ↓reduceIte] <;> rfl)); (first | refine pickT ?_ | refine pickF ?_ | fail_if_success with_reducible refine pickA ?_)) | ((with_reducible refine SC.draw Tab.mixed ?_ ?_); (focus rfl)) | (with_reducible apply SC.ops)))
  refine SC.loop (fun b : Bool => ⟨[(0, .sl 0 0 8 1 (some 24)), (1, .sc (.int .u64 (bif b then (x : Int) else (x : Int) / 100000000))), (4, .sc (.int .i64 (bif b then 8 else 0)))], [(0, ⟨108, bif b then [.sc (.int .u8 0), .sc (.int .u8 0), .sc (.int .u8 0), .sc (.int .u8 0), .sc (.int .u8 0), .sc (.int .u8 0), .sc (.int .u8 0), .sc (.int .u8 0), .sc (.int .u8 0), .sc (.int .u8 0), .sc (.int .u8 0), .sc (.int .u8 0), .sc (.int .u8 0), .sc (.int .u8 0), .sc (.int .u8 0), .sc (.int .u8 0), .sc (.int .u8 0), .sc (.int .u8 0), .sc (.int .u8 0), .sc (.int .u8 0), .sc (.int .u8 0), .sc (.int .u8 0), .sc (.int .u8 0), .sc (.int .u8 0)] else [.sc (.int .u8 (48 + (((x : Int) % 100000000) / 10000) / 100 / 10)), .sc (.int .u8 (48 + (((x : Int) % 100000000) / 10000) / 100 % 10)), .sc (.int .u8 (48 + (((x : Int) % 100000000) / 10000) % 100 / 10)), .sc (.int .u8 (48 + (((x : Int) % 100000000) / 10000) % 100 % 10)), .sc (.int .u8 (48 + (((x : Int) % 100000000) % 10000) / 100 / 10)), .sc (.int .u8 (48 + (((x : Int) % 100000000) % 10000) / 100 % 10)), .sc (.int .u8 (48 + (((x : Int) % 100000000) % 10000) % 100 / 10)), .sc (.int .u8 (48 + (((x : Int) % 100000000) % 10000) % 100 % 10)), .sc (.int .u8 0), .sc (.int .u8 0), .sc (.int .u8 0), .sc (.int .u8 0), .sc (.int .u8 0), .sc (.int .u8 0), .sc (.int .u8 0), .sc (.int .u8 0), .sc (.int .u8 0), .sc (.int .u8 0), .sc (.int .u8 0), .sc (.int .u8 0), .sc (.int .u8 0), .sc (.int .u8 0), .sc (.int .u8 0), .sc (.int .u8 0)], false⟩)], 1, 167⟩) (fun _ => True) (fun b => bif b then 1 else 0) true ?_ ?_ ?_
  · simp only [cond_true]
    (refine Le.of [] hB (by first | exact ⟨Nat.zero_le _, fun _ _ => Nat.zero_le _⟩ | (constructor <;> (try simp) <;> (try omega))) ?_ ?_ <;> (repeat' (first | exact leSl_nil | exact leHp_nil | refine leSl_cons (by simp (disch := omega) only [go_sem, ↓reduceIte, Nat.reduceEqDiff, reduceCtorEq]; rfl) ?_ ?_ | refine leHp_cons (by simp (disch := omega) only [go_sem, ↓reduceIte]; rfl) ?_ ?_ | exact VLe.junk _ | exact VLe.refl rfl | exact VLe.nil_sl _ _ _ | exact VLe.int (by first | rfl | omega | (dsimp only; omega)) | exact VLe.bool rfl | exact VLe.sl rfl (by first | rfl | omega | (dsimp only; omega) | (simp; done)) | exact VLe.cap rfl (by first | rfl | omega | (dsimp only; omega) | (simp; done)) | exact VLe.im rfl rfl | exact HLe.new rfl | exact HLe.same rfl (LLe.refl rfl) | refine HLe.same rfl ?_ | exact LLe.nil _ | exact LLe.refl rfl | refine LLe.cons ?_ ?_)))
  · trivial
  · intro b _ K hK
    cases b
    · clear hK
      simp only [cond_false]
      (repeat (first | refine DO.nil (by kernel_rfl) ?_ | (with_reducible refine oz (by constructor <;> decide) ?_) | ((with_reducible first | apply SC.condB | apply SC.region | apply SO.run | apply DO.run); (focus (simp (disch := omega) only [go_sem, ↓reduceIte, Nat.reduceEqDiff, reduceCtorEq] <;> rfl)); (first | refine pickT ?_ | refine pickF ?_ | fail_if_success with_reducible refine pickA ?_)) | ((with_reducible refine SC.draw Tab.mixed ?_ ?_); (focus rfl)) | (with_reducible apply SC.ops)))
      refine retI_n Tryz.results104 rfl ?_
      (refine Le.of [] hB (by first | exact ⟨Nat.zero_le _, fun _ _ => Nat.zero_le _⟩ | (constructor <;> (try simp) <;> (try omega))) ?_ ?_ <;> (repeat' (first | exact leSl_nil | exact leHp_nil | refine leSl_cons (by simp (disch := omega) only [go_sem, ↓reduceIte]; rfl) ?_ ?_ | refine leHp_cons (by simp (disch := omega) only [go_sem, ↓reduceIte]; rfl) ?_ ?_ | exact VLe.junk _ | exact VLe.refl rfl | exact VLe.nil_sl _ _ _ | exact VLe.int (by first | rfl | omega | (dsimp only; omega)) | exact VLe.bool rfl | exact VLe.sl rfl (by first | rfl | omega | (dsimp only; omega) | (simp; done)) | exact VLe.cap rfl (by first | rfl | omega | (dsimp only; omega) | (simp; done)) | exact VLe.im rfl rfl | exact HLe.new rfl | exact HLe.same rfl (LLe.refl rfl) | refine HLe.same rfl ?_ | exact LLe.nil _ | exact LLe.refl rfl | refine LLe.cons ?_ ?_)))
      exact tu_nil
    · have hK2 := hK
      clear hK
      simp only [cond_true]
      (repeat (first | refine DO.nil (by kernel_rfl) ?_ | (with_reducible refine oz (by constructor <;> decide) ?_) | ((with_reducible first | apply SC.condB | apply SC.region | apply SO.run | apply DO.run); (focus (simp (disch := omega) only [go_sem, ↓reduceIte, Nat.reduceEqDiff, Nat.reduceLeDiff, Nat.reduceAdd, reduceCtorEq, if_pos, if_neg, s1, s2] <;> rfl)); (first | refine pickT ?_ | refine pickF ?_ | fail_if_success with_reducible refine pickA ?_)) | ((with_reducible refine SC.draw Tab.mixed ?_ ?_); (focus rfl)) | (with_reducible apply SC.ops)))
      refine hK2 _ false ?_ trivial (by simp only [cond_true, cond_false]; omega)
      simp only [cond_false]
      (refine Le.of [] hB (by first | exact ⟨Nat.zero_le _, fun _ _ => Nat.zero_le _⟩ | (constructor <;> (try simp) <;> (try omega))) ?_ ?_ <;> (repeat' (first | exact leSl_nil | exact leHp_nil | refine leSl_cons (by simp (disch := omega) only [go_sem, ↓reduceIte, Nat.reduceEqDiff, reduceCtorEq]; rfl) ?_ ?_ | refine leHp_cons (by simp (disch := omega) only [go_sem, ↓reduceIte]; rfl) ?_ ?_ | exact VLe.junk _ | exact VLe.refl rfl | exact VLe.nil_sl _ _ _ | exact VLe.int (by first | rfl | omega | (dsimp only; omega)) | exact VLe.bool rfl | exact VLe.sl rfl (by first | rfl | omega | (dsimp only; omega) | (simp; done)) | exact VLe.cap rfl (by first | rfl | omega | (dsimp only; omega) | (simp; done)) | exact VLe.im rfl rfl | exact HLe.new rfl | exact HLe.same rfl (LLe.refl rfl) | refine HLe.same rfl ?_ | exact LLe.nil _ | exact LLe.refl rfl | refine LLe.cons ?_ ?_)))
set_option maxRecDepth 100000 in
set_option maxHeartbeats 4000000 in
theorem fb9 (x : Nat) (hx : x < 1000000000) : Inl Tryz.prog 104 [.sl 0 0 9 1 (some 24), .sc (.int .u64 x)] [(0, ⟨108, [.sc (.int .u8 0), .sc (.int .u8 0), .sc (.int .u8 0), .sc (.int .u8 0), .sc (.int .u8 0), .sc (.int .u8 0), .sc (.int .u8 0), .sc (.int .u8 0), .sc (.int .u8 0), .sc (.int .u8 0), .sc (.int .u8 0), .sc (.int .u8 0), .sc (.int .u8 0), .sc (.int .u8 0), .sc (.int .u8 0), .sc (.int .u8 0), .sc (.int .u8 0), .sc (.int .u8 0), .sc (.int .u8 0), .sc (.int .u8 0), .sc (.int .u8 0), .sc (.int .u8 0), .sc (.int .u8 0), .sc (.int .u8 0)], false⟩)] 1
      (.tu []) [(0, ⟨108, bN (decP 9 x) ++ [.sc (.int .u8 0), .sc (.int .u8 0), .sc (.int .u8 0), .sc (.int .u8 0), .sc (.int .u8 0), .sc (.int .u8 0), .sc (.int .u8 0), .sc (.int .u8 0), .sc (.int .u8 0), .sc (.int .u8 0), .sc (.int .u8 0), .sc (.int .u8 0), .sc (.int .u8 0), .sc (.int .u8 0), .sc (.int .u8 0)], false⟩)] 1 := by
  have he : bN (decP 9 x) ++ [.sc (.int .u8 0), .sc (.int .u8 0), .sc (.int .u8 0), .sc (.int .u8 0), .sc (.int .u8 0), .sc (.int .u8 0), .sc (.int .u8 0), .sc (.int .u8 0), .sc (.int .u8 0), .sc (.int .u8 0), .sc (.int .u8 0), .sc (.int .u8 0), .sc (.int .u8 0), .sc (.int .u8 0), .sc (.int .u8 0)] = [.sc (.int .u8 (48 + ((x : Int) / 100000000))), .sc (.int .u8 (48 + (((x : Int) % 100000000) / 10000) / 100 / 10)), .sc (.int .u8 (48 + (((x : Int) % 100000000) / 10000) / 100 % 10)), .sc (.int .u8 (48 + (((x : Int) % 100000000) / 10000) % 100 / 10)), .sc (.int .u8 (48 + (((x : Int) % 100000000) / 10000) % 100 % 10)), .sc (.int .u8 (48 + (((x : Int) % 100000000) % 10000) / 100 / 10)), .sc (.int .u8 (48 + (((x : Int) % 100000000) % 10000) / 100 % 10)), .sc (.int .u8 (48 + (((x : Int) % 100000000) % 10000) % 100 / 10)), .sc (.int .u8 (48 + (((x : Int) % 100000000) % 10000) % 100 % 10)), .sc (.int .u8 0), .sc (.int .u8 0), .sc (.int .u8 0), .sc (.int .u8 0), .sc (.int .u8 0), .sc (.int .u8 0), .sc (.int .u8 0), .sc (.int .u8 0), .sc (.int .u8 0), .sc (.int .u8 0), .sc (.int .u8 0), .sc (.int .u8 0), .sc (.int .u8 0), .sc (.int .u8 0), .sc (.int .u8 0)] := by
    simp only [decP, List.nil_append, List.cons_append, bN_cons, bN_nil, List.cons.injEq, and_true]
    refine ⟨?_, ?_, ?_, ?_, ?_, ?_, ?_, ?_, ?_⟩ <;> exact cell_eq (by omega)
  rw [he]; clear he
  refine Inl.run Tryz.func104 rfl Tryz.ntmps104 (by simp) (by simp (disch := omega) only [go_sem, Nat.reduceAdd]; rfl) fun B hB => ?_
  generalize hS : (ByteArray.mk (List.toArray _)) = S
  have hS2 : S = st smL := by rw [← hS]; kernel_rfl
  clear hS
  have s1 := sm_one hS2
  have s2 := sm_two hS2
  (repeat (first | refine DO.nil (by kernel_rfl) ?_ | (with_reducible refine oz (by constructor <;> decide) ?_) | ((with_reducible first | apply SC.condB | apply SC.region | apply SO.run | apply DO.run); (focus (simp (disch := omega) only [go_sem, ↓reduceIte] <;> rfl)); (first | refine pickT ?_ | refine pickF ?_ | fail_if_success with_reducible refine pickA ?_)) | ((with_reducible refine SC.draw Tab.mixed ?_ ?_); (focus rfl)) | (with_reducible apply SC.ops)))
  refine SC.loop (fun b : Bool => ⟨[(0, .sl 0 0 9 1 (some 24)), (1, .sc (.int .u64 (bif b then (x : Int) else (x : Int) / 100000000))), (4, .sc (.int .i64 (bif b then 9 else 1)))], [(0, ⟨108, bif b then [.sc (.int .u8 0), .sc (.int .u8 0), .sc (.int .u8 0), .sc (.int .u8 0), .sc (.int .u8 0), .sc (.int .u8 0), .sc (.int .u8 0), .sc (.int .u8 0), .sc (.int .u8 0), .sc (.int .u8 0), .sc (.int .u8 0), .sc (.int .u8 0), .sc (.int .u8 0), .sc (.int .u8 0), .sc (.int .u8 0), .sc (.int .u8 0), .sc (.int .u8 0), .sc (.int .u8 0), .sc (.int .u8 0), .sc (.int .u8 0), .sc (.int .u8 0), .sc (.int .u8 0), .sc (.int .u8 0), .sc (.int .u8 0)] else [.sc (.int .u8 0), .sc (.int .u8 (48 + (((x : Int) % 100000000) / 10000) / 100 / 10)), .sc (.int .u8 (48 + (((x : Int) % 100000000) / 10000) / 100 % 10)), .sc (.int .u8 (48 + (((x : Int) % 100000000) / 10000) % 100 / 10)), .sc (.int .u8 (48 + (((x : Int) % 100000000) / 10000) % 100 % 10)), .sc (.int .u8 (48 + (((x : Int) % 100000000) % 10000) / 100 / 10)), .sc (.int .u8 (48 + (((x : Int) % 100000000) % 10000) / 100 % 10)), .sc (.int .u8 (48 + (((x : Int) % 100000000) % 10000) % 100 / 10)), .sc (.int .u8 (48 + (((x : Int) % 100000000) % 10000) % 100 % 10)), .sc (.int .u8 0), .sc (.int .u8 0), .sc (.int .u8 0), .sc (.int .u8 0), .sc (.int .u8 0), .sc (.int .u8 0), .sc (.int .u8 0), .sc (.int .u8 0), .sc (.int .u8 0), .sc (.int .u8 0), .sc (.int .u8 0), .sc (.int .u8 0), .sc (.int .u8 0), .sc (.int .u8 0), .sc (.int .u8 0)], false⟩)], 1, 167⟩) (fun _ => True) (fun b => bif b then 1 else 0) true ?_ ?_ ?_
  · simp only [cond_true]
    (refine Le.of [] hB (by first | exact ⟨Nat.zero_le _, fun _ _ => Nat.zero_le _⟩ | (constructor <;> (try simp) <;> (try omega))) ?_ ?_ <;> (repeat' (first | exact leSl_nil | exact leHp_nil | refine leSl_cons (by simp (disch := omega) only [go_sem, ↓reduceIte, Nat.reduceEqDiff, reduceCtorEq]; rfl) ?_ ?_ | refine leHp_cons (by simp (disch := omega) only [go_sem, ↓reduceIte]; rfl) ?_ ?_ | exact VLe.junk _ | exact VLe.refl rfl | exact VLe.nil_sl _ _ _ | exact VLe.int (by first | rfl | omega | (dsimp only; omega)) | exact VLe.bool rfl | exact VLe.sl rfl (by first | rfl | omega | (dsimp only; omega) | (simp; done)) | exact VLe.cap rfl (by first | rfl | omega | (dsimp only; omega) | (simp; done)) | exact VLe.im rfl rfl | exact HLe.new rfl | exact HLe.same rfl (LLe.refl rfl) | refine HLe.same rfl ?_ | exact LLe.nil _ | exact LLe.refl rfl | refine LLe.cons ?_ ?_)))
  · trivial
  · intro b _ K hK
    cases b
    · clear hK
      simp only [cond_false]
      (repeat (first | refine DO.nil (by kernel_rfl) ?_ | (with_reducible refine oz (by constructor <;> decide) ?_) | ((with_reducible first | apply SC.condB | apply SC.region | apply SO.run | apply DO.run); (focus (simp (disch := omega) only [go_sem, ↓reduceIte, Nat.reduceEqDiff, Nat.reduceLT, Nat.reduceLeDiff, Nat.reduceAdd, reduceCtorEq, Int.reduceToNat, if_pos] <;> rfl)); (first | refine pickT ?_ | refine pickF ?_ | fail_if_success with_reducible refine pickA ?_)) | ((with_reducible refine SC.draw Tab.mixed ?_ ?_); (focus rfl)) | (with_reducible apply SC.ops)))
      refine retI_n Tryz.results104 rfl ?_
      (refine Le.of [] hB (by first | exact ⟨Nat.zero_le _, fun _ _ => Nat.zero_le _⟩ | (constructor <;> (try simp) <;> (try omega))) ?_ ?_ <;> (repeat' (first | exact leSl_nil | exact leHp_nil | refine leSl_cons (by simp (disch := omega) only [go_sem, ↓reduceIte]; rfl) ?_ ?_ | refine leHp_cons (by simp (disch := omega) only [go_sem, ↓reduceIte]; rfl) ?_ ?_ | exact VLe.junk _ | exact VLe.refl rfl | exact VLe.nil_sl _ _ _ | exact VLe.int (by first | rfl | omega | (dsimp only; omega)) | exact VLe.bool rfl | exact VLe.sl rfl (by first | rfl | omega | (dsimp only; omega) | (simp; done)) | exact VLe.cap rfl (by first | rfl | omega | (dsimp only; omega) | (simp; done)) | exact VLe.im rfl rfl | exact HLe.new rfl | exact HLe.same rfl (LLe.refl rfl) | refine HLe.same rfl ?_ | exact LLe.nil _ | exact LLe.refl rfl | refine LLe.cons ?_ ?_)))
      exact tu_nil
    · have hK2 := hK
      clear hK
      simp only [cond_true]
      (repeat (first | refine DO.nil (by kernel_rfl) ?_ | (with_reducible refine oz (by constructor <;> decide) ?_) | ((with_reducible first | apply SC.condB | apply SC.region | apply SO.run | apply DO.run); (focus (simp (disch := omega) only [go_sem, ↓reduceIte, Nat.reduceEqDiff, Nat.reduceLeDiff, Nat.reduceAdd, reduceCtorEq, if_pos, if_neg, s1, s2] <;> rfl)); (first | refine pickT ?_ | refine pickF ?_ | fail_if_success with_reducible refine pickA ?_)) | ((with_reducible refine SC.draw Tab.mixed ?_ ?_); (focus rfl)) | (with_reducible apply SC.ops)))
      refine hK2 _ false ?_ trivial (by simp only [cond_true, cond_false]; omega)
      simp only [cond_false]
      (refine Le.of [] hB (by first | exact ⟨Nat.zero_le _, fun _ _ => Nat.zero_le _⟩ | (constructor <;> (try simp) <;> (try omega))) ?_ ?_ <;> (repeat' (first | exact leSl_nil | exact leHp_nil | refine leSl_cons (by simp (disch := omega) only [go_sem, ↓reduceIte, Nat.reduceEqDiff, reduceCtorEq]; rfl) ?_ ?_ | refine leHp_cons (by simp (disch := omega) only [go_sem, ↓reduceIte]; rfl) ?_ ?_ | exact VLe.junk _ | exact VLe.refl rfl | exact VLe.nil_sl _ _ _ | exact VLe.int (by first | rfl | omega | (dsimp only; omega)) | exact VLe.bool rfl | exact VLe.sl rfl (by first | rfl | omega | (dsimp only; omega) | (simp; done)) | exact VLe.cap rfl (by first | rfl | omega | (dsimp only; omega) | (simp; done)) | exact VLe.im rfl rfl | exact HLe.new rfl | exact HLe.same rfl (LLe.refl rfl) | refine HLe.same rfl ?_ | exact LLe.nil _ | exact LLe.refl rfl | refine LLe.cons ?_ ?_)))
end Go.Proofs.YtpodnbcdddcdmaaGreatDoor

/- strconv.FormatUint below 10^9. -/
namespace Go.Proofs.YtpodnbcdddcdmaaGreatDoor
open Go.RowKit
set_option maxRecDepth 100000 in
theorem fmt_small (x : Nat) (h : x < 100) : Spec Tryz.prog 88 [.sc (.int .u64 x), .sc (.int .i64 10)] (.sc (.string (st (dec x)))) := by
  have q1 := decide_eq_true (p := (x : Int) < 100) (by omega)
  have c1 := small_s x h
  refine Spec.run Tryz.func88 rfl Tryz.ntmps88 (by simp) (by simp (disch := omega) only [go_sem, Nat.reduceAdd]; rfl) fun B hB => ?_
  (repeat (first | refine DO.nil (by kernel_rfl) ?_ | (with_reducible refine oz (by constructor <;> decide) ?_) | ((first | apply SO.call | apply DO.call); (iterate 3 (focus (simp (disch := omega) only [go_sem, ↓reduceIte] <;> rfl))); (first | apply SCall.ofX | apply DCall.ofX); (focus (first | assumption)); (focus (simp (disch := omega) only [go_sem] <;> rfl))) | ((with_reducible first | apply SC.condB | apply SC.region | apply SO.run | apply DO.run); (focus (simp (disch := omega) only [go_sem, ↓reduceIte, Nat.reduceEqDiff, reduceCtorEq, q1] <;> rfl)); (first | refine pickT ?_ | refine pickF ?_ | fail_if_success with_reducible refine pickA ?_)) | ((with_reducible refine SC.draw Tab.mixed ?_ ?_); (focus rfl)) | (with_reducible apply SC.ops)))
  exact retQ_ret Tryz.results88 (by simp (disch := omega) only [go_sem, ↓reduceIte]; rfl) (by simp (disch := omega) only [go_sem]; rfl) rfl
theorem bytesV_bN : ∀ l : List Nat, bytesV (bN l) = some (l.map UInt8.ofNat)
  | [] => rfl
  | x :: l => by
    show bytesV (.sc (.int .u8 (x : Int)) :: bN l) = _
    rw [bytesV, bytesV_bN l]; rfl
theorem conv_sl (l : List Nat) (Z : List V) (H : List (Nat × Blk)) (ty : Nat) (c : Option Nat) (n : Nat) (hn : l.length = n) : exConvH Tryz.prog ((0, ⟨ty, bN l ++ Z, false⟩) :: H) 71 9 (.sl 0 0 n 1 c) = some (.sc (.string (st l))) := by
  show bytesH _ _ _ _ _ = _
  unfold bytesH
  have t1 : isStr Tryz.prog 9 = true := by kernel_rfl
  have t2 : isBytes Tryz.prog 71 = true := by kernel_rfl
  rw [if_pos ⟨t1, t2⟩]
  have hl : (bN l).length = n := by simp [bN, hn]
  have e : srcV ((0, ⟨ty, bN l ++ Z, false⟩) :: H) (.sl 0 0 n 1 c) = some (bN l, n) := by
    simp [srcV, hget, ← hl]
  rw [e]
  simp only [Option.bind_some]
  rw [if_pos hl, bytesV_bN]; rfl
theorem only_tu (p : Nat → Prop) : Only p (.tu []) := .tu (fun _ h => by cases h)
theorem only_bN (p : Nat → Prop) (l : List Nat) (n ty b : Nat) : OnlyH p [(b, ⟨ty, bN l ++ List.replicate n (.sc (.int .u8 0)), false⟩)] := by
  refine ⟨?_, trivial⟩
  intro y hy
  rcases List.mem_append.1 hy with h | h
  · unfold bN at h; obtain ⟨z, _, rfl⟩ := List.mem_map.1 h; exact .sc _
  · rw [(List.mem_replicate.1 h).2]; exact .sc _
set_option maxRecDepth 100000 in
theorem fmt3 (x : Nat) (h : 100 ≤ x) (h2 : x < 1000) : Spec Tryz.prog 88 [.sc (.int .u64 x), .sc (.int .i64 10)] (.sc (.string (st (dec x)))) := by
  have q1 := decide_eq_false (p := (x : Int) < 100) (by omega)
  have e := dec_decP (w := 2) (n := x) (by omega) (by omega)
  have c1 := numDigits_s x (by omega) (by omega)
  rw [e, decP_length] at c1
  have c2 := fb3 x h2
  rw [e]
  refine Spec.run Tryz.func88 rfl Tryz.ntmps88 (by simp) (by simp (disch := omega) only [go_sem, Nat.reduceAdd]; rfl) fun B hB => ?_
  (repeat (first | refine DO.nil (by kernel_rfl) ?_ | (with_reducible refine oz (by constructor <;> decide) ?_) | ((first | apply SO.call | apply DO.call); (iterate 3 (focus (simp (disch := omega) only [go_sem, ↓reduceIte, Nat.reduceEqDiff, Nat.reduceLeDiff, Nat.reduceAdd] <;> rfl))); (first | apply SCall.ofX | apply DCall.ofX); (focus (first | assumption)); (focus (simp (disch := omega) only [go_sem, Nat.reduceAdd] <;> rfl))) | ((with_reducible first | apply SC.condB | apply SC.region | apply SO.run | apply DO.run); (focus (simp (disch := omega) only [go_sem, ↓reduceIte, Nat.reduceEqDiff, Nat.reduceLeDiff, Nat.reduceAdd, reduceCtorEq, if_pos, q1] <;> rfl)); (first | refine pickT ?_ | refine pickF ?_ | fail_if_success with_reducible refine pickA ?_)) | ((with_reducible refine SC.draw Tab.mixed ?_ ?_); (focus rfl)) | (with_reducible apply SC.ops)))
  have ho : ∀ p : Nat → Prop, OnlyH p [(0, ⟨108, bN (decP 3 x) ++ List.replicate 21 (.sc (.int .u8 0)), false⟩)] := fun p => only_bN p _ _ _ _
  refine SO.inl (by simp (disch := omega) only [go_sem]; rfl) goI4 (by simp (disch := omega) only [go_sem, ↓reduceIte, Nat.reduceEqDiff]; rfl) (by simp (disch := omega) only [go_sem] <;> rfl) ?_
  refine SInl.of c2 (by simp (disch := omega) only [go_sem, ↓reduceIte]; try exact ⟨rfl, rfl, trivial⟩) (only_tu _) (ho _) (by simp (disch := omega) only [go_sem]; rfl) (by simp (disch := omega) only [go_sem, ↓reduceIte, decide_true, Bool.or_false, List.cons_append, List.nil_append]; rfl) ?_
  have ec : ∀ (Z : List V) (H : List (Nat × Blk)) (ty : Nat) (c : Option Nat), _ := fun Z H ty c => conv_sl (decP 3 x) Z H ty c 3 (decP_length _ _)
  (repeat (first | refine DO.nil (by kernel_rfl) ?_ | (with_reducible refine oz (by constructor <;> decide) ?_) | ((with_reducible first | apply SC.condB | apply SC.region | apply SO.run | apply DO.run); (focus (simp (disch := omega) only [go_sem, ↓reduceIte, Nat.reduceEqDiff, Nat.reduceLeDiff, if_pos] <;> rfl)); (first | refine pickT ?_ | refine pickF ?_ | fail_if_success with_reducible refine pickA ?_)) | ((with_reducible refine SC.draw Tab.mixed ?_ ?_); (focus rfl)) | (with_reducible apply SC.ops)))
  exact retQ_ret Tryz.results88 (by simp (disch := omega) only [go_sem, ↓reduceIte]; rfl) (by simp (disch := omega) only [go_sem, ↓reduceIte, Nat.reduceAdd]; rfl) rfl
set_option maxRecDepth 100000 in
theorem fmt4 (x : Nat) (h : 1000 ≤ x) (h2 : x < 10000) : Spec Tryz.prog 88 [.sc (.int .u64 x), .sc (.int .i64 10)] (.sc (.string (st (dec x)))) := by
  have q1 := decide_eq_false (p := (x : Int) < 100) (by omega)
  have e := dec_decP (w := 3) (n := x) (by omega) (by omega)
  have c1 := numDigits_s x (by omega) (by omega)
  rw [e, decP_length] at c1
  have c2 := fb4 x h2
  rw [e]
  refine Spec.run Tryz.func88 rfl Tryz.ntmps88 (by simp) (by simp (disch := omega) only [go_sem, Nat.reduceAdd]; rfl) fun B hB => ?_
  (repeat (first | refine DO.nil (by kernel_rfl) ?_ | (with_reducible refine oz (by constructor <;> decide) ?_) | ((first | apply SO.call | apply DO.call); (iterate 3 (focus (simp (disch := omega) only [go_sem, ↓reduceIte, Nat.reduceEqDiff, Nat.reduceLeDiff, Nat.reduceAdd] <;> rfl))); (first | apply SCall.ofX | apply DCall.ofX); (focus (first | assumption)); (focus (simp (disch := omega) only [go_sem, Nat.reduceAdd] <;> rfl))) | ((with_reducible first | apply SC.condB | apply SC.region | apply SO.run | apply DO.run); (focus (simp (disch := omega) only [go_sem, ↓reduceIte, Nat.reduceEqDiff, Nat.reduceLeDiff, Nat.reduceAdd, reduceCtorEq, if_pos, q1] <;> rfl)); (first | refine pickT ?_ | refine pickF ?_ | fail_if_success with_reducible refine pickA ?_)) | ((with_reducible refine SC.draw Tab.mixed ?_ ?_); (focus rfl)) | (with_reducible apply SC.ops)))
  have ho : ∀ p : Nat → Prop, OnlyH p [(0, ⟨108, bN (decP 4 x) ++ List.replicate 20 (.sc (.int .u8 0)), false⟩)] := fun p => only_bN p _ _ _ _
  refine SO.inl (by simp (disch := omega) only [go_sem]; rfl) goI4 (by simp (disch := omega) only [go_sem, ↓reduceIte, Nat.reduceEqDiff]; rfl) (by simp (disch := omega) only [go_sem] <;> rfl) ?_
  refine SInl.of c2 (by simp (disch := omega) only [go_sem, ↓reduceIte]; try exact ⟨rfl, rfl, trivial⟩) (only_tu _) (ho _) (by simp (disch := omega) only [go_sem]; rfl) (by simp (disch := omega) only [go_sem, ↓reduceIte, decide_true, Bool.or_false, List.cons_append, List.nil_append]; rfl) ?_
  have ec : ∀ (Z : List V) (H : List (Nat × Blk)) (ty : Nat) (c : Option Nat), _ := fun Z H ty c => conv_sl (decP 4 x) Z H ty c 4 (decP_length _ _)
  (repeat (first | refine DO.nil (by kernel_rfl) ?_ | (with_reducible refine oz (by constructor <;> decide) ?_) | ((with_reducible first | apply SC.condB | apply SC.region | apply SO.run | apply DO.run); (focus (simp (disch := omega) only [go_sem, ↓reduceIte, Nat.reduceEqDiff, Nat.reduceLeDiff, if_pos] <;> rfl)); (first | refine pickT ?_ | refine pickF ?_ | fail_if_success with_reducible refine pickA ?_)) | ((with_reducible refine SC.draw Tab.mixed ?_ ?_); (focus rfl)) | (with_reducible apply SC.ops)))
  exact retQ_ret Tryz.results88 (by simp (disch := omega) only [go_sem, ↓reduceIte]; rfl) (by simp (disch := omega) only [go_sem, ↓reduceIte, Nat.reduceAdd]; rfl) rfl
set_option maxRecDepth 100000 in
theorem fmt5 (x : Nat) (h : 10000 ≤ x) (h2 : x < 100000) : Spec Tryz.prog 88 [.sc (.int .u64 x), .sc (.int .i64 10)] (.sc (.string (st (dec x)))) := by
  have q1 := decide_eq_false (p := (x : Int) < 100) (by omega)
  have e := dec_decP (w := 4) (n := x) (by omega) (by omega)
  have c1 := numDigits_s x (by omega) (by omega)
  rw [e, decP_length] at c1
  have c2 := fb5 x h2
  rw [e]
  refine Spec.run Tryz.func88 rfl Tryz.ntmps88 (by simp) (by simp (disch := omega) only [go_sem, Nat.reduceAdd]; rfl) fun B hB => ?_
  (repeat (first | refine DO.nil (by kernel_rfl) ?_ | (with_reducible refine oz (by constructor <;> decide) ?_) | ((first | apply SO.call | apply DO.call); (iterate 3 (focus (simp (disch := omega) only [go_sem, ↓reduceIte, Nat.reduceEqDiff, Nat.reduceLeDiff, Nat.reduceAdd] <;> rfl))); (first | apply SCall.ofX | apply DCall.ofX); (focus (first | assumption)); (focus (simp (disch := omega) only [go_sem, Nat.reduceAdd] <;> rfl))) | ((with_reducible first | apply SC.condB | apply SC.region | apply SO.run | apply DO.run); (focus (simp (disch := omega) only [go_sem, ↓reduceIte, Nat.reduceEqDiff, Nat.reduceLeDiff, Nat.reduceAdd, reduceCtorEq, if_pos, q1] <;> rfl)); (first | refine pickT ?_ | refine pickF ?_ | fail_if_success with_reducible refine pickA ?_)) | ((with_reducible refine SC.draw Tab.mixed ?_ ?_); (focus rfl)) | (with_reducible apply SC.ops)))
  have ho : ∀ p : Nat → Prop, OnlyH p [(0, ⟨108, bN (decP 5 x) ++ List.replicate 19 (.sc (.int .u8 0)), false⟩)] := fun p => only_bN p _ _ _ _
  refine SO.inl (by simp (disch := omega) only [go_sem]; rfl) goI4 (by simp (disch := omega) only [go_sem, ↓reduceIte, Nat.reduceEqDiff]; rfl) (by simp (disch := omega) only [go_sem] <;> rfl) ?_
  refine SInl.of c2 (by simp (disch := omega) only [go_sem, ↓reduceIte]; try exact ⟨rfl, rfl, trivial⟩) (only_tu _) (ho _) (by simp (disch := omega) only [go_sem]; rfl) (by simp (disch := omega) only [go_sem, ↓reduceIte, decide_true, Bool.or_false, List.cons_append, List.nil_append]; rfl) ?_
  have ec : ∀ (Z : List V) (H : List (Nat × Blk)) (ty : Nat) (c : Option Nat), _ := fun Z H ty c => conv_sl (decP 5 x) Z H ty c 5 (decP_length _ _)
  (repeat (first | refine DO.nil (by kernel_rfl) ?_ | (with_reducible refine oz (by constructor <;> decide) ?_) | ((with_reducible first | apply SC.condB | apply SC.region | apply SO.run | apply DO.run); (focus (simp (disch := omega) only [go_sem, ↓reduceIte, Nat.reduceEqDiff, Nat.reduceLeDiff, if_pos] <;> rfl)); (first | refine pickT ?_ | refine pickF ?_ | fail_if_success with_reducible refine pickA ?_)) | ((with_reducible refine SC.draw Tab.mixed ?_ ?_); (focus rfl)) | (with_reducible apply SC.ops)))
  exact retQ_ret Tryz.results88 (by simp (disch := omega) only [go_sem, ↓reduceIte]; rfl) (by simp (disch := omega) only [go_sem, ↓reduceIte, Nat.reduceAdd]; rfl) rfl
set_option maxRecDepth 100000 in
theorem fmt6 (x : Nat) (h : 100000 ≤ x) (h2 : x < 1000000) : Spec Tryz.prog 88 [.sc (.int .u64 x), .sc (.int .i64 10)] (.sc (.string (st (dec x)))) := by
  have q1 := decide_eq_false (p := (x : Int) < 100) (by omega)
  have e := dec_decP (w := 5) (n := x) (by omega) (by omega)
  have c1 := numDigits_s x (by omega) (by omega)
  rw [e, decP_length] at c1
  have c2 := fb6 x h2
  rw [e]
  refine Spec.run Tryz.func88 rfl Tryz.ntmps88 (by simp) (by simp (disch := omega) only [go_sem, Nat.reduceAdd]; rfl) fun B hB => ?_
  (repeat (first | refine DO.nil (by kernel_rfl) ?_ | (with_reducible refine oz (by constructor <;> decide) ?_) | ((first | apply SO.call | apply DO.call); (iterate 3 (focus (simp (disch := omega) only [go_sem, ↓reduceIte, Nat.reduceEqDiff, Nat.reduceLeDiff, Nat.reduceAdd] <;> rfl))); (first | apply SCall.ofX | apply DCall.ofX); (focus (first | assumption)); (focus (simp (disch := omega) only [go_sem, Nat.reduceAdd] <;> rfl))) | ((with_reducible first | apply SC.condB | apply SC.region | apply SO.run | apply DO.run); (focus (simp (disch := omega) only [go_sem, ↓reduceIte, Nat.reduceEqDiff, Nat.reduceLeDiff, Nat.reduceAdd, reduceCtorEq, if_pos, q1] <;> rfl)); (first | refine pickT ?_ | refine pickF ?_ | fail_if_success with_reducible refine pickA ?_)) | ((with_reducible refine SC.draw Tab.mixed ?_ ?_); (focus rfl)) | (with_reducible apply SC.ops)))
  have ho : ∀ p : Nat → Prop, OnlyH p [(0, ⟨108, bN (decP 6 x) ++ List.replicate 18 (.sc (.int .u8 0)), false⟩)] := fun p => only_bN p _ _ _ _
  refine SO.inl (by simp (disch := omega) only [go_sem]; rfl) goI4 (by simp (disch := omega) only [go_sem, ↓reduceIte, Nat.reduceEqDiff]; rfl) (by simp (disch := omega) only [go_sem] <;> rfl) ?_
  refine SInl.of c2 (by simp (disch := omega) only [go_sem, ↓reduceIte]; try exact ⟨rfl, rfl, trivial⟩) (only_tu _) (ho _) (by simp (disch := omega) only [go_sem]; rfl) (by simp (disch := omega) only [go_sem, ↓reduceIte, decide_true, Bool.or_false, List.cons_append, List.nil_append]; rfl) ?_
  have ec : ∀ (Z : List V) (H : List (Nat × Blk)) (ty : Nat) (c : Option Nat), _ := fun Z H ty c => conv_sl (decP 6 x) Z H ty c 6 (decP_length _ _)
  (repeat (first | refine DO.nil (by kernel_rfl) ?_ | (with_reducible refine oz (by constructor <;> decide) ?_) | ((with_reducible first | apply SC.condB | apply SC.region | apply SO.run | apply DO.run); (focus (simp (disch := omega) only [go_sem, ↓reduceIte, Nat.reduceEqDiff, Nat.reduceLeDiff, if_pos] <;> rfl)); (first | refine pickT ?_ | refine pickF ?_ | fail_if_success with_reducible refine pickA ?_)) | ((with_reducible refine SC.draw Tab.mixed ?_ ?_); (focus rfl)) | (with_reducible apply SC.ops)))
  exact retQ_ret Tryz.results88 (by simp (disch := omega) only [go_sem, ↓reduceIte]; rfl) (by simp (disch := omega) only [go_sem, ↓reduceIte, Nat.reduceAdd]; rfl) rfl
set_option maxRecDepth 100000 in
theorem fmt7 (x : Nat) (h : 1000000 ≤ x) (h2 : x < 10000000) : Spec Tryz.prog 88 [.sc (.int .u64 x), .sc (.int .i64 10)] (.sc (.string (st (dec x)))) := by
  have q1 := decide_eq_false (p := (x : Int) < 100) (by omega)
  have e := dec_decP (w := 6) (n := x) (by omega) (by omega)
  have c1 := numDigits_s x (by omega) (by omega)
  rw [e, decP_length] at c1
  have c2 := fb7 x h2
  rw [e]
  refine Spec.run Tryz.func88 rfl Tryz.ntmps88 (by simp) (by simp (disch := omega) only [go_sem, Nat.reduceAdd]; rfl) fun B hB => ?_
  (repeat (first | refine DO.nil (by kernel_rfl) ?_ | (with_reducible refine oz (by constructor <;> decide) ?_) | ((first | apply SO.call | apply DO.call); (iterate 3 (focus (simp (disch := omega) only [go_sem, ↓reduceIte, Nat.reduceEqDiff, Nat.reduceLeDiff, Nat.reduceAdd] <;> rfl))); (first | apply SCall.ofX | apply DCall.ofX); (focus (first | assumption)); (focus (simp (disch := omega) only [go_sem, Nat.reduceAdd] <;> rfl))) | ((with_reducible first | apply SC.condB | apply SC.region | apply SO.run | apply DO.run); (focus (simp (disch := omega) only [go_sem, ↓reduceIte, Nat.reduceEqDiff, Nat.reduceLeDiff, Nat.reduceAdd, reduceCtorEq, if_pos, q1] <;> rfl)); (first | refine pickT ?_ | refine pickF ?_ | fail_if_success with_reducible refine pickA ?_)) | ((with_reducible refine SC.draw Tab.mixed ?_ ?_); (focus rfl)) | (with_reducible apply SC.ops)))
  have ho : ∀ p : Nat → Prop, OnlyH p [(0, ⟨108, bN (decP 7 x) ++ List.replicate 17 (.sc (.int .u8 0)), false⟩)] := fun p => only_bN p _ _ _ _
  refine SO.inl (by simp (disch := omega) only [go_sem]; rfl) goI4 (by simp (disch := omega) only [go_sem, ↓reduceIte, Nat.reduceEqDiff]; rfl) (by simp (disch := omega) only [go_sem] <;> rfl) ?_
  refine SInl.of c2 (by simp (disch := omega) only [go_sem, ↓reduceIte]; try exact ⟨rfl, rfl, trivial⟩) (only_tu _) (ho _) (by simp (disch := omega) only [go_sem]; rfl) (by simp (disch := omega) only [go_sem, ↓reduceIte, decide_true, Bool.or_false, List.cons_append, List.nil_append]; rfl) ?_
  have ec : ∀ (Z : List V) (H : List (Nat × Blk)) (ty : Nat) (c : Option Nat), _ := fun Z H ty c => conv_sl (decP 7 x) Z H ty c 7 (decP_length _ _)
  (repeat (first | refine DO.nil (by kernel_rfl) ?_ | (with_reducible refine oz (by constructor <;> decide) ?_) | ((with_reducible first | apply SC.condB | apply SC.region | apply SO.run | apply DO.run); (focus (simp (disch := omega) only [go_sem, ↓reduceIte, Nat.reduceEqDiff, Nat.reduceLeDiff, if_pos] <;> rfl)); (first | refine pickT ?_ | refine pickF ?_ | fail_if_success with_reducible refine pickA ?_)) | ((with_reducible refine SC.draw Tab.mixed ?_ ?_); (focus rfl)) | (with_reducible apply SC.ops)))
  exact retQ_ret Tryz.results88 (by simp (disch := omega) only [go_sem, ↓reduceIte]; rfl) (by simp (disch := omega) only [go_sem, ↓reduceIte, Nat.reduceAdd]; rfl) rfl
set_option maxRecDepth 100000 in
theorem fmt8 (x : Nat) (h : 10000000 ≤ x) (h2 : x < 100000000) : Spec Tryz.prog 88 [.sc (.int .u64 x), .sc (.int .i64 10)] (.sc (.string (st (dec x)))) := by
  have q1 := decide_eq_false (p := (x : Int) < 100) (by omega)
  have e := dec_decP (w := 7) (n := x) (by omega) (by omega)
  have c1 := numDigits_s x (by omega) (by omega)
  rw [e, decP_length] at c1
  have c2 := fb8 x h2
  rw [e]
  refine Spec.run Tryz.func88 rfl Tryz.ntmps88 (by simp) (by simp (disch := omega) only [go_sem, Nat.reduceAdd]; rfl) fun B hB => ?_
  (repeat (first | refine DO.nil (by kernel_rfl) ?_ | (with_reducible refine oz (by constructor <;> decide) ?_) | ((first | apply SO.call | apply DO.call); (iterate 3 (focus (simp (disch := omega) only [go_sem, ↓reduceIte, Nat.reduceEqDiff, Nat.reduceLeDiff, Nat.reduceAdd] <;> rfl))); (first | apply SCall.ofX | apply DCall.ofX); (focus (first | assumption)); (focus (simp (disch := omega) only [go_sem, Nat.reduceAdd] <;> rfl))) | ((with_reducible first | apply SC.condB | apply SC.region | apply SO.run | apply DO.run); (focus (simp (disch := omega) only [go_sem, ↓reduceIte, Nat.reduceEqDiff, Nat.reduceLeDiff, Nat.reduceAdd, reduceCtorEq, if_pos, q1] <;> rfl)); (first | refine pickT ?_ | refine pickF ?_ | fail_if_success with_reducible refine pickA ?_)) | ((with_reducible refine SC.draw Tab.mixed ?_ ?_); (focus rfl)) | (with_reducible apply SC.ops)))
  have ho : ∀ p : Nat → Prop, OnlyH p [(0, ⟨108, bN (decP 8 x) ++ List.replicate 16 (.sc (.int .u8 0)), false⟩)] := fun p => only_bN p _ _ _ _
  refine SO.inl (by simp (disch := omega) only [go_sem]; rfl) goI4 (by simp (disch := omega) only [go_sem, ↓reduceIte, Nat.reduceEqDiff]; rfl) (by simp (disch := omega) only [go_sem] <;> rfl) ?_
  refine SInl.of c2 (by simp (disch := omega) only [go_sem, ↓reduceIte]; try exact ⟨rfl, rfl, trivial⟩) (only_tu _) (ho _) (by simp (disch := omega) only [go_sem]; rfl) (by simp (disch := omega) only [go_sem, ↓reduceIte, decide_true, Bool.or_false, List.cons_append, List.nil_append]; rfl) ?_
  have ec : ∀ (Z : List V) (H : List (Nat × Blk)) (ty : Nat) (c : Option Nat), _ := fun Z H ty c => conv_sl (decP 8 x) Z H ty c 8 (decP_length _ _)
  (repeat (first | refine DO.nil (by kernel_rfl) ?_ | (with_reducible refine oz (by constructor <;> decide) ?_) | ((with_reducible first | apply SC.condB | apply SC.region | apply SO.run | apply DO.run); (focus (simp (disch := omega) only [go_sem, ↓reduceIte, Nat.reduceEqDiff, Nat.reduceLeDiff, if_pos] <;> rfl)); (first | refine pickT ?_ | refine pickF ?_ | fail_if_success with_reducible refine pickA ?_)) | ((with_reducible refine SC.draw Tab.mixed ?_ ?_); (focus rfl)) | (with_reducible apply SC.ops)))
  exact retQ_ret Tryz.results88 (by simp (disch := omega) only [go_sem, ↓reduceIte]; rfl) (by simp (disch := omega) only [go_sem, ↓reduceIte, Nat.reduceAdd]; rfl) rfl
set_option maxRecDepth 100000 in
theorem fmt9 (x : Nat) (h : 100000000 ≤ x) (h2 : x < 1000000000) : Spec Tryz.prog 88 [.sc (.int .u64 x), .sc (.int .i64 10)] (.sc (.string (st (dec x)))) := by
  have q1 := decide_eq_false (p := (x : Int) < 100) (by omega)
  have e := dec_decP (w := 8) (n := x) (by omega) (by omega)
  have c1 := numDigits_s x (by omega) (by omega)
  rw [e, decP_length] at c1
  have c2 := fb9 x h2
  rw [e]
  refine Spec.run Tryz.func88 rfl Tryz.ntmps88 (by simp) (by simp (disch := omega) only [go_sem, Nat.reduceAdd]; rfl) fun B hB => ?_
  (repeat (first | refine DO.nil (by kernel_rfl) ?_ | (with_reducible refine oz (by constructor <;> decide) ?_) | ((first | apply SO.call | apply DO.call); (iterate 3 (focus (simp (disch := omega) only [go_sem, ↓reduceIte, Nat.reduceEqDiff, Nat.reduceLeDiff, Nat.reduceAdd] <;> rfl))); (first | apply SCall.ofX | apply DCall.ofX); (focus (first | assumption)); (focus (simp (disch := omega) only [go_sem, Nat.reduceAdd] <;> rfl))) | ((with_reducible first | apply SC.condB | apply SC.region | apply SO.run | apply DO.run); (focus (simp (disch := omega) only [go_sem, ↓reduceIte, Nat.reduceEqDiff, Nat.reduceLeDiff, Nat.reduceAdd, reduceCtorEq, if_pos, q1] <;> rfl)); (first | refine pickT ?_ | refine pickF ?_ | fail_if_success with_reducible refine pickA ?_)) | ((with_reducible refine SC.draw Tab.mixed ?_ ?_); (focus rfl)) | (with_reducible apply SC.ops)))
  have ho : ∀ p : Nat → Prop, OnlyH p [(0, ⟨108, bN (decP 9 x) ++ List.replicate 15 (.sc (.int .u8 0)), false⟩)] := fun p => only_bN p _ _ _ _
  refine SO.inl (by simp (disch := omega) only [go_sem]; rfl) goI4 (by simp (disch := omega) only [go_sem, ↓reduceIte, Nat.reduceEqDiff]; rfl) (by simp (disch := omega) only [go_sem] <;> rfl) ?_
  refine SInl.of c2 (by simp (disch := omega) only [go_sem, ↓reduceIte]; try exact ⟨rfl, rfl, trivial⟩) (only_tu _) (ho _) (by simp (disch := omega) only [go_sem]; rfl) (by simp (disch := omega) only [go_sem, ↓reduceIte, decide_true, Bool.or_false, List.cons_append, List.nil_append]; rfl) ?_
  have ec : ∀ (Z : List V) (H : List (Nat × Blk)) (ty : Nat) (c : Option Nat), _ := fun Z H ty c => conv_sl (decP 9 x) Z H ty c 9 (decP_length _ _)
  (repeat (first | refine DO.nil (by kernel_rfl) ?_ | (with_reducible refine oz (by constructor <;> decide) ?_) | ((with_reducible first | apply SC.condB | apply SC.region | apply SO.run | apply DO.run); (focus (simp (disch := omega) only [go_sem, ↓reduceIte, Nat.reduceEqDiff, Nat.reduceLeDiff, if_pos] <;> rfl)); (first | refine pickT ?_ | refine pickF ?_ | fail_if_success with_reducible refine pickA ?_)) | ((with_reducible refine SC.draw Tab.mixed ?_ ?_); (focus rfl)) | (with_reducible apply SC.ops)))
  exact retQ_ret Tryz.results88 (by simp (disch := omega) only [go_sem, ↓reduceIte]; rfl) (by simp (disch := omega) only [go_sem, ↓reduceIte, Nat.reduceAdd]; rfl) rfl
theorem fmtU_s (x : Nat) (h : x < 1000000000) : Spec Tryz.prog 88 [.sc (.int .u64 x), .sc (.int .i64 10)] (.sc (.string (st (dec x)))) := by
  by_cases h2 : x < 100
  · exact fmt_small x h2
  by_cases h3 : x < 1000
  · exact fmt3 x (by omega) h3
  by_cases h4 : x < 10000
  · exact fmt4 x (by omega) h4
  by_cases h5 : x < 100000
  · exact fmt5 x (by omega) h5
  by_cases h6 : x < 1000000
  · exact fmt6 x (by omega) h6
  by_cases h7 : x < 10000000
  · exact fmt7 x (by omega) h7
  by_cases h8 : x < 100000000
  · exact fmt8 x (by omega) h8
  by_cases h9 : x < 1000000000
  · exact fmt9 x (by omega) h9
  omega
theorem format_s (x : Nat) (h : x < 1000000000) : Spec Tryz.prog 70 [.sc (.int .u64 x), .sc (.int .i64 10)] (.sc (.string (st (dec x)))) := by
  have c1 := fmtU_s x h
  refine Spec.run Tryz.func70 rfl Tryz.ntmps70 (by simp) (by simp (disch := omega) only [go_sem, Nat.reduceAdd]; rfl) fun B hB => ?_
  (repeat (first | refine DO.nil (by kernel_rfl) ?_ | (with_reducible refine oz (by constructor <;> decide) ?_) | ((first | apply SO.call | apply DO.call); (iterate 3 (focus (simp (disch := omega) only [go_sem, ↓reduceIte, Nat.reduceEqDiff, Nat.reduceLT] <;> rfl))); (first | apply SCall.ofX | apply DCall.ofX); (focus (first | assumption)); (focus (simp (disch := omega) only [go_sem] <;> rfl))) | ((with_reducible first | apply SC.condB | apply SC.region | apply SO.run | apply DO.run); (focus (simp (disch := omega) only [go_sem, ↓reduceIte, Nat.reduceEqDiff, Nat.reduceLT, reduceCtorEq] <;> rfl)); (first | refine pickT ?_ | refine pickF ?_ | fail_if_success with_reducible refine pickA ?_)) | ((with_reducible refine SC.draw Tab.mixed ?_ ?_); (focus rfl)) | (with_reducible apply SC.ops)))
  exact retQ_ret Tryz.results70 (by simp (disch := omega) only [go_sem, ↓reduceIte]; rfl) (by simp (disch := omega) only [go_sem]; rfl) rfl
end Go.Proofs.YtpodnbcdddcdmaaGreatDoor

/- strings.Repeat("0", n), n below nine: closed runs. -/
namespace Go.Proofs.YtpodnbcdddcdmaaGreatDoor
open Go.RowKit
theorem rep_s (n : Nat) (h : n < 9) : Spec Tryz.prog 71 [.sc (.string (st [48])), .sc (.int .i64 n)] (.sc (.string (st (List.replicate n 48)))) := by
  match n, h with
  | 0, _ | 1, _ | 2, _ | 3, _ | 4, _ | 5, _ | 6, _ | 7, _ | 8, _ => exact Spec.eval (K := fun _ _ => none) (fun _ _ _ h => by cases h) 60 (fun _ => false) (by kernel_rfl)
end Go.Proofs.YtpodnbcdddcdmaaGreatDoor

/- strings.CutPrefix of a minus sign. -/
namespace Go.Proofs.YtpodnbcdddcdmaaGreatDoor
open Go.RowKit
theorem bs_len (bs : ByteArray) : bs.data.toList.length = bs.size := rfl
theorem loop_eq (bs : ByteArray) : ∀ (n i : Nat) (r : List UInt8), bs.size - i ≤ n → ByteArray.toList.loop bs i r = r.reverse ++ bs.data.toList.drop i := by
  intro n
  induction n with
  | zero =>
    intro i r h
    rw [ByteArray.toList.loop, if_neg (by omega)]
    rw [List.drop_of_length_le (by rw [bs_len]; omega), List.append_nil]
  | succ n ih =>
    intro i r h
    rw [ByteArray.toList.loop]
    by_cases hi : i < bs.size
    · rw [if_pos hi, ih (i + 1) _ (by omega)]
      have hi2 : i < bs.data.toList.length := by rw [bs_len]; exact hi
      rw [List.drop_eq_getElem_cons hi2]
      have : bs.get! i = bs.data.toList[i] := by
        show bs.data[i]! = _
        rw [getElem!_pos bs.data i hi]; rfl
      rw [this]; simp
    · rw [if_neg hi]
      rw [List.drop_of_length_le (by rw [bs_len]; omega), List.append_nil]
theorem toList_eq (bs : ByteArray) : bs.toList = bs.data.toList := by
  rw [ByteArray.toList, loop_eq bs bs.size 0 [] (by omega)]; rfl
theorem st_inj {a b : List Nat} (ha : ∀ x ∈ a, x < 256) (hb : ∀ x ∈ b, x < 256) (h : st a = st b) : a = b := by
  have h1 : a.map UInt8.ofNat = b.map UInt8.ofNat := by
    have := congrArg (fun s : ByteArray => s.data.toList) h
    simpa [st] using this
  have h2 := congrArg (List.map UInt8.toNat) h1
  rw [List.map_map, List.map_map] at h2
  have key : ∀ l : List Nat, (∀ x ∈ l, x < 256) → l.map (UInt8.toNat ∘ UInt8.ofNat) = l := by
    intro l hl
    induction l with
    | nil => rfl
    | cons x l ih =>
      rw [List.map_cons, ih fun y hy => hl y (by simp [hy])]
      have := hl x (by simp)
      simp only [Function.comp, UInt8.toNat_ofNat_of_lt' this]
  rw [key a ha, key b hb] at h2
  exact h2
end Go.Proofs.YtpodnbcdddcdmaaGreatDoor

/- strings.CutPrefix of a minus sign. -/
namespace Go.Proofs.YtpodnbcdddcdmaaGreatDoor
open Go.RowKit
def unM (l : List Nat) : List Nat := if l.head? = some 45 then l.tail else l
def isM (l : List Nat) : Bool := decide (l.head? = some 45)
end Go.Proofs.YtpodnbcdddcdmaaGreatDoor
