/- Texts joined: Uf Ug Us. -/
import Derived.Test.YtpodnbcdddcdmaaGreatDoorVc
import Derived.Test.YtpodnbcdddcdmaaGreatDoorVh
import Derived.Test.YtpodnbcdddcdmaaGreatDoorVo
set_option linter.all false
/- Texts of rational numbers. -/
namespace Go.Proofs.YtpodnbcdddcdmaaGreatDoor
open Go.RowKit
def rtxt (q : Rat) : List Nat := if q.den = 1 then txt q.num else txt q.num ++ (47 :: txt (q.den : Int))
theorem txt_inj {a b : Int} (h : txt a = txt b) : a = b := by
  have h1 := isM_txt a
  have h2 := unM_txt a
  rw [h] at h1 h2
  rw [isM_txt] at h1
  rw [unM_txt] at h2
  have h3 := dec_inj h2
  have h4 : (b < 0) ↔ (a < 0) := by
    constructor
    · intro h; rw [decide_eq_true h] at h1; exact of_decide_eq_true h1.symm
    · intro h; rw [decide_eq_true h] at h1; exact of_decide_eq_true h1
  omega
theorem txt_slash (z : Int) : ∀ x ∈ txt z, (x != 47) = true := by
  intro x hx
  unfold txt at hx
  rcases List.mem_append.1 hx with h | h
  · split at h
    · simp at h; subst h; rfl
    · cases h
  · have := dec_digs _ x h
    simp; omega
theorem take_slash : ∀ (A B : List Nat), (∀ x ∈ A, (x != 47) = true) → (A ++ 47 :: B).takeWhile (· != 47) = A ∧ (A ++ 47 :: B).dropWhile (· != 47) = 47 :: B
  | [], B, _ => by simp
  | x :: A, B, h => by
    obtain ⟨h1, h2⟩ := take_slash A B fun y hy => h y (by simp [hy])
    have hx := h x (by simp)
    rw [List.cons_append, List.takeWhile_cons, List.dropWhile_cons, hx, if_pos rfl, if_pos rfl, h1, h2]
    exact ⟨rfl, rfl⟩
theorem take_none : ∀ (A : List Nat), (∀ x ∈ A, (x != 47) = true) → A.dropWhile (· != 47) = []
  | [], _ => rfl
  | x :: A, h => by rw [List.dropWhile_cons, h x (by simp), if_pos rfl]; exact take_none A fun y hy => h y (by simp [hy])
theorem rtxt_inj {a b : Rat} (h : rtxt a = rtxt b) : a = b := by
  unfold rtxt at h
  by_cases ha : a.den = 1 <;> by_cases hb : b.den = 1
  · rw [if_pos ha, if_pos hb] at h
    exact Rat.ext (txt_inj h) (ha.trans hb.symm)
  · rw [if_pos ha, if_neg hb] at h
    have h1 := take_none _ (txt_slash a.num)
    rw [h, (take_slash _ _ (txt_slash _)).2] at h1
    cases h1
  · rw [if_neg ha, if_pos hb] at h
    have h1 := take_none _ (txt_slash b.num)
    rw [← h, (take_slash _ _ (txt_slash _)).2] at h1
    cases h1
  · rw [if_neg ha, if_neg hb] at h
    have h1 := take_slash (txt a.num) (txt a.den) (txt_slash _)
    have h2 := take_slash (txt b.num) (txt b.den) (txt_slash _)
    rw [h] at h1
    have e1 := txt_inj (h1.1.symm.trans h2.1)
    have e2 := h1.2.symm.trans h2.2
    simp only [List.cons.injEq, true_and] at e2
    have e3 := txt_inj e2
    exact Rat.ext e1 (by omega)
theorem rtxt_lt (q : Rat) : ∀ x ∈ rtxt q, x < 256 := by
  intro x hx
  unfold rtxt at hx
  split at hx
  · exact txt_lt _ x hx
  · rcases List.mem_append.1 hx with h | h
    · exact txt_lt _ x h
    · rcases List.mem_cons.1 h with rfl | h
      · decide
      · exact txt_lt _ x h
theorem strB_eq {a b : List Nat} (ha : ∀ x ∈ a, x < 256) (hb : ∀ x ∈ b, x < 256) : strB .eql (st a) (st b) = some (.bool (decide (a = b))) := by
  unfold strB
  simp only
  by_cases h : a = b
  · subst h; simp
  · rw [decide_eq_false h]
    have : ((st a).toList == (st b).toList) = false := by
      rw [beq_eq_false_iff_ne]
      intro e
      rw [toList_eq, toList_eq] at e
      exact h (st_inj ha hb (ByteArray.ext (Array.toList_inj.1 e)))
    rw [this]
theorem prtext_s (q : Rat) (K : Nat) (hq : RF K q) (hK : K ≤ 1000) (hK1 : 1 ≤ K) : Spec Tryz.prog 7 [rv q] (.sc (.string (st (rtxt q)))) := by
  have c1 := pIntegral_i q K hq (by omega) hK1
  have c2 := text_s q.num K hq.1 hK
  have c3 := text_s (q.den : Int) K hq.2 hK
  have l2 := txt_len q.num K hq.1
  have l3 := txt_len (q.den : Int) K hq.2
  unfold rtxt
  by_cases hd : q.den = 1
  · rw [decide_eq_true hd] at c1
    rw [if_pos hd]
    ((try unfold rv at *); (try unfold rt at *); (try unfold iv at *); (try unfold sv at *))
    refine Spec.run Tryz.func7 rfl Tryz.ntmps7 (by simp) (by simp (disch := omega) only [go_sem]; rfl) fun B hB => ?_
    (repeat (first | refine DO.nil (by kernel_rfl) ?_ | (with_reducible refine oz (by constructor <;> decide) ?_) | ((first | apply SO.call | apply DO.call); (iterate 3 (focus (simp (disch := omega) only [go_sem, ↓reduceIte] <;> rfl))); (first | apply SCall.ofX | apply DCall.ofX); (focus (first | assumption)); (focus (simp (disch := omega) only [go_sem] <;> rfl))) | ((with_reducible first | apply SC.condB | apply SC.region | apply SO.run | apply DO.run); (focus (simp (disch := omega) only [go_sem, ↓reduceIte, Nat.reduceEqDiff, Nat.reduceLeDiff, Nat.reduceAdd, reduceCtorEq] <;> rfl)); (first | refine pickT ?_ | refine pickF ?_ | fail_if_success with_reducible refine pickA ?_)) | ((with_reducible refine SC.draw Tab.mixed ?_ ?_); (focus rfl)) | (with_reducible apply SC.ops)))
    exact retQ_ret Tryz.results7 (by simp (disch := omega) only [go_sem, ↓reduceIte]; rfl) (by simp (disch := omega) only [go_sem]; rfl) rfl
  · rw [decide_eq_false hd] at c1
    rw [if_neg hd]
    have s1 : strB .add (st (txt q.num)) ⟨#[47]⟩ = some (.string (st (txt q.num ++ [47]))) := strB_st _ [47] (by simp; omega)
    have s2 : strB .add (st (txt q.num ++ [47])) (st (txt (q.den : Int))) = some (.string (st (txt q.num ++ 47 :: txt (q.den : Int)))) := by
      rw [strB_st _ _ (by simp; omega), List.append_assoc]; rfl
    ((try unfold rv at *); (try unfold rt at *); (try unfold iv at *); (try unfold sv at *))
    refine Spec.run Tryz.func7 rfl Tryz.ntmps7 (by simp) (by simp (disch := omega) only [go_sem]; rfl) fun B hB => ?_
    (repeat (first | refine DO.nil (by kernel_rfl) ?_ | (with_reducible refine oz (by constructor <;> decide) ?_) | ((first | apply SO.call | apply DO.call); (iterate 3 (focus (simp (disch := omega) only [go_sem, ↓reduceIte] <;> rfl))); (first | apply SCall.ofX | apply DCall.ofX); (focus (first | assumption)); (focus (simp (disch := omega) only [go_sem] <;> rfl))) | ((with_reducible first | apply SC.condB | apply SC.region | apply SO.run | apply DO.run); (focus (simp (disch := omega) only [go_sem, ↓reduceIte, Nat.reduceEqDiff, Nat.reduceLT, Nat.reduceLeDiff, Nat.reduceAdd, reduceCtorEq, s1, s2] <;> rfl)); (first | refine pickT ?_ | refine pickF ?_ | fail_if_success with_reducible refine pickA ?_)) | ((with_reducible refine SC.draw Tab.mixed ?_ ?_); (focus rfl)) | (with_reducible apply SC.ops)))
    exact retQ_ret Tryz.results7 (by simp (disch := omega) only [go_sem, ↓reduceIte]; rfl) (by simp (disch := omega) only [go_sem]; rfl) rfl
theorem rIntegral_i (a : Rat) (K : Nat) (ha : RF K a) (hK : K ≤ 1000000) (hK1 : 1 ≤ K) : Spec Tryz.prog 31 [rv a] (.sc (.bool (decide (a.den = 1)))) := by
  have c1 := of_i 1 (by decide) (by decide)
  have c2 := cmp_i (a.den : Int) 1 K ha.2 ((fits_one (n := 1) (by decide)).mono hK1) (by omega)
  have q1 : ((((a.den : Int) - 1).sign) == 0) = decide (a.den = 1) := by
    by_cases h : a.den = 1
    · rw [decide_eq_true h, h]; rfl
    · rw [decide_eq_false h, beq_eq_false_iff_ne]; intro e; have := Int.sign_eq_zero_iff_zero.1 e; omega
  ((try unfold rv at *); (try unfold rt at *); (try unfold iv at *); (try unfold sv at *))
  refine Spec.run Tryz.func31 rfl Tryz.ntmps31 (by simp) (by simp (disch := omega) only [go_sem]; rfl) fun B hB => ?_
  (repeat (first | refine DO.nil (by kernel_rfl) ?_ | (with_reducible refine oz (by constructor <;> decide) ?_) | ((first | apply SO.call | apply DO.call); (iterate 3 (focus (simp (disch := omega) only [go_sem, ↓reduceIte, Nat.reduceEqDiff] <;> rfl))); (first | apply SCall.ofX | apply DCall.ofX); (focus (first | assumption)); (focus (simp (disch := omega) only [go_sem] <;> rfl))) | ((with_reducible first | apply SC.condB | apply SC.region | apply SO.run | apply DO.run); (focus (simp (disch := omega) only [go_sem, ↓reduceIte, Nat.reduceEqDiff, Nat.reduceLT, Nat.reduceLeDiff, Nat.reduceAdd, reduceCtorEq, q1] <;> rfl)); (first | refine pickT ?_ | refine pickF ?_ | fail_if_success with_reducible refine pickA ?_)) | ((with_reducible refine SC.draw Tab.mixed ?_ ?_); (focus rfl)) | (with_reducible apply SC.ops)))
  exact retQ_ret Tryz.results31 (by simp (disch := omega) only [go_sem, ↓reduceIte]; rfl) (by simp (disch := omega) only [go_sem]; rfl) rfl
theorem rrtext_s (q : Rat) (K : Nat) (hq : RF K q) (hK : K ≤ 1000) (hK1 : 1 ≤ K) : Spec Tryz.prog 36 [rv q] (.sc (.string (st (rtxt q)))) := by
  have c1 := rIntegral_i q K hq (by omega) hK1
  have c2 := rtext_s q.num K hq.1 hK
  have c3 := rtext_s (q.den : Int) K hq.2 hK
  have l2 := txt_len q.num K hq.1
  have l3 := txt_len (q.den : Int) K hq.2
  unfold rtxt
  by_cases hd : q.den = 1
  · rw [decide_eq_true hd] at c1
    rw [if_pos hd]
    ((try unfold rv at *); (try unfold rt at *); (try unfold iv at *); (try unfold sv at *))
    refine Spec.run Tryz.func36 rfl Tryz.ntmps36 (by simp) (by simp (disch := omega) only [go_sem]; rfl) fun B hB => ?_
    (repeat (first | refine DO.nil (by kernel_rfl) ?_ | (with_reducible refine oz (by constructor <;> decide) ?_) | ((first | apply SO.call | apply DO.call); (iterate 3 (focus (simp (disch := omega) only [go_sem, ↓reduceIte] <;> rfl))); (first | apply SCall.ofX | apply DCall.ofX); (focus (first | assumption)); (focus (simp (disch := omega) only [go_sem] <;> rfl))) | ((with_reducible first | apply SC.condB | apply SC.region | apply SO.run | apply DO.run); (focus (simp (disch := omega) only [go_sem, ↓reduceIte, Nat.reduceEqDiff, Nat.reduceLeDiff, Nat.reduceAdd, reduceCtorEq] <;> rfl)); (first | refine pickT ?_ | refine pickF ?_ | fail_if_success with_reducible refine pickA ?_)) | ((with_reducible refine SC.draw Tab.mixed ?_ ?_); (focus rfl)) | (with_reducible apply SC.ops)))
    exact retQ_ret Tryz.results36 (by simp (disch := omega) only [go_sem, ↓reduceIte]; rfl) (by simp (disch := omega) only [go_sem]; rfl) rfl
  · rw [decide_eq_false hd] at c1
    rw [if_neg hd]
    have s1 : strB .add (st (txt q.num)) ⟨#[47]⟩ = some (.string (st (txt q.num ++ [47]))) := strB_st _ [47] (by simp; omega)
    have s2 : strB .add (st (txt q.num ++ [47])) (st (txt (q.den : Int))) = some (.string (st (txt q.num ++ 47 :: txt (q.den : Int)))) := by
      rw [strB_st _ _ (by simp; omega), List.append_assoc]; rfl
    ((try unfold rv at *); (try unfold rt at *); (try unfold iv at *); (try unfold sv at *))
    refine Spec.run Tryz.func36 rfl Tryz.ntmps36 (by simp) (by simp (disch := omega) only [go_sem]; rfl) fun B hB => ?_
    (repeat (first | refine DO.nil (by kernel_rfl) ?_ | (with_reducible refine oz (by constructor <;> decide) ?_) | ((first | apply SO.call | apply DO.call); (iterate 3 (focus (simp (disch := omega) only [go_sem, ↓reduceIte] <;> rfl))); (first | apply SCall.ofX | apply DCall.ofX); (focus (first | assumption)); (focus (simp (disch := omega) only [go_sem] <;> rfl))) | ((with_reducible first | apply SC.condB | apply SC.region | apply SO.run | apply DO.run); (focus (simp (disch := omega) only [go_sem, ↓reduceIte, Nat.reduceEqDiff, Nat.reduceLT, Nat.reduceLeDiff, Nat.reduceAdd, reduceCtorEq, s1, s2] <;> rfl)); (first | refine pickT ?_ | refine pickF ?_ | fail_if_success with_reducible refine pickA ?_)) | ((with_reducible refine SC.draw Tab.mixed ?_ ?_); (focus rfl)) | (with_reducible apply SC.ops)))
    exact retQ_ret Tryz.results36 (by simp (disch := omega) only [go_sem, ↓reduceIte]; rfl) (by simp (disch := omega) only [go_sem]; rfl) rfl
end Go.Proofs.YtpodnbcdddcdmaaGreatDoor

/- The reference's rational numbers, the rest: Mul, Div, Floor, Round; both Valids of arbitrary fractions. -/
namespace Go.Proofs.YtpodnbcdddcdmaaGreatDoor
open Go.RowKit
theorem rMul_i (a b : Rat) (K : Nat) (ha : RF K a) (hb : RF K b) (hK : K ≤ 100000) : Spec Tryz.prog 20 [rv a, rv b] (rv (a * b)) := by
  have c1 := mul_i a.num b.num K ha.1 hb.1 (by omega)
  have c2 := mul_i a.den b.den K ha.2 hb.2 (by omega)
  have c3 := rof_i (a.num * b.num) (a.den * b.den) (K + K) (ha.1.mul hb.1) (ha.2.mul hb.2) (by omega) (Int.mul_ne_zero (den_ne a) (den_ne b))
  rw [show Rat.divInt (a.num * b.num) (a.den * b.den) = a * b from (rat_mul a b).symm] at c3
  generalize a * b = c at *
  ((try unfold rv at *); (try unfold rt at *); (try unfold iv at *); (try unfold sv at *))
  refine Spec.run Tryz.func20 rfl Tryz.ntmps20 (by simp) (by simp (disch := omega) only [go_sem, Nat.reduceAdd]; rfl) fun B hB => ?_
  (repeat (first | refine DO.nil (by kernel_rfl) ?_ | (with_reducible refine oz (by constructor <;> decide) ?_) | ((first | apply SO.call | apply DO.call); (iterate 3 (focus (simp (disch := omega) only [go_sem, ↓reduceIte, Nat.reduceEqDiff, Nat.reduceLT] <;> rfl))); (first | apply SCall.ofX | apply DCall.ofX); (focus (first | assumption)); (focus (simp (disch := omega) only [go_sem] <;> rfl))) | ((with_reducible first | apply SC.condB | apply SC.region | apply SO.run | apply DO.run); (focus (simp (disch := omega) only [go_sem, ↓reduceIte, Nat.reduceEqDiff, Nat.reduceLeDiff, Nat.reduceAdd, reduceCtorEq] <;> rfl)); (first | refine pickT ?_ | refine pickF ?_ | fail_if_success with_reducible refine pickA ?_)) | ((with_reducible refine SC.draw Tab.mixed ?_ ?_); (focus rfl)) | (with_reducible apply SC.ops)))
  exact retQ_ret Tryz.results20 (by simp (disch := omega) only [go_sem, ↓reduceIte, Nat.reduceEqDiff, Nat.reduceLeDiff, Nat.reduceAdd]; rfl) (by simp (disch := omega) only [go_sem, ↓reduceIte]; rfl) rfl
theorem rDiv_i (a b : Rat) (K : Nat) (ha : RF K a) (hb : RF K b) (hK : K ≤ 100000) (h0 : b ≠ 0) : Spec Tryz.prog 12 [rv a, rv b] (.tu [rv (a / b), .sc (.int .i64 0)]) := by
  have hbn : b.num ≠ 0 := fun h => h0 (Rat.num_eq_zero.1 h)
  have c1 := mul_i a.num b.den K ha.1 hb.2 (by omega)
  have c2 := mul_i a.den b.num K ha.2 hb.1 (by omega)
  have c3 := rOf_i (a.num * b.den) (a.den * b.num) (K + K) (ha.1.mul hb.2) (ha.2.mul hb.1) (by omega) (Int.mul_ne_zero (den_ne a) hbn)
  rw [show Rat.divInt (a.num * b.den) (a.den * b.num) = a / b from (rat_div a b h0).symm] at c3
  generalize a / b = c at *
  ((try unfold rv at *); (try unfold rt at *); (try unfold iv at *); (try unfold sv at *))
  refine Spec.run Tryz.func12 rfl Tryz.ntmps12 (by simp) (by simp (disch := omega) only [go_sem, Nat.reduceAdd]; rfl) fun B hB => ?_
  (repeat (first | refine DO.nil (by kernel_rfl) ?_ | (with_reducible refine oz (by constructor <;> decide) ?_) | ((first | apply SO.call | apply DO.call); (iterate 3 (focus (simp (disch := omega) only [go_sem, ↓reduceIte, Nat.reduceEqDiff] <;> rfl))); (first | apply SCall.ofX | apply DCall.ofX); (focus (first | assumption)); (focus (simp (disch := omega) only [go_sem] <;> rfl))) | ((with_reducible first | apply SC.condB | apply SC.region | apply SO.run | apply DO.run); (focus (simp (disch := omega) only [go_sem, ↓reduceIte, Nat.reduceEqDiff, Nat.reduceLT, Nat.reduceLeDiff, Nat.reduceAdd, reduceCtorEq] <;> rfl)); (first | refine pickT ?_ | refine pickF ?_ | fail_if_success with_reducible refine pickA ?_)) | ((with_reducible refine SC.draw Tab.mixed ?_ ?_); (focus rfl)) | (with_reducible apply SC.ops)))
  exact retQ_ret Tryz.results12 (by simp (disch := omega) only [go_sem, ↓reduceIte, Nat.reduceEqDiff, Nat.reduceLeDiff, Nat.reduceAdd]; rfl) (by simp (disch := omega) only [go_sem, ↓reduceIte]; rfl) rfl
theorem rDiv_zero (a : Rat) (K : Nat) (ha : RF K a) (hK : K ≤ 100000) : Spec Tryz.prog 12 [rv a, rv 0] (.tu [rt 0 0, .sc (.int .i64 3)]) := by
  have c1 := mul_i a.num 1 (K + 1) (ha.1.mono (by omega)) (Fits.one (by omega)) (by omega)
  have c2 := mul_i a.den 0 K ha.2 (fits_zeroT K) (by omega)
  have c3 := rOf_zero a.num K ha.1 (by omega)
  rw [Int.mul_one] at c1
  rw [Int.mul_zero] at c2
  have e : rv (0 : Rat) = rt 0 1 := rfl
  rw [e]
  ((try unfold rv at *); (try unfold rt at *); (try unfold iv at *); (try unfold sv at *))
  refine Spec.run Tryz.func12 rfl Tryz.ntmps12 (by simp) (by simp (disch := omega) only [go_sem, Nat.reduceAdd]; rfl) fun B hB => ?_
  (repeat (first | refine DO.nil (by kernel_rfl) ?_ | (with_reducible refine oz (by constructor <;> decide) ?_) | ((first | apply SO.call | apply DO.call); (iterate 3 (focus (simp (disch := omega) only [go_sem, ↓reduceIte, Nat.reduceEqDiff] <;> rfl))); (first | apply SCall.ofX | apply DCall.ofX); (focus (first | assumption)); (focus (simp (disch := omega) only [go_sem] <;> rfl))) | ((with_reducible first | apply SC.condB | apply SC.region | apply SO.run | apply DO.run); (focus (simp (disch := omega) only [go_sem, ↓reduceIte, Nat.reduceEqDiff, Nat.reduceLT, Nat.reduceLeDiff, Nat.reduceAdd, reduceCtorEq] <;> rfl)); (first | refine pickT ?_ | refine pickF ?_ | fail_if_success with_reducible refine pickA ?_)) | ((with_reducible refine SC.draw Tab.mixed ?_ ?_); (focus rfl)) | (with_reducible apply SC.ops)))
  exact retQ_ret Tryz.results12 (by simp (disch := omega) only [go_sem, ↓reduceIte, Nat.reduceEqDiff, Nat.reduceLeDiff, Nat.reduceAdd]; rfl) (by simp (disch := omega) only [go_sem, ↓reduceIte]; rfl) rfl
theorem rSame_z : Spec Tryz.prog 8 [rt 0 0, rt 0 0] (.sc (.bool true)) := by
  have c1 := same_i 0 0 (by unfold Short; decide) (by unfold Short; decide)
  rw [decide_eq_true rfl] at c1
  ((try unfold rv at *); (try unfold rt at *); (try unfold iv at *); (try unfold sv at *))
  refine Spec.run Tryz.func8 rfl Tryz.ntmps8 (by simp) (by simp (disch := omega) only [go_sem, Nat.reduceAdd]; rfl) fun B hB => ?_
  (repeat (first | refine DO.nil (by kernel_rfl) ?_ | (with_reducible refine oz (by constructor <;> decide) ?_) | ((first | apply SO.call | apply DO.call); (iterate 3 (focus (simp (disch := omega) only [go_sem, ↓reduceIte, Nat.reduceEqDiff] <;> rfl))); (first | apply SCall.ofX | apply DCall.ofX); (focus (first | assumption)); (focus (simp (disch := omega) only [go_sem] <;> rfl))) | ((with_reducible first | apply SC.condB | apply SC.region | apply SO.run | apply DO.run); (focus (simp (disch := omega) only [go_sem, ↓reduceIte, Nat.reduceEqDiff, Nat.reduceLT, Nat.reduceLeDiff, Nat.reduceAdd, reduceCtorEq] <;> rfl)); (first | refine pickT ?_ | refine pickF ?_ | fail_if_success with_reducible refine pickA ?_)) | ((with_reducible refine SC.draw Tab.mixed ?_ ?_); (focus rfl)) | (with_reducible apply SC.ops)))
  exact retQ_ret Tryz.results8 (by simp (disch := omega) only [go_sem, ↓reduceIte]; rfl) (by simp (disch := omega) only [go_sem]; rfl) rfl
theorem rFloor_i (a : Rat) (K : Nat) (ha : RF K a) (hK : K ≤ 1000000) : Spec Tryz.prog 27 [rv a] (iv (a.num / a.den)) := by
  have c1 := divmod_i a.num a.den K ha.1 ha.2 (by omega) (den_ne a)
  ((try unfold rv at *); (try unfold rt at *); (try unfold iv at *); (try unfold sv at *))
  refine Spec.run Tryz.func27 rfl Tryz.ntmps27 (by simp) (by simp (disch := omega) only [go_sem]; rfl) fun B hB => ?_
  (repeat (first | refine DO.nil (by kernel_rfl) ?_ | (with_reducible refine oz (by constructor <;> decide) ?_) | ((first | apply SO.call | apply DO.call); (iterate 3 (focus (simp (disch := omega) only [go_sem, ↓reduceIte, Nat.reduceEqDiff] <;> rfl))); (first | apply SCall.ofX | apply DCall.ofX); (focus (first | assumption)); (focus (simp (disch := omega) only [go_sem] <;> rfl))) | ((with_reducible first | apply SC.condB | apply SC.region | apply SO.run | apply DO.run); (focus (simp (disch := omega) only [go_sem, ↓reduceIte, Nat.reduceEqDiff, Nat.reduceLT, Nat.reduceLeDiff, Nat.reduceAdd, reduceCtorEq] <;> rfl)); (first | refine pickT ?_ | refine pickF ?_ | fail_if_success with_reducible refine pickA ?_)) | ((with_reducible refine SC.draw Tab.mixed ?_ ?_); (focus rfl)) | (with_reducible apply SC.ops)))
  exact retQ_ret Tryz.results27 (by simp (disch := omega) only [go_sem, ↓reduceIte, Nat.reduceEqDiff, Nat.reduceLeDiff, Nat.reduceAdd]; rfl) (by simp (disch := omega) only [go_sem, ↓reduceIte]; rfl) rfl
theorem floor_divInt (n d : Int) (hd : 0 < d) : (Rat.divInt n d).num / ((Rat.divInt n d).den : Int) = n / d := by
  rw [Rat.num_divInt, Rat.den_divInt, if_neg (by omega), Int.sign_eq_one_of_pos hd, Int.one_mul]
  have hg : 0 < d.gcd n := Int.gcd_pos_of_ne_zero_left _ (by omega)
  have e1 : ((d.natAbs / d.gcd n : Nat) : Int) = d / (d.gcd n : Int) := by
    rw [Int.natCast_ediv, Int.natAbs_of_nonneg (by omega)]
  rw [e1]
  obtain ⟨n', hn⟩ := Int.gcd_dvd_right d n
  obtain ⟨d', hd'⟩ := Int.gcd_dvd_left d n
  have hg' : (0 : Int) < (d.gcd n : Int) := by omega
  generalize (d.gcd n : Int) = g at *
  rw [hn, hd', Int.mul_ediv_cancel_left _ (by omega), Int.mul_ediv_cancel_left _ (by omega), Int.mul_ediv_mul_of_pos _ _ hg']
theorem rround_add (a : Rat) : (a + Rat.divInt 1 2).num / ((a + Rat.divInt 1 2).den : Int) = rround a := by
  have h : a + Rat.divInt 1 2 = Rat.divInt (a.num + a.num + a.den) (a.den + a.den) := by
    have := Rat.divInt_add_divInt a.num 1 (den_ne a) (d₂ := 2) (by decide)
    rw [Rat.num_divInt_den] at this
    rw [this]
    congr 1 <;> omega
  rw [h, floor_divInt _ _ (by have := a.den_pos; omega)]; rfl
theorem rRound_i (a : Rat) (K : Nat) (ha : RF K a) (hK : K ≤ 10000) (hK1 : 1 ≤ K) : Spec Tryz.prog 29 [rv a] (iv (rround a)) := by
  have c1 := rMade_i 1 2 (by decide) (by decide) (by decide) (by decide) (by decide)
  have h2 : RF K (Rat.divInt 1 2) := RF.divInt (Fits.one hK1) ((fits_one (n := 2) (by decide)).mono hK1) (by decide)
  have c2 := rAdd_i a (Rat.divInt 1 2) K ha h2 (by omega)
  have c3 := rFloor_i (a + Rat.divInt 1 2) (K + K + 1) ((ha.add h2).mono (by omega)) (by omega)
  rw [rround_add] at c3
  generalize a + Rat.divInt 1 2 = c at *
  generalize Rat.divInt 1 2 = hf at *
  ((try unfold rv at *); (try unfold rt at *); (try unfold iv at *); (try unfold sv at *))
  refine Spec.run Tryz.func29 rfl Tryz.ntmps29 (by simp) (by simp (disch := omega) only [go_sem]; rfl) fun B hB => ?_
  (repeat (first | refine DO.nil (by kernel_rfl) ?_ | (with_reducible refine oz (by constructor <;> decide) ?_) | ((first | apply SO.call | apply DO.call); (iterate 3 (focus (simp (disch := omega) only [go_sem, ↓reduceIte, Nat.reduceEqDiff, Nat.reduceLT] <;> rfl))); (first | apply SCall.ofX | apply DCall.ofX); (focus (first | assumption)); (focus (simp (disch := omega) only [go_sem] <;> rfl))) | ((with_reducible first | apply SC.condB | apply SC.region | apply SO.run | apply DO.run); (focus (simp (disch := omega) only [go_sem, ↓reduceIte, Nat.reduceEqDiff, Nat.reduceLeDiff, Nat.reduceAdd, reduceCtorEq] <;> rfl)); (first | refine pickT ?_ | refine pickF ?_ | fail_if_success with_reducible refine pickA ?_)) | ((with_reducible refine SC.draw Tab.mixed ?_ ?_); (focus rfl)) | (with_reducible apply SC.ops)))
  exact retQ_ret Tryz.results29 (by simp (disch := omega) only [go_sem, ↓reduceIte, Nat.reduceEqDiff, Nat.reduceLeDiff, Nat.reduceAdd]; rfl) (by simp (disch := omega) only [go_sem, ↓reduceIte]; rfl) rfl
/-! ### Valid of arbitrary fractions -/
theorem rvalid_g (l : List Nat) (n : Nat) (neg : Bool) (hn : n = l.length) (hm : n ≤ 9223372036854775807) : Spec Tryz.prog 56 [.ag [.sc (.bool neg), .im (lv l) n]] (.sc (.bool (validB l neg))) := by
  subst hn
  refine Spec.run Tryz.func56 rfl Tryz.ntmps56 (by simp) (by simp (disch := omega) only [go_sem]; rfl) fun B hB => ?_
  by_cases h0 : l.length = 0
  · have q1 : ((l.length : Int) == 0) = true := by rw [h0]; rfl
    (repeat (first | refine DO.nil (by kernel_rfl) ?_ | (with_reducible refine SC.condB (by simp (disch := omega) only [go_sem, ↓reduceIte]; rfl) ?_; first | with_reducible refine pickT ?_ | with_reducible refine pickF ?_) | (with_reducible refine oz (by constructor <;> decide) ?_) | ((with_reducible apply SC.region); (focus (simp (disch := omega) only [go_sem, ↓reduceIte, Nat.reduceEqDiff, reduceCtorEq, q1]; rfl))) | (with_reducible refine SC.draw Tab.mixed rfl ?_; (repeat (refine DO.run (by simp (disch := omega) only [go_sem, ↓reduceIte, Nat.reduceEqDiff, Nat.reduceLT, Nat.reduceLeDiff, Nat.reduceAdd, Nat.reduceMul, Nat.reduceSub, reduceCtorEq, Nat.reduceBEq, Int.reduceToNat, Int.reducePow, if_pos, if_neg, q1, lv_len]; rfl) ?_)); refine DO.nil (by kernel_rfl) ?_)))
    refine retQ_ret Tryz.results56 (by simp (disch := omega) only [go_sem, ↓reduceIte]; rfl) (by simp (disch := omega) only [go_sem]; rfl) ?_
    unfold validB; rw [if_pos h0]
  · have q1 : ((l.length : Int) == 0) = false := by rw [beq_eq_false_iff_ne]; omega
    have hi : ((l.length : Int) - 1).toNat = l.length - 1 := by omega
    have hg := lv_get (l := l) (i := l.length - 1) (by omega)
    (repeat (first | refine DO.nil (by kernel_rfl) ?_ | (with_reducible refine SC.condB (by simp (disch := omega) only [go_sem, ↓reduceIte]; rfl) ?_; first | with_reducible refine pickT ?_ | with_reducible refine pickF ?_) | (with_reducible refine oz (by constructor <;> decide) ?_) | ((with_reducible apply SC.region); (focus (simp (disch := omega) only [go_sem, ↓reduceIte, Nat.reduceEqDiff, Nat.reduceLT, reduceCtorEq, if_pos, q1, hi, hg, lv_len, List.getElem?_drop]; rfl))) | (with_reducible refine SC.draw Tab.mixed rfl ?_; (repeat (refine DO.run (by simp (disch := omega) only [go_sem, ↓reduceIte, Nat.reduceEqDiff, Nat.reduceLT, Nat.reduceLeDiff, Nat.reduceAdd, Nat.reduceMul, Nat.reduceSub, reduceCtorEq, Nat.reduceBEq, Int.reduceToNat, Int.reducePow, if_pos, if_neg, q1, hi, hg, lv_len, List.getElem?_drop]; rfl) ?_)); refine DO.nil (by kernel_rfl) ?_)))
    refine retQ_ret Tryz.results56 (by simp (disch := omega) only [go_sem, ↓reduceIte]; rfl) (by simp (disch := omega) only [go_sem]; rfl) ?_
    unfold validB
    rw [if_neg h0]
    generalize l.getD (l.length - 1) 0 = x
    have : (((x : Int) != 0) : Bool) = (x != 0) := by
      by_cases hx : x = 0
      · subst hx; rfl
      · have h1 : ((x : Int) != 0) = true := by simp only [bne_iff_ne, ne_eq]; omega
        have h2 : (x != 0) = true := by simp only [bne_iff_ne, ne_eq]; omega
        rw [h1, h2]
    rw [this]
theorem validB_iv {l : List Nat} {neg : Bool} (hl : limbs l) (h : validB l neg = true) : limbsOf (sgn neg (val l)).natAbs = l ∧ decide (sgn neg (val l) < 0) = neg := by
  rw [sgn_natAbs]
  have hc : canon l := by
    intro hn
    unfold validB at h
    have h0 := List.length_pos_iff.2 hn
    rw [if_neg (by omega), bne_iff_ne, List.getD_eq_getElem?_getD, List.getElem?_eq_getElem (by omega)] at h
    rw [List.getLast_eq_getElem]; exact h
  refine ⟨(canon_inj hl (limbsOf_limbs _) hc (limbsOf_canon _) (limbsOf_val _).symm).symm, ?_⟩
  unfold sgn
  cases neg with
  | false => simp
  | true =>
    simp
    unfold validB at h
    by_cases h0 : l.length = 0
    · rw [if_pos h0] at h; cases h
    · have := canon_ge hc (by intro e; rw [e] at h0; simp at h0)
      have : 0 < 4294967296 ^ (l.length - 1) := Nat.pow_pos (by decide)
      omega
def ratV (n d : Int) : Bool := decide (0 < d) && decide (Int.gcd n d = 1)
def ratB (l1 : List Nat) (n1 : Bool) (l2 : List Nat) (n2 : Bool) : Bool := validB l1 n1 && validB l2 n2 && ratV (sgn n1 (val l1)) (sgn n2 (val l2))
theorem prv_s (n d : Int) (K : Nat) (hn : Fits K n) (hd : Fits K d) (hK : K ≤ 100000000) (v1 : Spec Tryz.prog 52 [iv n] (.sc (.bool true))) (v2 : Spec Tryz.prog 52 [iv d] (.sc (.bool true))) : Spec Tryz.prog 13 [rt n d] (.sc (.bool (ratV n d))) := by
  have c3 := psign_i d K hd (by omega)
  have c4 := pgcd_i n d K hn hd (by omega)
  have c5 := pof_i 1 (by decide) (by decide)
  unfold ratV
  by_cases h0 : 0 < d
  · have q1 : decide (d.sign ≤ 0) = false := by rw [Int.sign_eq_one_of_pos h0]; rfl
    have hg : Int.gcd n d ≤ d.natAbs := Nat.le_of_dvd (by omega) (Int.gcd_dvd_natAbs_right n d)
    have hgf : Fits K ((Int.gcd n d : Nat) : Int) := by unfold Fits at *; rw [Int.natAbs_natCast]; omega
    have c6 := pcmp_i ((Int.gcd n d : Nat) : Int) 1 (K + 1) (hgf.mono (by omega)) (Fits.one (by omega)) (by omega)
    have q2 : ((((Int.gcd n d : Nat) : Int) - 1).sign == 0) = (decide (0 < d) && decide (Int.gcd n d = 1)) := by
      rw [decide_eq_true h0, Bool.true_and, Bool.eq_iff_iff, beq_iff_eq, decide_eq_true_iff, Int.sign_eq_zero_iff_zero]
      omega
    generalize (decide (0 < d) && decide (Int.gcd n d = 1)) = R at *
    generalize Int.gcd n d = g at *
    ((try unfold rt at *); (try unfold iv at *); (try unfold sv at *))
    refine Spec.run Tryz.func13 rfl Tryz.ntmps13 (by simp) (by simp (disch := omega) only [go_sem]; rfl) fun B hB => ?_
    (repeat (first | refine DO.nil (by kernel_rfl) ?_ | (with_reducible refine oz (by constructor <;> decide) ?_) | ((first | apply SO.call | apply DO.call); (iterate 3 (focus (simp (disch := omega) only [go_sem, ↓reduceIte, Nat.reduceEqDiff] <;> rfl))); (first | apply SCall.ofX | apply DCall.ofX); (focus (first | assumption)); (focus (simp (disch := omega) only [go_sem] <;> rfl))) | ((with_reducible first | apply SC.condB | apply SC.region | apply SO.run | apply DO.run); (focus (simp (disch := omega) only [go_sem, ↓reduceIte, Nat.reduceEqDiff, Nat.reduceLT, Nat.reduceLeDiff, Nat.reduceAdd, reduceCtorEq, q1, q2] <;> rfl)); (first | refine pickT ?_ | refine pickF ?_ | fail_if_success with_reducible refine pickA ?_)) | ((with_reducible refine SC.draw Tab.mixed ?_ ?_); (focus rfl)) | (with_reducible apply SC.ops)))
    exact retQ_ret Tryz.results13 (by simp (disch := omega) only [go_sem, ↓reduceIte] <;> rfl) rfl rfl
  · have q1 : decide (d.sign ≤ 0) = true := by
      rw [decide_eq_true_iff]
      rcases Int.lt_or_eq_of_le (Int.not_lt.1 h0) with h | h
      · rw [Int.sign_eq_neg_one_of_neg h]; decide
      · rw [h]; decide
    rw [decide_eq_false h0, Bool.false_and]
    clear c4 c5
    ((try unfold rt at *); (try unfold iv at *); (try unfold sv at *))
    refine Spec.run Tryz.func13 rfl Tryz.ntmps13 (by simp) (by simp (disch := omega) only [go_sem]; rfl) fun B hB => ?_
    (repeat (first | refine DO.nil (by kernel_rfl) ?_ | (with_reducible refine oz (by constructor <;> decide) ?_) | ((first | apply SO.call | apply DO.call); (iterate 3 (focus (simp (disch := omega) only [go_sem, ↓reduceIte, Nat.reduceEqDiff] <;> rfl))); (first | apply SCall.ofX | apply DCall.ofX); (focus (first | assumption)); (focus (simp (disch := omega) only [go_sem] <;> rfl))) | ((with_reducible first | apply SC.condB | apply SC.region | apply SO.run | apply DO.run); (focus (simp (disch := omega) only [go_sem, ↓reduceIte, Nat.reduceEqDiff, Nat.reduceLeDiff, Nat.reduceAdd, reduceCtorEq, q1] <;> rfl)); (first | refine pickT ?_ | refine pickF ?_ | fail_if_success with_reducible refine pickA ?_)) | ((with_reducible refine SC.draw Tab.mixed ?_ ?_); (focus rfl)) | (with_reducible apply SC.ops)))
    exact retQ_ret Tryz.results13 (by simp (disch := omega) only [go_sem, ↓reduceIte] <;> rfl) rfl rfl
theorem rrv_s (n d : Int) (K : Nat) (hn : Fits K n) (hd : Fits K d) (hK : K ≤ 100000000) (v1 : Spec Tryz.prog 56 [iv n] (.sc (.bool true))) (v2 : Spec Tryz.prog 56 [iv d] (.sc (.bool true))) : Spec Tryz.prog 14 [rt n d] (.sc (.bool (ratV n d))) := by
  have c3 := sign_i d K hd (by omega)
  have c4 := rgcd_i n d K hn hd (by omega)
  have c5 := of_i 1 (by decide) (by decide)
  unfold ratV
  by_cases h0 : 0 < d
  · have q1 : decide (d.sign < 1) = false := by rw [Int.sign_eq_one_of_pos h0]; rfl
    have hg : Int.gcd n d ≤ d.natAbs := Nat.le_of_dvd (by omega) (Int.gcd_dvd_natAbs_right n d)
    have hgf : Fits K ((Int.gcd n d : Nat) : Int) := by unfold Fits at *; rw [Int.natAbs_natCast]; omega
    have c6 := cmp_i ((Int.gcd n d : Nat) : Int) 1 (K + 1) (hgf.mono (by omega)) (Fits.one (by omega)) (by omega)
    have q2 : ((((Int.gcd n d : Nat) : Int) - 1).sign == 0) = (decide (0 < d) && decide (Int.gcd n d = 1)) := by
      rw [decide_eq_true h0, Bool.true_and, Bool.eq_iff_iff, beq_iff_eq, decide_eq_true_iff, Int.sign_eq_zero_iff_zero]
      omega
    generalize (decide (0 < d) && decide (Int.gcd n d = 1)) = R at *
    generalize Int.gcd n d = g at *
    ((try unfold rt at *); (try unfold iv at *); (try unfold sv at *))
    refine Spec.run Tryz.func14 rfl Tryz.ntmps14 (by simp) (by simp (disch := omega) only [go_sem]; rfl) fun B hB => ?_
    (repeat (first | refine DO.nil (by kernel_rfl) ?_ | (with_reducible refine oz (by constructor <;> decide) ?_) | ((first | apply SO.call | apply DO.call); (iterate 3 (focus (simp (disch := omega) only [go_sem, ↓reduceIte, Nat.reduceEqDiff] <;> rfl))); (first | apply SCall.ofX | apply DCall.ofX); (focus (first | assumption)); (focus (simp (disch := omega) only [go_sem] <;> rfl))) | ((with_reducible first | apply SC.condB | apply SC.region | apply SO.run | apply DO.run); (focus (simp (disch := omega) only [go_sem, ↓reduceIte, Nat.reduceEqDiff, Nat.reduceLT, Nat.reduceLeDiff, Nat.reduceAdd, reduceCtorEq, q1, q2] <;> rfl)); (first | refine pickT ?_ | refine pickF ?_ | fail_if_success with_reducible refine pickA ?_)) | ((with_reducible refine SC.draw Tab.mixed ?_ ?_); (focus rfl)) | (with_reducible apply SC.ops)))
    exact retQ_ret Tryz.results14 (by simp (disch := omega) only [go_sem, ↓reduceIte] <;> rfl) rfl rfl
  · have q1 : decide (d.sign < 1) = true := by
      rw [decide_eq_true_iff]
      rcases Int.lt_or_eq_of_le (Int.not_lt.1 h0) with h | h
      · rw [Int.sign_eq_neg_one_of_neg h]; decide
      · rw [h]; decide
    rw [decide_eq_false h0, Bool.false_and]
    clear c4 c5
    ((try unfold rt at *); (try unfold iv at *); (try unfold sv at *))
    refine Spec.run Tryz.func14 rfl Tryz.ntmps14 (by simp) (by simp (disch := omega) only [go_sem]; rfl) fun B hB => ?_
    (repeat (first | refine DO.nil (by kernel_rfl) ?_ | (with_reducible refine oz (by constructor <;> decide) ?_) | ((first | apply SO.call | apply DO.call); (iterate 3 (focus (simp (disch := omega) only [go_sem, ↓reduceIte, Nat.reduceEqDiff] <;> rfl))); (first | apply SCall.ofX | apply DCall.ofX); (focus (first | assumption)); (focus (simp (disch := omega) only [go_sem] <;> rfl))) | ((with_reducible first | apply SC.condB | apply SC.region | apply SO.run | apply DO.run); (focus (simp (disch := omega) only [go_sem, ↓reduceIte, Nat.reduceEqDiff, Nat.reduceLeDiff, Nat.reduceAdd, reduceCtorEq, q1] <;> rfl)); (first | refine pickT ?_ | refine pickF ?_ | fail_if_success with_reducible refine pickA ?_)) | ((with_reducible refine SC.draw Tab.mixed ?_ ?_); (focus rfl)) | (with_reducible apply SC.ops)))
    exact retQ_ret Tryz.results14 (by simp (disch := omega) only [go_sem, ↓reduceIte] <;> rfl) rfl rfl
theorem valids_s (l1 l2 : List Nat) (n1 n2 : Bool) (h1 : limbs l1) (h2 : limbs l2) (e1 : l1.length ≤ 4) (e2 : l2.length ≤ 4) :
    Spec Tryz.prog 13 [.ag [.sc (.bool n1), .im (lv l1) l1.length, .sc (.bool n2), .im (lv l2) l2.length]] (.sc (.bool (ratB l1 n1 l2 n2))) ∧
    Spec Tryz.prog 14 [.ag [.sc (.bool n1), .im (lv l1) l1.length, .sc (.bool n2), .im (lv l2) l2.length]] (.sc (.bool (ratB l1 n1 l2 n2))) := by
  have c1 := valid_g l1 _ n1 rfl (by omega)
  have c2 := valid_g l2 _ n2 rfl (by omega)
  have d1 := rvalid_g l1 _ n1 rfl (by omega)
  have d2 := rvalid_g l2 _ n2 rfl (by omega)
  unfold ratB
  cases v1 : validB l1 n1 with
  | false =>
    rw [v1] at c1 d1
    rw [Bool.false_and, Bool.false_and]
    constructor
    · refine Spec.run Tryz.func13 rfl Tryz.ntmps13 (by simp) (by simp (disch := omega) only [go_sem]; rfl) fun B hB => ?_
      (repeat (first | refine DO.nil (by kernel_rfl) ?_ | (with_reducible refine oz (by constructor <;> decide) ?_) | ((first | apply SO.call | apply DO.call); (iterate 3 (focus (simp (disch := omega) only [go_sem, ↓reduceIte, Nat.reduceEqDiff] <;> rfl))); (first | apply SCall.ofX | apply DCall.ofX); (focus (first | assumption)); (focus (simp (disch := omega) only [go_sem] <;> rfl))) | ((with_reducible first | apply SC.condB | apply SC.region | apply SO.run | apply DO.run); (focus (simp (disch := omega) only [go_sem, ↓reduceIte, Nat.reduceEqDiff, Nat.reduceLeDiff, Nat.reduceAdd, reduceCtorEq, Bool.not_false] <;> rfl)); (first | refine pickT ?_ | refine pickF ?_ | fail_if_success with_reducible refine pickA ?_)) | ((with_reducible refine SC.draw Tab.mixed ?_ ?_); (focus rfl)) | (with_reducible apply SC.ops)))
      exact retQ_ret Tryz.results13 (by simp (disch := omega) only [go_sem, ↓reduceIte] <;> rfl) rfl rfl
    · refine Spec.run Tryz.func14 rfl Tryz.ntmps14 (by simp) (by simp (disch := omega) only [go_sem]; rfl) fun B hB => ?_
      (repeat (first | refine DO.nil (by kernel_rfl) ?_ | (with_reducible refine oz (by constructor <;> decide) ?_) | ((first | apply SO.call | apply DO.call); (iterate 3 (focus (simp (disch := omega) only [go_sem, ↓reduceIte, Nat.reduceEqDiff] <;> rfl))); (first | apply SCall.ofX | apply DCall.ofX); (focus (first | assumption)); (focus (simp (disch := omega) only [go_sem] <;> rfl))) | ((with_reducible first | apply SC.condB | apply SC.region | apply SO.run | apply DO.run); (focus (simp (disch := omega) only [go_sem, ↓reduceIte, Nat.reduceEqDiff, Nat.reduceLeDiff, Nat.reduceAdd, reduceCtorEq, Bool.not_false] <;> rfl)); (first | refine pickT ?_ | refine pickF ?_ | fail_if_success with_reducible refine pickA ?_)) | ((with_reducible refine SC.draw Tab.mixed ?_ ?_); (focus rfl)) | (with_reducible apply SC.ops)))
      exact retQ_ret Tryz.results14 (by simp (disch := omega) only [go_sem, ↓reduceIte] <;> rfl) rfl rfl
  | true =>
    cases v2 : validB l2 n2 with
    | false =>
      rw [v1] at c1 d1
      rw [v2] at c2 d2
      rw [Bool.true_and, Bool.false_and]
      constructor
      · refine Spec.run Tryz.func13 rfl Tryz.ntmps13 (by simp) (by simp (disch := omega) only [go_sem]; rfl) fun B hB => ?_
        (repeat (first | refine DO.nil (by kernel_rfl) ?_ | (with_reducible refine oz (by constructor <;> decide) ?_) | ((first | apply SO.call | apply DO.call); (iterate 3 (focus (simp (disch := omega) only [go_sem, ↓reduceIte, Nat.reduceEqDiff] <;> rfl))); (first | apply SCall.ofX | apply DCall.ofX); (focus (first | assumption)); (focus (simp (disch := omega) only [go_sem] <;> rfl))) | ((with_reducible first | apply SC.condB | apply SC.region | apply SO.run | apply DO.run); (focus (simp (disch := omega) only [go_sem, ↓reduceIte, Nat.reduceEqDiff, Nat.reduceLeDiff, Nat.reduceAdd, reduceCtorEq, Bool.not_false, Bool.not_true] <;> rfl)); (first | refine pickT ?_ | refine pickF ?_ | fail_if_success with_reducible refine pickA ?_)) | ((with_reducible refine SC.draw Tab.mixed ?_ ?_); (focus rfl)) | (with_reducible apply SC.ops)))
        exact retQ_ret Tryz.results13 (by simp (disch := omega) only [go_sem, ↓reduceIte] <;> rfl) rfl rfl
      · refine Spec.run Tryz.func14 rfl Tryz.ntmps14 (by simp) (by simp (disch := omega) only [go_sem]; rfl) fun B hB => ?_
        (repeat (first | refine DO.nil (by kernel_rfl) ?_ | (with_reducible refine oz (by constructor <;> decide) ?_) | ((first | apply SO.call | apply DO.call); (iterate 3 (focus (simp (disch := omega) only [go_sem, ↓reduceIte, Nat.reduceEqDiff] <;> rfl))); (first | apply SCall.ofX | apply DCall.ofX); (focus (first | assumption)); (focus (simp (disch := omega) only [go_sem] <;> rfl))) | ((with_reducible first | apply SC.condB | apply SC.region | apply SO.run | apply DO.run); (focus (simp (disch := omega) only [go_sem, ↓reduceIte, Nat.reduceEqDiff, Nat.reduceLeDiff, Nat.reduceAdd, reduceCtorEq, Bool.not_false, Bool.not_true] <;> rfl)); (first | refine pickT ?_ | refine pickF ?_ | fail_if_success with_reducible refine pickA ?_)) | ((with_reducible refine SC.draw Tab.mixed ?_ ?_); (focus rfl)) | (with_reducible apply SC.ops)))
        exact retQ_ret Tryz.results14 (by simp (disch := omega) only [go_sem, ↓reduceIte] <;> rfl) rfl rfl
    | true =>
      rw [v1] at c1 d1
      rw [v2] at c2 d2
      rw [Bool.true_and, Bool.true_and]
      obtain ⟨a1, a2⟩ := validB_iv h1 v1
      obtain ⟨b1, b2⟩ := validB_iv h2 v2
      have f1 : Fits 4 (sgn n1 (val l1)) := (fits_val h1 n1).mono e1
      have f2 : Fits 4 (sgn n2 (val l2)) := (fits_val h2 n2).mono e2
      generalize sgn n1 (val l1) = x at *
      generalize sgn n2 (val l2) = y at *
      subst a2 b2
      have t1 : V.ag [.sc (.bool (decide (x < 0))), .im (lv l1) l1.length] = iv x := by unfold iv sv; rw [a1]
      have t2 : V.ag [.sc (.bool (decide (y < 0))), .im (lv l2) l2.length] = iv y := by unfold iv sv; rw [b1]
      have t3 : V.ag [.sc (.bool (decide (x < 0))), .im (lv l1) l1.length, .sc (.bool (decide (y < 0))), .im (lv l2) l2.length] = rt x y := by unfold rt; rw [a1, b1]
      rw [t1] at c1 d1
      rw [t2] at c2 d2
      rw [t3]
      exact ⟨prv_s x y 4 f1 f2 (by decide) c1 c2, rrv_s x y 4 f1 f2 (by decide) d1 d2⟩
theorem pvalid_q (z : Int) (K : Nat) (hz : Fits K z) (hK : K ≤ 100000000000) : Spec Tryz.prog 52 [iv z] (.sc (.bool true)) := by
  have hl := fits_len hz
  have h := valid_g (limbsOf z.natAbs) _ (decide (z < 0)) rfl (by omega)
  have : validB (limbsOf z.natAbs) (decide (z < 0)) = true := by
    unfold validB
    split
    · rename_i h0
      have h1 := limbsOf_val z.natAbs
      rw [List.eq_nil_of_length_eq_zero h0] at h1
      have : z = 0 := by simp [val] at h1; omega
      subst this; rfl
    · rename_i h0
      have hc := limbsOf_canon z.natAbs
      have hne : limbsOf z.natAbs ≠ [] := fun e => h0 (by rw [e]; rfl)
      have := hc hne
      rw [List.getLast_eq_getElem] at this
      rw [List.getD_eq_getElem?_getD, List.getElem?_eq_getElem (by omega)]
      simpa using this
  rw [this] at h
  exact h
theorem ratV_of (a : Rat) : ratV a.num a.den = true := by
  unfold ratV
  rw [decide_eq_true (show (0 : Int) < a.den by have := a.den_pos; omega), Bool.true_and]
  exact decide_eq_true (by have := a.reduced; unfold Nat.Coprime at this; rwa [Int.gcd, Int.natAbs_natCast])
end Go.Proofs.YtpodnbcdddcdmaaGreatDoor

/- The fixed examples of chapter 02's law package: a closed run. -/
namespace Go.Proofs.YtpodnbcdddcdmaaGreatDoor
open Go.RowKit
def K02 (f : Nat) (ys : List V) : Option V :=
  match ys with
  | [.im cs n] => if f = 78 ∧ cs.length = n ∧ n ≤ 1000 ∧ cs.all clo = true ∧ cs.all V.one = true then some (.im cs n) else none
  | [.sc (.int .i64 n), .sc (.int .i64 d)] => if f = 38 ∧ d ≠ 0 ∧ -1000 ≤ n ∧ n < 1000 ∧ -1000 ≤ d ∧ d < 1000 then some (rv (Rat.divInt n d)) else none
  | _ => none
theorem K02_sound : KSound Tryz.prog K02 := by
  intro f ys x h
  unfold K02 at h
  split at h
  · split at h
    · rename_i hc
      obtain ⟨rfl, rfl, hn, h1, h2⟩ := hc
      simp only [Option.some.injEq] at h
      subst h
      exact clone_s _ h1 h2 (by omega)
    · cases h
  · split at h
    · rename_i hc
      obtain ⟨rfl, h0, h1, h2, h3, h4⟩ := hc
      simp only [Option.some.injEq] at h
      subst h
      exact rMade_i _ _ (by omega) (by omega) (by omega) (by omega) h0
    · cases h
  · cases h
def inl02 (f : Nat) : Bool := f == 101 || (f == 104 || (f == 58 || (f == 60 || (f == 61 || f == 49))))
set_option maxRecDepth 1000000 in
theorem sanity2_s : Spec Tryz.prog 5 [] (.sc (.bool true)) := Spec.eval K02_sound 400 inl02 (by kernel_rfl)
end Go.Proofs.YtpodnbcdddcdmaaGreatDoor
