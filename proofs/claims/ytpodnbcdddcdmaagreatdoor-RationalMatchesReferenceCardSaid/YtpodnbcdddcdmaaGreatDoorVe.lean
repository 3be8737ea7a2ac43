/- Texts joined: Jl Jo Jp. -/
import Derived.Test.YtpodnbcdddcdmaaGreatDoorVc
import Derived.Test.YtpodnbcdddcdmaaGreatDoorVd
set_option linter.all false
/- The reference's integers by value: short, Small, estimate. -/
namespace Go.Proofs.YtpodnbcdddcdmaaGreatDoor
open Go.RowKit
theorem short_i (a : List Nat) (d : Nat) (ha : limbs a) (hm : a.length ≤ 1000000000000) (hd : 0 < d) (hd2 : d < 4294967296) : Spec Tryz.prog 95 [sv a, .sc (.int .u32 d)] (.tu [sv (dg a.length (val a / d)), .sc (.int .u32 (val a % d : Nat))]) := by
  unfold sv
  refine Spec.run Tryz.func95 rfl Tryz.ntmps95 (by simp) (by simp (disch := omega) only [go_sem, Nat.reduceAdd]; rfl) fun B hB => ?_
  (repeat (first | refine DO.nil (by kernel_rfl) ?_ | (with_reducible refine SC.condB (by simp (disch := omega) only [go_sem, ↓reduceIte, Nat.reduceEqDiff, Nat.reduceLT, Nat.reduceLeDiff, Nat.reduceAdd, Nat.reduceMul, Nat.reduceSub, reduceCtorEq, Nat.reduceBEq, Int.reduceToNat, Int.reducePow, if_pos, if_neg, lv_len]; rfl) ?_; first | with_reducible refine pickT ?_ | with_reducible refine pickF ?_) | (with_reducible refine oz (by constructor <;> decide) ?_) | ((with_reducible apply SC.region); (focus (simp (disch := omega) only [go_sem, ↓reduceIte, reduceCtorEq, if_pos]; rfl))) | (with_reducible refine SC.draw Tab.mixed rfl ?_; (repeat (refine DO.run (by simp (disch := omega) only [go_sem, ↓reduceIte, Nat.reduceEqDiff, Nat.reduceLT, Nat.reduceLeDiff, Nat.reduceAdd, Nat.reduceMul, Nat.reduceSub, reduceCtorEq, Nat.reduceBEq, Int.reduceToNat, Int.reducePow, if_pos, if_neg, lv_len]; rfl) ?_)); refine DO.nil (by kernel_rfl) ?_)))
  refine SC.loop (fun x : Nat × Nat × List Nat => ⟨[(0, .im (lv a) a.length), (1, .sc (.int .u32 d)), (6, .sl 0 0 a.length 1 none), (7, .sc (.int .u64 x.2.1)), (8, .sc (.int .i64 ((x.1 : Int) - 1)))], [(0, ⟨68, lv x.2.2, false⟩)], 1, 42⟩)
    (fun x => x.1 ≤ a.length ∧ shortInv a d x.1 x.2.1 x.2.2) (fun x => x.1) (a.length, 0, List.replicate a.length 0) ?_ ?_ ?_
  · (refine Le.of [] hB (by first | exact ⟨Nat.zero_le _, fun _ _ => Nat.zero_le _⟩ | (constructor <;> (try simp) <;> (try omega))) ?_ ?_ <;> (repeat' (first | exact leSl_nil | exact leHp_nil | refine leSl_cons (by simp (disch := omega) only [go_sem, ↓reduceIte, Nat.reduceEqDiff, reduceCtorEq]; rfl) ?_ ?_ | refine leHp_cons (by simp (disch := omega) only [go_sem, ↓reduceIte]; rfl) ?_ ?_ | exact VLe.junk _ | exact VLe.refl rfl | exact VLe.nil_sl _ _ _ | exact VLe.int (by first | rfl | omega | (dsimp only; omega)) | exact VLe.bool rfl | exact VLe.sl rfl (by first | rfl | omega | (dsimp only; omega) | (simp; done)) | exact VLe.cap rfl (by first | rfl | omega | (dsimp only; omega) | (simp; done)) | exact VLe.im rfl rfl | exact HLe.new rfl | exact HLe.same rfl (LLe.refl rfl) | refine HLe.same rfl ?_ | exact LLe.nil _ | exact LLe.refl rfl | refine LLe.cons ?_ ?_)))
    exact LLe.lv (lv_rep _)
  · exact ⟨Nat.le_refl _, by simp, limbs_replicate _, hd, by simp [val]⟩
  · rintro ⟨k, r, z⟩ ⟨hk, hI⟩ K hK
    simp only at hk hI ⊢
    have hz : z.length = a.length := hI.1
    by_cases h0 : k = 0
    · subst h0
      have q1 : decide ((0 : Int) ≤ ((0 : Nat) : Int) - 1) = false := by simp
      have hdn := hI.done
      have he := dg_eq hI.2.1
      rw [hdn.1, hz] at he
      have ht : z.take a.length = z := by rw [← hz]; exact List.take_length
      (repeat (first | refine DO.nil (by kernel_rfl) ?_ | (with_reducible refine SC.condB (by simp (disch := omega) only [go_sem, ↓reduceIte]; rfl) ?_; first | with_reducible refine pickT ?_ | with_reducible refine pickF ?_) | (with_reducible refine oz (by constructor <;> decide) ?_) | ((with_reducible apply SC.region); (focus (simp (disch := omega) only [go_sem, ↓reduceIte, Nat.reduceEqDiff, Nat.reduceLT, reduceCtorEq, q1]; rfl))) | (with_reducible refine SC.draw Tab.mixed rfl ?_; (repeat (refine DO.run (by simp (disch := omega) only [go_sem, ↓reduceIte, Nat.reduceEqDiff, Nat.reduceLT, Nat.reduceLeDiff, Nat.reduceAdd, Nat.reduceMul, Nat.reduceSub, reduceCtorEq, Nat.reduceBEq, Int.reduceToNat, Int.reducePow, if_pos, if_neg, q1]; rfl) ?_)); refine DO.nil (by kernel_rfl) ?_)))
      refine retQ_ret Tryz.results95 (by simp (disch := omega) only [go_sem, ↓reduceIte, Nat.reduceEqDiff]; rfl) (by simp (disch := omega) only [go_sem, ↓reduceIte, if_pos, lv_len, lv_take, lv_clo, ht]; rfl) ?_
      have h3 := hI.2.2.1
      rw [he, hz, ← hdn.2]
      have : (r : Int) % 4294967296 = r := by omega
      rw [this]
    · obtain ⟨j, rfl⟩ : ∃ j, k = j + 1 := ⟨k - 1, by omega⟩
      have q1 : decide ((0 : Int) ≤ ((j + 1 : Nat) : Int) - 1) = true := by simp
      have hi : (((j + 1 : Nat) : Int) - 1).toNat = j := by omega
      have hj : j < a.length := by omega
      have la := limbs_getD ha j
      have ga := lv_get hj
      obtain ⟨hst, hq⟩ := hI.step hj rfl la
      have h3 := hI.2.2.1
      generalize a.getD j 0 = x at *
      have h4 : (((r : Int) * 4294967296 + (x : Int)) / (d : Int)) = (((r * 4294967296 + x) / d : Nat) : Int) := by simp
      have h5 : (((r : Int) * 4294967296 + (x : Int)) % (d : Int)) = (((r * 4294967296 + x) % d : Nat) : Int) := by simp
      have h6 : (r * 4294967296 + x) % d < d := Nat.mod_lt _ hd
      generalize (r * 4294967296 + x) / d = Q at *
      generalize (r * 4294967296 + x) % d = M at *
      (repeat (first | refine DO.nil (by kernel_rfl) ?_ | (with_reducible refine SC.condB (by simp (disch := omega) only [go_sem, ↓reduceIte]; rfl) ?_; first | with_reducible refine pickT ?_ | with_reducible refine pickF ?_) | (with_reducible refine oz (by constructor <;> decide) ?_) | ((with_reducible apply SC.region); (focus (simp (disch := omega) only [go_sem, ↓reduceIte, Nat.reduceEqDiff, reduceCtorEq, if_pos, if_neg, q1, hi, ga, h4, h5, lv_len, List.getElem?_drop]; rfl))) | (with_reducible refine SC.draw Tab.mixed rfl ?_; (repeat (refine DO.run (by simp (disch := omega) only [go_sem, ↓reduceIte, Nat.reduceEqDiff, Nat.reduceLT, Nat.reduceLeDiff, Nat.reduceAdd, Nat.reduceMul, Nat.reduceSub, reduceCtorEq, Nat.reduceBEq, Int.reduceToNat, Int.reducePow, if_pos, if_neg, q1, hi, ga, h4, h5, lv_len, List.getElem?_drop]; rfl) ?_)); refine DO.nil (by kernel_rfl) ?_)))
      refine hK _ (j, M, z.set j Q) ?_ ⟨by simp only; omega, hst⟩ (by simp only; omega)
      (refine Le.of [] hB (by first | exact ⟨Nat.zero_le _, fun _ _ => Nat.zero_le _⟩ | (constructor <;> (try simp) <;> (try omega))) ?_ ?_ <;> (repeat' (first | exact leSl_nil | exact leHp_nil | refine leSl_cons (by simp (disch := omega) only [go_sem, ↓reduceIte, Nat.reduceEqDiff, reduceCtorEq]; rfl) ?_ ?_ | refine leHp_cons (by simp (disch := omega) only [go_sem, ↓reduceIte]; rfl) ?_ ?_ | exact VLe.junk _ | exact VLe.refl rfl | exact VLe.nil_sl _ _ _ | exact VLe.int (by first | rfl | omega | (dsimp only; omega)) | exact VLe.bool rfl | exact VLe.sl rfl (by first | rfl | omega | (dsimp only; omega) | (simp; done)) | exact VLe.cap rfl (by first | rfl | omega | (dsimp only; omega) | (simp; done)) | exact VLe.im rfl rfl | exact HLe.new rfl | exact HLe.same rfl (LLe.refl rfl) | refine HLe.same rfl ?_ | exact LLe.nil _ | exact LLe.refl rfl | refine LLe.cons ?_ ?_)))
      exact LLe.lv (lv_set (by omega))
def smallI (x : Int) : Int := if (limbsOf x.natAbs).length ≤ 2 then IntKind.i64.wrap x else 0
def smallB (x : Int) : Bool := decide (-9223372036854775808 ≤ x) && decide (x ≤ 9223372036854775807)
theorem small_i (x : Int) (K : Nat) (hx : Fits K x) (hK : K ≤ 1000000000000) : Spec Tryz.prog 87 [iv x] (.tu [.sc (.int .i64 (smallI x)), .sc (.bool (smallB x))]) := by
  have lx := fits_len hx
  have vx := limbsOf_val x.natAbs
  have bx := limbsOf_limbs x.natAbs
  have cx := limbsOf_canon x.natAbs
  unfold iv sv smallI smallB
  generalize limbsOf x.natAbs = a at *
  refine Spec.run Tryz.func87 rfl Tryz.ntmps87 (by simp) (by simp (disch := omega) only [go_sem]; rfl) fun B hB => ?_
  by_cases h2 : a.length ≤ 2
  · have q0 : decide ((2 : Int) < (a.length : Int)) = false := by simp; omega
    (repeat (first | refine DO.nil (by kernel_rfl) ?_ | (with_reducible refine SC.condB (by simp (disch := omega) only [go_sem, ↓reduceIte]; rfl) ?_; first | with_reducible refine pickT ?_ | with_reducible refine pickF ?_) | (with_reducible refine oz (by constructor <;> decide) ?_) | ((with_reducible apply SC.region); (focus (simp (disch := omega) only [go_sem, ↓reduceIte, Nat.reduceEqDiff, reduceCtorEq, q0]; rfl))) | (with_reducible refine SC.draw Tab.mixed rfl ?_; (repeat (refine DO.run (by simp (disch := omega) only [go_sem, ↓reduceIte, Nat.reduceEqDiff, Nat.reduceLT, Nat.reduceLeDiff, Nat.reduceAdd, Nat.reduceMul, Nat.reduceSub, reduceCtorEq, Nat.reduceBEq, Int.reduceToNat, Int.reducePow, if_pos, if_neg, q0, lv_len]; rfl) ?_)); refine DO.nil (by kernel_rfl) ?_)))
    refine SC.loop (fun y : Nat × Nat => ⟨[(1, .pt 0 0), (4, .sc (.int .u64 y.2)), (5, .sc (.int .i64 ((y.1 : Int) - 1)))], [(0, ⟨27, [.sc (.bool (decide (x < 0))), .im (lv a) a.length], false⟩)], 1, 38⟩)
      (fun y => y.1 ≤ a.length ∧ y.2 = val (a.drop y.1)) (fun y => y.1) (a.length, 0) ?_ ?_ ?_
    · (refine Le.of [] hB (by first | exact ⟨Nat.zero_le _, fun _ _ => Nat.zero_le _⟩ | (constructor <;> (try simp) <;> (try omega))) ?_ ?_ <;> (repeat' (first | exact leSl_nil | exact leHp_nil | refine leSl_cons (by simp (disch := omega) only [go_sem, ↓reduceIte, Nat.reduceEqDiff]; rfl) ?_ ?_ | refine leHp_cons (by simp (disch := omega) only [go_sem, ↓reduceIte]; rfl) ?_ ?_ | exact VLe.junk _ | exact VLe.refl rfl | exact VLe.nil_sl _ _ _ | exact VLe.int (by first | rfl | omega | (dsimp only; omega)) | exact VLe.bool rfl | exact VLe.sl rfl (by first | rfl | omega | (dsimp only; omega) | (simp; done)) | exact VLe.cap rfl (by first | rfl | omega | (dsimp only; omega) | (simp; done)) | exact VLe.im rfl rfl | exact HLe.new rfl | exact HLe.same rfl (LLe.refl rfl) | refine HLe.same rfl ?_ | exact LLe.nil _ | exact LLe.refl rfl | refine LLe.cons ?_ ?_)))
    · exact ⟨Nat.le_refl _, by simp [val]⟩
    · rintro ⟨k, r⟩ ⟨hk, hI⟩ K hK
      simp only at hk hI ⊢
      have hr : r < 18446744073709551616 := by rw [hI]; exact le_two_lt bx h2 k
      by_cases h0 : k = 0
      · subst h0
        have q1 : decide ((0 : Int) ≤ ((0 : Nat) : Int) - 1) = false := by simp
        rw [List.drop_zero, vx] at hI
        by_cases hn : x < 0
        · have q2 := decide_eq_true hn
          (repeat (first | refine DO.nil (by kernel_rfl) ?_ | (with_reducible refine SC.condB (by simp (disch := omega) only [go_sem, ↓reduceIte]; rfl) ?_; first | with_reducible refine pickT ?_ | with_reducible refine pickF ?_) | (with_reducible refine oz (by constructor <;> decide) ?_) | ((with_reducible apply SC.region); (focus (simp (disch := omega) only [go_sem, ↓reduceIte, Nat.reduceEqDiff, reduceCtorEq, q1, q2]; rfl))) | (with_reducible refine SC.draw Tab.mixed rfl ?_; (repeat (refine DO.run (by simp (disch := omega) only [go_sem, ↓reduceIte, Nat.reduceEqDiff, Nat.reduceLT, Nat.reduceLeDiff, Nat.reduceAdd, Nat.reduceMul, Nat.reduceSub, reduceCtorEq, Nat.reduceBEq, Int.reduceToNat, Int.reducePow, if_pos, if_neg, q1, q2]; rfl) ?_)); refine DO.nil (by kernel_rfl) ?_)))
          refine retQ_ret Tryz.results87 (by simp (disch := omega) only [go_sem, ↓reduceIte, Nat.reduceEqDiff]; rfl) (by simp (disch := omega) only [go_sem, ↓reduceIte]; rfl) ?_
          rw [if_pos h2]
          have e1 : IntKind.i64.wrap (0 - IntKind.i64.wrap (r : Int)) = IntKind.i64.wrap x := by simp [IntKind.wrap, IntKind.bits, IntKind.signed]; omega
          have e2 : decide ((r : Int) ≤ 9223372036854775808) = (decide (-9223372036854775808 ≤ x) && decide (x ≤ 9223372036854775807)) := by
            rw [← Bool.decide_and]; exact decide_eq_decide.2 (by omega)
          rw [e1, e2]
        · have q2 := decide_eq_false hn
          (repeat (first | refine DO.nil (by kernel_rfl) ?_ | (with_reducible refine SC.condB (by simp (disch := omega) only [go_sem, ↓reduceIte]; rfl) ?_; first | with_reducible refine pickT ?_ | with_reducible refine pickF ?_) | (with_reducible refine oz (by constructor <;> decide) ?_) | ((with_reducible apply SC.region); (focus (simp (disch := omega) only [go_sem, ↓reduceIte, Nat.reduceEqDiff, Nat.reduceLT, reduceCtorEq, q1, q2]; rfl))) | (with_reducible refine SC.draw Tab.mixed rfl ?_; (repeat (refine DO.run (by simp (disch := omega) only [go_sem, ↓reduceIte, Nat.reduceEqDiff, Nat.reduceLT, Nat.reduceLeDiff, Nat.reduceAdd, Nat.reduceMul, Nat.reduceSub, reduceCtorEq, Nat.reduceBEq, Int.reduceToNat, Int.reducePow, if_pos, if_neg, q1, q2]; rfl) ?_)); refine DO.nil (by kernel_rfl) ?_)))
          refine retQ_ret Tryz.results87 (by simp (disch := omega) only [go_sem, ↓reduceIte, Nat.reduceEqDiff]; rfl) (by simp (disch := omega) only [go_sem, ↓reduceIte]; rfl) ?_
          rw [if_pos h2]
          have e2 : decide ((r : Int) ≤ 9223372036854775807) = (decide (-9223372036854775808 ≤ x) && decide (x ≤ 9223372036854775807)) := by
            rw [← Bool.decide_and]; exact decide_eq_decide.2 (by omega)
          rw [e2, show x = (r : Int) by omega]
      · obtain ⟨j, rfl⟩ : ∃ j, k = j + 1 := ⟨k - 1, by omega⟩
        have q1 : decide ((0 : Int) ≤ ((j + 1 : Nat) : Int) - 1) = true := by simp
        have hi : (((j + 1 : Nat) : Int) - 1).toNat = j := by omega
        have hj : j < a.length := by omega
        have ga := lv_get hj
        have la := limbs_getD bx j
        have hst := smallInv hI hj rfl
        have hr2 := le_two_lt bx h2 j
        rw [← hst] at hr2
        generalize a.getD j 0 = y at *
        (repeat (first | refine DO.nil (by kernel_rfl) ?_ | (with_reducible refine SC.condB (by simp (disch := omega) only [go_sem, ↓reduceIte]; rfl) ?_; first | with_reducible refine pickT ?_ | with_reducible refine pickF ?_) | (with_reducible refine oz (by constructor <;> decide) ?_) | ((with_reducible apply SC.region); (focus (simp (disch := omega) only [go_sem, ↓reduceIte, Nat.reduceEqDiff, reduceCtorEq, if_pos, q1, hi, ga, lv_len, List.getElem?_drop]; rfl))) | (with_reducible refine SC.draw Tab.mixed rfl ?_; (repeat (refine DO.run (by simp (disch := omega) only [go_sem, ↓reduceIte, Nat.reduceEqDiff, Nat.reduceLT, Nat.reduceLeDiff, Nat.reduceAdd, Nat.reduceMul, Nat.reduceSub, reduceCtorEq, Nat.reduceBEq, Int.reduceToNat, Int.reducePow, if_pos, if_neg, q1, hi, ga, lv_len, List.getElem?_drop]; rfl) ?_)); refine DO.nil (by kernel_rfl) ?_)))
        refine hK _ (j, r * 4294967296 + y) ?_ ⟨by simp only; omega, hst⟩ (by simp only; omega)
        (refine Le.of [] hB (by first | exact ⟨Nat.zero_le _, fun _ _ => Nat.zero_le _⟩ | (constructor <;> (try simp) <;> (try omega))) ?_ ?_ <;> (repeat' (first | exact leSl_nil | exact leHp_nil | refine leSl_cons (by simp (disch := omega) only [go_sem, ↓reduceIte, Nat.reduceEqDiff]; rfl) ?_ ?_ | refine leHp_cons (by simp (disch := omega) only [go_sem, ↓reduceIte]; rfl) ?_ ?_ | exact VLe.junk _ | exact VLe.refl rfl | exact VLe.nil_sl _ _ _ | exact VLe.int (by first | rfl | omega | (dsimp only; omega)) | exact VLe.bool rfl | exact VLe.sl rfl (by first | rfl | omega | (dsimp only; omega) | (simp; done)) | exact VLe.cap rfl (by first | rfl | omega | (dsimp only; omega) | (simp; done)) | exact VLe.im rfl rfl | exact HLe.new rfl | exact HLe.same rfl (LLe.refl rfl) | refine HLe.same rfl ?_ | exact LLe.nil _ | exact LLe.refl rfl | refine LLe.cons ?_ ?_)))
  · have q0 : decide ((2 : Int) < (a.length : Int)) = true := by simp; omega
    (repeat (first | refine DO.nil (by kernel_rfl) ?_ | (with_reducible refine SC.condB (by simp (disch := omega) only [go_sem, ↓reduceIte]; rfl) ?_; first | with_reducible refine pickT ?_ | with_reducible refine pickF ?_) | (with_reducible refine oz (by constructor <;> decide) ?_) | ((with_reducible apply SC.region); (focus (simp (disch := omega) only [go_sem, ↓reduceIte, Nat.reduceEqDiff, reduceCtorEq, q0]; rfl))) | (with_reducible refine SC.draw Tab.mixed rfl ?_; (repeat (refine DO.run (by simp (disch := omega) only [go_sem, ↓reduceIte, Nat.reduceEqDiff, Nat.reduceLT, Nat.reduceLeDiff, Nat.reduceAdd, Nat.reduceMul, Nat.reduceSub, reduceCtorEq, Nat.reduceBEq, Int.reduceToNat, Int.reducePow, if_pos, if_neg, q0, lv_len]; rfl) ?_)); refine DO.nil (by kernel_rfl) ?_)))
    refine retQ_ret Tryz.results87 (by simp (disch := omega) only [go_sem, ↓reduceIte, Nat.reduceEqDiff]; rfl) (by simp (disch := omega) only [go_sem, ↓reduceIte]; rfl) ?_
    have h3 := canon_ge cx (by intro e; subst e; simp at h2)
    have h4 : 4294967296 ^ 2 ≤ 4294967296 ^ (a.length - 1) := Nat.pow_le_pow_right (by omega) (by omega)
    rw [if_neg h2, ← Bool.decide_and, decide_eq_false (by omega)]
set_option maxHeartbeats 2000000 in
theorem est_i (r d : List Nat) (hr : limbs r) (hcr : canon r) (hd : limbs d) (hm : r.length ≤ 1000000000000) (hd2 : 2 ≤ d.length) (hrd : d.length ≤ r.length) (hle : val d ≤ val r) :
    ∃ q : Nat, 0 < q ∧ q * val d ≤ val r ∧ Spec Tryz.prog 96 [sv r, sv d] (iv q) := by
  obtain ⟨m, hdm⟩ : ∃ m, d.length = m + 1 := ⟨d.length - 1, by omega⟩
  obtain ⟨n, hrn⟩ : ∃ n, r.length = n + 1 := ⟨r.length - 1, by omega⟩
  obtain ⟨k, rfl⟩ : ∃ k, n = m + k := ⟨n - m, by omega⟩
  have gd := lv_get (l := d) (i := m) (by omega)
  have gr := lv_get (l := r) (i := m + k) (by omega)
  have yl := limbs_getD hd m
  have xl := limbs_getD hr (m + k)
  have i1 : ((d.length : Int) - 1).toNat = m := by omega
  have i2 : ((r.length : Int) - 1).toNat = m + k := by omega
  have hxz : r.getD (m + k) 0 ≠ 0 := by
    have h := hcr (by intro e; subst e; simp at hrn)
    rw [List.getLast_eq_getElem] at h
    rw [List.getD_eq_getElem?_getD, List.getElem?_eq_getElem (by omega)]
    simpa [hrn] using h
  rcases Nat.eq_zero_or_pos k with hk | hk
  · subst hk
    have hest := est_zero (n := m) hd (by omega) hdm hle _ _ rfl rfl
    refine ⟨_, hest.1, hest.2, ?_⟩
    rw [Nat.add_zero] at gr xl i2 hxz
    generalize r.getD m 0 = x at *
    generalize d.getD m 0 = y at *
    obtain ⟨q, hq⟩ : ∃ q : Nat, q = x / (y + 1) := ⟨_, rfl⟩
    have hqx : q ≤ x := by rw [hq]; exact Nat.div_le_self _ _
    have hqi : (x : Int) / ((y : Int) + 1) = (q : Int) := by rw [hq]; simp
    rw [← hq] at hest ⊢
    have q1 : (((r.length : Int) - (d.length : Int)) == 0) = true := by simp only [beq_iff_eq]; omega
    by_cases h1 : 1 < q
    · have c1 := of_i (q : Int) (by omega) (by omega)
      rw [Nat.max_eq_right (by omega)]
      unfold iv sv at c1 ⊢
      refine Spec.run Tryz.func96 rfl Tryz.ntmps96 (by simp) (by simp (disch := omega) only [go_sem, Nat.reduceAdd]; rfl) fun B hB => ?_
      (repeat (first | refine DO.nil (by kernel_rfl) ?_ | (with_reducible refine oz (by constructor <;> decide) ?_) | ((first | apply SO.call | apply DO.call); (iterate 3 (focus (simp (disch := omega) only [go_sem, ↓reduceIte] <;> rfl))); (first | apply SCall.ofX | apply DCall.ofX); (focus (first | assumption)); (focus (simp (disch := omega) only [go_sem] <;> rfl))) | ((with_reducible first | apply SC.condB | apply SC.region | apply SO.run | apply DO.run); (focus (simp (disch := omega) only [go_sem, ↓reduceIte, Nat.reduceEqDiff, Nat.reduceLeDiff, Nat.reduceAdd, reduceCtorEq, if_pos, if_neg, lv_len, i1, i2, q1, gd, gr, hqi, List.getElem?_drop] <;> rfl)); (first | refine pickT ?_ | refine pickF ?_ | fail_if_success with_reducible refine pickA ?_)) | ((with_reducible refine SC.draw Tab.mixed ?_ ?_); (focus rfl)) | (with_reducible apply SC.ops)))
      exact retQ_ret Tryz.results96 (by simp (disch := omega) only [go_sem, ↓reduceIte, Nat.reduceEqDiff, Nat.reduceLeDiff, Nat.reduceAdd]; rfl) (by simp (disch := omega) only [go_sem, ↓reduceIte]; rfl) rfl
    · have c1 := of_i 1 (by omega) (by omega)
      rw [Nat.max_eq_left (by omega)]
      unfold iv sv at c1 ⊢
      refine Spec.run Tryz.func96 rfl Tryz.ntmps96 (by simp) (by simp (disch := omega) only [go_sem, Nat.reduceAdd]; rfl) fun B hB => ?_
      (repeat (first | refine DO.nil (by kernel_rfl) ?_ | (with_reducible refine oz (by constructor <;> decide) ?_) | ((first | apply SO.call | apply DO.call); (iterate 3 (focus (simp (disch := omega) only [go_sem, ↓reduceIte] <;> rfl))); (first | apply SCall.ofX | apply DCall.ofX); (focus (first | assumption)); (focus (simp (disch := omega) only [go_sem] <;> rfl))) | ((with_reducible first | apply SC.condB | apply SC.region | apply SO.run | apply DO.run); (focus (simp (disch := omega) only [go_sem, ↓reduceIte, Nat.reduceEqDiff, Nat.reduceLeDiff, Nat.reduceAdd, reduceCtorEq, if_pos, if_neg, lv_len, i1, i2, q1, gd, gr, hqi, List.getElem?_drop] <;> rfl)); (first | refine pickT ?_ | refine pickF ?_ | fail_if_success with_reducible refine pickA ?_)) | ((with_reducible refine SC.draw Tab.mixed ?_ ?_); (focus rfl)) | (with_reducible apply SC.ops)))
      exact retQ_ret Tryz.results96 (by simp (disch := omega) only [go_sem, ↓reduceIte, Nat.reduceEqDiff, Nat.reduceLeDiff, Nat.reduceAdd]; rfl) (by simp (disch := omega) only [go_sem, ↓reduceIte]; rfl) rfl
  · obtain ⟨j, rfl⟩ : ∃ j, k = j + 1 := ⟨k - 1, by omega⟩
    obtain ⟨m', rfl⟩ : ∃ m', m = m' + 1 := ⟨m - 1, by omega⟩
    have gz := lv_get (l := r) (i := m' + j + 1) (by omega)
    have zl := limbs_getD hr (m' + j + 1)
    have hest := est_more (r := r) (d := d) (n := m') (k := j) hd (by omega) (by omega) _ _ _ (by rw [show m' + j + 2 = m' + 1 + (j + 1) by omega]) rfl rfl hxz yl
    refine ⟨_, ?_, hest.2, ?_⟩
    · exact Nat.mul_pos hest.1 (Nat.pow_pos (by omega))
    have i3 : ((r.length : Int) - 2).toNat = m' + j + 1 := by omega
    generalize r.getD (m' + 1 + (j + 1)) 0 = x at *
    generalize d.getD (m' + 1) 0 = y at *
    generalize r.getD (m' + j + 1) 0 = z at *
    have hqi : ((x : Int) * 4294967296 + (z : Int)) / ((y : Int) + 1) = (((x * 4294967296 + z) / (y + 1) : Nat) : Int) := by simp
    have hq0 : (x * 4294967296 + z) / (y + 1) ≤ x * 4294967296 + z := Nat.div_le_self _ _
    generalize (x * 4294967296 + z) / (y + 1) = q at *
    have q1 : (((r.length : Int) - (d.length : Int)) == 0) = false := by simp only [beq_eq_false_iff_ne, ne_eq]; omega
    have i4 : ((r.length : Int) - (d.length : Int) - 1).toNat = j := by omega
    have hql : limbs [q % 4294967296, q / 4294967296] := limbs_two q (by omega)
    have c1 := made_i (List.replicate j 0 ++ [q % 4294967296, q / 4294967296]) false (by
      intro t ht
      rcases List.mem_append.1 ht with ht | ht
      · exact limbs_replicate j t ht
      · exact hql t ht) (by simp; omega)
    rw [val_append, val_replicate, val_two, List.length_replicate, Nat.zero_add, Nat.mul_comm] at c1
    rw [show ∀ n : Nat, sgn false n = (n : Int) from fun _ => rfl] at c1
    have w1 : (q : Int) % 4294967296 = ((q % 4294967296 : Nat) : Int) := by simp
    have w2 : (q : Int) / 2 ^ min 32 64 % 4294967296 = ((q / 4294967296 : Nat) : Int) := by
      have : (2 : Int) ^ min 32 64 = 4294967296 := by decide
      rw [this]; omega
    have hlst : List.replicate j (V.sc (.int .u32 0)) ++ [V.sc (.int .u32 ((q % 4294967296 : Nat) : Int)), V.sc (.int .u32 ((q / 4294967296 : Nat) : Int))] = lv (List.replicate j 0 ++ [q % 4294967296, q / 4294967296]) := by simp [lv]
    have hll : (List.replicate j 0 ++ [q % 4294967296, q / 4294967296]).length = j + 2 := by simp
    generalize List.replicate j 0 ++ [q % 4294967296, q / 4294967296] = L at *
    have ht : L.take (j + 2) = L := by rw [← hll]; exact List.take_length
    unfold iv sv at c1 ⊢
    rw [hll] at c1
    refine Spec.run Tryz.func96 rfl Tryz.ntmps96 (by simp) (by simp (disch := omega) only [go_sem, Nat.reduceAdd]; rfl) fun B hB => ?_
    (repeat (first | refine DO.nil (by kernel_rfl) ?_ | (with_reducible refine oz (by constructor <;> decide) ?_) | ((first | apply SO.call | apply DO.call); (iterate 3 (focus (simp (disch := omega) only [go_sem, ↓reduceIte, Nat.reduceLT, if_pos, lv_len, ht, lv_take, lv_clo] <;> rfl))); (first | apply SCall.ofX | apply DCall.ofX); (focus (first | assumption)); (focus (simp (disch := omega) only [go_sem, ↓reduceIte, Nat.reduceBEq] <;> rfl))) | ((with_reducible first | apply SC.condB | apply SC.region | apply SO.run | apply DO.run); (focus (simp (disch := omega) only [go_sem, ↓reduceIte, Nat.reduceEqDiff, Nat.reduceLT, Nat.reduceLeDiff, Nat.reduceAdd, reduceCtorEq, Int.reduceToNat, if_pos, if_neg, lv_len, i1, i2, i3, i4, q1, gd, gr, gz, hqi, List.getElem?_drop, w1, w2, hlst, List.take_replicate, Nat.min_self, List.length_replicate] <;> rfl)); (first | refine pickT ?_ | refine pickF ?_ | fail_if_success with_reducible refine pickA ?_)) | ((with_reducible refine SC.draw Tab.mixed ?_ ?_); (focus rfl)) | (with_reducible apply SC.ops)))
    exact retQ_ret Tryz.results96 (by simp (disch := omega) only [go_sem, ↓reduceIte, Nat.reduceEqDiff, Nat.reduceLeDiff, Nat.reduceAdd, reduceCtorEq]; rfl) (by simp (disch := omega) only [go_sem, ↓reduceIte]; rfl) rfl
end Go.Proofs.YtpodnbcdddcdmaaGreatDoor

/- The reference's integers by value: divide. -/
namespace Go.Proofs.YtpodnbcdddcdmaaGreatDoor
open Go.RowKit
theorem fits_nat {K n : Nat} (h : n < 4294967296 ^ K) : Fits K (n : Int) := by unfold Fits; simpa using h
theorem fits_len' {K n : Nat} (h : n < 4294967296 ^ K) : (limbsOf n).length ≤ K := canon_len (limbsOf_canon _) (by rw [limbsOf_val]; exact h)
theorem made_nat (n : Nat) (h : (limbsOf n).length ≤ 1000000000000) : Spec Tryz.prog 40 [sv (limbsOf n), .sc (.bool false)] (iv n) := by
  have := made_i (limbsOf n) false (limbsOf_limbs _) h
  rwa [limbsOf_val] at this
theorem limbsOf_ge {n : Nat} (h : 4294967296 ≤ n) : 2 ≤ (limbsOf n).length := by
  have h1 := val_lt (limbsOf_limbs n)
  rw [limbsOf_val] at h1
  rcases Nat.lt_or_ge (limbsOf n).length 2 with h2 | h2
  · have : 4294967296 ^ (limbsOf n).length ≤ 4294967296 ^ 1 := Nat.pow_le_pow_right (by omega) (by omega)
    omega
  · exact h2
theorem limbsOf_one {n : Nat} (h0 : 0 < n) (h : n < 4294967296) : limbsOf n = [n] := by
  have := limbsOf_eq (l := [n]) (limbs_one h) (by intro _; simp; omega)
  rwa [val_one] at this
theorem lv_one (n : Nat) : lv [n] = [.sc (.int .u32 (n : Int))] := rfl
theorem divide_one (A B : Nat) (K : Nat) (hA : A < 4294967296 ^ K) (hK : K ≤ 300000000000) (hB : 0 < B) (hB2 : B < 4294967296) : Spec Tryz.prog 72 [sv (limbsOf A), sv (limbsOf B)] (.tu [iv ((A / B : Nat) : Int), iv ((A % B : Nat) : Int)]) := by
  have la := fits_len' hA
  have ga := val_lt (limbsOf_limbs A)
  rw [limbsOf_val] at ga
  have hm := Nat.mod_lt A hB
  have c1 := short_i (limbsOf A) B (limbsOf_limbs A) (by omega) hB hB2
  rw [limbsOf_val] at c1
  have c2 := dg_made (limbsOf A).length (A / B) false (Nat.lt_of_le_of_lt (Nat.div_le_self _ _) ga) (by omega)
  have c3 := made_i [A % B] false (limbs_one (by omega)) (by simp)
  rw [val_one] at c3
  rw [limbsOf_one hB hB2]
  unfold sv at c1 c2 c3 ⊢
  rw [lv_one] at c3 ⊢
  unfold iv sv at c2 c3 ⊢
  simp only [List.length_singleton] at c3 ⊢
  have q1 : (((1 : Nat) : Int) == 1) = true := by decide
  refine Spec.run Tryz.func72 rfl Tryz.ntmps72 (by simp) (by simp (disch := omega) only [go_sem, Nat.reduceAdd]; rfl) fun B hB => ?_
  (repeat (first | refine DO.nil (by kernel_rfl) ?_ | (with_reducible refine oz (by constructor <;> decide) ?_) | ((first | apply SO.call | apply DO.call); (iterate 3 (focus (simp (disch := omega) only [go_sem, ↓reduceIte, Nat.reduceEqDiff, Nat.reduceLeDiff] <;> rfl))); (first | apply SCall.ofX | apply DCall.ofX); (focus (first | assumption)); (focus (simp (disch := omega) only [go_sem, ↓reduceIte, Nat.reduceBEq] <;> rfl))) | ((with_reducible first | apply SC.condB | apply SC.region | apply SO.run | apply DO.run); (focus (simp (disch := omega) only [go_sem, ↓reduceIte, Nat.reduceEqDiff, Nat.reduceLT, Nat.reduceLeDiff, Nat.reduceAdd, reduceCtorEq, Int.reduceToNat, if_pos, q1] <;> rfl)); (first | refine pickT ?_ | refine pickF ?_ | fail_if_success with_reducible refine pickA ?_)) | ((with_reducible refine SC.draw Tab.mixed ?_ ?_); (focus rfl)) | (with_reducible apply SC.ops)))
  exact retQ_ret Tryz.results72 (by simp (disch := omega) only [go_sem, ↓reduceIte, Nat.reduceEqDiff, Nat.reduceLeDiff, Nat.reduceAdd, reduceCtorEq]; rfl) (by simp (disch := omega) only [go_sem, ↓reduceIte]; rfl) rfl
set_option maxHeartbeats 2000000 in
theorem divide_long (X Y : Nat) (K : Nat) (hA : X < 4294967296 ^ K) (hBK : Y < 4294967296 ^ K) (hK : K ≤ 300000000000) (hB2 : 4294967296 ≤ Y) : Spec Tryz.prog 72 [sv (limbsOf X), sv (limbsOf Y)] (.tu [iv ((X / Y : Nat) : Int), iv ((X % Y : Nat) : Int)]) := by
  have la := fits_len' hA
  have lb := fits_len' hBK
  have cA := made_nat X (by omega)
  have cB := made_nat Y (by omega)
  have hb2 := limbsOf_ge hB2
  have bb := limbsOf_limbs Y
  have hbc := limbsOf_canon Y
  obtain ⟨m, hm⟩ : ∃ m, (limbsOf Y).length = m + 1 := ⟨(limbsOf Y).length - 1, by omega⟩
  have gb := lv_get (l := limbsOf Y) (i := m) (by omega)
  have yl := limbs_getD bb m
  have y0 : (limbsOf Y).getD m 0 ≠ 0 := by
    have h := hbc (by intro e; rw [e] at hm; simp at hm)
    rw [List.getLast_eq_getElem] at h
    rw [List.getD_eq_getElem?_getD, List.getElem?_eq_getElem (by omega)]
    simpa [hm] using h
  generalize (limbsOf Y).getD m 0 = y at *
  have i1 : (((limbsOf Y).length : Int) - 1).toNat = m := by omega
  have q1 : (((limbsOf Y).length : Int) == 1) = false := by simp only [beq_eq_false_iff_ne, ne_eq]; omega
  unfold sv at cA cB ⊢
  refine Spec.run Tryz.func72 rfl Tryz.ntmps72 (by simp) (by simp (disch := omega) only [go_sem, Nat.reduceAdd]; rfl) fun B hB => ?_
  (repeat (first | refine DO.nil (by kernel_rfl) ?_ | (with_reducible refine SC.condB (by simp (disch := omega) only [go_sem, ↓reduceIte]; rfl) ?_; first | with_reducible refine pickT ?_ | with_reducible refine pickF ?_) | (with_reducible refine oz (by constructor <;> decide) ?_) | ((with_reducible apply SC.region); (focus (simp (disch := omega) only [go_sem, ↓reduceIte, Nat.reduceEqDiff, Nat.reduceAdd, reduceCtorEq, q1]; rfl))) | (with_reducible refine SC.draw Tab.mixed rfl ?_; (repeat (refine DO.run (by simp (disch := omega) only [go_sem, ↓reduceIte, Nat.reduceEqDiff, Nat.reduceLT, Nat.reduceLeDiff, Nat.reduceAdd, Nat.reduceMul, Nat.reduceSub, reduceCtorEq, Nat.reduceBEq, Int.reduceToNat, Int.reducePow, if_pos, if_neg, q1, lv_len]; rfl) ?_)); refine DO.nil (by kernel_rfl) ?_)))
  refine SC.loop (fun s : Nat => ⟨[(0, .im (lv (limbsOf X)) (limbsOf X).length), (1, .im (lv (limbsOf Y)) (limbsOf Y).length), (4, .pt 0 0), (5, .pt 1 0), (8, .sc (.int .u32 s))], [(1, ⟨27, [.sc (.bool false), .sc (.slice none 0 0)], false⟩), (0, ⟨27, [.sc (.bool false), .sc (.slice none 0 0)], false⟩)], 2, 86⟩)
    (fun s => 0 < s ∧ s < 4294967296) (fun s => 4294967296 - s) 1 ?_ ?_ ?_
  · (refine Le.of [] hB (by first | exact ⟨Nat.zero_le _, fun _ _ => Nat.zero_le _⟩ | (constructor <;> (try simp) <;> (try omega))) ?_ ?_ <;> (repeat' (first | exact leSl_nil | exact leHp_nil | refine leSl_cons (by simp (disch := omega) only [go_sem, ↓reduceIte, Nat.reduceEqDiff, reduceCtorEq]; rfl) ?_ ?_ | refine leHp_cons (by simp (disch := omega) only [go_sem, ↓reduceIte, reduceCtorEq]; rfl) ?_ ?_ | exact VLe.junk _ | exact VLe.refl rfl | exact VLe.nil_sl _ _ _ | exact VLe.int (by first | rfl | omega | (dsimp only; omega)) | exact VLe.bool rfl | exact VLe.sl rfl (by first | rfl | omega | (dsimp only; omega) | (simp; done)) | exact VLe.cap rfl (by first | rfl | omega | (dsimp only; omega) | (simp; done)) | exact VLe.im rfl rfl | exact HLe.new rfl | exact HLe.same rfl (LLe.refl rfl) | refine HLe.same rfl ?_ | exact LLe.nil _ | exact LLe.refl rfl | refine LLe.cons ?_ ?_)))
  · omega
  · intro s ⟨hs0, hs⟩ K' hK'
    have hys : y * s ≤ 4294967295 * 4294967295 := Nat.mul_le_mul (by omega) (by omega)
    have hysi : (y : Int) * (s : Int) = ((y * s : Nat) : Int) := by simp
    have hss : s ≤ y * s := Nat.le_mul_of_pos_left _ (by omega)
    generalize y * s = ys at *
    by_cases hlt : ys < 2147483648
    · have q2 := decide_eq_true (p := (ys : Int) < 2147483648) (by omega)
      (repeat (first | refine DO.nil (by kernel_rfl) ?_ | (with_reducible refine SC.condB (by simp (disch := omega) only [go_sem, ↓reduceIte]; rfl) ?_; first | with_reducible refine pickT ?_ | with_reducible refine pickF ?_) | (with_reducible refine oz (by constructor <;> decide) ?_) | ((with_reducible apply SC.region); (focus (simp (disch := omega) only [go_sem, ↓reduceIte, Nat.reduceEqDiff, reduceCtorEq, if_pos, q2, i1, gb, hysi, lv_len, List.getElem?_drop]; rfl))) | (with_reducible refine SC.draw Tab.mixed rfl ?_; (repeat (refine DO.run (by simp (disch := omega) only [go_sem, ↓reduceIte, Nat.reduceEqDiff, Nat.reduceLT, Nat.reduceLeDiff, Nat.reduceAdd, Nat.reduceMul, Nat.reduceSub, reduceCtorEq, Nat.reduceBEq, Int.reduceToNat, Int.reducePow, if_pos, if_neg, q2, i1, gb, hysi, lv_len, List.getElem?_drop]; rfl) ?_)); refine DO.nil (by kernel_rfl) ?_)))
      refine hK' _ (2 * s) ?_ (by omega) (by omega)
      (refine Le.of [] hB (by first | exact ⟨Nat.zero_le _, fun _ _ => Nat.zero_le _⟩ | (constructor <;> (try simp) <;> (try omega))) ?_ ?_ <;> (repeat' (first | exact leSl_nil | exact leHp_nil | refine leSl_cons (by simp (disch := omega) only [go_sem, ↓reduceIte, Nat.reduceEqDiff, reduceCtorEq]; rfl) ?_ ?_ | refine leHp_cons (by simp (disch := omega) only [go_sem, ↓reduceIte, reduceCtorEq]; rfl) ?_ ?_ | exact VLe.junk _ | exact VLe.refl rfl | exact VLe.nil_sl _ _ _ | exact VLe.int (by first | rfl | omega | (dsimp only; omega)) | exact VLe.bool rfl | exact VLe.sl rfl (by first | rfl | omega | (dsimp only; omega) | (simp; done)) | exact VLe.cap rfl (by first | rfl | omega | (dsimp only; omega) | (simp; done)) | exact VLe.im rfl rfl | exact HLe.new rfl | exact HLe.same rfl (LLe.refl rfl) | refine HLe.same rfl ?_ | exact LLe.nil _ | exact LLe.refl rfl | refine LLe.cons ?_ ?_)))
    · have q2 := decide_eq_false (p := (ys : Int) < 2147483648) (by omega)
      have cs := made_i [s] false (limbs_one (by omega)) (by simp)
      rw [val_one, show sgn false s = (s : Int) from rfl] at cs
      have hsf : Fits 1 (s : Int) := fits_one (by omega)
      have cR := mul_i (X : Int) (s : Int) (K + 1) ((fits_nat hA).mono (by omega)) (hsf.mono (by omega)) (by omega)
      have cD := mul_i (Y : Int) (s : Int) (K + 1) ((fits_nat hBK).mono (by omega)) (hsf.mono (by omega)) (by omega)
      rw [← Int.natCast_mul] at cR cD
      have fR := (fits_nat hA).mul hsf
      have fD := (fits_nat hBK).mul hsf
      rw [← Int.natCast_mul] at fR fD
      have hD2 : 4294967296 ≤ Y * s := Nat.le_trans hB2 (Nat.le_mul_of_pos_right _ hs0)
      have hfin : ∀ R q : Nat, divInv (X * s) (Y * s) R q → R < Y * s → q = X / Y ∧ R / s = X % Y := fun R q h1 h2 => h1.done hs0 (by omega) h2
      have hle : ∀ R q : Nat, divInv (X * s) (Y * s) R q → R ≤ X * s ∧ q ≤ X * s := fun R q h => h.le (by omega)
      unfold sv at cs
      rw [lv_one] at cs
      simp only [List.length_singleton] at cs
      have hdi : divInv (X * s) (Y * s) (X * s) 0 := by simp [divInv]
      generalize X * s = AS at *
      generalize Y * s = D at *
      unfold iv sv at cA cB cs cR cD ⊢
      (repeat (first | refine DO.nil (by kernel_rfl) ?_ | (with_reducible refine oz (by constructor <;> decide) ?_) | ((first | apply SO.call | apply DO.call); (iterate 3 (focus (simp (disch := omega) only [go_sem, ↓reduceIte, Nat.reduceEqDiff, Nat.reduceLeDiff] <;> rfl))); (first | apply SCall.ofX | apply DCall.ofX); (focus (first | assumption)); (focus (simp (disch := omega) only [go_sem, ↓reduceIte, Nat.reduceBEq] <;> rfl))) | ((with_reducible first | apply SC.condB | apply SC.region | apply SO.run | apply DO.run); (focus (simp (disch := omega) only [go_sem, ↓reduceIte, Nat.reduceEqDiff, Nat.reduceLeDiff, Nat.reduceAdd, reduceCtorEq, if_pos, q2, i1, gb, hysi, lv_len, List.getElem?_drop] <;> rfl)); (first | refine pickT ?_ | refine pickF ?_ | fail_if_success with_reducible refine pickA ?_)) | ((with_reducible refine SC.draw Tab.mixed ?_ ?_); (focus rfl)) | (with_reducible apply SC.ops)))
      refine SC.loop (fun z : Nat × Nat => ⟨[(0, .im (lv (limbsOf X)) (limbsOf X).length), (1, .im (lv (limbsOf Y)) (limbsOf Y).length), (4, .pt 0 0), (5, .pt 1 0), (8, .sc (.int .u32 s)), (9, .pt 3 0), (10, .pt 4 0), (11, .pt 5 0), (12, .pt 6 0)], [(6, ⟨27, [.sc (.bool (decide ((z.2 : Int) < 0))), .im (lv (limbsOf (z.2 : Int).natAbs)) (limbsOf (z.2 : Int).natAbs).length], false⟩), (5, ⟨27, [.sc (.bool (decide ((D : Int) < 0))), .im (lv (limbsOf (D : Int).natAbs)) (limbsOf (D : Int).natAbs).length], false⟩), (4, ⟨27, [.sc (.bool (decide ((z.1 : Int) < 0))), .im (lv (limbsOf (z.1 : Int).natAbs)) (limbsOf (z.1 : Int).natAbs).length], false⟩), (1, ⟨27, [.sc (.bool false), .sc (.slice none 0 0)], false⟩), (0, ⟨27, [.sc (.bool false), .sc (.slice none 0 0)], false⟩)], 7, 86⟩)
        (fun z => divInv AS D z.1 z.2) (fun z => z.1) (AS, 0) ?_ hdi ?_
      · (refine Le.of [] hB (by first | exact ⟨Nat.zero_le _, fun _ _ => Nat.zero_le _⟩ | (constructor <;> (try simp) <;> (try omega))) ?_ ?_ <;> (repeat' (first | exact leSl_nil | exact leHp_nil | refine leSl_cons (by simp (disch := omega) only [go_sem, ↓reduceIte, Nat.reduceEqDiff, reduceCtorEq]; rfl) ?_ ?_ | refine leHp_cons (by simp (disch := omega) only [go_sem, ↓reduceIte, Nat.reduceEqDiff, reduceCtorEq]; rfl) ?_ ?_ | exact VLe.junk _ | exact VLe.refl rfl | exact VLe.nil_sl _ _ _ | exact VLe.int (by first | rfl | omega | (dsimp only; omega)) | exact VLe.bool rfl | exact VLe.sl rfl (by first | rfl | omega | (dsimp only; omega) | (simp; done)) | exact VLe.cap rfl (by first | rfl | omega | (dsimp only; omega) | (simp; done)) | exact VLe.im rfl rfl | exact HLe.new rfl | exact HLe.same rfl (LLe.refl rfl) | refine HLe.same rfl ?_ | exact LLe.nil _ | exact LLe.refl rfl | refine LLe.cons ?_ ?_)))
        exact VLe.nil_im
      · rintro ⟨R, q⟩ hI K' hK'
        simp only at hI ⊢
        obtain ⟨hR, hq⟩ := hle R q hI
        have fRR : Fits (K + 1) (R : Int) := fits_nat (Nat.lt_of_le_of_lt hR (by unfold Fits at fR; simpa using fR))
        have fq : Fits (K + 1) (q : Int) := fits_nat (Nat.lt_of_le_of_lt hq (by unfold Fits at fR; simpa using fR))
        have lR := fits_len fRR
        have lD := fits_len fD
        have cl := less_n (R : Int).natAbs (D : Int).natAbs (by omega) (by omega)
        have vR := limbsOf_val (R : Int).natAbs
        have vD := limbsOf_val (D : Int).natAbs
        by_cases hlt : R < D
        · rw [decide_eq_true (by omega)] at cl
          have gR := val_lt (limbsOf_limbs (R : Int).natAbs)
          have c1 := short_i (limbsOf (R : Int).natAbs) s (limbsOf_limbs _) (by omega) hs0 hs
          have c2 := dg_made (limbsOf (R : Int).natAbs).length (val (limbsOf (R : Int).natAbs) / s) false (Nat.lt_of_le_of_lt (Nat.div_le_self _ _) gR) (by omega)
          obtain ⟨e1, e2⟩ := hfin R q hI hlt
          rw [vR] at c1 c2
          rw [show (R : Int).natAbs = R by omega, show sgn false (R / s) = ((R / s : Nat) : Int) from rfl] at c2
          rw [show (R : Int).natAbs / s = R / s by rw [show (R : Int).natAbs = R by omega]] at c1
          rw [← e1, ← e2]
          rw [show (R : Int).natAbs = R by omega] at c1 cl ⊢
          unfold iv sv at *
          (repeat (first | refine DO.nil (by kernel_rfl) ?_ | (with_reducible refine oz (by constructor <;> decide) ?_) | ((first | apply SO.call | apply DO.call); (iterate 3 (focus (simp (disch := omega) only [go_sem, ↓reduceIte, Nat.reduceEqDiff, Nat.reduceLT] <;> rfl))); (first | apply SCall.ofX | apply DCall.ofX); (focus (first | assumption)); (focus (simp (disch := omega) only [go_sem] <;> rfl))) | ((with_reducible first | apply SC.condB | apply SC.region | apply SO.run | apply DO.run); (focus (simp (disch := omega) only [go_sem, ↓reduceIte, Nat.reduceEqDiff, Nat.reduceLeDiff, Nat.reduceAdd, reduceCtorEq] <;> rfl)); (first | refine pickT ?_ | refine pickF ?_ | fail_if_success with_reducible refine pickA ?_)) | ((with_reducible refine SC.draw Tab.mixed ?_ ?_); (focus rfl)) | (with_reducible apply SC.ops)))
          exact retQ_ret Tryz.results72 (by simp (disch := omega) only [go_sem, ↓reduceIte, Nat.reduceEqDiff, Nat.reduceLeDiff, Nat.reduceAdd, reduceCtorEq]; rfl) (by simp (disch := omega) only [go_sem, ↓reduceIte]; rfl) rfl
        · rw [decide_eq_false (by omega)] at cl
          obtain ⟨e, he0, hed, ce⟩ := est_i (limbsOf (R : Int).natAbs) (limbsOf (D : Int).natAbs) (limbsOf_limbs _) (limbsOf_canon _) (limbsOf_limbs _) (by omega) (limbsOf_ge (by omega)) (canon_len (limbsOf_canon _) (by have := val_lt (limbsOf_limbs (R : Int).natAbs); omega)) (by omega)
          rw [vR, vD, show (R : Int).natAbs = R by omega, show (D : Int).natAbs = D by omega] at hed
          have hee : e ≤ e * D := Nat.le_mul_of_pos_right _ (by omega)
          have fe : Fits (K + 1) (e : Int) := fRR.of_natAbs_le (by omega)
          have fed : Fits (K + 1) ((e * D : Nat) : Int) := fRR.of_natAbs_le (by omega)
          have c1 := add_i q e (K + 1) fq fe (by omega)
          have c2 := mul_i e D (K + 1) fe fD (by omega)
          have c3 := sub_i R ((e * D : Nat) : Int) (K + 1) fRR fed (by omega)
          have hst := hI.step hed
          rw [← Int.natCast_add] at c1
          rw [← Int.natCast_mul] at c2
          rw [← Int.ofNat_sub hed] at c3
          generalize e * D = eD at *
          unfold iv sv at ce c1 c2 c3
          unfold sv at cl
          (repeat (first | refine DO.nil (by kernel_rfl) ?_ | (with_reducible refine oz (by constructor <;> decide) ?_) | ((first | apply SO.call | apply DO.call); (iterate 3 (focus (simp (disch := omega) only [go_sem, ↓reduceIte, Nat.reduceEqDiff] <;> rfl))); (first | apply SCall.ofX | apply DCall.ofX); (focus (first | assumption)); (focus (simp (disch := omega) only [go_sem] <;> rfl))) | ((with_reducible first | apply SC.condB | apply SC.region | apply SO.run | apply DO.run); (focus (simp (disch := omega) only [go_sem, ↓reduceIte, Nat.reduceEqDiff, Nat.reduceLeDiff, Nat.reduceAdd, reduceCtorEq] <;> rfl)); (first | refine pickT ?_ | refine pickF ?_ | fail_if_success with_reducible refine pickA ?_)) | ((with_reducible refine SC.draw Tab.mixed ?_ ?_); (focus rfl)) | (with_reducible apply SC.ops)))
          refine hK' _ (R - eD, q + e) ?_ hst (by simp only; omega)
          (refine Le.of [] hB (by first | exact ⟨Nat.zero_le _, fun _ _ => Nat.zero_le _⟩ | (constructor <;> (try simp) <;> (try omega))) ?_ ?_ <;> (repeat' (first | exact leSl_nil | exact leHp_nil | refine leSl_cons (by simp (disch := omega) only [go_sem, ↓reduceIte, Nat.reduceEqDiff, reduceCtorEq]; rfl) ?_ ?_ | refine leHp_cons (by simp (disch := omega) only [go_sem, ↓reduceIte, Nat.reduceEqDiff, reduceCtorEq]; rfl) ?_ ?_ | exact VLe.junk _ | exact VLe.refl rfl | exact VLe.nil_sl _ _ _ | exact VLe.int (by first | rfl | omega | (dsimp only; omega)) | exact VLe.bool rfl | exact VLe.sl rfl (by first | rfl | omega | (dsimp only; omega) | (simp; done)) | exact VLe.cap rfl (by first | rfl | omega | (dsimp only; omega) | (simp; done)) | exact VLe.im rfl rfl | exact HLe.new rfl | exact HLe.same rfl (LLe.refl rfl) | refine HLe.same rfl ?_ | exact LLe.nil _ | exact LLe.refl rfl | refine LLe.cons ?_ ?_)))
theorem divide_i (X Y : Nat) (K : Nat) (hX : X < 4294967296 ^ K) (hY : Y < 4294967296 ^ K) (hK : K ≤ 300000000000) (h0 : 0 < Y) : Spec Tryz.prog 72 [sv (limbsOf X), sv (limbsOf Y)] (.tu [iv ((X / Y : Nat) : Int), iv ((X % Y : Nat) : Int)]) := by
  rcases Nat.lt_or_ge Y 4294967296 with h | h
  · exact divide_one X Y K hX hK h0 h
  · exact divide_long X Y K hX hY hK h
end Go.Proofs.YtpodnbcdddcdmaaGreatDoor

/- The reference's integers by value: DivMod. -/
namespace Go.Proofs.YtpodnbcdddcdmaaGreatDoor
open Go.RowKit
theorem made_int (x : Int) (h : (limbsOf x.natAbs).length ≤ 1000000000000) (b : Bool) (hb : decide (x < 0) = b) : Spec Tryz.prog 40 [sv (limbsOf x.natAbs), .sc (.bool b)] (iv x) := by
  have := made_i (limbsOf x.natAbs) b (limbsOf_limbs _) h
  rwa [limbsOf_val, show sgn b x.natAbs = x by rw [← hb]; unfold sgn; split <;> simp_all <;> omega] at this
theorem divmod_1 (x y : Int) (K : Nat) (hx : Fits K x) (hy : Fits K y) (hK : K ≤ 200000000000) (h0 : y ≠ 0) (hna : decide (x < 0) = false) (hnb : decide (y < 0) = false) : Spec Tryz.prog 48 [iv x, iv y] (.tu [iv (x / y), iv (x % y), .sc (.int .i64 0)]) := by
  have lx := fits_len hx
  have ly := fits_len hy
  have c1 := made_int x (by omega) _ hna
  have c2 := made_int y (by omega) _ hnb
  have c3 := sign_i y K hy (by omega)
  have q1 : (y.sign == 0) = false := by simp [Int.sign_eq_zero_iff_zero, h0]
  have hp : 0 < y.natAbs := by omega
  have c4 := divide_i x.natAbs y.natAbs K hx hy (by omega) hp
  have hsp := divmod_spec false false x.natAbs y.natAbs hp
  rw [show sgn false x.natAbs = x by unfold sgn; simp at hna ⊢; omega, show sgn false y.natAbs = y by unfold sgn; simp at hnb ⊢; omega] at hsp
  have hml := Nat.mod_lt x.natAbs hp
  have fq : Fits (K + 1) ((x.natAbs / y.natAbs : Nat) : Int) := (hx.mono (Nat.le_succ K)).of_natAbs_le (by rw [Int.natAbs_natCast]; exact Nat.div_le_self _ _)
  have fr : Fits (K + 1) ((x.natAbs % y.natAbs : Nat) : Int) := (hy.mono (Nat.le_succ K)).of_natAbs_le (by rw [Int.natAbs_natCast]; exact Nat.le_of_lt hml)
  simp only [Bool.false_eq_true, false_and, if_false, ne_eq, not_true_eq_false] at hsp
  rw [← hsp.1, ← hsp.2]
  generalize x.natAbs / y.natAbs = q at *
  generalize x.natAbs % y.natAbs = r at *
  unfold iv sv at *
  rw [hna, hnb]
  rw [hna] at c1
  rw [hnb] at c2 c3
  have q3 : (false != false) = false := rfl
  refine Spec.run Tryz.func48 rfl Tryz.ntmps48 (by simp) (by simp (disch := omega) only [go_sem, Nat.reduceAdd]; rfl) fun B hB => ?_
  (repeat (first | refine DO.nil (by kernel_rfl) ?_ | (with_reducible refine oz (by constructor <;> decide) ?_) | ((first | apply SO.call | apply DO.call); (iterate 3 (focus (simp (disch := omega) only [go_sem, ↓reduceIte, Nat.reduceEqDiff] <;> rfl))); (first | apply SCall.ofX | apply DCall.ofX); (focus (first | assumption)); (focus (simp (disch := omega) only [go_sem] <;> rfl))) | ((with_reducible first | apply SC.condB | apply SC.region | apply SO.run | apply DO.run); (focus (simp (disch := omega) only [go_sem, ↓reduceIte, Nat.reduceEqDiff, Nat.reduceLT, Nat.reduceLeDiff, Nat.reduceAdd, reduceCtorEq, q1, q3] <;> rfl)); (first | refine pickT ?_ | refine pickF ?_ | fail_if_success with_reducible refine pickA ?_)) | ((with_reducible refine SC.draw Tab.mixed ?_ ?_); (focus rfl)) | (with_reducible apply SC.ops)))
  exact retQ_ret Tryz.results48 (by simp (disch := omega) only [go_sem, ↓reduceIte, Nat.reduceEqDiff, Nat.reduceLeDiff, Nat.reduceAdd]; rfl) (by simp (disch := omega) only [go_sem, ↓reduceIte]; rfl) rfl
theorem divmod_2 (x y : Int) (K : Nat) (hx : Fits K x) (hy : Fits K y) (hK : K ≤ 200000000000) (h0 : y ≠ 0) (hna : decide (x < 0) = false) (hnb : decide (y < 0) = true) : Spec Tryz.prog 48 [iv x, iv y] (.tu [iv (x / y), iv (x % y), .sc (.int .i64 0)]) := by
  have lx := fits_len hx
  have ly := fits_len hy
  have c1 := made_int x (by omega) _ hna
  have c2 := made_int y (by omega) _ hnb
  have c3 := sign_i y K hy (by omega)
  have q1 : (y.sign == 0) = false := by simp [Int.sign_eq_zero_iff_zero, h0]
  have hp : 0 < y.natAbs := by omega
  have c4 := divide_i x.natAbs y.natAbs K hx hy (by omega) hp
  have hsp := divmod_spec false true x.natAbs y.natAbs hp
  rw [show sgn false x.natAbs = x by unfold sgn; simp at hna ⊢; omega, show sgn true y.natAbs = y by unfold sgn; simp at hnb ⊢; omega] at hsp
  have hml := Nat.mod_lt x.natAbs hp
  have fq : Fits (K + 1) ((x.natAbs / y.natAbs : Nat) : Int) := (hx.mono (Nat.le_succ K)).of_natAbs_le (by rw [Int.natAbs_natCast]; exact Nat.div_le_self _ _)
  have fr : Fits (K + 1) ((x.natAbs % y.natAbs : Nat) : Int) := (hy.mono (Nat.le_succ K)).of_natAbs_le (by rw [Int.natAbs_natCast]; exact Nat.le_of_lt hml)
  have c10 := neg_i (((x.natAbs / y.natAbs : Nat) : Int)) (K + 2) (fq.mono (by omega)) (by omega)
  simp only [Bool.false_eq_true, false_and, if_false, ne_eq, not_false_eq_true, if_true] at hsp
  rw [← hsp.1, ← hsp.2]
  generalize x.natAbs / y.natAbs = q at *
  generalize x.natAbs % y.natAbs = r at *
  unfold iv sv at *
  rw [hna, hnb]
  rw [hna] at c1
  rw [hnb] at c2 c3
  have q3 : (false != true) = true := rfl
  refine Spec.run Tryz.func48 rfl Tryz.ntmps48 (by simp) (by simp (disch := omega) only [go_sem, Nat.reduceAdd]; rfl) fun B hB => ?_
  (repeat (first | refine DO.nil (by kernel_rfl) ?_ | (with_reducible refine oz (by constructor <;> decide) ?_) | ((first | apply SO.call | apply DO.call); (iterate 3 (focus (simp (disch := omega) only [go_sem, ↓reduceIte, Nat.reduceEqDiff] <;> rfl))); (first | apply SCall.ofX | apply DCall.ofX); (focus (first | assumption)); (focus (simp (disch := omega) only [go_sem] <;> rfl))) | ((with_reducible first | apply SC.condB | apply SC.region | apply SO.run | apply DO.run); (focus (simp (disch := omega) only [go_sem, ↓reduceIte, Nat.reduceEqDiff, Nat.reduceLT, Nat.reduceLeDiff, Nat.reduceAdd, reduceCtorEq, q1, q3] <;> rfl)); (first | refine pickT ?_ | refine pickF ?_ | fail_if_success with_reducible refine pickA ?_)) | ((with_reducible refine SC.draw Tab.mixed ?_ ?_); (focus rfl)) | (with_reducible apply SC.ops)))
  exact retQ_ret Tryz.results48 (by simp (disch := omega) only [go_sem, ↓reduceIte, Nat.reduceEqDiff, Nat.reduceLeDiff, Nat.reduceAdd]; rfl) (by simp (disch := omega) only [go_sem, ↓reduceIte]; rfl) rfl
theorem divmod_3 (x y : Int) (K : Nat) (hx : Fits K x) (hy : Fits K y) (hK : K ≤ 200000000000) (h0 : y ≠ 0) (hna : decide (x < 0) = true) (hnb : decide (y < 0) = false) (hr : 0 < x.natAbs % y.natAbs) : Spec Tryz.prog 48 [iv x, iv y] (.tu [iv (x / y), iv (x % y), .sc (.int .i64 0)]) := by
  have lx := fits_len hx
  have ly := fits_len hy
  have c1 := made_int x (by omega) _ hna
  have c2 := made_int y (by omega) _ hnb
  have c3 := sign_i y K hy (by omega)
  have q1 : (y.sign == 0) = false := by simp [Int.sign_eq_zero_iff_zero, h0]
  have hp : 0 < y.natAbs := by omega
  have c4 := divide_i x.natAbs y.natAbs K hx hy (by omega) hp
  have hsp := divmod_spec true false x.natAbs y.natAbs hp
  rw [show sgn true x.natAbs = x by unfold sgn; simp at hna ⊢; omega, show sgn false y.natAbs = y by unfold sgn; simp at hnb ⊢; omega] at hsp
  have hml := Nat.mod_lt x.natAbs hp
  have fq : Fits (K + 1) ((x.natAbs / y.natAbs : Nat) : Int) := (hx.mono (Nat.le_succ K)).of_natAbs_le (by rw [Int.natAbs_natCast]; exact Nat.div_le_self _ _)
  have fr : Fits (K + 1) ((x.natAbs % y.natAbs : Nat) : Int) := (hy.mono (Nat.le_succ K)).of_natAbs_le (by rw [Int.natAbs_natCast]; exact Nat.le_of_lt hml)
  have c5 := sign_i ((x.natAbs % y.natAbs : Nat) : Int) (K + 1) fr (by omega)
  have q2 : decide ((0 : Int) < (((x.natAbs % y.natAbs : Nat) : Int)).sign) = true := by rw [Int.sign_eq_one_of_pos (by omega)]; rfl
  have c6 := of_i 1 (by omega) (by omega)
  have c7 := add_i ((x.natAbs / y.natAbs : Nat) : Int) 1 (K + 1) fq (by unfold Fits; exact Nat.one_lt_pow (by omega) (by omega)) (by omega)
  have c8 := made_nat y.natAbs (by omega)
  have c9 := sub_i (y.natAbs : Int) ((x.natAbs % y.natAbs : Nat) : Int) (K + 1) ((hy.mono (Nat.le_succ K)).of_natAbs_le (by omega)) fr (by omega)
  have c10 := neg_i (((x.natAbs / y.natAbs : Nat) : Int) + 1) (K + 2) (fq.add (by unfold Fits; exact Nat.one_lt_pow (by omega) (by omega))) (by omega)
  simp only [hr, if_true, ne_eq, not_false_eq_true, reduceCtorEq, and_self] at hsp
  rw [← hsp.1, ← hsp.2]
  generalize x.natAbs / y.natAbs = q at *
  generalize x.natAbs % y.natAbs = r at *
  unfold iv sv at *
  rw [hna, hnb]
  rw [hna] at c1
  rw [hnb] at c2 c3
  have q3 : (true != false) = true := rfl
  refine Spec.run Tryz.func48 rfl Tryz.ntmps48 (by simp) (by simp (disch := omega) only [go_sem, Nat.reduceAdd]; rfl) fun B hB => ?_
  (repeat (first | refine DO.nil (by kernel_rfl) ?_ | (with_reducible refine oz (by constructor <;> decide) ?_) | ((first | apply SO.call | apply DO.call); (iterate 3 (focus (simp (disch := omega) only [go_sem, ↓reduceIte, Nat.reduceEqDiff] <;> rfl))); (first | apply SCall.ofX | apply DCall.ofX); (focus (first | assumption)); (focus (simp (disch := omega) only [go_sem] <;> rfl))) | ((with_reducible first | apply SC.condB | apply SC.region | apply SO.run | apply DO.run); (focus (simp (disch := omega) only [go_sem, ↓reduceIte, Nat.reduceEqDiff, Nat.reduceLT, Nat.reduceLeDiff, Nat.reduceAdd, reduceCtorEq, q1, q2] <;> rfl)); (first | refine pickT ?_ | refine pickF ?_ | fail_if_success with_reducible refine pickA ?_)) | ((with_reducible refine SC.draw Tab.mixed ?_ ?_); (focus rfl)) | (with_reducible apply SC.ops)))
  exact retQ_ret Tryz.results48 (by simp (disch := omega) only [go_sem, ↓reduceIte, Nat.reduceEqDiff, Nat.reduceLeDiff, Nat.reduceAdd]; rfl) (by simp (disch := omega) only [go_sem, ↓reduceIte]; rfl) rfl
theorem divmod_4 (x y : Int) (K : Nat) (hx : Fits K x) (hy : Fits K y) (hK : K ≤ 200000000000) (h0 : y ≠ 0) (hna : decide (x < 0) = true) (hnb : decide (y < 0) = true) (hr : 0 < x.natAbs % y.natAbs) : Spec Tryz.prog 48 [iv x, iv y] (.tu [iv (x / y), iv (x % y), .sc (.int .i64 0)]) := by
  have lx := fits_len hx
  have ly := fits_len hy
  have c1 := made_int x (by omega) _ hna
  have c2 := made_int y (by omega) _ hnb
  have c3 := sign_i y K hy (by omega)
  have q1 : (y.sign == 0) = false := by simp [Int.sign_eq_zero_iff_zero, h0]
  have hp : 0 < y.natAbs := by omega
  have c4 := divide_i x.natAbs y.natAbs K hx hy (by omega) hp
  have hsp := divmod_spec true true x.natAbs y.natAbs hp
  rw [show sgn true x.natAbs = x by unfold sgn; simp at hna ⊢; omega, show sgn true y.natAbs = y by unfold sgn; simp at hnb ⊢; omega] at hsp
  have hml := Nat.mod_lt x.natAbs hp
  have fq : Fits (K + 1) ((x.natAbs / y.natAbs : Nat) : Int) := (hx.mono (Nat.le_succ K)).of_natAbs_le (by rw [Int.natAbs_natCast]; exact Nat.div_le_self _ _)
  have fr : Fits (K + 1) ((x.natAbs % y.natAbs : Nat) : Int) := (hy.mono (Nat.le_succ K)).of_natAbs_le (by rw [Int.natAbs_natCast]; exact Nat.le_of_lt hml)
  have c5 := sign_i ((x.natAbs % y.natAbs : Nat) : Int) (K + 1) fr (by omega)
  have q2 : decide ((0 : Int) < (((x.natAbs % y.natAbs : Nat) : Int)).sign) = true := by rw [Int.sign_eq_one_of_pos (by omega)]; rfl
  have c6 := of_i 1 (by omega) (by omega)
  have c7 := add_i ((x.natAbs / y.natAbs : Nat) : Int) 1 (K + 1) fq (by unfold Fits; exact Nat.one_lt_pow (by omega) (by omega)) (by omega)
  have c8 := made_nat y.natAbs (by omega)
  have c9 := sub_i (y.natAbs : Int) ((x.natAbs % y.natAbs : Nat) : Int) (K + 1) ((hy.mono (Nat.le_succ K)).of_natAbs_le (by omega)) fr (by omega)
  simp only [hr, if_true, ne_eq, not_true_eq_false, if_false, and_self] at hsp
  rw [← hsp.1, ← hsp.2]
  generalize x.natAbs / y.natAbs = q at *
  generalize x.natAbs % y.natAbs = r at *
  unfold iv sv at *
  rw [hna, hnb]
  rw [hna] at c1
  rw [hnb] at c2 c3
  have q3 : (true != true) = false := rfl
  refine Spec.run Tryz.func48 rfl Tryz.ntmps48 (by simp) (by simp (disch := omega) only [go_sem, Nat.reduceAdd]; rfl) fun B hB => ?_
  (repeat (first | refine DO.nil (by kernel_rfl) ?_ | (with_reducible refine oz (by constructor <;> decide) ?_) | ((first | apply SO.call | apply DO.call); (iterate 3 (focus (simp (disch := omega) only [go_sem, ↓reduceIte, Nat.reduceEqDiff] <;> rfl))); (first | apply SCall.ofX | apply DCall.ofX); (focus (first | assumption)); (focus (simp (disch := omega) only [go_sem] <;> rfl))) | ((with_reducible first | apply SC.condB | apply SC.region | apply SO.run | apply DO.run); (focus (simp (disch := omega) only [go_sem, ↓reduceIte, Nat.reduceEqDiff, Nat.reduceLT, Nat.reduceLeDiff, Nat.reduceAdd, reduceCtorEq, q1, q2, q3] <;> rfl)); (first | refine pickT ?_ | refine pickF ?_ | fail_if_success with_reducible refine pickA ?_)) | ((with_reducible refine SC.draw Tab.mixed ?_ ?_); (focus rfl)) | (with_reducible apply SC.ops)))
  exact retQ_ret Tryz.results48 (by simp (disch := omega) only [go_sem, ↓reduceIte, Nat.reduceEqDiff, Nat.reduceLeDiff, Nat.reduceAdd]; rfl) (by simp (disch := omega) only [go_sem, ↓reduceIte]; rfl) rfl
theorem divmod_5 (x y : Int) (K : Nat) (hx : Fits K x) (hy : Fits K y) (hK : K ≤ 200000000000) (h0 : y ≠ 0) (hna : decide (x < 0) = true) (hnb : decide (y < 0) = false) (hr : x.natAbs % y.natAbs = 0) : Spec Tryz.prog 48 [iv x, iv y] (.tu [iv (x / y), iv (x % y), .sc (.int .i64 0)]) := by
  have lx := fits_len hx
  have ly := fits_len hy
  have c1 := made_int x (by omega) _ hna
  have c2 := made_int y (by omega) _ hnb
  have c3 := sign_i y K hy (by omega)
  have q1 : (y.sign == 0) = false := by simp [Int.sign_eq_zero_iff_zero, h0]
  have hp : 0 < y.natAbs := by omega
  have c4 := divide_i x.natAbs y.natAbs K hx hy (by omega) hp
  have hsp := divmod_spec true false x.natAbs y.natAbs hp
  rw [show sgn true x.natAbs = x by unfold sgn; simp at hna ⊢; omega, show sgn false y.natAbs = y by unfold sgn; simp at hnb ⊢; omega] at hsp
  have hml := Nat.mod_lt x.natAbs hp
  have fq : Fits (K + 1) ((x.natAbs / y.natAbs : Nat) : Int) := (hx.mono (Nat.le_succ K)).of_natAbs_le (by rw [Int.natAbs_natCast]; exact Nat.div_le_self _ _)
  have fr : Fits (K + 1) ((x.natAbs % y.natAbs : Nat) : Int) := (hy.mono (Nat.le_succ K)).of_natAbs_le (by rw [Int.natAbs_natCast]; exact Nat.le_of_lt hml)
  have c5 := sign_i ((x.natAbs % y.natAbs : Nat) : Int) (K + 1) fr (by omega)
  have q2 : decide ((0 : Int) < (((x.natAbs % y.natAbs : Nat) : Int)).sign) = false := by rw [hr]; rfl
  have c10 := neg_i (((x.natAbs / y.natAbs : Nat) : Int)) (K + 2) (fq.mono (by omega)) (by omega)
  simp only [hr, Nat.lt_irrefl, and_false, if_false, ne_eq, not_false_eq_true, if_true, reduceCtorEq] at hsp
  rw [← hsp.1, ← hsp.2]
  generalize x.natAbs / y.natAbs = q at *
  generalize x.natAbs % y.natAbs = r at *
  subst hr
  unfold iv sv at *
  rw [hna, hnb]
  rw [hna] at c1
  rw [hnb] at c2 c3
  have q3 : (true != false) = true := rfl
  refine Spec.run Tryz.func48 rfl Tryz.ntmps48 (by simp) (by simp (disch := omega) only [go_sem, Nat.reduceAdd]; rfl) fun B hB => ?_
  (repeat (first | refine DO.nil (by kernel_rfl) ?_ | (with_reducible refine oz (by constructor <;> decide) ?_) | ((first | apply SO.call | apply DO.call); (iterate 3 (focus (simp (disch := omega) only [go_sem, ↓reduceIte, Nat.reduceEqDiff] <;> rfl))); (first | apply SCall.ofX | apply DCall.ofX); (focus (first | assumption)); (focus (simp (disch := omega) only [go_sem] <;> rfl))) | ((with_reducible first | apply SC.condB | apply SC.region | apply SO.run | apply DO.run); (focus (simp (disch := omega) only [go_sem, ↓reduceIte, Nat.reduceEqDiff, Nat.reduceLT, Nat.reduceLeDiff, Nat.reduceAdd, reduceCtorEq, q1, q3, q2] <;> rfl)); (first | refine pickT ?_ | refine pickF ?_ | fail_if_success with_reducible refine pickA ?_)) | ((with_reducible refine SC.draw Tab.mixed ?_ ?_); (focus rfl)) | (with_reducible apply SC.ops)))
  exact retQ_ret Tryz.results48 (by simp (disch := omega) only [go_sem, ↓reduceIte, Nat.reduceEqDiff, Nat.reduceLeDiff, Nat.reduceAdd]; rfl) (by simp (disch := omega) only [go_sem, ↓reduceIte]; rfl) rfl
theorem divmod_6 (x y : Int) (K : Nat) (hx : Fits K x) (hy : Fits K y) (hK : K ≤ 200000000000) (h0 : y ≠ 0) (hna : decide (x < 0) = true) (hnb : decide (y < 0) = true) (hr : x.natAbs % y.natAbs = 0) : Spec Tryz.prog 48 [iv x, iv y] (.tu [iv (x / y), iv (x % y), .sc (.int .i64 0)]) := by
  have lx := fits_len hx
  have ly := fits_len hy
  have c1 := made_int x (by omega) _ hna
  have c2 := made_int y (by omega) _ hnb
  have c3 := sign_i y K hy (by omega)
  have q1 : (y.sign == 0) = false := by simp [Int.sign_eq_zero_iff_zero, h0]
  have hp : 0 < y.natAbs := by omega
  have c4 := divide_i x.natAbs y.natAbs K hx hy (by omega) hp
  have hsp := divmod_spec true true x.natAbs y.natAbs hp
  rw [show sgn true x.natAbs = x by unfold sgn; simp at hna ⊢; omega, show sgn true y.natAbs = y by unfold sgn; simp at hnb ⊢; omega] at hsp
  have hml := Nat.mod_lt x.natAbs hp
  have fq : Fits (K + 1) ((x.natAbs / y.natAbs : Nat) : Int) := (hx.mono (Nat.le_succ K)).of_natAbs_le (by rw [Int.natAbs_natCast]; exact Nat.div_le_self _ _)
  have fr : Fits (K + 1) ((x.natAbs % y.natAbs : Nat) : Int) := (hy.mono (Nat.le_succ K)).of_natAbs_le (by rw [Int.natAbs_natCast]; exact Nat.le_of_lt hml)
  have c5 := sign_i ((x.natAbs % y.natAbs : Nat) : Int) (K + 1) fr (by omega)
  have q2 : decide ((0 : Int) < (((x.natAbs % y.natAbs : Nat) : Int)).sign) = false := by rw [hr]; rfl
  simp only [hr, Nat.lt_irrefl, and_false, if_false, ne_eq, not_true_eq_false] at hsp
  rw [← hsp.1, ← hsp.2]
  generalize x.natAbs / y.natAbs = q at *
  generalize x.natAbs % y.natAbs = r at *
  subst hr
  unfold iv sv at *
  rw [hna, hnb]
  rw [hna] at c1
  rw [hnb] at c2 c3
  have q3 : (true != true) = false := rfl
  refine Spec.run Tryz.func48 rfl Tryz.ntmps48 (by simp) (by simp (disch := omega) only [go_sem, Nat.reduceAdd]; rfl) fun B hB => ?_
  (repeat (first | refine DO.nil (by kernel_rfl) ?_ | (with_reducible refine oz (by constructor <;> decide) ?_) | ((first | apply SO.call | apply DO.call); (iterate 3 (focus (simp (disch := omega) only [go_sem, ↓reduceIte, Nat.reduceEqDiff] <;> rfl))); (first | apply SCall.ofX | apply DCall.ofX); (focus (first | assumption)); (focus (simp (disch := omega) only [go_sem] <;> rfl))) | ((with_reducible first | apply SC.condB | apply SC.region | apply SO.run | apply DO.run); (focus (simp (disch := omega) only [go_sem, ↓reduceIte, Nat.reduceEqDiff, Nat.reduceLT, Nat.reduceLeDiff, Nat.reduceAdd, reduceCtorEq, q1, q3, q2] <;> rfl)); (first | refine pickT ?_ | refine pickF ?_ | fail_if_success with_reducible refine pickA ?_)) | ((with_reducible refine SC.draw Tab.mixed ?_ ?_); (focus rfl)) | (with_reducible apply SC.ops)))
  exact retQ_ret Tryz.results48 (by simp (disch := omega) only [go_sem, ↓reduceIte, Nat.reduceEqDiff, Nat.reduceLeDiff, Nat.reduceAdd]; rfl) (by simp (disch := omega) only [go_sem, ↓reduceIte]; rfl) rfl
theorem divmod_i (x y : Int) (K : Nat) (hx : Fits K x) (hy : Fits K y) (hK : K ≤ 200000000000) (h0 : y ≠ 0) : Spec Tryz.prog 48 [iv x, iv y] (.tu [iv (x / y), iv (x % y), .sc (.int .i64 0)]) := by
  cases hna : decide (x < 0) <;> cases hnb : decide (y < 0)
  · exact divmod_1 x y K hx hy hK h0 hna hnb
  · exact divmod_2 x y K hx hy hK h0 hna hnb
  · rcases Nat.eq_zero_or_pos (x.natAbs % y.natAbs) with h | h
    · exact divmod_5 x y K hx hy hK h0 hna hnb h
    · exact divmod_3 x y K hx hy hK h0 hna hnb h
  · rcases Nat.eq_zero_or_pos (x.natAbs % y.natAbs) with h | h
    · exact divmod_6 x y K hx hy hK h0 hna hnb h
    · exact divmod_4 x y K hx hy hK h0 hna hnb h
end Go.Proofs.YtpodnbcdddcdmaaGreatDoor
