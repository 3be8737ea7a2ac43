/- Texts joined: Qb Qc Qd Qe. -/
import Derived.WalkSmall
import Derived.Test.YtpodnbcdddcdmaaGreatDoorVc
import Derived.Test.YtpodnbcdddcdmaaGreatDoorVd
set_option linter.all false
/- The program's integers by value: Valid, word, Small, Sign. -/
namespace Go.Proofs.YtpodnbcdddcdmaaGreatDoor
open Go.RowKit
def validB (l : List Nat) (neg : Bool) : Bool := if l.length = 0 then !neg else l.getD (l.length - 1) 0 != 0
theorem valid_g (l : List Nat) (n : Nat) (neg : Bool) (hn : n = l.length) (hm : n ≤ 9223372036854775807) : Spec Tryz.prog 52 [.ag [.sc (.bool neg), .im (lv l) n]] (.sc (.bool (validB l neg))) := by
  subst hn
  refine Spec.run Tryz.func52 rfl Tryz.ntmps52 (by simp) (by simp (disch := omega) only [go_sem]; rfl) fun B hB => ?_
  by_cases h0 : l.length = 0
  · have q1 : decide ((0 : Int) < (l.length : Int)) = false := by simp; exact List.eq_nil_of_length_eq_zero h0
    (repeat (first | refine DO.nil (by kernel_rfl) ?_ | (with_reducible refine SC.condB (by simp (disch := omega) only [go_sem, ↓reduceIte]; rfl) ?_; first | with_reducible refine pickT ?_ | with_reducible refine pickF ?_) | (with_reducible refine oz (by constructor <;> decide) ?_) | ((with_reducible apply SC.region); (focus (simp (disch := omega) only [go_sem, ↓reduceIte, Nat.reduceEqDiff, Nat.reduceLT, reduceCtorEq, q1]; rfl))) | (with_reducible refine SC.draw Tab.mixed rfl ?_; (repeat (refine DO.run (by simp (disch := omega) only [go_sem, ↓reduceIte, Nat.reduceEqDiff, Nat.reduceLT, Nat.reduceLeDiff, Nat.reduceAdd, Nat.reduceMul, Nat.reduceSub, reduceCtorEq, Nat.reduceBEq, Int.reduceToNat, Int.reducePow, if_pos, if_neg, q1, lv_len]; rfl) ?_)); refine DO.nil (by kernel_rfl) ?_)))
    refine retQ_ret Tryz.results52 (by simp (disch := omega) only [go_sem, ↓reduceIte]; rfl) (by simp (disch := omega) only [go_sem]; rfl) ?_
    unfold validB; rw [if_pos h0]
  · have q1 : decide ((0 : Int) < (l.length : Int)) = true := by rw [decide_eq_true_eq]; omega
    have hi : ((l.length : Int) - 1).toNat = l.length - 1 := by omega
    have hg := lv_get (l := l) (i := l.length - 1) (by omega)
    (repeat (first | refine DO.nil (by kernel_rfl) ?_ | (with_reducible refine SC.condB (by simp (disch := omega) only [go_sem, ↓reduceIte]; rfl) ?_; first | with_reducible refine pickT ?_ | with_reducible refine pickF ?_) | (with_reducible refine oz (by constructor <;> decide) ?_) | ((with_reducible apply SC.region); (focus (simp (disch := omega) only [go_sem, ↓reduceIte, Nat.reduceEqDiff, reduceCtorEq, if_pos, q1, hi, hg, lv_len, List.getElem?_drop]; rfl))) | (with_reducible refine SC.draw Tab.mixed rfl ?_; (repeat (refine DO.run (by simp (disch := omega) only [go_sem, ↓reduceIte, Nat.reduceEqDiff, Nat.reduceLT, Nat.reduceLeDiff, Nat.reduceAdd, Nat.reduceMul, Nat.reduceSub, reduceCtorEq, Nat.reduceBEq, Int.reduceToNat, Int.reducePow, if_pos, if_neg, q1, hi, hg, lv_len, List.getElem?_drop]; rfl) ?_)); refine DO.nil (by kernel_rfl) ?_)))
    refine retQ_ret Tryz.results52 (by simp (disch := omega) only [go_sem, ↓reduceIte]; rfl) (by simp (disch := omega) only [go_sem]; rfl) ?_
    unfold validB
    rw [if_neg h0]
    generalize l.getD (l.length - 1) 0 = x
    have : (((x : Int) != 0) : Bool) = (x != 0) := by
      by_cases hx : x = 0
      · subst hx; rfl
      · have h1 : ((x : Int) != 0) = true := by simp only [bne_iff_ne, ne_eq]; omega
        have h2 : (x != 0) = true := by simp only [bne_iff_ne, ne_eq]; omega
        rw [h1, h2]
    rw [this]
theorem or_zero (d : Nat) (h : d < 18446744073709551616) : bits BinOp.or IntKind.u64 0 (d : Int) = (d : Int) := by
  have := u64_or_nat 0 d (by omega) h
  simpa using this
theorem or_high (u d : Nat) (hu : u < 4294967296) (hd : d < 4294967296) : bits BinOp.or IntKind.u64 (u : Int) ((d : Int) * 4294967296) = ((u + 4294967296 * d : Nat) : Int) := by
  have h := u64_or_nat u (d * 4294967296) (by omega) (by omega)
  have e : u ||| d * 4294967296 = d * 4294967296 + u := by
    have := Nat.shiftLeft_add_eq_or_of_lt (b := u) (i := 32) (by omega) d
    rw [Nat.shiftLeft_eq, Nat.or_comm] at this
    exact this.symm
  rw [e] at h
  have e2 : ((d * 4294967296 + u : Nat) : Int) = ((u + 4294967296 * d : Nat) : Int) := by omega
  rw [← e2, ← h]; simp
theorem word_i (l : List Nat) (h : limbs l) (hl : l.length ≤ 2) : Spec Tryz.prog 79 [sv l] (.sc (.int .u64 (val l : Nat))) := by
  unfold sv
  refine Spec.run Tryz.func79 rfl Tryz.ntmps79 (by simp) (by simp (disch := omega) only [go_sem]; rfl) fun B hB => ?_
  (repeat (first | refine DO.nil (by kernel_rfl) ?_ | (with_reducible refine SC.condB (by simp (disch := omega) only [go_sem, ↓reduceIte, Nat.reduceEqDiff, Nat.reduceLT, Nat.reduceLeDiff, Nat.reduceAdd, Nat.reduceMul, Nat.reduceSub, reduceCtorEq, Nat.reduceBEq, Int.reduceToNat, Int.reducePow, if_pos, if_neg, lv_len]; rfl) ?_; first | with_reducible refine pickT ?_ | with_reducible refine pickF ?_) | (with_reducible refine oz (by constructor <;> decide) ?_) | ((with_reducible apply SC.region); (focus (simp (disch := omega) only [go_sem, ↓reduceIte, reduceCtorEq]; rfl))) | (with_reducible refine SC.draw Tab.mixed rfl ?_; (repeat (refine DO.run (by simp (disch := omega) only [go_sem, ↓reduceIte, Nat.reduceEqDiff, Nat.reduceLT, Nat.reduceLeDiff, Nat.reduceAdd, Nat.reduceMul, Nat.reduceSub, reduceCtorEq, Nat.reduceBEq, Int.reduceToNat, Int.reducePow, if_pos, if_neg, lv_len]; rfl) ?_)); refine DO.nil (by kernel_rfl) ?_)))
  refine SC.loop (fun k : Nat => ⟨[(3, .sc (.int .u64 (val (l.take k) : Nat))), (6, .im (lv l) l.length), (7, .sc (.int .i64 l.length)), (8, .sc (.int .i64 k))], [], 0, 22⟩)
    (fun k => k ≤ l.length) (fun k => l.length - k) 0 ?_ (Nat.zero_le _) ?_
  · (refine Le.of [] hB (by first | exact ⟨Nat.zero_le _, fun _ _ => Nat.zero_le _⟩ | (constructor <;> (try simp) <;> (try omega))) ?_ ?_ <;> (repeat' (first | exact leSl_nil | exact leHp_nil | refine leSl_cons (by simp (disch := omega) only [go_sem, ↓reduceIte, Nat.reduceEqDiff]; rfl) ?_ ?_ | refine leHp_cons (by simp (disch := omega) only [go_sem, ↓reduceIte, Nat.reduceEqDiff, Nat.reduceLT, Nat.reduceLeDiff, Nat.reduceAdd, Nat.reduceMul, Nat.reduceSub, reduceCtorEq, Nat.reduceBEq, Int.reduceToNat, Int.reducePow, if_pos, if_neg]; rfl) ?_ ?_ | exact VLe.junk _ | exact VLe.refl rfl | exact VLe.nil_sl _ _ _ | exact VLe.int (by first | rfl | omega | (dsimp only; omega)) | exact VLe.bool rfl | exact VLe.sl rfl (by first | rfl | omega | (dsimp only; omega) | (simp; done)) | exact VLe.cap rfl (by first | rfl | omega | (dsimp only; omega) | (simp; done)) | exact VLe.im rfl rfl | exact HLe.new rfl | exact HLe.same rfl (LLe.refl rfl) | refine HLe.same rfl ?_ | exact LLe.nil _ | exact LLe.refl rfl | refine LLe.cons ?_ ?_)))
  · intro k hk K hK
    by_cases hlt : k < l.length
    · have q1 := decide_eq_true (p := (k : Int) < (l.length : Int)) (by omega)
      have hg := lv_get hlt
      have hx := limbs_getD h k
      have hst := val_take_succ' l k
      have h3 : k = 0 ∨ k = 1 := by omega
      have hv := val_lt (limbs_take h k)
      rw [List.length_take, Nat.min_eq_left (by omega)] at hv
      generalize l.getD k 0 = x at *
      generalize val (l.take k) = u at *
      rcases h3 with rfl | rfl
      · have hu : u = 0 := by omega
        subst hu
        have f1 : (x : Int) * 2 ^ min ((32 : Int) * ((0 : Nat) : Int)).toNat 64 = (x : Int) := by
          have : (2 : Int) ^ min ((32 : Int) * ((0 : Nat) : Int)).toNat 64 = 1 := by decide
          rw [this, Int.mul_one]
        have f2 : bits BinOp.or IntKind.u64 ((0 : Nat) : Int) (x : Int) = (x : Int) := or_zero x (by omega)
        (repeat (first | refine DO.nil (by kernel_rfl) ?_ | (with_reducible refine SC.condB (by simp (disch := omega) only [go_sem, ↓reduceIte]; rfl) ?_; first | with_reducible refine pickT ?_ | with_reducible refine pickF ?_) | (with_reducible refine oz (by constructor <;> decide) ?_) | ((with_reducible apply SC.region); (focus (simp (disch := omega) only [go_sem, ↓reduceIte, Nat.reduceEqDiff, if_pos, if_neg, q1, f1, f2, hg, lv_len]; rfl))) | (with_reducible refine SC.draw Tab.mixed rfl ?_; (repeat (refine DO.run (by simp (disch := omega) only [go_sem, ↓reduceIte, Nat.reduceEqDiff, Nat.reduceLT, Nat.reduceLeDiff, Nat.reduceAdd, Nat.reduceMul, Nat.reduceSub, reduceCtorEq, Nat.reduceBEq, Int.reduceToNat, Int.reducePow, if_pos, if_neg, q1, f1, f2, hg, lv_len, List.getElem?_drop]; rfl) ?_)); refine DO.nil (by kernel_rfl) ?_)))
        refine hK _ 1 ?_ (by omega) (by omega)
        (refine Le.of [] hB (by first | exact ⟨Nat.zero_le _, fun _ _ => Nat.zero_le _⟩ | (constructor <;> (try simp) <;> (try omega))) ?_ ?_ <;> (repeat' (first | exact leSl_nil | exact leHp_nil | refine leSl_cons (by simp (disch := omega) only [go_sem, ↓reduceIte, Nat.reduceEqDiff]; rfl) ?_ ?_ | refine leHp_cons (by simp (disch := omega) only [go_sem, ↓reduceIte, Nat.reduceEqDiff, Nat.reduceLT, Nat.reduceLeDiff, Nat.reduceAdd, Nat.reduceMul, Nat.reduceSub, reduceCtorEq, Nat.reduceBEq, Int.reduceToNat, Int.reducePow, if_pos, if_neg]; rfl) ?_ ?_ | exact VLe.junk _ | exact VLe.refl rfl | exact VLe.nil_sl _ _ _ | exact VLe.int (by first | rfl | omega | (dsimp only; omega)) | exact VLe.bool rfl | exact VLe.sl rfl (by first | rfl | omega | (dsimp only; omega) | (simp; done)) | exact VLe.cap rfl (by first | rfl | omega | (dsimp only; omega) | (simp; done)) | exact VLe.im rfl rfl | exact HLe.new rfl | exact HLe.same rfl (LLe.refl rfl) | refine HLe.same rfl ?_ | exact LLe.nil _ | exact LLe.refl rfl | refine LLe.cons ?_ ?_)))
        simp only [Nat.pow_zero, Nat.one_mul, Nat.zero_add] at hst
        exact VLe.int (congrArg (fun n : Nat => (n : Int)) hst.symm)
      · have f1 : (x : Int) * 2 ^ min ((32 : Int) * ((1 : Nat) : Int)).toNat 64 = (x : Int) * 4294967296 := by
          have : (2 : Int) ^ min ((32 : Int) * ((1 : Nat) : Int)).toNat 64 = 4294967296 := by decide
          rw [this]
        have f2 := or_high u x (by omega) hx
        (repeat (first | refine DO.nil (by kernel_rfl) ?_ | (with_reducible refine SC.condB (by simp (disch := omega) only [go_sem, ↓reduceIte]; rfl) ?_; first | with_reducible refine pickT ?_ | with_reducible refine pickF ?_) | (with_reducible refine oz (by constructor <;> decide) ?_) | ((with_reducible apply SC.region); (focus (simp (disch := omega) only [go_sem, ↓reduceIte, Nat.reduceEqDiff, if_pos, if_neg, q1, f1, f2, hg, lv_len, List.getElem?_drop]; rfl))) | (with_reducible refine SC.draw Tab.mixed rfl ?_; (repeat (refine DO.run (by simp (disch := omega) only [go_sem, ↓reduceIte, Nat.reduceEqDiff, Nat.reduceLT, Nat.reduceLeDiff, Nat.reduceAdd, Nat.reduceMul, Nat.reduceSub, reduceCtorEq, Nat.reduceBEq, Int.reduceToNat, Int.reducePow, if_pos, if_neg, q1, f1, f2, hg, lv_len, List.getElem?_drop]; rfl) ?_)); refine DO.nil (by kernel_rfl) ?_)))
        refine hK _ 2 ?_ (by omega) (by omega)
        (refine Le.of [] hB (by first | exact ⟨Nat.zero_le _, fun _ _ => Nat.zero_le _⟩ | (constructor <;> (try simp) <;> (try omega))) ?_ ?_ <;> (repeat' (first | exact leSl_nil | exact leHp_nil | refine leSl_cons (by simp (disch := omega) only [go_sem, ↓reduceIte, Nat.reduceEqDiff]; rfl) ?_ ?_ | refine leHp_cons (by simp (disch := omega) only [go_sem, ↓reduceIte, Nat.reduceEqDiff, Nat.reduceLT, Nat.reduceLeDiff, Nat.reduceAdd, Nat.reduceMul, Nat.reduceSub, reduceCtorEq, Nat.reduceBEq, Int.reduceToNat, Int.reducePow, if_pos, if_neg]; rfl) ?_ ?_ | exact VLe.junk _ | exact VLe.refl rfl | exact VLe.nil_sl _ _ _ | exact VLe.int (by first | rfl | omega | (dsimp only; omega)) | exact VLe.bool rfl | exact VLe.sl rfl (by first | rfl | omega | (dsimp only; omega) | (simp; done)) | exact VLe.cap rfl (by first | rfl | omega | (dsimp only; omega) | (simp; done)) | exact VLe.im rfl rfl | exact HLe.new rfl | exact HLe.same rfl (LLe.refl rfl) | refine HLe.same rfl ?_ | exact LLe.nil _ | exact LLe.refl rfl | refine LLe.cons ?_ ?_)))
        simp only [Nat.pow_one] at hst
        exact VLe.int (congrArg (fun n : Nat => (n : Int)) hst.symm)
    · have hkl : k = l.length := by omega
      subst hkl
      have q1 := decide_eq_false (p := ((l.length : Nat) : Int) < (l.length : Int)) (by omega)
      (repeat (first | refine DO.nil (by kernel_rfl) ?_ | (with_reducible refine SC.condB (by simp (disch := omega) only [go_sem, ↓reduceIte]; rfl) ?_; first | with_reducible refine pickT ?_ | with_reducible refine pickF ?_) | (with_reducible refine oz (by constructor <;> decide) ?_) | ((with_reducible apply SC.region); (focus (simp (disch := omega) only [go_sem, ↓reduceIte, Nat.reduceEqDiff, Nat.reduceLT, q1]; rfl))) | (with_reducible refine SC.draw Tab.mixed rfl ?_; (repeat (refine DO.run (by simp (disch := omega) only [go_sem, ↓reduceIte, Nat.reduceEqDiff, Nat.reduceLT, Nat.reduceLeDiff, Nat.reduceAdd, Nat.reduceMul, Nat.reduceSub, reduceCtorEq, Nat.reduceBEq, Int.reduceToNat, Int.reducePow, if_pos, if_neg, q1]; rfl) ?_)); refine DO.nil (by kernel_rfl) ?_)))
      refine retQ_ret Tryz.results79 (by simp (disch := omega) only [go_sem, ↓reduceIte]; rfl) (by simp (disch := omega) only [go_sem]; rfl) ?_
      rw [List.take_length]
theorem trim_n (n : Nat) (h : (limbsOf n).length ≤ 1000000000000) : Spec Tryz.prog 68 [sv (limbsOf n)] (sv (limbsOf n)) := by
  have := trim_i (limbsOf n) (limbsOf_limbs n) h
  rwa [limbsOf_val] at this
theorem psign_i (x : Int) (K : Nat) (hx : Fits K x) (hK : K ≤ 1000000000000) : Spec Tryz.prog 44 [iv x] (.sc (.int .i64 x.sign)) := by
  have lx := fits_len hx
  have c1 := trim_n x.natAbs (by omega)
  unfold iv
  unfold sv at c1 ⊢
  by_cases h0 : x = 0
  · subst h0
    have q1 : (((limbsOf (0 : Int).natAbs).length : Int) == 0) = true := by simp [limbsOf_zero]
    refine Spec.run Tryz.func44 rfl Tryz.ntmps44 (by simp) (by simp (disch := omega) only [go_sem]; rfl) fun B hB => ?_
    (repeat (first | refine DO.nil (by kernel_rfl) ?_ | (with_reducible refine oz (by constructor <;> decide) ?_) | ((first | apply SO.call | apply DO.call); (iterate 3 (focus (simp (disch := omega) only [go_sem, ↓reduceIte] <;> rfl))); (first | apply SCall.ofX | apply DCall.ofX); (focus (first | assumption)); (focus (simp (disch := omega) only [go_sem] <;> rfl))) | ((with_reducible first | apply SC.condB | apply SC.region | apply SO.run | apply DO.run); (focus (simp (disch := omega) only [go_sem, ↓reduceIte, Nat.reduceEqDiff, reduceCtorEq, q1] <;> rfl)); (first | refine pickT ?_ | refine pickF ?_ | fail_if_success with_reducible refine pickA ?_)) | ((with_reducible refine SC.draw Tab.mixed ?_ ?_); (focus rfl)) | (with_reducible apply SC.ops)))
    exact retQ_ret Tryz.results44 (by simp (disch := omega) only [go_sem, ↓reduceIte]; rfl) (by simp (disch := omega) only [go_sem]; rfl) rfl
  · have q1 : (((limbsOf x.natAbs).length : Int) == 0) = false := by
      have : limbsOf x.natAbs ≠ [] := fun h => h0 (by have := limbsOf_nil.1 h; omega)
      have := List.length_pos_iff.2 this
      simp only [beq_eq_false_iff_ne, ne_eq]; omega
    by_cases h1 : x < 0
    · have q2 := decide_eq_true h1
      refine Spec.run Tryz.func44 rfl Tryz.ntmps44 (by simp) (by simp (disch := omega) only [go_sem]; rfl) fun B hB => ?_
      (repeat (first | refine DO.nil (by kernel_rfl) ?_ | (with_reducible refine oz (by constructor <;> decide) ?_) | ((first | apply SO.call | apply DO.call); (iterate 3 (focus (simp (disch := omega) only [go_sem, ↓reduceIte] <;> rfl))); (first | apply SCall.ofX | apply DCall.ofX); (focus (first | assumption)); (focus (simp (disch := omega) only [go_sem] <;> rfl))) | ((with_reducible first | apply SC.condB | apply SC.region | apply SO.run | apply DO.run); (focus (simp (disch := omega) only [go_sem, ↓reduceIte, Nat.reduceEqDiff, Nat.reduceLT, reduceCtorEq, q1, q2] <;> rfl)); (first | refine pickT ?_ | refine pickF ?_ | fail_if_success with_reducible refine pickA ?_)) | ((with_reducible refine SC.draw Tab.mixed ?_ ?_); (focus rfl)) | (with_reducible apply SC.ops)))
      refine retQ_ret Tryz.results44 (by simp (disch := omega) only [go_sem, ↓reduceIte]; rfl) (by simp (disch := omega) only [go_sem]; rfl) ?_
      rw [Int.sign_eq_neg_one_of_neg h1]
    · have q2 := decide_eq_false h1
      refine Spec.run Tryz.func44 rfl Tryz.ntmps44 (by simp) (by simp (disch := omega) only [go_sem]; rfl) fun B hB => ?_
      (repeat (first | refine DO.nil (by kernel_rfl) ?_ | (with_reducible refine oz (by constructor <;> decide) ?_) | ((first | apply SO.call | apply DO.call); (iterate 3 (focus (simp (disch := omega) only [go_sem, ↓reduceIte] <;> rfl))); (first | apply SCall.ofX | apply DCall.ofX); (focus (first | assumption)); (focus (simp (disch := omega) only [go_sem] <;> rfl))) | ((with_reducible first | apply SC.condB | apply SC.region | apply SO.run | apply DO.run); (focus (simp (disch := omega) only [go_sem, ↓reduceIte, Nat.reduceEqDiff, Nat.reduceLT, reduceCtorEq, q1, q2] <;> rfl)); (first | refine pickT ?_ | refine pickF ?_ | fail_if_success with_reducible refine pickA ?_)) | ((with_reducible refine SC.draw Tab.mixed ?_ ?_); (focus rfl)) | (with_reducible apply SC.ops)))
      refine retQ_ret Tryz.results44 (by simp (disch := omega) only [go_sem, ↓reduceIte]; rfl) (by simp (disch := omega) only [go_sem]; rfl) ?_
      rw [Int.sign_eq_one_of_pos (by omega)]
end Go.Proofs.YtpodnbcdddcdmaaGreatDoor

/- The program's integers by value: Neg, Abs, compare, Cmp. -/
namespace Go.Proofs.YtpodnbcdddcdmaaGreatDoor
open Go.RowKit
theorem clone_l (l : List Nat) (hn : l.length ≤ 1000000000000) : Spec Tryz.prog 78 [sv l] (sv l) := by
  have := clone_s (lv l) (lv_clo l) (lv_all l) (by rw [lv_len]; exact hn)
  rw [lv_len] at this
  exact this
theorem pvalue_n (n : Nat) (neg : Bool) (z : Int) (hz : sgn neg n = z) (h : (limbsOf n).length ≤ 1000000000000) : Spec Tryz.prog 77 [.sc (.bool neg), sv (limbsOf n)] (iv z) := by
  have := value_i neg (limbsOf n) (limbsOf_limbs n) h
  rwa [limbsOf_val, hz] at this
theorem pneg_i (x : Int) (K : Nat) (hx : Fits K x) (hK : K ≤ 1000000000000) : Spec Tryz.prog 62 [iv x] (iv (-x)) := by
  have lx := fits_len hx
  have c1 := clone_l (limbsOf x.natAbs) (by omega)
  have c2 := pvalue_n x.natAbs (!decide (x < 0)) (-x) (by unfold sgn; split <;> simp_all <;> omega) (by omega)
  unfold iv sv at *
  refine Spec.run Tryz.func62 rfl Tryz.ntmps62 (by simp) (by simp (disch := omega) only [go_sem]; rfl) fun B hB => ?_
  (repeat (first | refine DO.nil (by kernel_rfl) ?_ | (with_reducible refine oz (by constructor <;> decide) ?_) | ((first | apply SO.call | apply DO.call); (iterate 3 (focus (simp (disch := omega) only [go_sem, ↓reduceIte, Nat.reduceEqDiff, Nat.reduceLT] <;> rfl))); (first | apply SCall.ofX | apply DCall.ofX); (focus (first | assumption)); (focus (simp (disch := omega) only [go_sem] <;> rfl))) | ((with_reducible first | apply SC.condB | apply SC.region | apply SO.run | apply DO.run); (focus (simp (disch := omega) only [go_sem, ↓reduceIte, Nat.reduceEqDiff, Nat.reduceLeDiff, Nat.reduceAdd, reduceCtorEq] <;> rfl)); (first | refine pickT ?_ | refine pickF ?_ | fail_if_success with_reducible refine pickA ?_)) | ((with_reducible refine SC.draw Tab.mixed ?_ ?_); (focus rfl)) | (with_reducible apply SC.ops)))
  exact retQ_ret Tryz.results62 (by simp (disch := omega) only [go_sem, ↓reduceIte, Nat.reduceEqDiff, Nat.reduceLeDiff, Nat.reduceAdd]; rfl) (by simp (disch := omega) only [go_sem, ↓reduceIte]; rfl) rfl
theorem nanI_s (n : Int) : Spec Tryz.prog 97 [.sc (.int .i64 n)] (.sc (.bool false)) := by
  have q1 : ((n : Int) != n) = false := by simp
  refine Spec.run Tryz.func97 rfl Tryz.ntmps97 (by simp) (by simp (disch := omega) only [go_sem]; rfl) fun B hB => ?_
  (repeat (first | refine DO.nil (by kernel_rfl) ?_ | (with_reducible refine SC.condB (by simp (disch := omega) only [go_sem, ↓reduceIte, Nat.reduceEqDiff, Nat.reduceLT, Nat.reduceLeDiff, Nat.reduceAdd, Nat.reduceMul, Nat.reduceSub, reduceCtorEq, Nat.reduceBEq, Int.reduceToNat, Int.reducePow, if_pos, if_neg, q1]; rfl) ?_; first | with_reducible refine pickT ?_ | with_reducible refine pickF ?_) | (with_reducible refine oz (by constructor <;> decide) ?_) | ((with_reducible apply SC.region); (focus (simp (disch := omega) only [go_sem, ↓reduceIte, Nat.reduceEqDiff, Nat.reduceLT, reduceCtorEq, q1]; rfl))) | (with_reducible refine SC.draw Tab.mixed rfl ?_; (repeat (refine DO.run (by simp (disch := omega) only [go_sem, ↓reduceIte, Nat.reduceEqDiff, Nat.reduceLT, Nat.reduceLeDiff, Nat.reduceAdd, Nat.reduceMul, Nat.reduceSub, reduceCtorEq, Nat.reduceBEq, Int.reduceToNat, Int.reducePow, if_pos, if_neg, q1]; rfl) ?_)); refine DO.nil (by kernel_rfl) ?_)))
  exact retQ_ret Tryz.results97 (by simp (disch := omega) only [go_sem, ↓reduceIte]; rfl) (by simp (disch := omega) only [go_sem]; rfl) rfl
theorem nanU_s (n : Int) : Spec Tryz.prog 111 [.sc (.int .u32 n)] (.sc (.bool false)) := by
  have q1 : ((n : Int) != n) = false := by simp
  refine Spec.run Tryz.func111 rfl Tryz.ntmps111 (by simp) (by simp (disch := omega) only [go_sem]; rfl) fun B hB => ?_
  (repeat (first | refine DO.nil (by kernel_rfl) ?_ | (with_reducible refine SC.condB (by simp (disch := omega) only [go_sem, ↓reduceIte, Nat.reduceEqDiff, Nat.reduceLT, Nat.reduceLeDiff, Nat.reduceAdd, Nat.reduceMul, Nat.reduceSub, reduceCtorEq, Nat.reduceBEq, Int.reduceToNat, Int.reducePow, if_pos, if_neg, q1]; rfl) ?_; first | with_reducible refine pickT ?_ | with_reducible refine pickF ?_) | (with_reducible refine oz (by constructor <;> decide) ?_) | ((with_reducible apply SC.region); (focus (simp (disch := omega) only [go_sem, ↓reduceIte, Nat.reduceEqDiff, Nat.reduceLT, reduceCtorEq, q1]; rfl))) | (with_reducible refine SC.draw Tab.mixed rfl ?_; (repeat (refine DO.run (by simp (disch := omega) only [go_sem, ↓reduceIte, Nat.reduceEqDiff, Nat.reduceLT, Nat.reduceLeDiff, Nat.reduceAdd, Nat.reduceMul, Nat.reduceSub, reduceCtorEq, Nat.reduceBEq, Int.reduceToNat, Int.reducePow, if_pos, if_neg, q1]; rfl) ?_)); refine DO.nil (by kernel_rfl) ?_)))
  exact retQ_ret Tryz.results111 (by simp (disch := omega) only [go_sem, ↓reduceIte]; rfl) (by simp (disch := omega) only [go_sem]; rfl) rfl
theorem cmpI_s (x y : Int) : Spec Tryz.prog 74 [.sc (.int .i64 x), .sc (.int .i64 y)] (.sc (.int .i64 (x - y).sign)) := by
  have c1 := nanI_s x
  have c2 := nanI_s y
  rcases Int.lt_trichotomy x y with h | h | h
  · have q1 := decide_eq_true h
    refine Spec.run Tryz.func74 rfl Tryz.ntmps74 (by simp) (by simp (disch := omega) only [go_sem, Nat.reduceAdd]; rfl) fun B hB => ?_
    (repeat (first | refine DO.nil (by kernel_rfl) ?_ | (with_reducible refine oz (by constructor <;> decide) ?_) | ((first | apply SO.call | apply DO.call); (iterate 3 (focus (simp (disch := omega) only [go_sem, ↓reduceIte] <;> rfl))); (first | apply SCall.ofX | apply DCall.ofX); (focus (first | assumption)); (focus (simp (disch := omega) only [go_sem] <;> rfl))) | ((with_reducible first | apply SC.condB | apply SC.region | apply SO.run | apply DO.run); (focus (simp (disch := omega) only [go_sem, ↓reduceIte, Nat.reduceEqDiff, reduceCtorEq, q1] <;> rfl)); (first | refine pickT ?_ | refine pickF ?_ | fail_if_success with_reducible refine pickA ?_)) | ((with_reducible refine SC.draw Tab.mixed ?_ ?_); (focus rfl)) | (with_reducible apply SC.ops)))
    refine retQ_ret Tryz.results74 (by simp (disch := omega) only [go_sem, ↓reduceIte]; rfl) (by simp (disch := omega) only [go_sem]; rfl) ?_
    rw [Int.sign_eq_neg_one_of_neg (by omega)]
  · subst h
    have q1 : decide (x < x) = false := by simp
    refine Spec.run Tryz.func74 rfl Tryz.ntmps74 (by simp) (by simp (disch := omega) only [go_sem, Nat.reduceAdd]; rfl) fun B hB => ?_
    (repeat (first | refine DO.nil (by kernel_rfl) ?_ | (with_reducible refine oz (by constructor <;> decide) ?_) | ((first | apply SO.call | apply DO.call); (iterate 3 (focus (simp (disch := omega) only [go_sem, ↓reduceIte] <;> rfl))); (first | apply SCall.ofX | apply DCall.ofX); (focus (first | assumption)); (focus (simp (disch := omega) only [go_sem] <;> rfl))) | ((with_reducible first | apply SC.condB | apply SC.region | apply SO.run | apply DO.run); (focus (simp (disch := omega) only [go_sem, ↓reduceIte, Nat.reduceEqDiff, Nat.reduceLT, reduceCtorEq, q1] <;> rfl)); (first | refine pickT ?_ | refine pickF ?_ | fail_if_success with_reducible refine pickA ?_)) | ((with_reducible refine SC.draw Tab.mixed ?_ ?_); (focus rfl)) | (with_reducible apply SC.ops)))
    refine retQ_ret Tryz.results74 (by simp (disch := omega) only [go_sem, ↓reduceIte]; rfl) (by simp (disch := omega) only [go_sem]; rfl) ?_
    rw [Int.sub_self]; rfl
  · have q1 := decide_eq_false (p := x < y) (by omega)
    have q2 := decide_eq_true h
    refine Spec.run Tryz.func74 rfl Tryz.ntmps74 (by simp) (by simp (disch := omega) only [go_sem, Nat.reduceAdd]; rfl) fun B hB => ?_
    (repeat (first | refine DO.nil (by kernel_rfl) ?_ | (with_reducible refine oz (by constructor <;> decide) ?_) | ((first | apply SO.call | apply DO.call); (iterate 3 (focus (simp (disch := omega) only [go_sem, ↓reduceIte] <;> rfl))); (first | apply SCall.ofX | apply DCall.ofX); (focus (first | assumption)); (focus (simp (disch := omega) only [go_sem] <;> rfl))) | ((with_reducible first | apply SC.condB | apply SC.region | apply SO.run | apply DO.run); (focus (simp (disch := omega) only [go_sem, ↓reduceIte, Nat.reduceEqDiff, Nat.reduceLT, reduceCtorEq, q1, q2] <;> rfl)); (first | refine pickT ?_ | refine pickF ?_ | fail_if_success with_reducible refine pickA ?_)) | ((with_reducible refine SC.draw Tab.mixed ?_ ?_); (focus rfl)) | (with_reducible apply SC.ops)))
    refine retQ_ret Tryz.results74 (by simp (disch := omega) only [go_sem, ↓reduceIte]; rfl) (by simp (disch := omega) only [go_sem]; rfl) ?_
    rw [Int.sign_eq_one_of_pos (by omega)]
theorem cmpU_s (x y : Int) : Spec Tryz.prog 98 [.sc (.int .u32 x), .sc (.int .u32 y)] (.sc (.int .i64 (x - y).sign)) := by
  have c1 := nanU_s x
  have c2 := nanU_s y
  rcases Int.lt_trichotomy x y with h | h | h
  · have q1 := decide_eq_true h
    refine Spec.run Tryz.func98 rfl Tryz.ntmps98 (by simp) (by simp (disch := omega) only [go_sem, Nat.reduceAdd]; rfl) fun B hB => ?_
    (repeat (first | refine DO.nil (by kernel_rfl) ?_ | (with_reducible refine oz (by constructor <;> decide) ?_) | ((first | apply SO.call | apply DO.call); (iterate 3 (focus (simp (disch := omega) only [go_sem, ↓reduceIte] <;> rfl))); (first | apply SCall.ofX | apply DCall.ofX); (focus (first | assumption)); (focus (simp (disch := omega) only [go_sem] <;> rfl))) | ((with_reducible first | apply SC.condB | apply SC.region | apply SO.run | apply DO.run); (focus (simp (disch := omega) only [go_sem, ↓reduceIte, Nat.reduceEqDiff, reduceCtorEq, q1] <;> rfl)); (first | refine pickT ?_ | refine pickF ?_ | fail_if_success with_reducible refine pickA ?_)) | ((with_reducible refine SC.draw Tab.mixed ?_ ?_); (focus rfl)) | (with_reducible apply SC.ops)))
    refine retQ_ret Tryz.results98 (by simp (disch := omega) only [go_sem, ↓reduceIte]; rfl) (by simp (disch := omega) only [go_sem]; rfl) ?_
    rw [Int.sign_eq_neg_one_of_neg (by omega)]
  · subst h
    have q1 : decide (x < x) = false := by simp
    refine Spec.run Tryz.func98 rfl Tryz.ntmps98 (by simp) (by simp (disch := omega) only [go_sem, Nat.reduceAdd]; rfl) fun B hB => ?_
    (repeat (first | refine DO.nil (by kernel_rfl) ?_ | (with_reducible refine oz (by constructor <;> decide) ?_) | ((first | apply SO.call | apply DO.call); (iterate 3 (focus (simp (disch := omega) only [go_sem, ↓reduceIte] <;> rfl))); (first | apply SCall.ofX | apply DCall.ofX); (focus (first | assumption)); (focus (simp (disch := omega) only [go_sem] <;> rfl))) | ((with_reducible first | apply SC.condB | apply SC.region | apply SO.run | apply DO.run); (focus (simp (disch := omega) only [go_sem, ↓reduceIte, Nat.reduceEqDiff, Nat.reduceLT, reduceCtorEq, q1] <;> rfl)); (first | refine pickT ?_ | refine pickF ?_ | fail_if_success with_reducible refine pickA ?_)) | ((with_reducible refine SC.draw Tab.mixed ?_ ?_); (focus rfl)) | (with_reducible apply SC.ops)))
    refine retQ_ret Tryz.results98 (by simp (disch := omega) only [go_sem, ↓reduceIte]; rfl) (by simp (disch := omega) only [go_sem]; rfl) ?_
    rw [Int.sub_self]; rfl
  · have q1 := decide_eq_false (p := x < y) (by omega)
    have q2 := decide_eq_true h
    refine Spec.run Tryz.func98 rfl Tryz.ntmps98 (by simp) (by simp (disch := omega) only [go_sem, Nat.reduceAdd]; rfl) fun B hB => ?_
    (repeat (first | refine DO.nil (by kernel_rfl) ?_ | (with_reducible refine oz (by constructor <;> decide) ?_) | ((first | apply SO.call | apply DO.call); (iterate 3 (focus (simp (disch := omega) only [go_sem, ↓reduceIte] <;> rfl))); (first | apply SCall.ofX | apply DCall.ofX); (focus (first | assumption)); (focus (simp (disch := omega) only [go_sem] <;> rfl))) | ((with_reducible first | apply SC.condB | apply SC.region | apply SO.run | apply DO.run); (focus (simp (disch := omega) only [go_sem, ↓reduceIte, Nat.reduceEqDiff, Nat.reduceLT, reduceCtorEq, q1, q2] <;> rfl)); (first | refine pickT ?_ | refine pickF ?_ | fail_if_success with_reducible refine pickA ?_)) | ((with_reducible refine SC.draw Tab.mixed ?_ ?_); (focus rfl)) | (with_reducible apply SC.ops)))
    refine retQ_ret Tryz.results98 (by simp (disch := omega) only [go_sem, ↓reduceIte]; rfl) (by simp (disch := omega) only [go_sem]; rfl) ?_
    rw [Int.sign_eq_one_of_pos (by omega)]
theorem compare_n (m n : Nat) (hm : (limbsOf m).length ≤ 1000000000000) (hn : (limbsOf n).length ≤ 1000000000000) : Spec Tryz.prog 75 [sv (limbsOf m), sv (limbsOf n)] (.sc (.int .i64 ((m : Int) - n).sign)) := by
  have bm := limbsOf_limbs m
  have bn := limbsOf_limbs n
  have cm := limbsOf_canon m
  have cn := limbsOf_canon n
  have vm := limbsOf_val m
  have vn := limbsOf_val n
  generalize limbsOf m = a at *
  generalize limbsOf n = b at *
  subst vm
  subst vn
  have c1 := cmpI_s (a.length : Int) (b.length : Int)
  have hlt : ∀ {a b : List Nat}, limbs a → canon b → a.length < b.length → val a < val b := by
    intro a b ha cb h
    have h1 := val_lt ha
    have h2 := canon_ge cb (by intro e; subst e; simp at h)
    have h3 : 4294967296 ^ a.length ≤ 4294967296 ^ (b.length - 1) := Nat.pow_le_pow_right (by omega) (by omega)
    omega
  unfold sv
  by_cases hab : a.length = b.length
  · have e1 : ((a.length : Int) - (b.length : Int)).sign = 0 := by rw [hab, Int.sub_self]; rfl
    rw [e1] at c1
    have q0 : ((0 : Int) != 0) = false := by decide
    refine Spec.run Tryz.func75 rfl Tryz.ntmps75 (by simp) (by simp (disch := omega) only [go_sem, Nat.reduceAdd]; rfl) fun B hB => ?_
    (repeat (first | refine DO.nil (by kernel_rfl) ?_ | (with_reducible refine oz (by constructor <;> decide) ?_) | ((first | apply SO.call | apply DO.call); (iterate 3 (focus (simp (disch := omega) only [go_sem, ↓reduceIte, Nat.reduceEqDiff] <;> rfl))); (first | apply SCall.ofX | apply DCall.ofX); (focus (first | assumption)); (focus (simp (disch := omega) only [go_sem] <;> rfl))) | ((with_reducible first | apply SC.condB | apply SC.region | apply SO.run | apply DO.run); (focus (simp (disch := omega) only [go_sem, ↓reduceIte, Nat.reduceEqDiff, reduceCtorEq, q0] <;> rfl)); (first | refine pickT ?_ | refine pickF ?_ | fail_if_success with_reducible refine pickA ?_)) | ((with_reducible refine SC.draw Tab.mixed ?_ ?_); (focus rfl)) | (with_reducible apply SC.ops)))
    refine SC.loop (fun k : Nat => ⟨[(0, .im (lv a) a.length), (1, .im (lv b) b.length), (6, .sc (.int .i64 ((k : Int) - 1)))], [], 0, 35⟩)
      (fun k => k ≤ a.length ∧ (val a < val b ↔ val (a.take k) < val (b.take k)) ∧ (val b < val a ↔ val (b.take k) < val (a.take k))) (fun k => k) a.length ?_ ?_ ?_
    · (refine Le.of [] hB (by first | exact ⟨Nat.zero_le _, fun _ _ => Nat.zero_le _⟩ | (constructor <;> (try simp) <;> (try omega))) ?_ ?_ <;> (repeat' (first | exact leSl_nil | exact leHp_nil | refine leSl_cons (by simp (disch := omega) only [go_sem, ↓reduceIte, Nat.reduceEqDiff, reduceCtorEq]; rfl) ?_ ?_ | refine leHp_cons (by simp (disch := omega) only [go_sem, ↓reduceIte, Nat.reduceEqDiff, Nat.reduceLT, Nat.reduceLeDiff, Nat.reduceAdd, Nat.reduceMul, Nat.reduceSub, reduceCtorEq, Nat.reduceBEq, Int.reduceToNat, Int.reducePow, if_pos, if_neg]; rfl) ?_ ?_ | exact VLe.junk _ | exact VLe.refl rfl | exact VLe.nil_sl _ _ _ | exact VLe.int (by first | rfl | omega | (dsimp only; omega)) | exact VLe.bool rfl | exact VLe.sl rfl (by first | rfl | omega | (dsimp only; omega) | (simp; done)) | exact VLe.cap rfl (by first | rfl | omega | (dsimp only; omega) | (simp; done)) | exact VLe.im rfl rfl | exact HLe.new rfl | exact HLe.same rfl (LLe.refl rfl) | refine HLe.same rfl ?_ | exact LLe.nil _ | exact LLe.refl rfl | refine LLe.cons ?_ ?_)))
    · exact ⟨Nat.le_refl _, by rw [List.take_length, hab, List.take_length], by rw [List.take_length, hab, List.take_length]⟩
    · rintro k ⟨hk, hI, hJ⟩ K hK
      by_cases h0 : k = 0
      · subst h0
        have q1 : decide ((0 : Int) ≤ ((0 : Nat) : Int) - 1) = false := by simp
        (repeat (first | refine DO.nil (by kernel_rfl) ?_ | (with_reducible refine SC.condB (by simp (disch := omega) only [go_sem, ↓reduceIte]; rfl) ?_; first | with_reducible refine pickT ?_ | with_reducible refine pickF ?_) | (with_reducible refine oz (by constructor <;> decide) ?_) | ((with_reducible apply SC.region); (focus (simp (disch := omega) only [go_sem, ↓reduceIte, Nat.reduceEqDiff, reduceCtorEq, q1]; rfl))) | (with_reducible refine SC.draw Tab.mixed rfl ?_; (repeat (refine DO.run (by simp (disch := omega) only [go_sem, ↓reduceIte, Nat.reduceEqDiff, Nat.reduceLT, Nat.reduceLeDiff, Nat.reduceAdd, Nat.reduceMul, Nat.reduceSub, reduceCtorEq, Nat.reduceBEq, Int.reduceToNat, Int.reducePow, if_pos, if_neg, q0, lv_len, q1]; rfl) ?_)); refine DO.nil (by kernel_rfl) ?_)))
        refine retQ_ret Tryz.results75 (by simp (disch := omega) only [go_sem, ↓reduceIte]; rfl) (by simp (disch := omega) only [go_sem]; rfl) ?_
        simp [val] at hI hJ
        rw [show ((val a : Int) - (val b : Int)) = 0 by omega]; rfl
      · obtain ⟨j, rfl⟩ : ∃ j, k = j + 1 := ⟨k - 1, by omega⟩
        have q1 : decide ((0 : Int) ≤ ((j + 1 : Nat) : Int) - 1) = true := by simp
        have hi : (((j + 1 : Nat) : Int) - 1).toNat = j := by omega
        have ga := lv_get (l := a) (i := j) (by omega)
        have gb := lv_get (l := b) (i := j) (by omega)
        have s1 := val_lt_step (a := a) (b := b) (k := j) bm bn (by omega) (by omega)
        have s2 := val_lt_step (a := b) (b := a) (k := j) bn bm (by omega) (by omega)
        rw [← hI] at s1
        rw [← hJ] at s2
        generalize a.getD j 0 = x at *
        generalize b.getD j 0 = y at *
        have c2 := cmpU_s (x : Int) (y : Int)
        rcases Nat.lt_trichotomy x y with h | h | h
        · have e2 : ((x : Int) - (y : Int)).sign = -1 := Int.sign_eq_neg_one_of_neg (by omega)
          rw [e2] at c2
          have q2 : ((-1 : Int) != 0) = true := by decide
          (repeat (first | refine DO.nil (by kernel_rfl) ?_ | (with_reducible refine oz (by constructor <;> decide) ?_) | ((first | apply SO.call | apply DO.call); (iterate 3 (focus (simp (disch := omega) only [go_sem, ↓reduceIte, Nat.reduceEqDiff] <;> rfl))); (first | apply SCall.ofX | apply DCall.ofX); (focus (first | assumption)); (focus (simp (disch := omega) only [go_sem] <;> rfl))) | ((with_reducible first | apply SC.condB | apply SC.region | apply SO.run | apply DO.run); (focus (simp (disch := omega) only [go_sem, ↓reduceIte, Nat.reduceEqDiff, Nat.reduceLT, reduceCtorEq, if_pos, q1, q2, hi, ga, gb, lv_len, List.getElem?_drop] <;> rfl)); (first | refine pickT ?_ | refine pickF ?_ | fail_if_success with_reducible refine pickA ?_)) | ((with_reducible refine SC.draw Tab.mixed ?_ ?_); (focus rfl)) | (with_reducible apply SC.ops)))
          refine retQ_ret Tryz.results75 (by simp (disch := omega) only [go_sem, ↓reduceIte]; rfl) (by simp (disch := omega) only [go_sem]; rfl) ?_
          have := (s1.2 (by omega)).2 h
          rw [Int.sign_eq_neg_one_of_neg (by omega)]
        · subst h
          have e2 : ((x : Int) - (x : Int)).sign = 0 := by rw [Int.sub_self]; rfl
          rw [e2] at c2
          (repeat (first | refine DO.nil (by kernel_rfl) ?_ | (with_reducible refine oz (by constructor <;> decide) ?_) | ((first | apply SO.call | apply DO.call); (iterate 3 (focus (simp (disch := omega) only [go_sem, ↓reduceIte, Nat.reduceEqDiff] <;> rfl))); (first | apply SCall.ofX | apply DCall.ofX); (focus (first | assumption)); (focus (simp (disch := omega) only [go_sem] <;> rfl))) | ((with_reducible first | apply SC.condB | apply SC.region | apply SO.run | apply DO.run); (focus (simp (disch := omega) only [go_sem, ↓reduceIte, Nat.reduceEqDiff, reduceCtorEq, if_pos, q0, q1, hi, ga, gb, lv_len, List.getElem?_drop] <;> rfl)); (first | refine pickT ?_ | refine pickF ?_ | fail_if_success with_reducible refine pickA ?_)) | ((with_reducible refine SC.draw Tab.mixed ?_ ?_); (focus rfl)) | (with_reducible apply SC.ops)))
          refine hK _ j ?_ ⟨by omega, s1.1 rfl, s2.1 rfl⟩ (by omega)
          (refine Le.of [] hB (by first | exact ⟨Nat.zero_le _, fun _ _ => Nat.zero_le _⟩ | (constructor <;> (try simp) <;> (try omega))) ?_ ?_ <;> (repeat' (first | exact leSl_nil | exact leHp_nil | refine leSl_cons (by simp (disch := omega) only [go_sem, ↓reduceIte, Nat.reduceEqDiff, reduceCtorEq]; rfl) ?_ ?_ | refine leHp_cons (by simp (disch := omega) only [go_sem, ↓reduceIte, Nat.reduceEqDiff, Nat.reduceLT, Nat.reduceLeDiff, Nat.reduceAdd, Nat.reduceMul, Nat.reduceSub, reduceCtorEq, Nat.reduceBEq, Int.reduceToNat, Int.reducePow, if_pos, if_neg]; rfl) ?_ ?_ | exact VLe.junk _ | exact VLe.refl rfl | exact VLe.nil_sl _ _ _ | exact VLe.int (by first | rfl | omega | (dsimp only; omega)) | exact VLe.bool rfl | exact VLe.sl rfl (by first | rfl | omega | (dsimp only; omega) | (simp; done)) | exact VLe.cap rfl (by first | rfl | omega | (dsimp only; omega) | (simp; done)) | exact VLe.im rfl rfl | exact HLe.new rfl | exact HLe.same rfl (LLe.refl rfl) | refine HLe.same rfl ?_ | exact LLe.nil _ | exact LLe.refl rfl | refine LLe.cons ?_ ?_)))
        · have e2 : ((x : Int) - (y : Int)).sign = 1 := Int.sign_eq_one_of_pos (by omega)
          rw [e2] at c2
          have q2 : ((1 : Int) != 0) = true := by decide
          (repeat (first | refine DO.nil (by kernel_rfl) ?_ | (with_reducible refine oz (by constructor <;> decide) ?_) | ((first | apply SO.call | apply DO.call); (iterate 3 (focus (simp (disch := omega) only [go_sem, ↓reduceIte, Nat.reduceEqDiff] <;> rfl))); (first | apply SCall.ofX | apply DCall.ofX); (focus (first | assumption)); (focus (simp (disch := omega) only [go_sem] <;> rfl))) | ((with_reducible first | apply SC.condB | apply SC.region | apply SO.run | apply DO.run); (focus (simp (disch := omega) only [go_sem, ↓reduceIte, Nat.reduceEqDiff, Nat.reduceLT, reduceCtorEq, if_pos, q1, q2, hi, ga, gb, lv_len, List.getElem?_drop] <;> rfl)); (first | refine pickT ?_ | refine pickF ?_ | fail_if_success with_reducible refine pickA ?_)) | ((with_reducible refine SC.draw Tab.mixed ?_ ?_); (focus rfl)) | (with_reducible apply SC.ops)))
          refine retQ_ret Tryz.results75 (by simp (disch := omega) only [go_sem, ↓reduceIte]; rfl) (by simp (disch := omega) only [go_sem]; rfl) ?_
          have := (s2.2 (by omega)).2 h
          rw [Int.sign_eq_one_of_pos (by omega)]
  · rcases Nat.lt_or_gt_of_ne hab with h | h
    · have e1 : ((a.length : Int) - (b.length : Int)).sign = -1 := Int.sign_eq_neg_one_of_neg (by omega)
      rw [e1] at c1
      have q0 : ((-1 : Int) != 0) = true := by decide
      have hv := hlt bm cn h
      refine Spec.run Tryz.func75 rfl Tryz.ntmps75 (by simp) (by simp (disch := omega) only [go_sem, Nat.reduceAdd]; rfl) fun B hB => ?_
      (repeat (first | refine DO.nil (by kernel_rfl) ?_ | (with_reducible refine oz (by constructor <;> decide) ?_) | ((first | apply SO.call | apply DO.call); (iterate 3 (focus (simp (disch := omega) only [go_sem, ↓reduceIte, Nat.reduceEqDiff] <;> rfl))); (first | apply SCall.ofX | apply DCall.ofX); (focus (first | assumption)); (focus (simp (disch := omega) only [go_sem] <;> rfl))) | ((with_reducible first | apply SC.condB | apply SC.region | apply SO.run | apply DO.run); (focus (simp (disch := omega) only [go_sem, ↓reduceIte, Nat.reduceEqDiff, reduceCtorEq, q0] <;> rfl)); (first | refine pickT ?_ | refine pickF ?_ | fail_if_success with_reducible refine pickA ?_)) | ((with_reducible refine SC.draw Tab.mixed ?_ ?_); (focus rfl)) | (with_reducible apply SC.ops)))
      refine retQ_ret Tryz.results75 (by simp (disch := omega) only [go_sem, ↓reduceIte]; rfl) (by simp (disch := omega) only [go_sem]; rfl) ?_
      rw [Int.sign_eq_neg_one_of_neg (by omega)]
    · have e1 : ((a.length : Int) - (b.length : Int)).sign = 1 := Int.sign_eq_one_of_pos (by omega)
      rw [e1] at c1
      have q0 : ((1 : Int) != 0) = true := by decide
      have hv := hlt bn cm h
      refine Spec.run Tryz.func75 rfl Tryz.ntmps75 (by simp) (by simp (disch := omega) only [go_sem, Nat.reduceAdd]; rfl) fun B hB => ?_
      (repeat (first | refine DO.nil (by kernel_rfl) ?_ | (with_reducible refine oz (by constructor <;> decide) ?_) | ((first | apply SO.call | apply DO.call); (iterate 3 (focus (simp (disch := omega) only [go_sem, ↓reduceIte, Nat.reduceEqDiff] <;> rfl))); (first | apply SCall.ofX | apply DCall.ofX); (focus (first | assumption)); (focus (simp (disch := omega) only [go_sem] <;> rfl))) | ((with_reducible first | apply SC.condB | apply SC.region | apply SO.run | apply DO.run); (focus (simp (disch := omega) only [go_sem, ↓reduceIte, Nat.reduceEqDiff, reduceCtorEq, q0] <;> rfl)); (first | refine pickT ?_ | refine pickF ?_ | fail_if_success with_reducible refine pickA ?_)) | ((with_reducible refine SC.draw Tab.mixed ?_ ?_); (focus rfl)) | (with_reducible apply SC.ops)))
      refine retQ_ret Tryz.results75 (by simp (disch := omega) only [go_sem, ↓reduceIte]; rfl) (by simp (disch := omega) only [go_sem]; rfl) ?_
      rw [Int.sign_eq_one_of_pos (by omega)]
theorem sign_cases (z : Int) : (z < 0 ∧ z.sign = -1) ∨ (z = 0 ∧ z.sign = 0) ∨ (0 < z ∧ z.sign = 1) := by
  rcases Int.lt_trichotomy z 0 with h | h | h
  · exact .inl ⟨h, Int.sign_eq_neg_one_of_neg h⟩
  · subst h; exact .inr (.inl ⟨rfl, rfl⟩)
  · exact .inr (.inr ⟨h, Int.sign_eq_one_of_pos h⟩)
theorem pcmp_i (x y : Int) (K : Nat) (hx : Fits K x) (hy : Fits K y) (hK : K ≤ 1000000000000) : Spec Tryz.prog 53 [iv x, iv y] (.sc (.int .i64 (x - y).sign)) := by
  have lx := fits_len hx
  have ly := fits_len hy
  have c1 := psign_i x K hx hK
  have c2 := psign_i y K hy hK
  by_cases hs : x.sign = y.sign
  · have c3 := trim_n x.natAbs (by omega)
    have c4 := trim_n y.natAbs (by omega)
    have c5 := compare_n x.natAbs y.natAbs (by omega) (by omega)
    rw [← hs] at c2
    have q1 : (x.sign != x.sign) = false := by simp
    have A := sign_cases x
    have A' := sign_cases y
    have A2 := sign_cases (x - y)
    have A3 := sign_cases ((x.natAbs : Int) - (y.natAbs : Int))
    have hb : -1 ≤ x.sign ∧ x.sign ≤ 1 := by omega
    have hb2 : -1 ≤ (x - y).sign ∧ (x - y).sign ≤ 1 := by omega
    have e : x.sign * (((x.natAbs : Int) - (y.natAbs : Int)).sign) = (x - y).sign := by
      rcases A with ⟨h, g⟩ | ⟨h, g⟩ | ⟨h, g⟩ <;> rw [g] <;> omega
    clear A A' A2 A3
    generalize x.sign = s at *
    generalize (((x.natAbs : Int) - (y.natAbs : Int)).sign) = t at *
    generalize (x - y).sign = u at *
    unfold iv sv at *
    refine Spec.run Tryz.func53 rfl Tryz.ntmps53 (by simp) (by simp (disch := omega) only [go_sem, Nat.reduceAdd]; rfl) fun B hB => ?_
    (repeat (first | refine DO.nil (by kernel_rfl) ?_ | (with_reducible refine oz (by constructor <;> decide) ?_) | ((first | apply SO.call | apply DO.call); (iterate 3 (focus (simp (disch := omega) only [go_sem, ↓reduceIte, Nat.reduceEqDiff] <;> rfl))); (first | apply SCall.ofX | apply DCall.ofX); (focus (first | assumption)); (focus (simp (disch := omega) only [go_sem] <;> rfl))) | ((with_reducible first | apply SC.condB | apply SC.region | apply SO.run | apply DO.run); (focus (simp (disch := omega) only [go_sem, ↓reduceIte, Nat.reduceEqDiff, Nat.reduceLT, Nat.reduceLeDiff, Nat.reduceAdd, reduceCtorEq, q1, e] <;> rfl)); (first | refine pickT ?_ | refine pickF ?_ | fail_if_success with_reducible refine pickA ?_)) | ((with_reducible refine SC.draw Tab.mixed ?_ ?_); (focus rfl)) | (with_reducible apply SC.ops)))
    exact retQ_ret Tryz.results53 (by simp (disch := omega) only [go_sem, ↓reduceIte]; rfl) (by simp (disch := omega) only [go_sem]; rfl) rfl
  · have c3 := cmpI_s x.sign y.sign
    have q1 : (x.sign != y.sign) = true := by simpa using hs
    have e : (x.sign - y.sign).sign = (x - y).sign := by
      have A := sign_cases x
      have A' := sign_cases y
      have A2 := sign_cases (x - y)
      have A3 := sign_cases (x.sign - y.sign)
      omega
    rw [e] at c3
    unfold iv sv at *
    refine Spec.run Tryz.func53 rfl Tryz.ntmps53 (by simp) (by simp (disch := omega) only [go_sem, Nat.reduceAdd]; rfl) fun B hB => ?_
    (repeat (first | refine DO.nil (by kernel_rfl) ?_ | (with_reducible refine oz (by constructor <;> decide) ?_) | ((first | apply SO.call | apply DO.call); (iterate 3 (focus (simp (disch := omega) only [go_sem, ↓reduceIte, Nat.reduceEqDiff] <;> rfl))); (first | apply SCall.ofX | apply DCall.ofX); (focus (first | assumption)); (focus (simp (disch := omega) only [go_sem] <;> rfl))) | ((with_reducible first | apply SC.condB | apply SC.region | apply SO.run | apply DO.run); (focus (simp (disch := omega) only [go_sem, ↓reduceIte, Nat.reduceEqDiff, Nat.reduceLeDiff, Nat.reduceAdd, reduceCtorEq, q1] <;> rfl)); (first | refine pickT ?_ | refine pickF ?_ | fail_if_success with_reducible refine pickA ?_)) | ((with_reducible refine SC.draw Tab.mixed ?_ ?_); (focus rfl)) | (with_reducible apply SC.ops)))
    exact retQ_ret Tryz.results53 (by simp (disch := omega) only [go_sem, ↓reduceIte]; rfl) (by simp (disch := omega) only [go_sem]; rfl) rfl
end Go.Proofs.YtpodnbcdddcdmaaGreatDoor

/- The program's integers by value: plus, minus, Add, Sub. -/
namespace Go.Proofs.YtpodnbcdddcdmaaGreatDoor
open Go.RowKit
theorem take_set_succ {l : List Nat} {k x : Nat} (h : k < l.length) : (l.set k x).take (k + 1) = l.take k ++ [x] := by
  rw [List.take_succ_eq_append_getElem (by simpa using h)]
  simp only [List.take_set, List.getElem_set_self]
  rw [List.set_eq_of_length_le (by simp; omega)]
theorem fd32 (n : Int) : n.fdiv (2 ^ min 32 64) = n / 4294967296 := by rw [show (2 : Int) ^ min 32 64 = 4294967296 by decide]; exact Int.fdiv_eq_ediv_of_nonneg _ (by omega)
theorem fd63 (n : Int) : n.fdiv (2 ^ min 63 64) = n / 9223372036854775808 := by rw [show (2 : Int) ^ min 63 64 = 9223372036854775808 by decide]; exact Int.fdiv_eq_ediv_of_nonneg _ (by omega)
set_option maxHeartbeats 1000000 in
theorem pplus_i (x y : List Nat) (hx : limbs x) (hy : limbs y) (hmx : x.length ≤ 900000000000) (hmy : y.length ≤ 900000000000) : Spec Tryz.prog 84 [sv x, sv y] (sv (dg (max x.length y.length + 1) (val x + val y))) := by
  unfold sv
  rcases Nat.lt_or_ge x.length y.length with hlt | hge
  · have q0 := decide_eq_true (p := ((x.length : Nat) : Int) < (y.length : Int)) (by omega)
    have hN : ((y.length : Int) + 1).toNat = y.length + 1 := by omega
    refine Spec.run Tryz.func84 rfl Tryz.ntmps84 (by simp) (by simp (disch := omega) only [go_sem, Nat.reduceAdd]; rfl) fun B hB => ?_
    (repeat (first | refine DO.nil (by kernel_rfl) ?_ | (with_reducible refine SC.condB (by simp (disch := omega) only [go_sem, ↓reduceIte]; rfl) ?_; first | with_reducible refine pickT ?_ | with_reducible refine pickF ?_) | (with_reducible refine oz (by constructor <;> decide) ?_) | ((with_reducible apply SC.region); (focus (simp (disch := omega) only [go_sem, ↓reduceIte, Nat.reduceEqDiff, reduceCtorEq, if_pos, q0, hN]; rfl))) | (with_reducible refine SC.draw Tab.mixed rfl ?_; (repeat (refine DO.run (by simp (disch := omega) only [go_sem, ↓reduceIte, Nat.reduceEqDiff, Nat.reduceLT, Nat.reduceLeDiff, Nat.reduceAdd, Nat.reduceMul, Nat.reduceSub, reduceCtorEq, Nat.reduceBEq, Int.reduceToNat, Int.reducePow, if_pos, if_neg, q0, lv_len, hN]; rfl) ?_)); refine DO.nil (by kernel_rfl) ?_)))
    refine SC.loop (fun u : Nat × Nat × List Nat => ⟨[(0, .im (lv y) y.length), (1, .im (lv x) x.length), (5, .sl 0 0 (y.length + 1) 1 none), (6, .sc (.int .u64 u.2.1)), (20, .sc (.int .i64 y.length)), (21, .sc (.int .i64 u.1))], [(0, ⟨68, lv u.2.2, false⟩)], 1, 57⟩)
      (fun u => u.2.1 ≤ 1 ∧ u.1 ≤ y.length ∧ u.2.2.length = y.length + 1 ∧ limbs u.2.2 ∧ plusInv y x u.1 u.2.1 (u.2.2.take u.1)) (fun u => y.length - u.1) (0, 0, List.replicate (y.length + 1) 0) ?_ ?_ ?_
    · (refine Le.of [] hB (by first | exact ⟨Nat.zero_le _, fun _ _ => Nat.zero_le _⟩ | (constructor <;> (try simp) <;> (try omega))) ?_ ?_ <;> (repeat' (first | exact leSl_nil | exact leHp_nil | refine leSl_cons (by simp (disch := omega) only [go_sem, ↓reduceIte, Nat.reduceEqDiff, reduceCtorEq]; rfl) ?_ ?_ | refine leHp_cons (by simp (disch := omega) only [go_sem, ↓reduceIte]; rfl) ?_ ?_ | exact VLe.junk _ | exact VLe.refl rfl | exact VLe.nil_sl _ _ _ | exact VLe.int (by first | rfl | omega | (dsimp only; omega)) | exact VLe.bool rfl | exact VLe.sl rfl (by first | rfl | omega | (dsimp only; omega) | (simp; done)) | exact VLe.cap rfl (by first | rfl | omega | (dsimp only; omega) | (simp; done)) | exact VLe.im rfl rfl | exact HLe.new rfl | exact HLe.same rfl (LLe.refl rfl) | refine HLe.same rfl ?_ | exact LLe.nil _ | exact LLe.refl rfl | refine LLe.cons ?_ ?_)))
      exact LLe.lv (lv_rep _)
    · exact ⟨Nat.zero_le _, Nat.zero_le _, by simp, limbs_replicate _, by simp, fun n hn => by simp at hn, by simp [val]⟩
    · rintro ⟨k, c, z⟩ ⟨hc, hk, hzl, hz, hI⟩ K hK
      simp only at hc hk hzl hz hI ⊢
      have la := limbs_getD hy k
      have lb := limbs_getD hx k
      by_cases hka : k < y.length
      · have q1 := decide_eq_true (p := (k : Int) < (y.length : Int)) (by omega)
        have hst := hI.step _ _ rfl rfl
        rw [← take_set_succ (by omega)] at hst
        have ga := lv_get hka
        by_cases hkb : k < x.length
        · have q2 := decide_eq_true (p := (k : Int) < (x.length : Int)) (by omega)
          have gb := lv_get hkb
          generalize y.getD k 0 = s at *
          generalize x.getD k 0 = t at *
          (repeat (first | refine DO.nil (by kernel_rfl) ?_ | (with_reducible refine SC.condB (by simp (disch := omega) only [go_sem, ↓reduceIte]; rfl) ?_; first | with_reducible refine pickT ?_ | with_reducible refine pickF ?_) | (with_reducible refine oz (by constructor <;> decide) ?_) | ((with_reducible apply SC.region); (focus (simp (disch := omega) only [go_sem, ↓reduceIte, Nat.reduceEqDiff, reduceCtorEq, Int.reduceToNat, if_pos, if_neg, q1, q2, fd32, ga, gb, lv_len, List.getElem?_drop]; rfl))) | (with_reducible refine SC.draw Tab.mixed rfl ?_; (repeat (refine DO.run (by simp (disch := omega) only [go_sem, ↓reduceIte, Nat.reduceEqDiff, Nat.reduceLT, Nat.reduceLeDiff, Nat.reduceAdd, Nat.reduceMul, Nat.reduceSub, reduceCtorEq, Nat.reduceBEq, Int.reduceToNat, Int.reducePow, if_pos, if_neg, q1, q2, fd32, ga, gb, lv_len, List.getElem?_drop]; rfl) ?_)); refine DO.nil (by kernel_rfl) ?_)))
          refine hK _ (k + 1, (c + s + t) / 4294967296, z.set k ((c + s + t) % 4294967296)) ?_ ⟨by simp only; omega, by simp only; omega, by simp [hzl], limbs_set hz _ (by omega), hst⟩ (by simp only; omega)
          (refine Le.of [] hB (by first | exact ⟨Nat.zero_le _, fun _ _ => Nat.zero_le _⟩ | (constructor <;> (try simp) <;> (try omega))) ?_ ?_ <;> (repeat' (first | exact leSl_nil | exact leHp_nil | refine leSl_cons (by simp (disch := omega) only [go_sem, ↓reduceIte, Nat.reduceEqDiff, reduceCtorEq]; rfl) ?_ ?_ | refine leHp_cons (by simp (disch := omega) only [go_sem, ↓reduceIte]; rfl) ?_ ?_ | exact VLe.junk _ | exact VLe.refl rfl | exact VLe.nil_sl _ _ _ | exact VLe.int (by first | rfl | omega | (dsimp only; omega)) | exact VLe.bool rfl | exact VLe.sl rfl (by first | rfl | omega | (dsimp only; omega) | (simp; done)) | exact VLe.cap rfl (by first | rfl | omega | (dsimp only; omega) | (simp; done)) | exact VLe.im rfl rfl | exact HLe.new rfl | exact HLe.same rfl (LLe.refl rfl) | refine HLe.same rfl ?_ | exact LLe.nil _ | exact LLe.refl rfl | refine LLe.cons ?_ ?_)))
          exact LLe.lv (lv_set (by omega))
        · have q2 := decide_eq_false (p := (k : Int) < (x.length : Int)) (by omega)
          have hb0 := getD_ge hkb
          rw [hb0] at hst
          generalize y.getD k 0 = s at *
          (repeat (first | refine DO.nil (by kernel_rfl) ?_ | (with_reducible refine SC.condB (by simp (disch := omega) only [go_sem, ↓reduceIte]; rfl) ?_; first | with_reducible refine pickT ?_ | with_reducible refine pickF ?_) | (with_reducible refine oz (by constructor <;> decide) ?_) | ((with_reducible apply SC.region); (focus (simp (disch := omega) only [go_sem, ↓reduceIte, Nat.reduceEqDiff, reduceCtorEq, Int.reduceToNat, if_pos, if_neg, q1, q2, fd32, ga, lv_len, List.getElem?_drop]; rfl))) | (with_reducible refine SC.draw Tab.mixed rfl ?_; (repeat (refine DO.run (by simp (disch := omega) only [go_sem, ↓reduceIte, Nat.reduceEqDiff, Nat.reduceLT, Nat.reduceLeDiff, Nat.reduceAdd, Nat.reduceMul, Nat.reduceSub, reduceCtorEq, Nat.reduceBEq, Int.reduceToNat, Int.reducePow, if_pos, if_neg, q1, q2, fd32, ga, lv_len, List.getElem?_drop]; rfl) ?_)); refine DO.nil (by kernel_rfl) ?_)))
          refine hK _ (k + 1, (c + s + 0) / 4294967296, z.set k ((c + s + 0) % 4294967296)) ?_ ⟨by simp only; omega, by simp only; omega, by simp [hzl], limbs_set hz _ (by omega), hst⟩ (by simp only; omega)
          (refine Le.of [] hB (by first | exact ⟨Nat.zero_le _, fun _ _ => Nat.zero_le _⟩ | (constructor <;> (try simp) <;> (try omega))) ?_ ?_ <;> (repeat' (first | exact leSl_nil | exact leHp_nil | refine leSl_cons (by simp (disch := omega) only [go_sem, ↓reduceIte, Nat.reduceEqDiff, reduceCtorEq]; rfl) ?_ ?_ | refine leHp_cons (by simp (disch := omega) only [go_sem, ↓reduceIte]; rfl) ?_ ?_ | exact VLe.junk _ | exact VLe.refl rfl | exact VLe.nil_sl _ _ _ | exact VLe.int (by first | rfl | omega | (dsimp only; omega)) | exact VLe.bool rfl | exact VLe.sl rfl (by first | rfl | omega | (dsimp only; omega) | (simp; done)) | exact VLe.cap rfl (by first | rfl | omega | (dsimp only; omega) | (simp; done)) | exact VLe.im rfl rfl | exact HLe.new rfl | exact HLe.same rfl (LLe.refl rfl) | refine HLe.same rfl ?_ | exact LLe.nil _ | exact LLe.refl rfl | refine LLe.cons ?_ ?_)))
          exact LLe.lv (lv_set (by omega))
      · have hkn : k = y.length := by omega
        subst hkn
        have q1 := decide_eq_false (p := ((y.length : Nat) : Int) < (y.length : Int)) (by omega)
        obtain ⟨h1, h2, h3⟩ := hI
        rw [List.take_of_length_le (l := y) (Nat.le_refl _), List.take_of_length_le (l := x) (by omega)] at h3
        have hw := take_set_succ (l := z) (k := y.length) (x := c) (by omega)
        rw [List.take_of_length_le (by simp [hzl])] at hw
        have hv : val (z.set y.length c) = val y + val x := by
          rw [hw, val_append, h1]; simp only [val]; omega
        have hl2 : (z.set y.length c).length = y.length + 1 := by simp [hzl]
        have he := dg_eq (limbs_set hz y.length (x := c) (by omega))
        rw [hv, hl2] at he
        have hls : (lv z).set y.length (.sc (.int .u32 (c : Int))) = lv (z.set y.length c) := lv_set rfl
        have ht : (z.set y.length c).take (y.length + 1) = z.set y.length c := by rw [← hl2]; exact List.take_length
        (repeat (first | refine DO.nil (by kernel_rfl) ?_ | (with_reducible refine SC.condB (by simp (disch := omega) only [go_sem, ↓reduceIte]; rfl) ?_; first | with_reducible refine pickT ?_ | with_reducible refine pickF ?_) | (with_reducible refine oz (by constructor <;> decide) ?_) | ((with_reducible apply SC.region); (focus (simp (disch := omega) only [go_sem, ↓reduceIte, Nat.reduceEqDiff, Nat.reduceLT, reduceCtorEq, if_pos, q1, hls, lv_len]; rfl))) | (with_reducible refine SC.draw Tab.mixed rfl ?_; (repeat (refine DO.run (by simp (disch := omega) only [go_sem, ↓reduceIte, Nat.reduceEqDiff, Nat.reduceLT, Nat.reduceLeDiff, Nat.reduceAdd, Nat.reduceMul, Nat.reduceSub, reduceCtorEq, Nat.reduceBEq, Int.reduceToNat, Int.reducePow, if_pos, if_neg, q1, hls, lv_len]; rfl) ?_)); refine DO.nil (by kernel_rfl) ?_)))
        refine retQ_ret Tryz.results84 (by simp (disch := omega) only [go_sem, ↓reduceIte]; rfl) (by simp (disch := omega) only [go_sem, ↓reduceIte, if_pos, lv_len, lv_take, lv_clo, ht]; rfl) ?_
        rw [show max x.length y.length = y.length by omega, Nat.add_comm (val x), he, hl2]
  · have q0 := decide_eq_false (p := ((x.length : Nat) : Int) < (y.length : Int)) (by omega)
    have hN : ((x.length : Int) + 1).toNat = x.length + 1 := by omega
    refine Spec.run Tryz.func84 rfl Tryz.ntmps84 (by simp) (by simp (disch := omega) only [go_sem, Nat.reduceAdd]; rfl) fun B hB => ?_
    (repeat (first | refine DO.nil (by kernel_rfl) ?_ | (with_reducible refine SC.condB (by simp (disch := omega) only [go_sem, ↓reduceIte]; rfl) ?_; first | with_reducible refine pickT ?_ | with_reducible refine pickF ?_) | (with_reducible refine oz (by constructor <;> decide) ?_) | ((with_reducible apply SC.region); (focus (simp (disch := omega) only [go_sem, ↓reduceIte, Nat.reduceEqDiff, reduceCtorEq, if_pos, q0, hN]; rfl))) | (with_reducible refine SC.draw Tab.mixed rfl ?_; (repeat (refine DO.run (by simp (disch := omega) only [go_sem, ↓reduceIte, Nat.reduceEqDiff, Nat.reduceLT, Nat.reduceLeDiff, Nat.reduceAdd, Nat.reduceMul, Nat.reduceSub, reduceCtorEq, Nat.reduceBEq, Int.reduceToNat, Int.reducePow, if_pos, if_neg, q0, lv_len, hN]; rfl) ?_)); refine DO.nil (by kernel_rfl) ?_)))
    refine SC.loop (fun u : Nat × Nat × List Nat => ⟨[(0, .im (lv x) x.length), (1, .im (lv y) y.length), (5, .sl 0 0 (x.length + 1) 1 none), (6, .sc (.int .u64 u.2.1)), (20, .sc (.int .i64 x.length)), (21, .sc (.int .i64 u.1))], [(0, ⟨68, lv u.2.2, false⟩)], 1, 57⟩)
      (fun u => u.2.1 ≤ 1 ∧ u.1 ≤ x.length ∧ u.2.2.length = x.length + 1 ∧ limbs u.2.2 ∧ plusInv x y u.1 u.2.1 (u.2.2.take u.1)) (fun u => x.length - u.1) (0, 0, List.replicate (x.length + 1) 0) ?_ ?_ ?_
    · (refine Le.of [] hB (by first | exact ⟨Nat.zero_le _, fun _ _ => Nat.zero_le _⟩ | (constructor <;> (try simp) <;> (try omega))) ?_ ?_ <;> (repeat' (first | exact leSl_nil | exact leHp_nil | refine leSl_cons (by simp (disch := omega) only [go_sem, ↓reduceIte, Nat.reduceEqDiff, reduceCtorEq]; rfl) ?_ ?_ | refine leHp_cons (by simp (disch := omega) only [go_sem, ↓reduceIte]; rfl) ?_ ?_ | exact VLe.junk _ | exact VLe.refl rfl | exact VLe.nil_sl _ _ _ | exact VLe.int (by first | rfl | omega | (dsimp only; omega)) | exact VLe.bool rfl | exact VLe.sl rfl (by first | rfl | omega | (dsimp only; omega) | (simp; done)) | exact VLe.cap rfl (by first | rfl | omega | (dsimp only; omega) | (simp; done)) | exact VLe.im rfl rfl | exact HLe.new rfl | exact HLe.same rfl (LLe.refl rfl) | refine HLe.same rfl ?_ | exact LLe.nil _ | exact LLe.refl rfl | refine LLe.cons ?_ ?_)))
      exact LLe.lv (lv_rep _)
    · exact ⟨Nat.zero_le _, Nat.zero_le _, by simp, limbs_replicate _, by simp, fun n hn => by simp at hn, by simp [val]⟩
    · rintro ⟨k, c, z⟩ ⟨hc, hk, hzl, hz, hI⟩ K hK
      simp only at hc hk hzl hz hI ⊢
      have la := limbs_getD hx k
      have lb := limbs_getD hy k
      by_cases hka : k < x.length
      · have q1 := decide_eq_true (p := (k : Int) < (x.length : Int)) (by omega)
        have hst := hI.step _ _ rfl rfl
        rw [← take_set_succ (by omega)] at hst
        have ga := lv_get hka
        by_cases hkb : k < y.length
        · have q2 := decide_eq_true (p := (k : Int) < (y.length : Int)) (by omega)
          have gb := lv_get hkb
          generalize x.getD k 0 = s at *
          generalize y.getD k 0 = t at *
          (repeat (first | refine DO.nil (by kernel_rfl) ?_ | (with_reducible refine SC.condB (by simp (disch := omega) only [go_sem, ↓reduceIte]; rfl) ?_; first | with_reducible refine pickT ?_ | with_reducible refine pickF ?_) | (with_reducible refine oz (by constructor <;> decide) ?_) | ((with_reducible apply SC.region); (focus (simp (disch := omega) only [go_sem, ↓reduceIte, Nat.reduceEqDiff, reduceCtorEq, Int.reduceToNat, if_pos, if_neg, q1, q2, fd32, ga, gb, lv_len, List.getElem?_drop]; rfl))) | (with_reducible refine SC.draw Tab.mixed rfl ?_; (repeat (refine DO.run (by simp (disch := omega) only [go_sem, ↓reduceIte, Nat.reduceEqDiff, Nat.reduceLT, Nat.reduceLeDiff, Nat.reduceAdd, Nat.reduceMul, Nat.reduceSub, reduceCtorEq, Nat.reduceBEq, Int.reduceToNat, Int.reducePow, if_pos, if_neg, q1, q2, fd32, ga, gb, lv_len, List.getElem?_drop]; rfl) ?_)); refine DO.nil (by kernel_rfl) ?_)))
          refine hK _ (k + 1, (c + s + t) / 4294967296, z.set k ((c + s + t) % 4294967296)) ?_ ⟨by simp only; omega, by simp only; omega, by simp [hzl], limbs_set hz _ (by omega), hst⟩ (by simp only; omega)
          (refine Le.of [] hB (by first | exact ⟨Nat.zero_le _, fun _ _ => Nat.zero_le _⟩ | (constructor <;> (try simp) <;> (try omega))) ?_ ?_ <;> (repeat' (first | exact leSl_nil | exact leHp_nil | refine leSl_cons (by simp (disch := omega) only [go_sem, ↓reduceIte, Nat.reduceEqDiff, reduceCtorEq]; rfl) ?_ ?_ | refine leHp_cons (by simp (disch := omega) only [go_sem, ↓reduceIte]; rfl) ?_ ?_ | exact VLe.junk _ | exact VLe.refl rfl | exact VLe.nil_sl _ _ _ | exact VLe.int (by first | rfl | omega | (dsimp only; omega)) | exact VLe.bool rfl | exact VLe.sl rfl (by first | rfl | omega | (dsimp only; omega) | (simp; done)) | exact VLe.cap rfl (by first | rfl | omega | (dsimp only; omega) | (simp; done)) | exact VLe.im rfl rfl | exact HLe.new rfl | exact HLe.same rfl (LLe.refl rfl) | refine HLe.same rfl ?_ | exact LLe.nil _ | exact LLe.refl rfl | refine LLe.cons ?_ ?_)))
          exact LLe.lv (lv_set (by omega))
        · have q2 := decide_eq_false (p := (k : Int) < (y.length : Int)) (by omega)
          have hb0 := getD_ge hkb
          rw [hb0] at hst
          generalize x.getD k 0 = s at *
          (repeat (first | refine DO.nil (by kernel_rfl) ?_ | (with_reducible refine SC.condB (by simp (disch := omega) only [go_sem, ↓reduceIte]; rfl) ?_; first | with_reducible refine pickT ?_ | with_reducible refine pickF ?_) | (with_reducible refine oz (by constructor <;> decide) ?_) | ((with_reducible apply SC.region); (focus (simp (disch := omega) only [go_sem, ↓reduceIte, Nat.reduceEqDiff, reduceCtorEq, Int.reduceToNat, if_pos, if_neg, q1, q2, fd32, ga, lv_len, List.getElem?_drop]; rfl))) | (with_reducible refine SC.draw Tab.mixed rfl ?_; (repeat (refine DO.run (by simp (disch := omega) only [go_sem, ↓reduceIte, Nat.reduceEqDiff, Nat.reduceLT, Nat.reduceLeDiff, Nat.reduceAdd, Nat.reduceMul, Nat.reduceSub, reduceCtorEq, Nat.reduceBEq, Int.reduceToNat, Int.reducePow, if_pos, if_neg, q1, q2, fd32, ga, lv_len, List.getElem?_drop]; rfl) ?_)); refine DO.nil (by kernel_rfl) ?_)))
          refine hK _ (k + 1, (c + s + 0) / 4294967296, z.set k ((c + s + 0) % 4294967296)) ?_ ⟨by simp only; omega, by simp only; omega, by simp [hzl], limbs_set hz _ (by omega), hst⟩ (by simp only; omega)
          (refine Le.of [] hB (by first | exact ⟨Nat.zero_le _, fun _ _ => Nat.zero_le _⟩ | (constructor <;> (try simp) <;> (try omega))) ?_ ?_ <;> (repeat' (first | exact leSl_nil | exact leHp_nil | refine leSl_cons (by simp (disch := omega) only [go_sem, ↓reduceIte, Nat.reduceEqDiff, reduceCtorEq]; rfl) ?_ ?_ | refine leHp_cons (by simp (disch := omega) only [go_sem, ↓reduceIte]; rfl) ?_ ?_ | exact VLe.junk _ | exact VLe.refl rfl | exact VLe.nil_sl _ _ _ | exact VLe.int (by first | rfl | omega | (dsimp only; omega)) | exact VLe.bool rfl | exact VLe.sl rfl (by first | rfl | omega | (dsimp only; omega) | (simp; done)) | exact VLe.cap rfl (by first | rfl | omega | (dsimp only; omega) | (simp; done)) | exact VLe.im rfl rfl | exact HLe.new rfl | exact HLe.same rfl (LLe.refl rfl) | refine HLe.same rfl ?_ | exact LLe.nil _ | exact LLe.refl rfl | refine LLe.cons ?_ ?_)))
          exact LLe.lv (lv_set (by omega))
      · have hkn : k = x.length := by omega
        subst hkn
        have q1 := decide_eq_false (p := ((x.length : Nat) : Int) < (x.length : Int)) (by omega)
        obtain ⟨h1, h2, h3⟩ := hI
        rw [List.take_of_length_le (l := x) (Nat.le_refl _), List.take_of_length_le (l := y) (by omega)] at h3
        have hw := take_set_succ (l := z) (k := x.length) (x := c) (by omega)
        rw [List.take_of_length_le (by simp [hzl])] at hw
        have hv : val (z.set x.length c) = val x + val y := by
          rw [hw, val_append, h1]; simp only [val]; omega
        have hl2 : (z.set x.length c).length = x.length + 1 := by simp [hzl]
        have he := dg_eq (limbs_set hz x.length (x := c) (by omega))
        rw [hv, hl2] at he
        have hls : (lv z).set x.length (.sc (.int .u32 (c : Int))) = lv (z.set x.length c) := lv_set rfl
        have ht : (z.set x.length c).take (x.length + 1) = z.set x.length c := by rw [← hl2]; exact List.take_length
        (repeat (first | refine DO.nil (by kernel_rfl) ?_ | (with_reducible refine SC.condB (by simp (disch := omega) only [go_sem, ↓reduceIte]; rfl) ?_; first | with_reducible refine pickT ?_ | with_reducible refine pickF ?_) | (with_reducible refine oz (by constructor <;> decide) ?_) | ((with_reducible apply SC.region); (focus (simp (disch := omega) only [go_sem, ↓reduceIte, Nat.reduceEqDiff, Nat.reduceLT, reduceCtorEq, if_pos, q1, hls, lv_len]; rfl))) | (with_reducible refine SC.draw Tab.mixed rfl ?_; (repeat (refine DO.run (by simp (disch := omega) only [go_sem, ↓reduceIte, Nat.reduceEqDiff, Nat.reduceLT, Nat.reduceLeDiff, Nat.reduceAdd, Nat.reduceMul, Nat.reduceSub, reduceCtorEq, Nat.reduceBEq, Int.reduceToNat, Int.reducePow, if_pos, if_neg, q1, hls, lv_len]; rfl) ?_)); refine DO.nil (by kernel_rfl) ?_)))
        refine retQ_ret Tryz.results84 (by simp (disch := omega) only [go_sem, ↓reduceIte]; rfl) (by simp (disch := omega) only [go_sem, ↓reduceIte, if_pos, lv_len, lv_take, lv_clo, ht]; rfl) ?_
        rw [show max x.length y.length = x.length by omega, he, hl2]
set_option maxHeartbeats 1000000 in
theorem pminus_i (x y : List Nat) (hx : limbs x) (hy : limbs y) (hmx : x.length ≤ 900000000000) (hl : y.length ≤ x.length) (hv : val y ≤ val x) : Spec Tryz.prog 85 [sv x, sv y] (sv (dg x.length (val x - val y))) := by
  unfold sv
  refine Spec.run Tryz.func85 rfl Tryz.ntmps85 (by simp) (by simp (disch := omega) only [go_sem, Nat.reduceAdd]; rfl) fun B hB => ?_
  (repeat (first | refine DO.nil (by kernel_rfl) ?_ | (with_reducible refine SC.condB (by simp (disch := omega) only [go_sem, ↓reduceIte, Nat.reduceEqDiff, Nat.reduceLT, Nat.reduceLeDiff, Nat.reduceAdd, Nat.reduceMul, Nat.reduceSub, reduceCtorEq, Nat.reduceBEq, Int.reduceToNat, Int.reducePow, if_pos, if_neg, lv_len]; rfl) ?_; first | with_reducible refine pickT ?_ | with_reducible refine pickF ?_) | (with_reducible refine oz (by constructor <;> decide) ?_) | ((with_reducible apply SC.region); (focus (simp (disch := omega) only [go_sem, ↓reduceIte, reduceCtorEq, if_pos]; rfl))) | (with_reducible refine SC.draw Tab.mixed rfl ?_; (repeat (refine DO.run (by simp (disch := omega) only [go_sem, ↓reduceIte, Nat.reduceEqDiff, Nat.reduceLT, Nat.reduceLeDiff, Nat.reduceAdd, Nat.reduceMul, Nat.reduceSub, reduceCtorEq, Nat.reduceBEq, Int.reduceToNat, Int.reducePow, if_pos, if_neg, lv_len]; rfl) ?_)); refine DO.nil (by kernel_rfl) ?_)))
  refine SC.loop (fun u : Nat × Nat × List Nat => ⟨[(0, .im (lv x) x.length), (1, .im (lv y) y.length), (5, .sl 0 0 x.length 1 none), (6, .sc (.int .u64 u.2.1)), (13, .sc (.int .i64 x.length)), (14, .sc (.int .i64 u.1))], [(0, ⟨68, lv u.2.2, false⟩)], 1, 44⟩)
    (fun u => u.2.1 ≤ 1 ∧ u.1 ≤ x.length ∧ u.2.2.length = x.length ∧ limbs u.2.2 ∧ minusInv x y u.1 u.2.1 (u.2.2.take u.1)) (fun u => x.length - u.1) (0, 0, List.replicate x.length 0) ?_ ?_ ?_
  · (refine Le.of [] hB (by first | exact ⟨Nat.zero_le _, fun _ _ => Nat.zero_le _⟩ | (constructor <;> (try simp) <;> (try omega))) ?_ ?_ <;> (repeat' (first | exact leSl_nil | exact leHp_nil | refine leSl_cons (by simp (disch := omega) only [go_sem, ↓reduceIte, Nat.reduceEqDiff, reduceCtorEq]; rfl) ?_ ?_ | refine leHp_cons (by simp (disch := omega) only [go_sem, ↓reduceIte]; rfl) ?_ ?_ | exact VLe.junk _ | exact VLe.refl rfl | exact VLe.nil_sl _ _ _ | exact VLe.int (by first | rfl | omega | (dsimp only; omega)) | exact VLe.bool rfl | exact VLe.sl rfl (by first | rfl | omega | (dsimp only; omega) | (simp; done)) | exact VLe.cap rfl (by first | rfl | omega | (dsimp only; omega) | (simp; done)) | exact VLe.im rfl rfl | exact HLe.new rfl | exact HLe.same rfl (LLe.refl rfl) | refine HLe.same rfl ?_ | exact LLe.nil _ | exact LLe.refl rfl | refine LLe.cons ?_ ?_)))
    exact LLe.lv (lv_rep _)
  · exact ⟨Nat.zero_le _, Nat.zero_le _, by simp, limbs_replicate _, by simp, fun n hn => by simp at hn, by simp [val]⟩
  · rintro ⟨k, c, z⟩ ⟨hc, hk, hzl, hz, hI⟩ K hK
    simp only at hc hk hzl hz hI ⊢
    have la := limbs_getD hx k
    have lb := limbs_getD hy k
    by_cases hka : k < x.length
    · have q1 := decide_eq_true (p := (k : Int) < (x.length : Int)) (by omega)
      have ga := lv_get hka
      have hst : ∀ d c' : Nat, d < 4294967296 → (d : Int) = (x.getD k 0 : Nat) - c - (y.getD k 0 : Nat) + 4294967296 * c' → minusInv x y (k + 1) c' ((z.set k d).take (k + 1)) := fun d c' h1 h2 => by
        rw [take_set_succ (by omega)]; exact hI.step _ _ d c' rfl rfl h1 h2
      have wneg : ∀ n : Int, -18446744073709551616 ≤ n → n < 0 → IntKind.u64.wrap n = n + 18446744073709551616 := fun n h1 h2 => by simp [IntKind.wrap, IntKind.bits, IntKind.signed]; omega
      by_cases hkb : k < y.length
      · have q2 := decide_eq_true (p := (k : Int) < (y.length : Int)) (by omega)
        have gb := lv_get hkb
        generalize x.getD k 0 = s at *
        generalize y.getD k 0 = t at *
        by_cases hn : (s : Int) - c - t < 0
        · have e3 : IntKind.u64.wrap (IntKind.u64.wrap ((s : Int) - c) - t) = (s : Int) - c - t + 18446744073709551616 := by
            simp [IntKind.wrap, IntKind.bits, IntKind.signed]; omega
          (repeat (first | refine DO.nil (by kernel_rfl) ?_ | (with_reducible refine SC.condB (by simp (disch := omega) only [go_sem, ↓reduceIte]; rfl) ?_; first | with_reducible refine pickT ?_ | with_reducible refine pickF ?_) | (with_reducible refine oz (by constructor <;> decide) ?_) | ((with_reducible apply SC.region); (focus (simp (disch := omega) only [go_sem, ↓reduceIte, Nat.reduceEqDiff, reduceCtorEq, Int.reduceToNat, if_pos, if_neg, q1, q2, fd63, e3, ga, gb, lv_len, List.getElem?_drop]; rfl))) | (with_reducible refine SC.draw Tab.mixed rfl ?_; (repeat (refine DO.run (by simp (disch := omega) only [go_sem, ↓reduceIte, Nat.reduceEqDiff, Nat.reduceLT, Nat.reduceLeDiff, Nat.reduceAdd, Nat.reduceMul, Nat.reduceSub, reduceCtorEq, Nat.reduceBEq, Int.reduceToNat, Int.reducePow, if_pos, if_neg, q1, q2, fd63, e3, ga, gb, lv_len, List.getElem?_drop]; rfl) ?_)); refine DO.nil (by kernel_rfl) ?_)))
          refine hK _ (k + 1, 1, z.set k (s + 4294967296 - c - t)) ?_ ⟨by simp only; omega, by simp only; omega, by simp [hzl], limbs_set hz _ (by omega), hst _ 1 (by omega) (by omega)⟩ (by simp only; omega)
          (refine Le.of [] hB (by first | exact ⟨Nat.zero_le _, fun _ _ => Nat.zero_le _⟩ | (constructor <;> (try simp) <;> (try omega))) ?_ ?_ <;> (repeat' (first | exact leSl_nil | exact leHp_nil | refine leSl_cons (by simp (disch := omega) only [go_sem, ↓reduceIte, Nat.reduceEqDiff, reduceCtorEq]; rfl) ?_ ?_ | refine leHp_cons (by simp (disch := omega) only [go_sem, ↓reduceIte]; rfl) ?_ ?_ | exact VLe.junk _ | exact VLe.refl rfl | exact VLe.nil_sl _ _ _ | exact VLe.int (by first | rfl | omega | (dsimp only; omega)) | exact VLe.bool rfl | exact VLe.sl rfl (by first | rfl | omega | (dsimp only; omega) | (simp; done)) | exact VLe.cap rfl (by first | rfl | omega | (dsimp only; omega) | (simp; done)) | exact VLe.im rfl rfl | exact HLe.new rfl | exact HLe.same rfl (LLe.refl rfl) | refine HLe.same rfl ?_ | exact LLe.nil _ | exact LLe.refl rfl | refine LLe.cons ?_ ?_)))
          exact LLe.lv (lv_set (by omega))
        · have e3 : IntKind.u64.wrap (IntKind.u64.wrap ((s : Int) - c) - t) = (s : Int) - c - t := by
            simp [IntKind.wrap, IntKind.bits, IntKind.signed]; omega
          (repeat (first | refine DO.nil (by kernel_rfl) ?_ | (with_reducible refine SC.condB (by simp (disch := omega) only [go_sem, ↓reduceIte]; rfl) ?_; first | with_reducible refine pickT ?_ | with_reducible refine pickF ?_) | (with_reducible refine oz (by constructor <;> decide) ?_) | ((with_reducible apply SC.region); (focus (simp (disch := omega) only [go_sem, ↓reduceIte, Nat.reduceEqDiff, reduceCtorEq, Int.reduceToNat, if_pos, if_neg, q1, q2, fd63, ga, gb, lv_len, List.getElem?_drop]; rfl))) | (with_reducible refine SC.draw Tab.mixed rfl ?_; (repeat (refine DO.run (by simp (disch := omega) only [go_sem, ↓reduceIte, Nat.reduceEqDiff, Nat.reduceLT, Nat.reduceLeDiff, Nat.reduceAdd, Nat.reduceMul, Nat.reduceSub, reduceCtorEq, Nat.reduceBEq, Int.reduceToNat, Int.reducePow, if_pos, if_neg, q1, q2, fd63, e3, ga, gb, lv_len, List.getElem?_drop]; rfl) ?_)); refine DO.nil (by kernel_rfl) ?_)))
          refine hK _ (k + 1, 0, z.set k (s - c - t)) ?_ ⟨by simp only; omega, by simp only; omega, by simp [hzl], limbs_set hz _ (by omega), hst _ 0 (by omega) (by omega)⟩ (by simp only; omega)
          (refine Le.of [] hB (by first | exact ⟨Nat.zero_le _, fun _ _ => Nat.zero_le _⟩ | (constructor <;> (try simp) <;> (try omega))) ?_ ?_ <;> (repeat' (first | exact leSl_nil | exact leHp_nil | refine leSl_cons (by simp (disch := omega) only [go_sem, ↓reduceIte, Nat.reduceEqDiff, reduceCtorEq]; rfl) ?_ ?_ | refine leHp_cons (by simp (disch := omega) only [go_sem, ↓reduceIte]; rfl) ?_ ?_ | exact VLe.junk _ | exact VLe.refl rfl | exact VLe.nil_sl _ _ _ | exact VLe.int (by first | rfl | omega | (dsimp only; omega)) | exact VLe.bool rfl | exact VLe.sl rfl (by first | rfl | omega | (dsimp only; omega) | (simp; done)) | exact VLe.cap rfl (by first | rfl | omega | (dsimp only; omega) | (simp; done)) | exact VLe.im rfl rfl | exact HLe.new rfl | exact HLe.same rfl (LLe.refl rfl) | refine HLe.same rfl ?_ | exact LLe.nil _ | exact LLe.refl rfl | refine LLe.cons ?_ ?_)))
          exact LLe.lv (lv_set (by omega))
      · have q2 := decide_eq_false (p := (k : Int) < (y.length : Int)) (by omega)
        have hb0 := getD_ge hkb
        rw [hb0] at hst
        generalize x.getD k 0 = s at *
        by_cases hn : (s : Int) - c < 0
        · have e3 : IntKind.u64.wrap ((s : Int) - c) = (s : Int) - c + 18446744073709551616 := wneg _ (by omega) hn
          (repeat (first | refine DO.nil (by kernel_rfl) ?_ | (with_reducible refine SC.condB (by simp (disch := omega) only [go_sem, ↓reduceIte]; rfl) ?_; first | with_reducible refine pickT ?_ | with_reducible refine pickF ?_) | (with_reducible refine oz (by constructor <;> decide) ?_) | ((with_reducible apply SC.region); (focus (simp (disch := omega) only [go_sem, ↓reduceIte, Nat.reduceEqDiff, reduceCtorEq, Int.reduceToNat, if_pos, if_neg, q1, q2, fd63, e3, ga, lv_len, List.getElem?_drop]; rfl))) | (with_reducible refine SC.draw Tab.mixed rfl ?_; (repeat (refine DO.run (by simp (disch := omega) only [go_sem, ↓reduceIte, Nat.reduceEqDiff, Nat.reduceLT, Nat.reduceLeDiff, Nat.reduceAdd, Nat.reduceMul, Nat.reduceSub, reduceCtorEq, Nat.reduceBEq, Int.reduceToNat, Int.reducePow, if_pos, if_neg, q1, q2, fd63, e3, ga, lv_len, List.getElem?_drop]; rfl) ?_)); refine DO.nil (by kernel_rfl) ?_)))
          refine hK _ (k + 1, 1, z.set k (s + 4294967296 - c)) ?_ ⟨by simp only; omega, by simp only; omega, by simp [hzl], limbs_set hz _ (by omega), hst _ 1 (by omega) (by omega)⟩ (by simp only; omega)
          (refine Le.of [] hB (by first | exact ⟨Nat.zero_le _, fun _ _ => Nat.zero_le _⟩ | (constructor <;> (try simp) <;> (try omega))) ?_ ?_ <;> (repeat' (first | exact leSl_nil | exact leHp_nil | refine leSl_cons (by simp (disch := omega) only [go_sem, ↓reduceIte, Nat.reduceEqDiff, reduceCtorEq]; rfl) ?_ ?_ | refine leHp_cons (by simp (disch := omega) only [go_sem, ↓reduceIte]; rfl) ?_ ?_ | exact VLe.junk _ | exact VLe.refl rfl | exact VLe.nil_sl _ _ _ | exact VLe.int (by first | rfl | omega | (dsimp only; omega)) | exact VLe.bool rfl | exact VLe.sl rfl (by first | rfl | omega | (dsimp only; omega) | (simp; done)) | exact VLe.cap rfl (by first | rfl | omega | (dsimp only; omega) | (simp; done)) | exact VLe.im rfl rfl | exact HLe.new rfl | exact HLe.same rfl (LLe.refl rfl) | refine HLe.same rfl ?_ | exact LLe.nil _ | exact LLe.refl rfl | refine LLe.cons ?_ ?_)))
          exact LLe.lv (lv_set (by omega))
        · (repeat (first | refine DO.nil (by kernel_rfl) ?_ | (with_reducible refine SC.condB (by simp (disch := omega) only [go_sem, ↓reduceIte]; rfl) ?_; first | with_reducible refine pickT ?_ | with_reducible refine pickF ?_) | (with_reducible refine oz (by constructor <;> decide) ?_) | ((with_reducible apply SC.region); (focus (simp (disch := omega) only [go_sem, ↓reduceIte, Nat.reduceEqDiff, reduceCtorEq, Int.reduceToNat, if_pos, if_neg, q1, q2, fd63, ga, lv_len, List.getElem?_drop]; rfl))) | (with_reducible refine SC.draw Tab.mixed rfl ?_; (repeat (refine DO.run (by simp (disch := omega) only [go_sem, ↓reduceIte, Nat.reduceEqDiff, Nat.reduceLT, Nat.reduceLeDiff, Nat.reduceAdd, Nat.reduceMul, Nat.reduceSub, reduceCtorEq, Nat.reduceBEq, Int.reduceToNat, Int.reducePow, if_pos, if_neg, q1, q2, fd63, ga, lv_len, List.getElem?_drop]; rfl) ?_)); refine DO.nil (by kernel_rfl) ?_)))
          refine hK _ (k + 1, 0, z.set k (s - c)) ?_ ⟨by simp only; omega, by simp only; omega, by simp [hzl], limbs_set hz _ (by omega), hst _ 0 (by omega) (by omega)⟩ (by simp only; omega)
          (refine Le.of [] hB (by first | exact ⟨Nat.zero_le _, fun _ _ => Nat.zero_le _⟩ | (constructor <;> (try simp) <;> (try omega))) ?_ ?_ <;> (repeat' (first | exact leSl_nil | exact leHp_nil | refine leSl_cons (by simp (disch := omega) only [go_sem, ↓reduceIte, Nat.reduceEqDiff, reduceCtorEq]; rfl) ?_ ?_ | refine leHp_cons (by simp (disch := omega) only [go_sem, ↓reduceIte]; rfl) ?_ ?_ | exact VLe.junk _ | exact VLe.refl rfl | exact VLe.nil_sl _ _ _ | exact VLe.int (by first | rfl | omega | (dsimp only; omega)) | exact VLe.bool rfl | exact VLe.sl rfl (by first | rfl | omega | (dsimp only; omega) | (simp; done)) | exact VLe.cap rfl (by first | rfl | omega | (dsimp only; omega) | (simp; done)) | exact VLe.im rfl rfl | exact HLe.new rfl | exact HLe.same rfl (LLe.refl rfl) | refine HLe.same rfl ?_ | exact LLe.nil _ | exact LLe.refl rfl | refine LLe.cons ?_ ?_)))
          exact LLe.lv (lv_set (by omega))
    · have hkn : k = x.length := by omega
      subst hkn
      have q1 := decide_eq_false (p := ((x.length : Nat) : Int) < (x.length : Int)) (by omega)
      rw [List.take_of_length_le (l := z) (by omega)] at hI
      have hd := hI.done hc hx hl hv
      have he := dg_eq hz
      rw [hd, hzl] at he
      have ht : z.take x.length = z := by rw [← hzl]; exact List.take_length
      (repeat (first | refine DO.nil (by kernel_rfl) ?_ | (with_reducible refine SC.condB (by simp (disch := omega) only [go_sem, ↓reduceIte]; rfl) ?_; first | with_reducible refine pickT ?_ | with_reducible refine pickF ?_) | (with_reducible refine oz (by constructor <;> decide) ?_) | ((with_reducible apply SC.region); (focus (simp (disch := omega) only [go_sem, ↓reduceIte, Nat.reduceEqDiff, Nat.reduceLT, reduceCtorEq, q1]; rfl))) | (with_reducible refine SC.draw Tab.mixed rfl ?_; (repeat (refine DO.run (by simp (disch := omega) only [go_sem, ↓reduceIte, Nat.reduceEqDiff, Nat.reduceLT, Nat.reduceLeDiff, Nat.reduceAdd, Nat.reduceMul, Nat.reduceSub, reduceCtorEq, Nat.reduceBEq, Int.reduceToNat, Int.reducePow, if_pos, if_neg, q1]; rfl) ?_)); refine DO.nil (by kernel_rfl) ?_)))
      refine retQ_ret Tryz.results85 (by simp (disch := omega) only [go_sem, ↓reduceIte]; rfl) (by simp (disch := omega) only [go_sem, ↓reduceIte, if_pos, lv_len, lv_take, lv_clo, ht]; rfl) ?_
      rw [he, hzl]
theorem pvalue_dg (k n : Nat) (neg : Bool) (z : Int) (hz : sgn neg n = z) (h : n < 4294967296 ^ k) (hk : k ≤ 1000000000000) : Spec Tryz.prog 77 [.sc (.bool neg), sv (dg k n)] (iv z) := by
  have := value_i neg (dg k n) (dg_limbs _ _) (by rw [dg_len]; exact hk)
  rwa [dg_val k n h, hz] at this
theorem padd_g (na nb : Bool) (m n K : Nat) (hm : m < 4294967296 ^ K) (hn : n < 4294967296 ^ K) (hK : K ≤ 500000000000) : Spec Tryz.prog 63 [.ag [.sc (.bool na), sv (limbsOf m)], .ag [.sc (.bool nb), sv (limbsOf n)]] (iv (sgn na m + sgn nb n)) := by
  have lm : (limbsOf m).length ≤ K := canon_len (limbsOf_canon _) (by rw [limbsOf_val]; exact hm)
  have ln : (limbsOf n).length ≤ K := canon_len (limbsOf_canon _) (by rw [limbsOf_val]; exact hn)
  have vm := limbsOf_val m
  have vn := limbsOf_val n
  have t1 := trim_n m (by omega)
  have t2 := trim_n n (by omega)
  by_cases hs : na = nb
  · subst hs
    have c1 := pplus_i (limbsOf m) (limbsOf n) (limbsOf_limbs _) (limbsOf_limbs _) (by omega) (by omega)
    rw [vm, vn] at c1
    have g1 := val_lt (limbsOf_limbs m)
    have g2 := val_lt (limbsOf_limbs n)
    rw [vm] at g1
    rw [vn] at g2
    have g3 : 4294967296 ^ (limbsOf m).length ≤ 4294967296 ^ max (limbsOf m).length (limbsOf n).length := Nat.pow_le_pow_right (by omega) (by omega)
    have g4 : 4294967296 ^ (limbsOf n).length ≤ 4294967296 ^ max (limbsOf m).length (limbsOf n).length := Nat.pow_le_pow_right (by omega) (by omega)
    have c2 := pvalue_dg (max (limbsOf m).length (limbsOf n).length + 1) (m + n) na (sgn na m + sgn na n) (by cases na <;> simp [sgn]; omega) (by rw [Nat.pow_succ]; omega) (by omega)
    have q1 : (na == na) = true := by simp
    unfold iv sv at *
    refine Spec.run Tryz.func63 rfl Tryz.ntmps63 (by simp) (by simp (disch := omega) only [go_sem, Nat.reduceAdd]; rfl) fun B hB => ?_
    (repeat (first | refine DO.nil (by kernel_rfl) ?_ | (with_reducible refine oz (by constructor <;> decide) ?_) | ((first | apply SO.call | apply DO.call); (iterate 3 (focus (simp (disch := omega) only [go_sem, ↓reduceIte, Nat.reduceEqDiff] <;> rfl))); (first | apply SCall.ofX | apply DCall.ofX); (focus (first | assumption)); (focus (simp (disch := omega) only [go_sem] <;> rfl))) | ((with_reducible first | apply SC.condB | apply SC.region | apply SO.run | apply DO.run); (focus (simp (disch := omega) only [go_sem, ↓reduceIte, Nat.reduceEqDiff, Nat.reduceLeDiff, Nat.reduceAdd, reduceCtorEq, q1] <;> rfl)); (first | refine pickT ?_ | refine pickF ?_ | fail_if_success with_reducible refine pickA ?_)) | ((with_reducible refine SC.draw Tab.mixed ?_ ?_); (focus rfl)) | (with_reducible apply SC.ops)))
    exact retQ_ret Tryz.results63 (by simp (disch := omega) only [go_sem, ↓reduceIte, Nat.reduceEqDiff, Nat.reduceLeDiff, Nat.reduceAdd]; rfl) (by simp (disch := omega) only [go_sem, ↓reduceIte]; rfl) rfl
  · have q1 : (na == nb) = false := by simpa using hs
    have c0 := compare_n m n (by omega) (by omega)
    by_cases hl : m < n
    · rw [Int.sign_eq_neg_one_of_neg (by omega)] at c0
      have hle : (limbsOf m).length ≤ (limbsOf n).length := canon_len (limbsOf_canon _) (by have := val_lt (limbsOf_limbs n); omega)
      have c1 := pminus_i (limbsOf n) (limbsOf m) (limbsOf_limbs _) (limbsOf_limbs _) (by omega) hle (by omega)
      rw [vm, vn] at c1
      have c2 := pvalue_dg (limbsOf n).length (n - m) nb (sgn na m + sgn nb n) (by cases na <;> cases nb <;> simp_all [sgn] <;> omega) (by have := val_lt (limbsOf_limbs n); omega) (by omega)
      have q2 : decide ((-1 : Int) < 0) = true := by decide
      unfold iv sv at *
      refine Spec.run Tryz.func63 rfl Tryz.ntmps63 (by simp) (by simp (disch := omega) only [go_sem, Nat.reduceAdd]; rfl) fun B hB => ?_
      (repeat (first | refine DO.nil (by kernel_rfl) ?_ | (with_reducible refine oz (by constructor <;> decide) ?_) | ((first | apply SO.call | apply DO.call); (iterate 3 (focus (simp (disch := omega) only [go_sem, ↓reduceIte, Nat.reduceEqDiff] <;> rfl))); (first | apply SCall.ofX | apply DCall.ofX); (focus (first | assumption)); (focus (simp (disch := omega) only [go_sem] <;> rfl))) | ((with_reducible first | apply SC.condB | apply SC.region | apply SO.run | apply DO.run); (focus (simp (disch := omega) only [go_sem, ↓reduceIte, Nat.reduceEqDiff, Nat.reduceLeDiff, Nat.reduceAdd, reduceCtorEq, q1, q2] <;> rfl)); (first | refine pickT ?_ | refine pickF ?_ | fail_if_success with_reducible refine pickA ?_)) | ((with_reducible refine SC.draw Tab.mixed ?_ ?_); (focus rfl)) | (with_reducible apply SC.ops)))
      exact retQ_ret Tryz.results63 (by simp (disch := omega) only [go_sem, ↓reduceIte, Nat.reduceEqDiff, Nat.reduceLeDiff, Nat.reduceAdd]; rfl) (by simp (disch := omega) only [go_sem, ↓reduceIte]; rfl) rfl
    · have hle : (limbsOf n).length ≤ (limbsOf m).length := canon_len (limbsOf_canon _) (by have := val_lt (limbsOf_limbs m); omega)
      have c1 := pminus_i (limbsOf m) (limbsOf n) (limbsOf_limbs _) (limbsOf_limbs _) (by omega) hle (by omega)
      rw [vm, vn] at c1
      have c2 := pvalue_dg (limbsOf m).length (m - n) na (sgn na m + sgn nb n) (by cases na <;> cases nb <;> simp_all [sgn] <;> omega) (by have := val_lt (limbsOf_limbs m); omega) (by omega)
      have q2 : decide (((m : Int) - (n : Int)).sign < 0) = false := by
        rw [decide_eq_false_iff_not]
        have := sign_cases ((m : Int) - (n : Int))
        omega
      unfold iv sv at *
      refine Spec.run Tryz.func63 rfl Tryz.ntmps63 (by simp) (by simp (disch := omega) only [go_sem, Nat.reduceAdd]; rfl) fun B hB => ?_
      (repeat (first | refine DO.nil (by kernel_rfl) ?_ | (with_reducible refine oz (by constructor <;> decide) ?_) | ((first | apply SO.call | apply DO.call); (iterate 3 (focus (simp (disch := omega) only [go_sem, ↓reduceIte, Nat.reduceEqDiff, Nat.reduceLT] <;> rfl))); (first | apply SCall.ofX | apply DCall.ofX); (focus (first | assumption)); (focus (simp (disch := omega) only [go_sem] <;> rfl))) | ((with_reducible first | apply SC.condB | apply SC.region | apply SO.run | apply DO.run); (focus (simp (disch := omega) only [go_sem, ↓reduceIte, Nat.reduceEqDiff, Nat.reduceLeDiff, Nat.reduceAdd, reduceCtorEq, q1, q2] <;> rfl)); (first | refine pickT ?_ | refine pickF ?_ | fail_if_success with_reducible refine pickA ?_)) | ((with_reducible refine SC.draw Tab.mixed ?_ ?_); (focus rfl)) | (with_reducible apply SC.ops)))
      exact retQ_ret Tryz.results63 (by simp (disch := omega) only [go_sem, ↓reduceIte, Nat.reduceEqDiff, Nat.reduceLeDiff, Nat.reduceAdd]; rfl) (by simp (disch := omega) only [go_sem, ↓reduceIte]; rfl) rfl
theorem sgn_self (x : Int) : sgn (decide (x < 0)) x.natAbs = x := by unfold sgn; split <;> simp_all <;> omega
theorem padd_i (x y : Int) (K : Nat) (hx : Fits K x) (hy : Fits K y) (hK : K ≤ 500000000000) : Spec Tryz.prog 63 [iv x, iv y] (iv (x + y)) := by
  have := padd_g (decide (x < 0)) (decide (y < 0)) x.natAbs y.natAbs K hx hy hK
  rwa [sgn_self, sgn_self] at this
theorem psub_i (x y : Int) (K : Nat) (hx : Fits K x) (hy : Fits K y) (hK : K ≤ 500000000000) : Spec Tryz.prog 83 [iv x, iv y] (iv (x - y)) := by
  have c1 := padd_g (decide (x < 0)) (!decide (y < 0)) x.natAbs y.natAbs K hx hy hK
  rw [sgn_self, show sgn (!decide (y < 0)) y.natAbs = -y by unfold sgn; split <;> simp_all <;> omega, ← Int.sub_eq_add_neg] at c1
  unfold iv sv at *
  refine Spec.run Tryz.func83 rfl Tryz.ntmps83 (by simp) (by simp (disch := omega) only [go_sem, Nat.reduceAdd]; rfl) fun B hB => ?_
  (repeat (first | refine DO.nil (by kernel_rfl) ?_ | (with_reducible refine oz (by constructor <;> decide) ?_) | ((first | apply SO.call | apply DO.call); (iterate 3 (focus (simp (disch := omega) only [go_sem, ↓reduceIte, Nat.reduceEqDiff, Nat.reduceLT] <;> rfl))); (first | apply SCall.ofX | apply DCall.ofX); (focus (first | assumption)); (focus (simp (disch := omega) only [go_sem] <;> rfl))) | ((with_reducible first | apply SC.condB | apply SC.region | apply SO.run | apply DO.run); (focus (simp (disch := omega) only [go_sem, ↓reduceIte, Nat.reduceEqDiff, Nat.reduceLT, Nat.reduceLeDiff, Nat.reduceAdd, reduceCtorEq] <;> rfl)); (first | refine pickT ?_ | refine pickF ?_ | fail_if_success with_reducible refine pickA ?_)) | ((with_reducible refine SC.draw Tab.mixed ?_ ?_); (focus rfl)) | (with_reducible apply SC.ops)))
  exact retQ_ret Tryz.results83 (by simp (disch := omega) only [go_sem, ↓reduceIte, Nat.reduceEqDiff, Nat.reduceLeDiff, Nat.reduceAdd]; rfl) (by simp (disch := omega) only [go_sem, ↓reduceIte]; rfl) rfl
end Go.Proofs.YtpodnbcdddcdmaaGreatDoor

/- The program's integers by value: times, Mul. -/
namespace Go.Proofs.YtpodnbcdddcdmaaGreatDoor
open Go.RowKit
theorem getD_app0 (z : List Nat) (j : Nat) : (z ++ [0]).getD j 0 = z.getD j 0 := by
  simp only [List.getD_eq_getElem?_getD, List.getElem?_append]
  split
  · rfl
  · rename_i h
    rw [List.getElem?_eq_none (l := z) (by omega)]
    cases hj : [0][j - z.length]? with
    | none => rfl
    | some v =>
      have : v = 0 := by
        have := (List.getElem?_eq_some_iff.1 hj).1
        have e : j - z.length = 0 := by simpa using this
        rw [e] at hj; simpa using hj.symm
      simp [this]
theorem set_app0 {z : List Nat} {j : Nat} (h : j < z.length) (v : Nat) : (z ++ [0]).set j v = z.set j v ++ [0] := by
  rw [List.set_append, if_pos h]
theorem val_app0 (z : List Nat) : val (z ++ [0]) = val z := by rw [val_append]; simp [val]
theorem getD_set_ne {z : List Nat} {i j v : Nat} (h : i ≠ j) : (z.set i v).getD j 0 = z.getD j 0 := by
  simp [List.getD_eq_getElem?_getD, List.getElem?_set_ne h]
set_option maxHeartbeats 1000000 in
theorem ptimes_i (a b : List Nat) (ha : limbs a) (hb : limbs b) (hma : a.length ≤ 400000000000) (hmb : b.length ≤ 400000000000) : Spec Tryz.prog 86 [sv a, sv b] (sv (dg (a.length + b.length) (val a * val b))) := by
  unfold sv
  have hN : ((a.length : Int) + (b.length : Int)).toNat = a.length + b.length := by omega
  refine Spec.run Tryz.func86 rfl Tryz.ntmps86 (by simp) (by simp (disch := omega) only [go_sem, Nat.reduceAdd]; rfl) fun B hB => ?_
  (repeat (first | refine DO.nil (by kernel_rfl) ?_ | (with_reducible refine SC.condB (by simp (disch := omega) only [go_sem, ↓reduceIte, Nat.reduceEqDiff, Nat.reduceLT, Nat.reduceLeDiff, Nat.reduceAdd, Nat.reduceMul, Nat.reduceSub, reduceCtorEq, Nat.reduceBEq, Int.reduceToNat, Int.reducePow, if_pos, if_neg, lv_len, hN]; rfl) ?_; first | with_reducible refine pickT ?_ | with_reducible refine pickF ?_) | (with_reducible refine oz (by constructor <;> decide) ?_) | ((with_reducible apply SC.region); (focus (simp (disch := omega) only [go_sem, ↓reduceIte, Nat.reduceEqDiff, reduceCtorEq, if_pos, hN]; rfl))) | (with_reducible refine SC.draw Tab.mixed rfl ?_; (repeat (refine DO.run (by simp (disch := omega) only [go_sem, ↓reduceIte, Nat.reduceEqDiff, Nat.reduceLT, Nat.reduceLeDiff, Nat.reduceAdd, Nat.reduceMul, Nat.reduceSub, reduceCtorEq, Nat.reduceBEq, Int.reduceToNat, Int.reducePow, if_pos, if_neg, lv_len, hN]; rfl) ?_)); refine DO.nil (by kernel_rfl) ?_)))
  refine SC.loop (fun u : Nat × List Nat => ⟨[(0, .im (lv a) a.length), (1, .im (lv b) b.length), (5, .sl 0 0 (a.length + b.length) 1 none), (17, .im (lv a) a.length), (18, .sc (.int .i64 a.length)), (19, .sc (.int .i64 u.1))], [(0, ⟨68, lv u.2, false⟩)], 1, 66⟩)
    (fun u => u.1 ≤ a.length ∧ u.2.length = a.length + b.length ∧ mulInv a b u.1 0 0 (u.2 ++ [0]) ∧ ∀ j, u.1 + b.length ≤ j → u.2.getD j 0 = 0) (fun u => a.length - u.1) (0, List.replicate (a.length + b.length) 0) ?_ ?_ ?_
  · (refine Le.of [] hB (by first | exact ⟨Nat.zero_le _, fun _ _ => Nat.zero_le _⟩ | (constructor <;> (try simp) <;> (try omega))) ?_ ?_ <;> (repeat' (first | exact leSl_nil | exact leHp_nil | refine leSl_cons (by simp (disch := omega) only [go_sem, ↓reduceIte, Nat.reduceEqDiff, reduceCtorEq]; rfl) ?_ ?_ | refine leHp_cons (by simp (disch := omega) only [go_sem, ↓reduceIte]; rfl) ?_ ?_ | exact VLe.junk _ | exact VLe.refl rfl | exact VLe.nil_sl _ _ _ | exact VLe.int (by first | rfl | omega | (dsimp only; omega)) | exact VLe.bool rfl | exact VLe.sl rfl (by first | rfl | omega | (dsimp only; omega) | (simp; done)) | exact VLe.cap rfl (by first | rfl | omega | (dsimp only; omega) | (simp; done)) | exact VLe.im rfl rfl | exact HLe.new rfl | exact HLe.same rfl (LLe.refl rfl) | refine HLe.same rfl ?_ | exact LLe.nil _ | exact LLe.refl rfl | refine LLe.cons ?_ ?_)))
    exact LLe.lv (lv_rep _)
  · refine ⟨Nat.zero_le _, by simp, ⟨by simp, ?_, ?_⟩, fun j hj => ?_⟩
    · exact limbs_snoc (limbs_replicate _) (by omega)
    · rw [val_app0]; simp [val, val_replicate]
    · simp only [List.getD_eq_getElem?_getD, List.getElem?_replicate]; split <;> rfl
  · rintro ⟨i, z⟩ ⟨hi, hzl, hI, hz0⟩ K hK
    simp only at hi hzl hI hz0 ⊢
    by_cases hA : i < a.length
    · have q1 := decide_eq_true (p := (i : Int) < (a.length : Int)) (by omega)
      have ga := lv_get hA
      have la := limbs_getD ha i
      obtain ⟨s, hs⟩ : ∃ s, s = a.getD i 0 := ⟨_, rfl⟩
      rw [← hs] at ga la
      (repeat (first | refine DO.nil (by kernel_rfl) ?_ | (with_reducible refine SC.condB (by simp (disch := omega) only [go_sem, ↓reduceIte]; rfl) ?_; first | with_reducible refine pickT ?_ | with_reducible refine pickF ?_) | (with_reducible refine oz (by constructor <;> decide) ?_) | ((with_reducible apply SC.region); (focus (simp (disch := omega) only [go_sem, ↓reduceIte, Nat.reduceEqDiff, reduceCtorEq, if_pos, q1, ga, lv_len, List.getElem?_drop]; rfl))) | (with_reducible refine SC.draw Tab.mixed rfl ?_; (repeat (refine DO.run (by simp (disch := omega) only [go_sem, ↓reduceIte, Nat.reduceEqDiff, Nat.reduceLT, Nat.reduceLeDiff, Nat.reduceAdd, Nat.reduceMul, Nat.reduceSub, reduceCtorEq, Nat.reduceBEq, Int.reduceToNat, Int.reducePow, if_pos, if_neg, q1, ga, lv_len, List.getElem?_drop]; rfl) ?_)); refine DO.nil (by kernel_rfl) ?_)))
      refine SC.loop (fun u : Nat × Nat × List Nat => ⟨[(0, .im (lv a) a.length), (1, .im (lv b) b.length), (5, .sl 0 0 (a.length + b.length) 1 none), (6, .sc (.int .i64 i)), (7, .sc (.int .u32 s)), (8, .sc (.int .u64 u.2.1)), (17, .im (lv a) a.length), (18, .sc (.int .i64 a.length)), (19, .sc (.int .i64 i)), (24, .im (lv b) b.length), (25, .sc (.int .i64 b.length)), (26, .sc (.int .i64 u.1))], [(0, ⟨68, lv u.2.2, false⟩)], 1, 66⟩)
        (fun u => u.1 ≤ b.length ∧ u.2.1 < 4294967296 ∧ u.2.2.length = a.length + b.length ∧ mulInv a b i u.1 u.2.1 (u.2.2 ++ [0]) ∧ ∀ j, i + b.length ≤ j → u.2.2.getD j 0 = 0) (fun u => b.length - u.1) (0, 0, z) ?_ ?_ ?_
      · (refine Le.of [] hB (by first | exact ⟨Nat.zero_le _, fun _ _ => Nat.zero_le _⟩ | (constructor <;> (try simp) <;> (try omega))) ?_ ?_ <;> (repeat' (first | exact leSl_nil | exact leHp_nil | refine leSl_cons (by simp (disch := omega) only [go_sem, ↓reduceIte, Nat.reduceEqDiff, reduceCtorEq]; rfl) ?_ ?_ | refine leHp_cons (by simp (disch := omega) only [go_sem, ↓reduceIte]; rfl) ?_ ?_ | exact VLe.junk _ | exact VLe.refl rfl | exact VLe.nil_sl _ _ _ | exact VLe.int (by first | rfl | omega | (dsimp only; omega)) | exact VLe.bool rfl | exact VLe.sl rfl (by first | rfl | omega | (dsimp only; omega) | (simp; done)) | exact VLe.cap rfl (by first | rfl | omega | (dsimp only; omega) | (simp; done)) | exact VLe.im rfl rfl | exact HLe.new rfl | exact HLe.same rfl (LLe.refl rfl) | refine HLe.same rfl ?_ | exact LLe.nil _ | exact LLe.refl rfl | refine LLe.cons ?_ ?_)))
        exact LLe.lv rfl
      · exact ⟨Nat.zero_le _, by simp only; omega, hzl, hI, hz0⟩
      · rintro ⟨k, c, z⟩ ⟨hk, hc, hzl, hI, hz0⟩ K' hK'
        simp only at hk hc hzl hI hz0 ⊢
        have lb := limbs_getD hb k
        have hz : limbs z := fun n hn => hI.2.1 n (List.mem_append.2 (.inl hn))
        have lz := limbs_getD hz (i + k)
        by_cases hB' : k < b.length
        · have q2 := decide_eq_true (p := (k : Int) < (b.length : Int)) (by omega)
          have hidx : ((i : Int) + (k : Int)).toNat = i + k := by omega
          have hzi : i + k < z.length := by omega
          have gz := lv_get hzi
          have gb := lv_get hB'
          have hst := hI.step (by simp; omega) s (b.getD k 0) (z.getD (i + k) 0) hs.symm rfl (getD_app0 z _)
          rw [set_app0 hzi] at hst
          generalize b.getD k 0 = t at *
          generalize z.getD (i + k) 0 = r at *
          have hp : s * t ≤ 4294967295 * 4294967295 := Nat.mul_le_mul (by omega) (by omega)
          have hm : (s : Int) * (t : Int) = ((s * t : Nat) : Int) := by simp
          generalize s * t = pr at *
          (repeat (first | refine DO.nil (by kernel_rfl) ?_ | (with_reducible refine SC.condB (by simp (disch := omega) only [go_sem, ↓reduceIte]; rfl) ?_; first | with_reducible refine pickT ?_ | with_reducible refine pickF ?_) | (with_reducible refine oz (by constructor <;> decide) ?_) | ((with_reducible apply SC.region); (focus (simp (disch := omega) only [go_sem, ↓reduceIte, Nat.reduceEqDiff, reduceCtorEq, Int.reduceToNat, if_pos, if_neg, q2, hidx, gz, gb, hm, fd32, lv_len, List.getElem?_drop]; rfl))) | (with_reducible refine SC.draw Tab.mixed rfl ?_; (repeat (refine DO.run (by simp (disch := omega) only [go_sem, ↓reduceIte, Nat.reduceEqDiff, Nat.reduceLT, Nat.reduceLeDiff, Nat.reduceAdd, Nat.reduceMul, Nat.reduceSub, reduceCtorEq, Nat.reduceBEq, Int.reduceToNat, Int.reducePow, if_pos, if_neg, q1, q2, hidx, gz, gb, hm, fd32, lv_len, List.getElem?_drop]; rfl) ?_)); refine DO.nil (by kernel_rfl) ?_)))
          refine hK' _ (k + 1, (c + r + pr) / 4294967296, z.set (i + k) ((c + r + pr) % 4294967296)) ?_ ⟨by simp only; omega, by simp only; omega, by simp [hzl], hst, fun j hj => ?_⟩ (by simp only; omega)
          · (refine Le.of [] hB (by first | exact ⟨Nat.zero_le _, fun _ _ => Nat.zero_le _⟩ | (constructor <;> (try simp) <;> (try omega))) ?_ ?_ <;> (repeat' (first | exact leSl_nil | exact leHp_nil | refine leSl_cons (by simp (disch := omega) only [go_sem, ↓reduceIte, Nat.reduceEqDiff, reduceCtorEq]; rfl) ?_ ?_ | refine leHp_cons (by simp (disch := omega) only [go_sem, ↓reduceIte]; rfl) ?_ ?_ | exact VLe.junk _ | exact VLe.refl rfl | exact VLe.nil_sl _ _ _ | exact VLe.int (by first | rfl | omega | (dsimp only; omega)) | exact VLe.bool rfl | exact VLe.sl rfl (by first | rfl | omega | (dsimp only; omega) | (simp; done)) | exact VLe.cap rfl (by first | rfl | omega | (dsimp only; omega) | (simp; done)) | exact VLe.im rfl rfl | exact HLe.new rfl | exact HLe.same rfl (LLe.refl rfl) | refine HLe.same rfl ?_ | exact LLe.nil _ | exact LLe.refl rfl | refine LLe.cons ?_ ?_)))
            exact LLe.lv (lv_set (by omega))
          · simp only
            rw [getD_set_ne (by omega)]; exact hz0 j hj
        · have hkb : k = b.length := by omega
          subst hkb
          have q2 := decide_eq_false (p := ((b.length : Nat) : Int) < (b.length : Int)) (by omega)
          have hidx : ((i : Int) + (b.length : Int)).toNat = i + b.length := by omega
          have hzi : i + b.length < z.length := by omega
          have hst := hI.step (by simp; omega) s 0 0 hs.symm (getD_ge (by omega)) (by rw [getD_app0]; exact hz0 _ (Nat.le_refl _))
          rw [set_app0 hzi] at hst
          have e1 : (c + 0 + s * 0) / 4294967296 = 0 := by simp; omega
          have e2 : (c + 0 + s * 0) % 4294967296 = c := by simp; omega
          rw [e1, e2] at hst
          have hrow := hst.row (by omega)
          (repeat (first | refine DO.nil (by kernel_rfl) ?_ | (with_reducible refine SC.condB (by simp (disch := omega) only [go_sem, ↓reduceIte]; rfl) ?_; first | with_reducible refine pickT ?_ | with_reducible refine pickF ?_) | (with_reducible refine oz (by constructor <;> decide) ?_) | ((with_reducible apply SC.region); (focus (simp (disch := omega) only [go_sem, ↓reduceIte, Nat.reduceEqDiff, reduceCtorEq, if_pos, q2, hidx, lv_len]; rfl))) | (with_reducible refine SC.draw Tab.mixed rfl ?_; (repeat (refine DO.run (by simp (disch := omega) only [go_sem, ↓reduceIte, Nat.reduceEqDiff, Nat.reduceLT, Nat.reduceLeDiff, Nat.reduceAdd, Nat.reduceMul, Nat.reduceSub, reduceCtorEq, Nat.reduceBEq, Int.reduceToNat, Int.reducePow, if_pos, if_neg, q1, q2, hidx, lv_len]; rfl) ?_)); refine DO.nil (by kernel_rfl) ?_)))
          refine hK _ (i + 1, z.set (i + b.length) c) ?_ ⟨by simp only; omega, by simp [hzl], hrow, fun j hj => ?_⟩ (by simp only; omega)
          · (refine Le.of [] hB (by first | exact ⟨Nat.zero_le _, fun _ _ => Nat.zero_le _⟩ | (constructor <;> (try simp) <;> (try omega))) ?_ ?_ <;> (repeat' (first | exact leSl_nil | exact leHp_nil | refine leSl_cons (by simp (disch := omega) only [go_sem, ↓reduceIte, Nat.reduceEqDiff, reduceCtorEq]; rfl) ?_ ?_ | refine leHp_cons (by simp (disch := omega) only [go_sem, ↓reduceIte]; rfl) ?_ ?_ | exact VLe.junk _ | exact VLe.refl rfl | exact VLe.nil_sl _ _ _ | exact VLe.int (by first | rfl | omega | (dsimp only; omega)) | exact VLe.bool rfl | exact VLe.sl rfl (by first | rfl | omega | (dsimp only; omega) | (simp; done)) | exact VLe.cap rfl (by first | rfl | omega | (dsimp only; omega) | (simp; done)) | exact VLe.im rfl rfl | exact HLe.new rfl | exact HLe.same rfl (LLe.refl rfl) | refine HLe.same rfl ?_ | exact LLe.nil _ | exact LLe.refl rfl | refine LLe.cons ?_ ?_)))
            exact LLe.lv (lv_set (by omega))
          · simp only at hj ⊢
            rw [getD_set_ne (by omega)]; exact hz0 j (by omega)
    · have q1 := decide_eq_false (p := (i : Int) < (a.length : Int)) (by omega)
      have hd := hI.done (by omega)
      rw [val_app0] at hd
      have hz : limbs z := fun n hn => hI.2.1 n (List.mem_append.2 (.inl hn))
      have he := dg_eq hz
      rw [hd, hzl] at he
      have ht : z.take (a.length + b.length) = z := by rw [← hzl]; exact List.take_length
      (repeat (first | refine DO.nil (by kernel_rfl) ?_ | (with_reducible refine SC.condB (by simp (disch := omega) only [go_sem, ↓reduceIte]; rfl) ?_; first | with_reducible refine pickT ?_ | with_reducible refine pickF ?_) | (with_reducible refine oz (by constructor <;> decide) ?_) | ((with_reducible apply SC.region); (focus (simp (disch := omega) only [go_sem, ↓reduceIte, Nat.reduceEqDiff, Nat.reduceLT, reduceCtorEq, q1]; rfl))) | (with_reducible refine SC.draw Tab.mixed rfl ?_; (repeat (refine DO.run (by simp (disch := omega) only [go_sem, ↓reduceIte, Nat.reduceEqDiff, Nat.reduceLT, Nat.reduceLeDiff, Nat.reduceAdd, Nat.reduceMul, Nat.reduceSub, reduceCtorEq, Nat.reduceBEq, Int.reduceToNat, Int.reducePow, if_pos, if_neg, q1]; rfl) ?_)); refine DO.nil (by kernel_rfl) ?_)))
      refine retQ_ret Tryz.results86 (by simp (disch := omega) only [go_sem, ↓reduceIte]; rfl) (by simp (disch := omega) only [go_sem, ↓reduceIte, if_pos, lv_len, lv_take, lv_clo, ht]; rfl) ?_
      rw [he, hzl]
theorem pmul_i (x y : Int) (K : Nat) (hx : Fits K x) (hy : Fits K y) (hK : K ≤ 400000000000) : Spec Tryz.prog 66 [iv x, iv y] (iv (x * y)) := by
  have lx := fits_len hx
  have ly := fits_len hy
  have t1 := trim_n x.natAbs (by omega)
  have t2 := trim_n y.natAbs (by omega)
  have c1 := ptimes_i (limbsOf x.natAbs) (limbsOf y.natAbs) (limbsOf_limbs _) (limbsOf_limbs _) (by omega) (by omega)
  have g1 := val_lt (limbsOf_limbs x.natAbs)
  have g2 := val_lt (limbsOf_limbs y.natAbs)
  have hmul := Nat.mul_lt_mul'' g1 g2
  rw [← Nat.pow_add] at hmul
  rw [limbsOf_val, limbsOf_val] at c1 hmul
  have c2 := pvalue_dg ((limbsOf x.natAbs).length + (limbsOf y.natAbs).length) (x.natAbs * y.natAbs) (decide (x < 0) != decide (y < 0)) (x * y) (sgn_mul x y) hmul (by omega)
  unfold iv sv at *
  refine Spec.run Tryz.func66 rfl Tryz.ntmps66 (by simp) (by simp (disch := omega) only [go_sem, Nat.reduceAdd]; rfl) fun B hB => ?_
  (repeat (first | refine DO.nil (by kernel_rfl) ?_ | (with_reducible refine oz (by constructor <;> decide) ?_) | ((first | apply SO.call | apply DO.call); (iterate 3 (focus (simp (disch := omega) only [go_sem, ↓reduceIte, Nat.reduceEqDiff, Nat.reduceLT] <;> rfl))); (first | apply SCall.ofX | apply DCall.ofX); (focus (first | assumption)); (focus (simp (disch := omega) only [go_sem] <;> rfl))) | ((with_reducible first | apply SC.condB | apply SC.region | apply SO.run | apply DO.run); (focus (simp (disch := omega) only [go_sem, ↓reduceIte, Nat.reduceEqDiff, Nat.reduceLeDiff, Nat.reduceAdd, reduceCtorEq] <;> rfl)); (first | refine pickT ?_ | refine pickF ?_ | fail_if_success with_reducible refine pickA ?_)) | ((with_reducible refine SC.draw Tab.mixed ?_ ?_); (focus rfl)) | (with_reducible apply SC.ops)))
  exact retQ_ret Tryz.results66 (by simp (disch := omega) only [go_sem, ↓reduceIte, Nat.reduceEqDiff, Nat.reduceLeDiff, Nat.reduceAdd]; rfl) (by simp (disch := omega) only [go_sem, ↓reduceIte]; rfl) rfl
end Go.Proofs.YtpodnbcdddcdmaaGreatDoor
