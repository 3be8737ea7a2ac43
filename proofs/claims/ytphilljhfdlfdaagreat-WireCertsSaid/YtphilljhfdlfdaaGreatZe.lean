/- Texts joined: Qb Qc Jk Qd Qe Qf Qy Qg Qh Jl Jo Qi Qj Qk Jp Ql Qm Vao Qo Qp. -/
import Derived.WalkSmall
import Derived.Test.YtphilljhfdlfdaaGreatZc
import Derived.Test.YtphilljhfdlfdaaGreatZd
set_option linter.all false
open Nat renaming reduceEqDiff → zn1, reduceLT → zn2, reduceLeDiff → zn3, reduceAdd → zn4, reduceMul → zn5, reduceSub → zn6, reduceBEq → zn7, mul_one → zn8, zero_add → zn9, one_mul → zna, le_refl → znb, zero_le → znc, add_sub_cancel_left → znd, sub_eq_zero_of_le → zne, add_assoc → znf
open Int renaming reduceToNat → zi1, reducePow → zi2
open List renaming length_append → zl1, drop_zero → zl2, take_succ_cons → zl3, take_zero → zl4, getElem?_drop → zl5, append_assoc → zl6, nil_append → zl7, cons_append → zl8, drop_succ_cons → zl9, take_of_length_le → zla, getElem?_eq_getElem → zlb, getElem?_eq_some_iff → zlc, map_cons → zld, map_nil → zle, all_eq_true → zlf
namespace Go.Proofs.YtphilljhfdlfdaaGreat
open Go.RowKit
def validB (l : List Nat) (neg : Bool) : Bool := if l.length = 0 then !neg else l.getD (l.length - 1) 0 != 0
theorem valid_g (l : List Nat) (n : Nat) (neg : Bool) (hn : n = l.length) (hm : n ≤ 9223372036854775807) : Spec Tryz.prog 67 [.ag [.sc (.bool neg), .im (lv l) n]] (.sc (.bool (validB l neg))) := by
  subst hn
  refine Spec.run Tryz.func67 rfl Tryz.ntmps67 (by simp) (by simp only [go_sem]; rfl) fun B hB => ?_
  by_cases h0 : l.length = 0
  · have q1 : decide ((0 : Int) < (l.length : Int)) = false := by simp; exact List.eq_nil_of_length_eq_zero h0
    (repeat (first | (with_reducible refine SC.condB (by simp only [go_sem, ↓reduceIte]; rfl) ?_; with_reducible refine pickF ?_) | (with_reducible refine oz (by constructor <;> decide) ?_) | ((with_reducible apply SC.region); (simp only [go_sem, ↓reduceIte, zn1, zn2, reduceCtorEq, q1]; rfl))))
    refine retQ_ret Tryz.results67 (by simp only [go_sem, ↓reduceIte]; rfl) (by simp only [go_sem]; rfl) ?_
    unfold validB; rw [if_pos h0]
  · have q1 : decide ((0 : Int) < (l.length : Int)) = true := by rw [decide_eq_true_eq]; omega
    have hi : ((l.length : Int) - 1).toNat = l.length - 1 := by omega
    have hg := lv_get (l := l) (i := l.length - 1) (by omega)
    (repeat (first | (with_reducible refine SC.condB (by simp (disch := omega) only [go_sem, ↓reduceIte]; rfl) ?_; with_reducible refine pickT ?_) | (with_reducible refine oz (by constructor <;> decide) ?_) | ((with_reducible apply SC.region); (simp (disch := omega) only [go_sem, ↓reduceIte, zn1, reduceCtorEq, if_pos, q1, hi, hg, lv_len, zl5]; rfl))))
    refine retQ_ret Tryz.results67 (by simp only [go_sem, ↓reduceIte]; rfl) (by simp only [go_sem]; rfl) ?_
    unfold validB
    rw [if_neg h0]
    generalize l.getD (l.length - 1) 0 = x
    have : (((x : Int) != 0) : Bool) = (x != 0) := by
      by_cases hx : x = 0
      · subst hx; rfl
      · have h1 : ((x : Int) != 0) = true := by simp only [bne_iff_ne, ne_eq]; omega
        have h2 : (x != 0) = true := by simp only [bne_iff_ne, ne_eq]; omega
        rw [h1, h2]
    rw [this]
theorem or_zero (d : Nat) (h : d < 18446744073709551616) : bits BinOp.or IntKind.u64 0 (d : Int) = (d : Int) := by
  have := u64_or_nat 0 d (by omega) h
  simpa using this
theorem or_high (u d : Nat) (hu : u < 4294967296) (hd : d < 4294967296) : bits BinOp.or IntKind.u64 (u : Int) ((d : Int) * 4294967296) = ((u + 4294967296 * d : Nat) : Int) := by
  have h := u64_or_nat u (d * 4294967296) (by omega) (by omega)
  have e : u ||| d * 4294967296 = d * 4294967296 + u := by
    have := Nat.shiftLeft_add_eq_or_of_lt (b := u) (i := 32) (by omega) d
    rw [Nat.shiftLeft_eq, Nat.or_comm] at this
    exact this.symm
  rw [e] at h
  have e2 : ((d * 4294967296 + u : Nat) : Int) = ((u + 4294967296 * d : Nat) : Int) := by omega
  rw [← e2, ← h]; simp
theorem word_i (l : List Nat) (h : limbs l) (hl : l.length ≤ 2) : Spec Tryz.prog 95 [sv l] (.sc (.int .u64 (val l : Nat))) := by
  unfold sv
  refine Spec.run Tryz.func95 rfl Tryz.ntmps95 (by simp) (by simp only [go_sem]; rfl) fun B hB => ?_
  (repeat (first | (with_reducible refine oz (by constructor <;> decide) ?_) | ((with_reducible apply SC.region); (simp (disch := omega) only [go_sem, ↓reduceIte, reduceCtorEq]; rfl))))
  refine SC.loop (fun k : Nat => ⟨[(3, .sc (.int .u64 (val (l.take k) : Nat))), (6, .im (lv l) l.length), (7, .sc (.int .i64 l.length)), (8, .sc (.int .i64 k))], [], 0, 22⟩)
    (fun k => k ≤ l.length) (fun k => l.length - k) 0 ?_ (znc _) ?_
  · (refine Le.of [] hB (by exact ⟨znc _, fun _ _ => znc _⟩) ?_ ?_ <;> (repeat' (first | exact leSl_nil | exact leHp_nil | refine leSl_cons (by simp only [go_sem, ↓reduceIte, zn1]; rfl) ?_ ?_ | exact VLe.refl rfl)))
  · intro k hk K hK
    by_cases hlt : k < l.length
    · have q1 := decide_eq_true (p := (k : Int) < (l.length : Int)) (by omega)
      have hg := lv_get hlt
      have hx := limbs_getD h k
      have hst := val_take_succ' l k
      have h3 : k = 0 ∨ k = 1 := by omega
      have hv := val_lt (limbs_take h k)
      rw [List.length_take, Nat.min_eq_left (by omega)] at hv
      generalize l.getD k 0 = x at *
      generalize val (l.take k) = u at *
      rcases h3 with rfl | rfl
      · have hu : u = 0 := by omega
        subst hu
        have f1 : (x : Int) * 2 ^ min ((32 : Int) * ((0 : Nat) : Int)).toNat 64 = (x : Int) := by
          have : (2 : Int) ^ min ((32 : Int) * ((0 : Nat) : Int)).toNat 64 = 1 := by decide
          rw [this, Int.mul_one]
        have f2 : bits BinOp.or IntKind.u64 ((0 : Nat) : Int) (x : Int) = (x : Int) := or_zero x (by omega)
        (repeat (first | (with_reducible refine SC.condB (by simp (disch := omega) only [go_sem, ↓reduceIte]; rfl) ?_; with_reducible refine pickT ?_) | (with_reducible refine oz (by constructor <;> decide) ?_) | ((with_reducible apply SC.region); (simp (disch := omega) only [go_sem, ↓reduceIte, zn1, if_pos, if_neg, q1, f1, f2, hg, lv_len]; rfl))))
        refine hK _ 1 ?_ (by omega) (by omega)
        (refine Le.of [] hB (by exact ⟨znc _, fun _ _ => znc _⟩) ?_ ?_ <;> (repeat' (first | exact leSl_nil | exact leHp_nil | refine leSl_cons (by simp only [go_sem, ↓reduceIte, zn1]; rfl) ?_ ?_ | exact VLe.refl rfl)))
        simp only [Nat.pow_zero, zna, zn9] at hst
        exact VLe.int (congrArg (fun n : Nat => (n : Int)) hst.symm)
      · have f1 : (x : Int) * 2 ^ min ((32 : Int) * ((1 : Nat) : Int)).toNat 64 = (x : Int) * 4294967296 := by
          have : (2 : Int) ^ min ((32 : Int) * ((1 : Nat) : Int)).toNat 64 = 4294967296 := by decide
          rw [this]
        have f2 := or_high u x (by omega) hx
        (repeat (first | (with_reducible refine SC.condB (by simp (disch := omega) only [go_sem, ↓reduceIte]; rfl) ?_; with_reducible refine pickT ?_) | (with_reducible refine oz (by constructor <;> decide) ?_) | ((with_reducible apply SC.region); (simp (disch := omega) only [go_sem, ↓reduceIte, zn1, if_pos, if_neg, q1, f1, f2, hg, lv_len, zl5]; rfl))))
        refine hK _ 2 ?_ (by omega) (by omega)
        (refine Le.of [] hB (by exact ⟨znc _, fun _ _ => znc _⟩) ?_ ?_ <;> (repeat' (first | exact leSl_nil | exact leHp_nil | refine leSl_cons (by simp only [go_sem, ↓reduceIte, zn1]; rfl) ?_ ?_ | exact VLe.refl rfl)))
        simp only [Nat.pow_one] at hst
        exact VLe.int (congrArg (fun n : Nat => (n : Int)) hst.symm)
    · have hkl : k = l.length := by omega
      subst hkl
      have q1 := decide_eq_false (p := ((l.length : Nat) : Int) < (l.length : Int)) (by omega)
      (repeat (first | (with_reducible refine SC.condB (by simp only [go_sem, ↓reduceIte]; rfl) ?_; with_reducible refine pickF ?_) | (with_reducible refine oz (by constructor <;> decide) ?_) | ((with_reducible apply SC.region); (simp only [go_sem, ↓reduceIte, zn1, zn2, q1]; rfl))))
      refine retQ_ret Tryz.results95 (by simp only [go_sem, ↓reduceIte]; rfl) (by simp only [go_sem]; rfl) ?_
      rw [List.take_length]
theorem trim_n (n : Nat) (h : (limbsOf n).length ≤ 1000000000) : Spec Tryz.prog 89 [sv (limbsOf n)] (sv (limbsOf n)) := by
  have := trim_i (limbsOf n) (limbsOf_limbs n) h
  rwa [limbsOf_val] at this
theorem psign_i (x : Int) (K : Nat) (hx : Fits K x) (hK : K ≤ 1000000000) : Spec Tryz.prog 82 [iv x] (.sc (.int .i64 x.sign)) := by
  have lx := fits_len hx
  have c1 := trim_n x.natAbs (by omega)
  unfold iv
  unfold sv at c1 ⊢
  by_cases h0 : x = 0
  · subst h0
    have q1 : (((limbsOf (0 : Int).natAbs).length : Int) == 0) = true := by simp [limbsOf_zero]
    refine Spec.run Tryz.func82 rfl Tryz.ntmps82 (by simp) (by simp only [go_sem]; rfl) fun B hB => ?_
    (repeat (first | (with_reducible refine oz (by constructor <;> decide) ?_) | ((apply SO.call); (iterate 3 (simp (disch := omega) only [go_sem, ↓reduceIte] <;> rfl)); (apply SCall.ofX); (assumption); (simp (disch := omega) only [go_sem] <;> rfl)) | ((with_reducible first | apply SC.condB | apply SC.region | apply SO.run); (simp (disch := omega) only [go_sem, ↓reduceIte, zn1, reduceCtorEq, q1] <;> rfl); (first | refine pickT ?_ | fail_if_success with_reducible refine pickA ?_)) | (with_reducible apply SC.ops)))
    exact retQ_ret Tryz.results82 (by simp only [go_sem, ↓reduceIte]; rfl) (by simp only [go_sem]; rfl) rfl
  · have q1 : (((limbsOf x.natAbs).length : Int) == 0) = false := by
      have : limbsOf x.natAbs ≠ [] := fun h => h0 (by have := limbsOf_nil.1 h; omega)
      have := List.length_pos_iff.2 this
      simp only [beq_eq_false_iff_ne, ne_eq]; omega
    by_cases h1 : x < 0
    · have q2 := decide_eq_true h1
      refine Spec.run Tryz.func82 rfl Tryz.ntmps82 (by simp) (by simp only [go_sem]; rfl) fun B hB => ?_
      (repeat (first | (with_reducible refine oz (by constructor <;> decide) ?_) | ((apply SO.call); (iterate 3 (simp (disch := omega) only [go_sem, ↓reduceIte] <;> rfl)); (apply SCall.ofX); (assumption); (simp (disch := omega) only [go_sem] <;> rfl)) | ((with_reducible first | apply SC.condB | apply SC.region | apply SO.run); (simp (disch := omega) only [go_sem, ↓reduceIte, zn1, zn2, reduceCtorEq, q1, q2] <;> rfl); (first | refine pT ?_ | refine pF ?_ | fail_if_success with_reducible refine pA ?_)) | (with_reducible apply SC.ops)))
      refine retQ_ret Tryz.results82 (by simp (disch := omega) only [go_sem, ↓reduceIte]; rfl) (by simp (disch := omega) only [go_sem]; rfl) ?_
      rw [Int.sign_eq_neg_one_of_neg h1]
    · have q2 := decide_eq_false h1
      refine Spec.run Tryz.func82 rfl Tryz.ntmps82 (by simp) (by simp only [go_sem]; rfl) fun B hB => ?_
      (repeat (first | (with_reducible refine oz (by constructor <;> decide) ?_) | ((apply SO.call); (iterate 3 (simp (disch := omega) only [go_sem, ↓reduceIte] <;> rfl)); (apply SCall.ofX); (assumption); (simp (disch := omega) only [go_sem] <;> rfl)) | ((with_reducible first | apply SC.condB | apply SC.region | apply SO.run); (simp (disch := omega) only [go_sem, ↓reduceIte, zn1, zn2, reduceCtorEq, q1, q2] <;> rfl); (first | refine pickF ?_ | fail_if_success with_reducible refine pickA ?_)) | (with_reducible apply SC.ops)))
      refine retQ_ret Tryz.results82 (by simp (disch := omega) only [go_sem, ↓reduceIte]; rfl) (by simp (disch := omega) only [go_sem]; rfl) ?_
      rw [Int.sign_eq_one_of_pos (by omega)]
end Go.Proofs.YtphilljhfdlfdaaGreat
namespace Go.Proofs.YtphilljhfdlfdaaGreat
open Go.RowKit
theorem clone_l (l : List Nat) (hn : l.length ≤ 1000000000) : Spec Tryz.prog 94 [sv l] (sv l) := by
  have := clone_s (lv l) (lv_clo l) (lv_all l) (by rw [lv_len]; exact hn)
  rw [lv_len] at this
  exact this
theorem pvalue_n (n : Nat) (neg : Bool) (z : Int) (hz : sgn neg n = z) (h : (limbsOf n).length ≤ 1000000000) : Spec Tryz.prog 93 [.sc (.bool neg), sv (limbsOf n)] (iv z) := by
  have := value_i neg (limbsOf n) (limbsOf_limbs n) h
  rwa [limbsOf_val, hz] at this
theorem nanI_s (n : Int) : Spec Tryz.prog 103 [.sc (.int .i64 n)] (.sc (.bool false)) := by
  have q1 : ((n : Int) != n) = false := by simp
  refine Spec.run Tryz.func103 rfl Tryz.ntmps103 (by simp) (by simp only [go_sem]; rfl) fun B hB => ?_
  (repeat (first | (with_reducible refine oz (by constructor <;> decide) ?_) | ((with_reducible apply SC.region); (simp only [go_sem, ↓reduceIte, zn1, zn2, reduceCtorEq, q1]; rfl))))
  exact retQ_ret Tryz.results103 (by simp only [go_sem, ↓reduceIte]; rfl) (by simp only [go_sem]; rfl) rfl
theorem nanU_s (n : Int) : Spec Tryz.prog 109 [.sc (.int .u32 n)] (.sc (.bool false)) := by
  have q1 : ((n : Int) != n) = false := by simp
  refine Spec.run Tryz.func109 rfl Tryz.ntmps109 (by simp) (by simp only [go_sem]; rfl) fun B hB => ?_
  (repeat (first | (with_reducible refine oz (by constructor <;> decide) ?_) | ((with_reducible apply SC.region); (simp only [go_sem, ↓reduceIte, zn1, zn2, reduceCtorEq, q1]; rfl))))
  exact retQ_ret Tryz.results109 (by simp only [go_sem, ↓reduceIte]; rfl) (by simp only [go_sem]; rfl) rfl
theorem cmpI_s (x y : Int) : Spec Tryz.prog 90 [.sc (.int .i64 x), .sc (.int .i64 y)] (.sc (.int .i64 (x - y).sign)) := by
  have c1 := nanI_s x
  have c2 := nanI_s y
  rcases Int.lt_trichotomy x y with h | h | h
  · have q1 := decide_eq_true h
    refine Spec.run Tryz.func90 rfl Tryz.ntmps90 (by simp) (by simp only [go_sem, zn4]; rfl) fun B hB => ?_
    (repeat (first | (with_reducible refine oz (by constructor <;> decide) ?_) | ((apply SO.call); (iterate 3 (simp (disch := omega) only [go_sem, ↓reduceIte] <;> rfl)); (apply SCall.ofX); (assumption); (simp (disch := omega) only [go_sem] <;> rfl)) | ((with_reducible first | apply SC.condB | apply SC.region | apply SO.run); (simp (disch := omega) only [go_sem, ↓reduceIte, zn1, reduceCtorEq, q1] <;> rfl); (first | refine pT ?_ | refine pF ?_ | fail_if_success with_reducible refine pA ?_)) | (with_reducible apply SC.ops)))
    refine retQ_ret Tryz.results90 (by simp (disch := omega) only [go_sem, ↓reduceIte]; rfl) (by simp (disch := omega) only [go_sem]; rfl) ?_
    rw [Int.sign_eq_neg_one_of_neg (by omega)]
  · subst h
    have q1 : decide (x < x) = false := by simp
    refine Spec.run Tryz.func90 rfl Tryz.ntmps90 (by simp) (by simp only [go_sem, zn4]; rfl) fun B hB => ?_
    (repeat (first | (with_reducible refine oz (by constructor <;> decide) ?_) | ((apply SO.call); (iterate 3 (simp (disch := omega) only [go_sem, ↓reduceIte] <;> rfl)); (apply SCall.ofX); (assumption); (simp (disch := omega) only [go_sem] <;> rfl)) | ((with_reducible first | apply SC.condB | apply SC.region | apply SO.run); (simp (disch := omega) only [go_sem, ↓reduceIte, zn1, zn2, reduceCtorEq, q1] <;> rfl); (first | refine pickF ?_ | fail_if_success with_reducible refine pickA ?_)) | (with_reducible apply SC.ops)))
    refine retQ_ret Tryz.results90 (by simp (disch := omega) only [go_sem, ↓reduceIte]; rfl) (by simp (disch := omega) only [go_sem]; rfl) ?_
    rw [Int.sub_self]; rfl
  · have q1 := decide_eq_false (p := x < y) (by omega)
    have q2 := decide_eq_true h
    refine Spec.run Tryz.func90 rfl Tryz.ntmps90 (by simp) (by simp only [go_sem, zn4]; rfl) fun B hB => ?_
    (repeat (first | (with_reducible refine oz (by constructor <;> decide) ?_) | ((apply SO.call); (iterate 3 (simp (disch := omega) only [go_sem, ↓reduceIte] <;> rfl)); (apply SCall.ofX); (assumption); (simp (disch := omega) only [go_sem] <;> rfl)) | ((with_reducible first | apply SC.condB | apply SC.region | apply SO.run); (simp (disch := omega) only [go_sem, ↓reduceIte, zn1, zn2, reduceCtorEq, q1, q2] <;> rfl); (first | refine pT ?_ | refine pF ?_ | fail_if_success with_reducible refine pA ?_)) | (with_reducible apply SC.ops)))
    refine retQ_ret Tryz.results90 (by simp (disch := omega) only [go_sem, ↓reduceIte]; rfl) (by simp (disch := omega) only [go_sem]; rfl) ?_
    rw [Int.sign_eq_one_of_pos (by omega)]
theorem cmpU_s (x y : Int) : Spec Tryz.prog 104 [.sc (.int .u32 x), .sc (.int .u32 y)] (.sc (.int .i64 (x - y).sign)) := by
  have c1 := nanU_s x
  have c2 := nanU_s y
  rcases Int.lt_trichotomy x y with h | h | h
  · have q1 := decide_eq_true h
    refine Spec.run Tryz.func104 rfl Tryz.ntmps104 (by simp) (by simp only [go_sem, zn4]; rfl) fun B hB => ?_
    (repeat (first | (with_reducible refine oz (by constructor <;> decide) ?_) | ((apply SO.call); (iterate 3 (simp (disch := omega) only [go_sem, ↓reduceIte] <;> rfl)); (apply SCall.ofX); (assumption); (simp (disch := omega) only [go_sem] <;> rfl)) | ((with_reducible first | apply SC.condB | apply SC.region | apply SO.run); (simp (disch := omega) only [go_sem, ↓reduceIte, zn1, reduceCtorEq, q1] <;> rfl); (first | refine pT ?_ | refine pF ?_ | fail_if_success with_reducible refine pA ?_)) | (with_reducible apply SC.ops)))
    refine retQ_ret Tryz.results104 (by simp (disch := omega) only [go_sem, ↓reduceIte]; rfl) (by simp (disch := omega) only [go_sem]; rfl) ?_
    rw [Int.sign_eq_neg_one_of_neg (by omega)]
  · subst h
    have q1 : decide (x < x) = false := by simp
    refine Spec.run Tryz.func104 rfl Tryz.ntmps104 (by simp) (by simp only [go_sem, zn4]; rfl) fun B hB => ?_
    (repeat (first | (with_reducible refine oz (by constructor <;> decide) ?_) | ((apply SO.call); (iterate 3 (simp (disch := omega) only [go_sem, ↓reduceIte] <;> rfl)); (apply SCall.ofX); (assumption); (simp (disch := omega) only [go_sem] <;> rfl)) | ((with_reducible first | apply SC.condB | apply SC.region | apply SO.run); (simp (disch := omega) only [go_sem, ↓reduceIte, zn1, zn2, reduceCtorEq, q1] <;> rfl); (first | refine pickF ?_ | fail_if_success with_reducible refine pickA ?_)) | (with_reducible apply SC.ops)))
    refine retQ_ret Tryz.results104 (by simp (disch := omega) only [go_sem, ↓reduceIte]; rfl) (by simp (disch := omega) only [go_sem]; rfl) ?_
    rw [Int.sub_self]; rfl
  · have q1 := decide_eq_false (p := x < y) (by omega)
    have q2 := decide_eq_true h
    refine Spec.run Tryz.func104 rfl Tryz.ntmps104 (by simp) (by simp only [go_sem, zn4]; rfl) fun B hB => ?_
    (repeat (first | (with_reducible refine oz (by constructor <;> decide) ?_) | ((apply SO.call); (iterate 3 (simp (disch := omega) only [go_sem, ↓reduceIte] <;> rfl)); (apply SCall.ofX); (assumption); (simp (disch := omega) only [go_sem] <;> rfl)) | ((with_reducible first | apply SC.condB | apply SC.region | apply SO.run); (simp (disch := omega) only [go_sem, ↓reduceIte, zn1, zn2, reduceCtorEq, q1, q2] <;> rfl); (first | refine pT ?_ | refine pF ?_ | fail_if_success with_reducible refine pA ?_)) | (with_reducible apply SC.ops)))
    refine retQ_ret Tryz.results104 (by simp (disch := omega) only [go_sem, ↓reduceIte]; rfl) (by simp (disch := omega) only [go_sem]; rfl) ?_
    rw [Int.sign_eq_one_of_pos (by omega)]
theorem compare_n (m n : Nat) (hm : (limbsOf m).length ≤ 1000000000) (hn : (limbsOf n).length ≤ 1000000000) : Spec Tryz.prog 91 [sv (limbsOf m), sv (limbsOf n)] (.sc (.int .i64 ((m : Int) - n).sign)) := by
  have bm := limbsOf_limbs m
  have bn := limbsOf_limbs n
  have cm := limbsOf_canon m
  have cn := limbsOf_canon n
  have vm := limbsOf_val m
  have vn := limbsOf_val n
  generalize limbsOf m = a at *
  generalize limbsOf n = b at *
  subst vm
  subst vn
  have c1 := cmpI_s (a.length : Int) (b.length : Int)
  have hlt : ∀ {a b : List Nat}, limbs a → canon b → a.length < b.length → val a < val b := by
    intro a b ha cb h
    have h1 := val_lt ha
    have h2 := canon_ge cb (by intro e; subst e; simp at h)
    have h3 : 4294967296 ^ a.length ≤ 4294967296 ^ (b.length - 1) := Nat.pow_le_pow_right (by omega) (by omega)
    omega
  unfold sv
  by_cases hab : a.length = b.length
  · have e1 : ((a.length : Int) - (b.length : Int)).sign = 0 := by rw [hab, Int.sub_self]; rfl
    rw [e1] at c1
    have q0 : ((0 : Int) != 0) = false := by decide
    refine Spec.run Tryz.func91 rfl Tryz.ntmps91 (by simp) (by simp only [go_sem, zn4]; rfl) fun B hB => ?_
    (repeat (first | (with_reducible refine oz (by constructor <;> decide) ?_) | ((apply SO.call); (iterate 3 (simp (disch := omega) only [go_sem, ↓reduceIte, zn1] <;> rfl)); (apply SCall.ofX); (assumption); (simp (disch := omega) only [go_sem] <;> rfl)) | ((with_reducible first | apply SC.condB | apply SC.region | apply SO.run); (simp (disch := omega) only [go_sem, ↓reduceIte, zn1, reduceCtorEq, q0] <;> rfl); (first | refine pickF ?_ | fail_if_success with_reducible refine pickA ?_)) | (with_reducible apply SC.ops)))
    refine SC.loop (fun k : Nat => ⟨[(0, .im (lv a) a.length), (1, .im (lv b) b.length), (6, .sc (.int .i64 ((k : Int) - 1)))], [], 0, 35⟩)
      (fun k => k ≤ a.length ∧ (val a < val b ↔ val (a.take k) < val (b.take k)) ∧ (val b < val a ↔ val (b.take k) < val (a.take k))) (fun k => k) a.length ?_ ?_ ?_
    · (refine Le.of [] hB (by exact ⟨znc _, fun _ _ => znc _⟩) ?_ ?_ <;> (repeat' (first | exact leSl_nil | exact leHp_nil | refine leSl_cons (by simp only [go_sem, ↓reduceIte, zn1, reduceCtorEq]; rfl) ?_ ?_ | exact VLe.refl rfl)))
    · exact ⟨znb _, by rw [List.take_length, hab, List.take_length], by rw [List.take_length, hab, List.take_length]⟩
    · rintro k ⟨hk, hI, hJ⟩ K hK
      by_cases h0 : k = 0
      · subst h0
        have q1 : decide ((0 : Int) ≤ ((0 : Nat) : Int) - 1) = false := by simp
        (repeat (first | (with_reducible refine SC.condB (by simp (disch := omega) only [go_sem, ↓reduceIte]; rfl) ?_; with_reducible refine pickF ?_) | (with_reducible refine oz (by constructor <;> decide) ?_) | ((with_reducible apply SC.region); (simp (disch := omega) only [go_sem, ↓reduceIte, zn1, reduceCtorEq, q1]; rfl))))
        refine retQ_ret Tryz.results91 (by simp (disch := omega) only [go_sem, ↓reduceIte]; rfl) (by simp (disch := omega) only [go_sem]; rfl) ?_
        simp [val] at hI hJ
        rw [show ((val a : Int) - (val b : Int)) = 0 by omega]; rfl
      · obtain ⟨j, rfl⟩ : ∃ j, k = j + 1 := ⟨k - 1, by omega⟩
        have q1 : decide ((0 : Int) ≤ ((j + 1 : Nat) : Int) - 1) = true := by simp
        have hi : (((j + 1 : Nat) : Int) - 1).toNat = j := by omega
        have ga := lv_get (l := a) (i := j) (by omega)
        have gb := lv_get (l := b) (i := j) (by omega)
        have s1 := val_lt_step (a := a) (b := b) (k := j) bm bn (by omega) (by omega)
        have s2 := val_lt_step (a := b) (b := a) (k := j) bn bm (by omega) (by omega)
        rw [← hI] at s1
        rw [← hJ] at s2
        generalize a.getD j 0 = x at *
        generalize b.getD j 0 = y at *
        have c2 := cmpU_s (x : Int) (y : Int)
        rcases Nat.lt_trichotomy x y with h | h | h
        · have e2 : ((x : Int) - (y : Int)).sign = -1 := Int.sign_eq_neg_one_of_neg (by omega)
          rw [e2] at c2
          have q2 : ((-1 : Int) != 0) = true := by decide
          (repeat (first | refine DO.nil (by kernel_rfl) ?_ | (with_reducible refine oz (by constructor <;> decide) ?_) | ((apply DO.call); (iterate 3 (simp (disch := omega) only [go_sem, ↓reduceIte, zn1] <;> rfl)); (apply DCall.ofX); (assumption); (simp (disch := omega) only [go_sem] <;> rfl)) | ((with_reducible first | apply SC.condB | apply SC.region | apply DO.run); (simp (disch := omega) only [go_sem, ↓reduceIte, zn1, zn2, reduceCtorEq, if_pos, q1, q2, hi, ga, gb, lv_len, zl5] <;> rfl); (first | refine pickT ?_ | fail_if_success with_reducible refine pickA ?_)) | ((with_reducible refine SC.draw Tab.mixed ?_ ?_); rfl)))
          refine retQ_ret Tryz.results91 (by simp (disch := omega) only [go_sem, ↓reduceIte]; rfl) (by simp (disch := omega) only [go_sem]; rfl) ?_
          have := (s1.2 (by omega)).2 h
          rw [Int.sign_eq_neg_one_of_neg (by omega)]
        · subst h
          have e2 : ((x : Int) - (x : Int)).sign = 0 := by rw [Int.sub_self]; rfl
          rw [e2] at c2
          (repeat (first | refine DO.nil (by kernel_rfl) ?_ | (with_reducible refine oz (by constructor <;> decide) ?_) | ((apply DO.call); (iterate 3 (simp (disch := omega) only [go_sem, ↓reduceIte, zn1] <;> rfl)); (apply DCall.ofX); (assumption); (simp (disch := omega) only [go_sem] <;> rfl)) | ((with_reducible first | apply SC.condB | apply SC.region | apply DO.run); (simp (disch := omega) only [go_sem, ↓reduceIte, zn1, reduceCtorEq, if_pos, q0, q1, hi, ga, gb, lv_len, zl5] <;> rfl); (first | refine pT ?_ | refine pF ?_ | fail_if_success with_reducible refine pA ?_)) | ((with_reducible refine SC.draw Tab.mixed ?_ ?_); rfl)))
          refine hK _ j ?_ ⟨by omega, s1.1 rfl, s2.1 rfl⟩ (by omega)
          (refine Le.of [] hB (by exact ⟨znc _, fun _ _ => znc _⟩) ?_ ?_ <;> (repeat' (first | exact leSl_nil | exact leHp_nil | refine leSl_cons (by simp only [go_sem, ↓reduceIte, zn1, reduceCtorEq]; rfl) ?_ ?_ | exact VLe.refl rfl | exact VLe.int (by omega))))
        · have e2 : ((x : Int) - (y : Int)).sign = 1 := Int.sign_eq_one_of_pos (by omega)
          rw [e2] at c2
          have q2 : ((1 : Int) != 0) = true := by decide
          (repeat (first | refine DO.nil (by kernel_rfl) ?_ | (with_reducible refine oz (by constructor <;> decide) ?_) | ((apply DO.call); (iterate 3 (simp (disch := omega) only [go_sem, ↓reduceIte, zn1] <;> rfl)); (apply DCall.ofX); (assumption); (simp (disch := omega) only [go_sem] <;> rfl)) | ((with_reducible first | apply SC.condB | apply SC.region | apply DO.run); (simp (disch := omega) only [go_sem, ↓reduceIte, zn1, zn2, reduceCtorEq, if_pos, q1, q2, hi, ga, gb, lv_len, zl5] <;> rfl); (first | refine pickT ?_ | fail_if_success with_reducible refine pickA ?_)) | ((with_reducible refine SC.draw Tab.mixed ?_ ?_); rfl)))
          refine retQ_ret Tryz.results91 (by simp (disch := omega) only [go_sem, ↓reduceIte]; rfl) (by simp (disch := omega) only [go_sem]; rfl) ?_
          have := (s2.2 (by omega)).2 h
          rw [Int.sign_eq_one_of_pos (by omega)]
  · rcases Nat.lt_or_gt_of_ne hab with h | h
    · have e1 : ((a.length : Int) - (b.length : Int)).sign = -1 := Int.sign_eq_neg_one_of_neg (by omega)
      rw [e1] at c1
      have q0 : ((-1 : Int) != 0) = true := by decide
      have hv := hlt bm cn h
      refine Spec.run Tryz.func91 rfl Tryz.ntmps91 (by simp) (by simp only [go_sem, zn4]; rfl) fun B hB => ?_
      (repeat (first | (with_reducible refine oz (by constructor <;> decide) ?_) | ((apply SO.call); (iterate 3 (simp (disch := omega) only [go_sem, ↓reduceIte, zn1] <;> rfl)); (apply SCall.ofX); (assumption); (simp (disch := omega) only [go_sem] <;> rfl)) | ((with_reducible first | apply SC.condB | apply SC.region | apply SO.run); (simp (disch := omega) only [go_sem, ↓reduceIte, zn1, reduceCtorEq, q0] <;> rfl); (first | refine pickT ?_ | fail_if_success with_reducible refine pickA ?_)) | (with_reducible apply SC.ops)))
      refine retQ_ret Tryz.results91 (by simp only [go_sem, ↓reduceIte]; rfl) (by simp only [go_sem]; rfl) ?_
      rw [Int.sign_eq_neg_one_of_neg (by omega)]
    · have e1 : ((a.length : Int) - (b.length : Int)).sign = 1 := Int.sign_eq_one_of_pos (by omega)
      rw [e1] at c1
      have q0 : ((1 : Int) != 0) = true := by decide
      have hv := hlt bn cm h
      refine Spec.run Tryz.func91 rfl Tryz.ntmps91 (by simp) (by simp only [go_sem, zn4]; rfl) fun B hB => ?_
      (repeat (first | (with_reducible refine oz (by constructor <;> decide) ?_) | ((apply SO.call); (iterate 3 (simp (disch := omega) only [go_sem, ↓reduceIte, zn1] <;> rfl)); (apply SCall.ofX); (assumption); (simp (disch := omega) only [go_sem] <;> rfl)) | ((with_reducible first | apply SC.condB | apply SC.region | apply SO.run); (simp (disch := omega) only [go_sem, ↓reduceIte, zn1, reduceCtorEq, q0] <;> rfl); (first | refine pickT ?_ | fail_if_success with_reducible refine pickA ?_)) | (with_reducible apply SC.ops)))
      refine retQ_ret Tryz.results91 (by simp only [go_sem, ↓reduceIte]; rfl) (by simp only [go_sem]; rfl) ?_
      rw [Int.sign_eq_one_of_pos (by omega)]
theorem sign_cases (z : Int) : (z < 0 ∧ z.sign = -1) ∨ (z = 0 ∧ z.sign = 0) ∨ (0 < z ∧ z.sign = 1) := by
  rcases Int.lt_trichotomy z 0 with h | h | h
  · exact .inl ⟨h, Int.sign_eq_neg_one_of_neg h⟩
  · subst h; exact .inr (.inl ⟨rfl, rfl⟩)
  · exact .inr (.inr ⟨h, Int.sign_eq_one_of_pos h⟩)
theorem pcmp_i (x y : Int) (K : Nat) (hx : Fits K x) (hy : Fits K y) (hK : K ≤ 1000000000) : Spec Tryz.prog 83 [iv x, iv y] (.sc (.int .i64 (x - y).sign)) := by
  have lx := fits_len hx
  have ly := fits_len hy
  have c1 := psign_i x K hx hK
  have c2 := psign_i y K hy hK
  by_cases hs : x.sign = y.sign
  · have c3 := trim_n x.natAbs (by omega)
    have c4 := trim_n y.natAbs (by omega)
    have c5 := compare_n x.natAbs y.natAbs (by omega) (by omega)
    rw [← hs] at c2
    have q1 : (x.sign != x.sign) = false := by simp
    have A := sign_cases x
    have A' := sign_cases y
    have A2 := sign_cases (x - y)
    have A3 := sign_cases ((x.natAbs : Int) - (y.natAbs : Int))
    have hb : -1 ≤ x.sign ∧ x.sign ≤ 1 := by omega
    have hb2 : -1 ≤ (x - y).sign ∧ (x - y).sign ≤ 1 := by omega
    have e : x.sign * (((x.natAbs : Int) - (y.natAbs : Int)).sign) = (x - y).sign := by
      rcases A with ⟨h, g⟩ | ⟨h, g⟩ | ⟨h, g⟩ <;> rw [g] <;> omega
    clear A A' A2 A3
    generalize x.sign = s at *
    generalize (((x.natAbs : Int) - (y.natAbs : Int)).sign) = t at *
    generalize (x - y).sign = u at *
    unfold iv sv at *
    refine Spec.run Tryz.func83 rfl Tryz.ntmps83 (by simp) (by simp only [go_sem, zn4]; rfl) fun B hB => ?_
    (repeat (first | refine DO.nil (by kernel_rfl) ?_ | (with_reducible refine oz (by constructor <;> decide) ?_) | ((apply DO.call); (iterate 3 (simp (disch := omega) only [go_sem, ↓reduceIte, zn1] <;> rfl)); (apply DCall.ofX); (assumption); (simp (disch := omega) only [go_sem] <;> rfl)) | ((with_reducible first | apply SC.condB | apply SC.region | apply DO.run); (simp (disch := omega) only [go_sem, ↓reduceIte, zn1, zn2, zn3, zn4, reduceCtorEq, q1, e] <;> rfl); (first | refine pickF ?_ | fail_if_success with_reducible refine pickA ?_)) | ((with_reducible refine SC.draw Tab.mixed ?_ ?_); rfl)))
    exact retQ_ret Tryz.results83 (by simp (disch := omega) only [go_sem, ↓reduceIte]; rfl) (by simp (disch := omega) only [go_sem]; rfl) rfl
  · have c3 := cmpI_s x.sign y.sign
    have q1 : (x.sign != y.sign) = true := by simpa using hs
    have e : (x.sign - y.sign).sign = (x - y).sign := by
      have A := sign_cases x
      have A' := sign_cases y
      have A2 := sign_cases (x - y)
      have A3 := sign_cases (x.sign - y.sign)
      omega
    rw [e] at c3
    unfold iv sv at *
    refine Spec.run Tryz.func83 rfl Tryz.ntmps83 (by simp) (by simp only [go_sem, zn4]; rfl) fun B hB => ?_
    (repeat (first | refine DO.nil (by kernel_rfl) ?_ | (with_reducible refine oz (by constructor <;> decide) ?_) | ((first | apply SO.call | apply DO.call); (iterate 3 (simp (disch := omega) only [go_sem, ↓reduceIte, zn1] <;> rfl)); (first | apply SCall.ofX | apply DCall.ofX); (assumption); (simp (disch := omega) only [go_sem] <;> rfl)) | ((with_reducible first | apply wa | apply wb | apply wc | apply wd); (simp (disch := omega) only [go_sem, ↓reduceIte, zn1, zn3, zn4, reduceCtorEq, q1] <;> rfl); (first | refine pickT ?_ | fail_if_success with_reducible refine pickA ?_)) | ((with_reducible refine SC.draw Tab.mixed ?_ ?_); rfl) | (with_reducible apply SC.ops)))
    exact retQ_ret Tryz.results83 (by simp (disch := omega) only [go_sem, ↓reduceIte]; rfl) (by simp (disch := omega) only [go_sem]; rfl) rfl
end Go.Proofs.YtphilljhfdlfdaaGreat
namespace Go.Proofs.YtphilljhfdlfdaaGreat
open Go.RowKit
theorem lv_rep (n : Nat) : List.replicate n (.sc (.int .u32 0)) = lv (List.replicate n 0) := by simp [lv]
theorem lv_set {l : List Nat} {i x : Nat} {e : Int} (h : e = (x : Int)) : (lv l).set i (.sc (.int .u32 e)) = lv (l.set i x) := by subst h; simp [lv, List.map_set]
theorem sgn_mul (x y : Int) : sgn (decide (x < 0) != decide (y < 0)) (x.natAbs * y.natAbs) = x * y := by
  rcases Int.lt_or_le x 0 with hx | hx <;> rcases Int.lt_or_le y 0 with hy | hy
  · rw [decide_eq_true hx, decide_eq_true hy]
    obtain ⟨m, rfl⟩ : ∃ m : Nat, x = -m := ⟨x.natAbs, by omega⟩
    obtain ⟨n, rfl⟩ : ∃ n : Nat, y = -n := ⟨y.natAbs, by omega⟩
    simp [sgn, Int.neg_mul_neg]
  · rw [decide_eq_true hx, decide_eq_false (by omega)]
    obtain ⟨m, rfl⟩ : ∃ m : Nat, x = -m := ⟨x.natAbs, by omega⟩
    obtain ⟨n, rfl⟩ : ∃ n : Nat, y = n := ⟨y.natAbs, by omega⟩
    simp [sgn, Int.neg_mul]
  · rw [decide_eq_false (by omega), decide_eq_true hy]
    obtain ⟨m, rfl⟩ : ∃ m : Nat, x = m := ⟨x.natAbs, by omega⟩
    obtain ⟨n, rfl⟩ : ∃ n : Nat, y = -n := ⟨y.natAbs, by omega⟩
    simp [sgn, Int.mul_neg]
  · rw [decide_eq_false (by omega), decide_eq_false (by omega)]
    obtain ⟨m, rfl⟩ : ∃ m : Nat, x = m := ⟨x.natAbs, by omega⟩
    obtain ⟨n, rfl⟩ : ∃ n : Nat, y = n := ⟨y.natAbs, by omega⟩
    simp [sgn]
theorem mul_i (x y : Int) (K : Nat) (hx : Fits K x) (hy : Fits K y) (hK : K ≤ 400000000) : Spec Tryz.prog 98 [iv x, iv y] (iv (x * y)) := by
  have lx := fits_len hx
  have ly := fits_len hy
  obtain ⟨a, ea⟩ : ∃ a, a = limbsOf x.natAbs := ⟨_, rfl⟩
  obtain ⟨b, eb⟩ : ∃ b, b = limbsOf y.natAbs := ⟨_, rfl⟩
  have vx : val a = x.natAbs := by rw [ea]; exact limbsOf_val _
  have vy : val b = y.natAbs := by rw [eb]; exact limbsOf_val _
  have bx : limbs a := by rw [ea]; exact limbsOf_limbs _
  have bY : limbs b := by rw [eb]; exact limbsOf_limbs _
  rw [← ea] at lx
  rw [← eb] at ly
  unfold iv sv
  rw [← ea, ← eb]
  refine Spec.run Tryz.func98 rfl Tryz.ntmps98 (by simp) (by simp only [go_sem, zn4]; rfl) fun B hB => ?_
  obtain ⟨ax, hax⟩ : ∃ ax : Blk, ax = ⟨24, [.sc (.bool (decide (x < 0))), .im (lv a) a.length], false⟩ := ⟨_, rfl⟩
  have hN : ((a.length : Int) + (b.length : Int) + 1).toNat = a.length + b.length + 1 := by omega
  (repeat (first | (with_reducible refine oz (by constructor <;> decide) ?_) | ((with_reducible apply SC.region); (simp (disch := omega) only [go_sem, ↓reduceIte, zn1, zn4, reduceCtorEq, if_pos, hN]; rfl))))
  refine SC.loop (fun x' : Nat × List Nat => ⟨[(2, .pt 0 0), (3, .pt 1 0), (4, .pt 2 0), (5, .sl 3 0 (a.length + b.length + 1) 1 none), (6, .sc (.int .i64 x'.1))], [(3, ⟨87, lv x'.2, false⟩), (2, ⟨24, [.sc (.bool false), .sc (.slice none 0 0)], false⟩), (1, ⟨24, [.sc (.bool (decide (y < 0))), .im (lv b) b.length], false⟩), (0, ⟨24, [.sc (.bool (decide (x < 0))), .im (lv a) a.length], false⟩)], 4, 81⟩)
    (fun x' => x'.1 ≤ a.length ∧ mulInv a b x'.1 0 0 x'.2) (fun x' => a.length - x'.1) (0, List.replicate (a.length + b.length + 1) 0) ?_ ?_ ?_
  · (refine Le.of [] hB (by exact ⟨znc _, fun _ _ => znc _⟩) ?_ ?_ <;> (repeat' (first | exact leSl_nil | exact leHp_nil | refine leSl_cons (by simp only [go_sem, ↓reduceIte, zn1]; rfl) ?_ ?_ | refine leHp_cons (by simp only [go_sem, ↓reduceIte, zn1, reduceCtorEq]; rfl) ?_ ?_ | exact VLe.refl rfl | exact VLe.cap rfl (by rfl) | exact HLe.same rfl (LLe.refl rfl) | refine HLe.same rfl ?_ | refine LLe.cons ?_ ?_)))
    exact LLe.lv (lv_rep _)
  · exact ⟨znc _, by simp, limbs_replicate _, by simp [val, val_replicate]⟩
  · rintro ⟨i, z⟩ ⟨hi, hI⟩ K hK
    simp only at hi hI ⊢
    have hz : z.length = a.length + b.length + 1 := hI.1
    by_cases hA : i < a.length
    · have q1 := decide_eq_true (p := (i : Int) < a.length) (by omega)
      (repeat (first | (with_reducible refine SC.condB (by simp (disch := omega) only [go_sem, ↓reduceIte]; rfl) ?_; with_reducible refine pickT ?_) | (with_reducible refine oz (by constructor <;> decide) ?_) | ((with_reducible apply SC.region); (simp (disch := omega) only [go_sem, ↓reduceIte, zn1, reduceCtorEq, q1]; rfl))))
      refine SC.loop (fun x' : Nat × Nat × List Nat => ⟨[(2, .pt 0 0), (3, .pt 1 0), (4, .pt 2 0), (5, .sl 3 0 (a.length + b.length + 1) 1 none), (6, .sc (.int .i64 i)), (7, .sc (.int .u64 x'.2.1)), (8, .sc (.int .i64 x'.1))], [(3, ⟨87, lv x'.2.2, false⟩), (2, ⟨24, [.sc (.bool false), .sc (.slice none 0 0)], false⟩), (1, ⟨24, [.sc (.bool (decide (y < 0))), .im (lv b) b.length], false⟩), (0, ⟨24, [.sc (.bool (decide (x < 0))), .im (lv a) a.length], false⟩)], 4, 81⟩)
        (fun x' => x'.1 ≤ b.length + 1 ∧ x'.2.1 < 4294967296 ∧ mulInv a b i x'.1 x'.2.1 x'.2.2) (fun x' => b.length + 1 - x'.1) (0, 0, z) ?_ ?_ ?_
      · (refine Le.of [] hB (by exact ⟨znc _, fun _ _ => znc _⟩) ?_ ?_ <;> (repeat' (first | exact leSl_nil | exact leHp_nil | refine leSl_cons (by simp only [go_sem, ↓reduceIte, zn1]; rfl) ?_ ?_ | refine leHp_cons (by simp only [go_sem, ↓reduceIte, zn1, reduceCtorEq]; rfl) ?_ ?_ | exact VLe.refl rfl | exact HLe.same rfl (LLe.refl rfl) | refine HLe.same rfl ?_)))
        exact LLe.lv rfl
      · exact ⟨znc _, by simp only; omega, hI⟩
      · rintro ⟨k, c, z⟩ ⟨hk, hc, hI⟩ K' hK'
        simp only at hk hc hI ⊢
        have hz : z.length = a.length + b.length + 1 := hI.1
        have la := limbs_getD bx i
        have lb := limbs_getD bY k
        have lz := limbs_getD hI.2.1 (i + k)
        by_cases hend : k < b.length ∨ 0 < c
        · have hk1 : k ≤ b.length := by
            rcases Nat.lt_or_ge k (b.length + 1) with h | h
            · omega
            · have h1 : k = b.length + 1 := by omega
              subst h1
              have := hI.noCarry bx bY hA
              omega
          have hidx : ((i : Int) + (k : Int)).toNat = i + k := by omega
          have hst := hI.step (by omega) _ _ _ rfl rfl rfl
          have hzi : i + k < z.length := by omega
          have gz := lv_get hzi
          have ga := lv_get hA
          by_cases hB' : k < b.length
          · have q2 := decide_eq_true (p := (k : Int) < b.length) (by omega)
            have gb := lv_get hB'
            generalize a.getD i 0 = xa at *
            generalize b.getD k 0 = xb at *
            generalize z.getD (i + k) 0 = xz at *
            have hp : xa * xb ≤ 4294967295 * 4294967295 := Nat.mul_le_mul (by omega) (by omega)
            have hm : (xa : Int) * (xb : Int) = ((xa * xb : Nat) : Int) := by simp
            generalize xa * xb = pr at *
            (repeat (first | (with_reducible refine SC.condB (by simp (disch := omega) only [go_sem, ↓reduceIte]; rfl) ?_; with_reducible refine pickT ?_) | (with_reducible refine oz (by constructor <;> decide) ?_) | ((with_reducible apply SC.region); (simp (disch := omega) only [go_sem, ↓reduceIte, zn1, reduceCtorEq, if_pos, if_neg, q2, hidx, gz, lv_len]; rfl)) | (with_reducible refine SC.draw Tab.mixed rfl ?_; (repeat (refine DO.run (by simp (disch := omega) only [go_sem, ↓reduceIte, zn1, reduceCtorEq, if_pos, ga, gb, hm, lv_len, zl5]; rfl) ?_)); refine DO.nil (by kernel_rfl) ?_)))
            refine hK' _ (k + 1, (c + xz + pr) / 4294967296, z.set (i + k) ((c + xz + pr) % 4294967296)) ?_ ⟨by simp only; omega, by simp only; omega, hst⟩ (by simp only; omega)
            (refine Le.of [] hB (by exact ⟨znc _, fun _ _ => znc _⟩) ?_ ?_ <;> (repeat' (first | exact leSl_nil | exact leHp_nil | refine leSl_cons (by simp only [go_sem, ↓reduceIte, zn1]; rfl) ?_ ?_ | refine leHp_cons (by simp only [go_sem, ↓reduceIte, zn1, reduceCtorEq]; rfl) ?_ ?_ | exact VLe.refl rfl | exact HLe.same rfl (LLe.refl rfl) | refine HLe.same rfl ?_)))
            exact LLe.lv (lv_set (by omega))
          · have q2 := decide_eq_false (p := (k : Int) < b.length) (by omega)
            have q3 := decide_eq_true (p := (0 : Int) < c) (by omega)
            have hz0 := getD_ge (l := b) (k := k) hB'
            rw [hz0, Nat.mul_zero, Nat.add_zero] at hst
            generalize z.getD (i + k) 0 = xz at *
            (repeat (first | (with_reducible refine SC.condB (by simp (disch := omega) only [go_sem, ↓reduceIte]; rfl) ?_; first | with_reducible refine pickT ?_ | with_reducible refine pickF ?_) | (with_reducible refine oz (by constructor <;> decide) ?_) | ((with_reducible apply SC.region); (simp (disch := omega) only [go_sem, ↓reduceIte, zn1, reduceCtorEq, if_pos, if_neg, q2, q3, hidx, gz, lv_len]; rfl))))
            refine hK' _ (k + 1, (c + xz) / 4294967296, z.set (i + k) ((c + xz) % 4294967296)) ?_ ⟨by simp only; omega, by simp only; omega, hst⟩ (by simp only; omega)
            (refine Le.of [] hB (by exact ⟨znc _, fun _ _ => znc _⟩) ?_ ?_ <;> (repeat' (first | exact leSl_nil | exact leHp_nil | refine leSl_cons (by simp only [go_sem, ↓reduceIte, zn1]; rfl) ?_ ?_ | refine leHp_cons (by simp only [go_sem, ↓reduceIte, zn1, reduceCtorEq]; rfl) ?_ ?_ | exact VLe.refl rfl | exact HLe.same rfl (LLe.refl rfl) | refine HLe.same rfl ?_)))
            exact LLe.lv (lv_set (by omega))
        · have hc0 : c = 0 := by omega
          subst hc0
          have q2 := decide_eq_false (p := (k : Int) < b.length) (by omega)
          have q3 : decide ((0 : Int) < ((0 : Nat) : Int)) = false := by simp
          (repeat (first | (with_reducible refine SC.condB (by simp (disch := omega) only [go_sem, ↓reduceIte]; rfl) ?_; with_reducible refine pickF ?_) | (with_reducible refine oz (by constructor <;> decide) ?_) | ((with_reducible apply SC.region); (simp (disch := omega) only [go_sem, ↓reduceIte, zn1, reduceCtorEq, q2, q3]; rfl))))
          refine hK _ (i + 1, z) ?_ ⟨by simp only; omega, hI.row (by omega)⟩ (by simp only; omega)
          (refine Le.of [] hB (by exact ⟨znc _, fun _ _ => znc _⟩) ?_ ?_ <;> (repeat' (first | exact leSl_nil | exact leHp_nil | refine leSl_cons (by simp only [go_sem, ↓reduceIte, zn1]; rfl) ?_ ?_ | refine leHp_cons (by simp only [go_sem, ↓reduceIte, zn1, reduceCtorEq]; rfl) ?_ ?_ | exact VLe.refl rfl | exact HLe.same rfl (LLe.refl rfl) | refine HLe.same rfl ?_)))
          exact LLe.lv rfl
    · have q1 := decide_eq_false (p := (i : Int) < a.length) (by omega)
      have hd := hI.done (by omega)
      have c2 := made_i z (decide (x < 0) != decide (y < 0)) hI.2.1 (by omega)
      have e2 : sgn (decide (x < 0) != decide (y < 0)) (val z) = x * y := by
        rw [hd, vx, vy]; exact sgn_mul x y
      rw [e2] at c2
      unfold iv sv at c2
      rw [hz] at c2
      have ht : z.take (a.length + b.length + 1) = z := by rw [← hz]; exact List.take_length
      (repeat (first | (with_reducible refine oz (by constructor <;> decide) ?_) | ((apply SO.call); (iterate 3 (simp (disch := omega) only [go_sem, ↓reduceIte, zn1, zn2, if_pos, lv_len, lv_take, lv_clo, ht] <;> rfl)); (apply SCall.ofX); (assumption); (simp (disch := omega) only [go_sem, ↓reduceIte, zn7] <;> rfl)) | ((with_reducible first | apply SC.condB | apply SC.region | apply SO.run); (simp (disch := omega) only [go_sem, ↓reduceIte, zn1, zn2, zn3, zn4, reduceCtorEq, q1] <;> rfl); (first | refine pickF ?_ | fail_if_success with_reducible refine pickA ?_)) | (with_reducible apply SC.ops)))
      exact retQ_ret Tryz.results98 (by simp (disch := omega) only [go_sem, ↓reduceIte, zn1, zn3, zn4]; rfl) (by simp (disch := omega) only [go_sem, ↓reduceIte]; rfl) rfl
end Go.Proofs.YtphilljhfdlfdaaGreat
namespace Go.Proofs.YtphilljhfdlfdaaGreat
open Go.RowKit
theorem take_set_succ {l : List Nat} {k x : Nat} (h : k < l.length) : (l.set k x).take (k + 1) = l.take k ++ [x] := by
  rw [List.take_succ_eq_append_getElem (by simpa using h)]
  simp only [List.take_set, List.getElem_set_self]
  rw [List.set_eq_of_length_le (by simp; omega)]
theorem fd32 (n : Int) : n.fdiv (2 ^ min 32 64) = n / 4294967296 := by rw [show (2 : Int) ^ min 32 64 = 4294967296 by decide]; exact Int.fdiv_eq_ediv_of_nonneg _ (by omega)
theorem fd63 (n : Int) : n.fdiv (2 ^ min 63 64) = n / 9223372036854775808 := by rw [show (2 : Int) ^ min 63 64 = 9223372036854775808 by decide]; exact Int.fdiv_eq_ediv_of_nonneg _ (by omega)
end Go.Proofs.YtphilljhfdlfdaaGreat
namespace Go.Proofs.YtphilljhfdlfdaaGreat
open Go.RowKit
end Go.Proofs.YtphilljhfdlfdaaGreat
namespace Go.Proofs.YtphilljhfdlfdaaGreat
open Go.RowKit
end Go.Proofs.YtphilljhfdlfdaaGreat
namespace Go.Proofs.YtphilljhfdlfdaaGreat
open Go.RowKit
end Go.Proofs.YtphilljhfdlfdaaGreat
namespace Go.Proofs.YtphilljhfdlfdaaGreat
open Go.RowKit
def bl (x : Nat) : Nat := if x = 0 then 0 else x.log2 + 1
theorem bl_lt (x : Nat) : x < 2 ^ bl x := by
  unfold bl; split
  · omega
  · exact Nat.lt_log2_self
theorem bl_le {x : Nat} (h : x ≠ 0) : 2 ^ (bl x - 1) ≤ x ∧ 1 ≤ bl x := by
  unfold bl; rw [if_neg h]
  exact ⟨Nat.log2_self_le h, by omega⟩
theorem bl_eq {x L : Nat} (h1 : x < 2 ^ L) (h2 : 2 ^ (L - 1) ≤ x) (h3 : 1 ≤ L) : bl x = L := by
  have hx : x ≠ 0 := by have := Nat.pow_pos (a := 2) (n := L - 1) (by omega); omega
  obtain ⟨a, b⟩ := bl_le hx
  have c := bl_lt x
  have e1 : bl x - 1 < L := (Nat.pow_lt_pow_iff_right (a := 2) (by omega)).1 (by omega)
  have e2 : L - 1 < bl x := (Nat.pow_lt_pow_iff_right (a := 2) (by omega)).1 (by omega)
  omega
theorem bl_div {x k : Nat} (h : x / 2 ^ k ≠ 0) : bl x = bl (x / 2 ^ k) + k := by
  obtain ⟨a, b⟩ := bl_le h
  have c := bl_lt (x / 2 ^ k)
  generalize bl (x / 2 ^ k) = L at *
  refine bl_eq ?_ ?_ (by omega)
  · rw [Nat.pow_add]; exact (Nat.div_lt_iff_lt_mul (Nat.pow_pos (by omega))).1 c
  · rw [show L + k - 1 = (L - 1) + k by omega, Nat.pow_add]; exact (Nat.le_div_iff_mul_le (Nat.pow_pos (by omega))).1 a
theorem bl_le_of {x k : Nat} (h : x < 2 ^ k) : bl x ≤ k := by
  by_cases hx : x = 0
  · subst hx; unfold bl; simp
  · obtain ⟨a, b⟩ := bl_le hx
    have : bl x - 1 < k := (Nat.pow_lt_pow_iff_right (a := 2) (by omega)).1 (by omega)
    omega
def strIx (s : ByteArray) (n : Int) : Option V := if 0 ≤ n then (s[n.toNat]?).map fun b => .sc (.int .u8 b.toNat) else none
section
variable {P : Program}
@[go_sem] theorem exIndex_str (T : Nat) (s : ByteArray) (k : IntKind) (n : Int) : exIndex P T (.sc (.string s)) (.sc (.int k n)) = if isStr P T = true then strIx s n else none := by
  simp only [exIndex, strIx]
  by_cases h1 : isStr P T = true <;> by_cases h2 : 0 ≤ n <;> simp [h1, h2]
end
def tabOk (s : ByteArray) : Bool := (List.range 256).all fun y => match s[y]? with | some b => b.toNat == bl y | none => false
theorem strIx_tab {s : ByteArray} {y : Nat} (hy : y < 256) (h : tabOk s = true) : strIx s (y : Int) = some (.sc (.int .u8 (bl y : Nat))) := by
  have := List.all_eq_true.1 h y (List.mem_range.2 hy)
  unfold strIx
  rw [if_pos (by omega), Int.toNat_natCast]
  split at this
  · rename_i b hb
    rw [hb]
    have e : b.toNat = bl y := by simpa using this
    simp [e]
  · cases this
theorem mi16 : min 16 32 = 16 := rfl
theorem mi8 : min 8 32 = 8 := rfl
theorem mi32 : min 32 64 = 32 := rfl
set_option maxRecDepth 100000 in
theorem len32_s (x : Nat) (hx : x < 4294967296) : Spec Tryz.prog 110 [.sc (.int .u32 x)] (.sc (.int .i64 (bl x : Nat))) := by
  have d1 : (x : Int).fdiv 65536 = ((x / 65536 : Nat) : Int) := by rw [Int.fdiv_eq_ediv_of_nonneg _ (by omega)]; rfl
  have d2 : (x : Int).fdiv 256 = ((x / 256 : Nat) : Int) := by rw [Int.fdiv_eq_ediv_of_nonneg _ (by omega)]; rfl
  have d3 : ((x / 65536 : Nat) : Int).fdiv 256 = ((x / 65536 / 256 : Nat) : Int) := by rw [Int.fdiv_eq_ediv_of_nonneg _ (by omega)]; rfl
  have fin : ∀ (y k : Nat), y < 256 → bl y + k = bl x → k ≤ 24 → ((k : Int) + (bl y : Nat)) = (bl x : Nat) := fun y k _ h _ => by omega
  have hb : bl x ≤ 32 := bl_le_of (by omega)
  by_cases h1 : 65536 ≤ x
  · have q1 := decide_eq_true (p := (65536 : Int) ≤ (x : Int)) (by omega)
    by_cases h2 : 256 ≤ x / 65536
    · have q2 := decide_eq_true (p := (256 : Int) ≤ ((x / 65536 : Nat) : Int)) (by omega)
      have e1 := bl_div (x := x) (k := 16) (by omega)
      have e2 := bl_div (x := x / 65536) (k := 8) (by omega)
      have hy : x / 65536 / 256 < 256 := by omega
      simp only [Nat.reducePow] at e1 e2
      generalize x / 65536 / 256 = y at *
      have hby : bl y ≤ 8 := by omega
      refine Spec.run Tryz.func110 rfl Tryz.ntmps110 (by simp) (by simp only [go_sem]; rfl) fun B hB => ?_
      (repeat (first | (with_reducible refine SC.condB (by simp (disch := omega) only [go_sem, ↓reduceIte]; rfl) ?_; with_reducible refine pickT ?_) | (with_reducible refine oz (by constructor <;> decide) ?_) | ((with_reducible apply SC.region); (simp (disch := omega) only [go_sem, ↓reduceIte, zn1, reduceCtorEq, zi1, zi2, if_neg, q1, q2, d1, d3, mi16, mi8]; rfl))))
      refine SC.ops ?_
      (repeat (refine SO.run (by simp (disch := omega) only [go_sem, ↓reduceIte, reduceCtorEq]; rfl) ?_))
      refine SO.run (by simp (disch := omega) only [go_sem, ↓reduceIte]; rw [strIx_tab hy]; rotate_left; kernel_rfl; simp (disch := omega) only [go_sem]; rfl) ?_
      (repeat (refine SO.run (by simp (disch := omega) only [go_sem, ↓reduceIte, zn1, zn2]; rfl) ?_))
      (repeat ((with_reducible refine oz (by constructor <;> decide) ?_)))
      refine retQ_ret Tryz.results110 (by simp (disch := omega) only [go_sem, ↓reduceIte]; rfl) (by simp (disch := omega) only [go_sem]; rfl) ?_
      rw [e1, e2]; congr 2; omega
    · have q2 := decide_eq_false (p := (256 : Int) ≤ ((x / 65536 : Nat) : Int)) (by omega)
      have e1 := bl_div (x := x) (k := 16) (by omega)
      have hy : x / 65536 < 256 := by omega
      simp only [Nat.reducePow] at e1
      generalize x / 65536 = y at *
      refine Spec.run Tryz.func110 rfl Tryz.ntmps110 (by simp) (by simp only [go_sem]; rfl) fun B hB => ?_
      (repeat (first | (with_reducible refine SC.condB (by simp (disch := omega) only [go_sem, ↓reduceIte]; rfl) ?_; first | with_reducible refine pickT ?_ | with_reducible refine pickF ?_) | (with_reducible refine oz (by constructor <;> decide) ?_) | ((with_reducible apply SC.region); (simp (disch := omega) only [go_sem, ↓reduceIte, zn1, reduceCtorEq, zi1, zi2, if_neg, q1, q2, d1, mi16]; rfl))))
      refine SC.ops ?_
      (repeat (refine SO.run (by simp (disch := omega) only [go_sem, ↓reduceIte, zn1, reduceCtorEq]; rfl) ?_))
      refine SO.run (by simp (disch := omega) only [go_sem, ↓reduceIte]; rw [strIx_tab hy]; rotate_left; kernel_rfl; simp (disch := omega) only [go_sem]; rfl) ?_
      (repeat (refine SO.run (by simp (disch := omega) only [go_sem, ↓reduceIte, zn1, zn2]; rfl) ?_))
      (repeat ((with_reducible refine oz (by constructor <;> decide) ?_)))
      refine retQ_ret Tryz.results110 (by simp (disch := omega) only [go_sem, ↓reduceIte]; rfl) (by simp (disch := omega) only [go_sem]; rfl) ?_
      rw [e1]; congr 2; omega
  · have q1 := decide_eq_false (p := (65536 : Int) ≤ (x : Int)) (by omega)
    by_cases h2 : 256 ≤ x
    · have q2 := decide_eq_true (p := (256 : Int) ≤ (x : Int)) (by omega)
      have e1 := bl_div (x := x) (k := 8) (by omega)
      have hy : x / 256 < 256 := by omega
      simp only [Nat.reducePow] at e1
      generalize x / 256 = y at *
      refine Spec.run Tryz.func110 rfl Tryz.ntmps110 (by simp) (by simp only [go_sem]; rfl) fun B hB => ?_
      (repeat (first | (with_reducible refine SC.condB (by simp (disch := omega) only [go_sem, ↓reduceIte]; rfl) ?_; first | with_reducible refine pickT ?_ | with_reducible refine pickF ?_) | (with_reducible refine oz (by constructor <;> decide) ?_) | ((with_reducible apply SC.region); (simp (disch := omega) only [go_sem, ↓reduceIte, zn1, reduceCtorEq, zi1, zi2, if_neg, q1, q2, d2, mi8]; rfl))))
      refine SC.ops ?_
      (repeat (refine SO.run (by simp (disch := omega) only [go_sem, ↓reduceIte, reduceCtorEq]; rfl) ?_))
      refine SO.run (by simp (disch := omega) only [go_sem, ↓reduceIte]; rw [strIx_tab hy]; rotate_left; kernel_rfl; simp (disch := omega) only [go_sem]; rfl) ?_
      (repeat (refine SO.run (by simp (disch := omega) only [go_sem, ↓reduceIte, zn1, zn2]; rfl) ?_))
      (repeat ((with_reducible refine oz (by constructor <;> decide) ?_)))
      refine retQ_ret Tryz.results110 (by simp (disch := omega) only [go_sem, ↓reduceIte]; rfl) (by simp (disch := omega) only [go_sem]; rfl) ?_
      rw [e1]; congr 2; omega
    · have q2 := decide_eq_false (p := (256 : Int) ≤ (x : Int)) (by omega)
      have hy : x < 256 := by omega
      refine Spec.run Tryz.func110 rfl Tryz.ntmps110 (by simp) (by simp only [go_sem]; rfl) fun B hB => ?_
      (repeat (first | (with_reducible refine SC.condB (by simp (disch := omega) only [go_sem, ↓reduceIte]; rfl) ?_; with_reducible refine pickF ?_) | (with_reducible refine oz (by constructor <;> decide) ?_) | ((with_reducible apply SC.region); (simp (disch := omega) only [go_sem, ↓reduceIte, zn1, reduceCtorEq, q1, q2]; rfl))))
      refine SC.ops ?_
      (repeat (refine SO.run (by simp (disch := omega) only [go_sem, ↓reduceIte, zn1, reduceCtorEq]; rfl) ?_))
      refine SO.run (by simp (disch := omega) only [go_sem, ↓reduceIte]; rw [strIx_tab hy]; rotate_left; kernel_rfl; simp (disch := omega) only [go_sem]; rfl) ?_
      (repeat (refine SO.run (by simp (disch := omega) only [go_sem, ↓reduceIte, zn1, zn2]; rfl) ?_))
      (repeat ((with_reducible refine oz (by constructor <;> decide) ?_)))
      refine retQ_ret Tryz.results110 (by simp (disch := omega) only [go_sem, ↓reduceIte]; rfl) (by simp (disch := omega) only [go_sem]; rfl) ?_
      congr 2; omega
theorem lz32_s (x : Nat) (hx : x < 4294967296) : Spec Tryz.prog 106 [.sc (.int .u32 x)] (.sc (.int .i64 ((32 - bl x : Nat) : Int))) := by
  have hb : bl x ≤ 32 := bl_le_of (by omega)
  have c1 := len32_s x hx
  refine Spec.run Tryz.func106 rfl Tryz.ntmps106 (by simp) (by simp only [go_sem]; rfl) fun B hB => ?_
  (repeat (first | (with_reducible refine oz (by constructor <;> decide) ?_) | ((apply SO.call); (iterate 3 (simp (disch := omega) only [go_sem, ↓reduceIte] <;> rfl)); (apply SCall.ofX); (assumption); (simp (disch := omega) only [go_sem] <;> rfl)) | ((with_reducible first | apply SC.region | apply SO.run); (simp (disch := omega) only [go_sem, ↓reduceIte, zn2, reduceCtorEq] <;> rfl); (fail_if_success with_reducible refine pickA ?_)) | (with_reducible apply SC.ops)))
  refine retQ_ret Tryz.results106 (by simp (disch := omega) only [go_sem, ↓reduceIte]; rfl) (by simp (disch := omega) only [go_sem]; rfl) ?_
  congr 2; omega
theorem or_shift (c d s : Nat) (hc : c < 2 ^ s) (hw : c + d * 2 ^ s < 18446744073709551616) : bits BinOp.or IntKind.u64 (c : Int) ((d * 2 ^ s : Nat) : Int) = ((c + d * 2 ^ s : Nat) : Int) := by
  have h := u64_or_nat c (d * 2 ^ s) (by omega) (by omega)
  have e : c ||| d * 2 ^ s = c + d * 2 ^ s := by
    have := Nat.shiftLeft_add_eq_or_of_lt (b := c) (i := s) hc d
    rw [Nat.shiftLeft_eq, Nat.or_comm] at this
    omega
  rw [e] at h; exact h
theorem lv_sc (l : List Nat) : ∀ y ∈ lv l, ∃ v, y = .sc v := by
  intro y hy
  unfold lv at hy
  obtain ⟨n, _, rfl⟩ := List.mem_map.1 hy
  exact ⟨_, rfl⟩
section
variable {P : Program} {B : Base}
theorem retI_r {fn : Func} {x y : V} {sl : List (Nat × V)} {hp hp' : List (Nat × Blk)} {nx nx' nt : Nat} {rs : List ResultVar} (hr : fn.results = rs.toArray) (h1 : resG P ⟨sl, hp, nx, nt⟩ rs = some y) (h2 : Le B ⟨[(0, y)], hp, nx, 1⟩ ⟨[(0, x)], hp', nx', 1⟩) : retI P fn B x hp' nx' .ret ⟨sl, hp, nx, nt⟩ := retI_ret hr h1 h2
end
theorem shift_n (x : List Nat) (s : Nat) (hx : limbs x) (hs : s ≤ 31) (hm : x.length ≤ 400000000) : NewP Tryz.prog 107 [sv x, .sc (.int .i64 s)] ⟨87, lv (dg (x.length + 1) (val x * 2 ^ s)), false⟩ 0 (x.length + 1) 1 none := by
  refine NewP.of (by omega) (lv_sc _) ?_
  have hN : ((x.length : Int) + 1).toNat = x.length + 1 := by omega
  have hms : min s 64 = s := by omega
  have hp : 2 ^ s ≤ 2147483648 := by have := Nat.pow_le_pow_right (n := 2) (by omega) hs; omega
  unfold sv
  refine Inl.run Tryz.func107 rfl Tryz.ntmps107 (by simp) (by simp only [go_sem, zn4]; rfl) fun B hB => ?_
  (repeat (first | (with_reducible refine oz (by constructor <;> decide) ?_) | ((with_reducible apply SC.region); (simp (disch := omega) only [go_sem, ↓reduceIte, reduceCtorEq, if_pos, hN]; rfl))))
  refine SC.loop (fun u : Nat × Nat × List Nat => ⟨[(0, .im (lv x) x.length), (1, .sc (.int .i64 s)), (5, .sl 0 0 (x.length + 1) 1 none), (6, .sc (.int .u64 u.2.1)), (13, .im (lv x) x.length), (14, .sc (.int .i64 x.length)), (15, .sc (.int .i64 u.1))], [(0, ⟨87, lv u.2.2, false⟩)], 1, 41⟩)
    (fun u => u.1 ≤ x.length ∧ shiftInv x (2 ^ s) u.1 u.2.1 u.2.2) (fun u => x.length - u.1) (0, 0, List.replicate (x.length + 1) 0) ?_ ?_ ?_
  · (refine Le.of [] hB (by exact ⟨znc _, fun _ _ => znc _⟩) ?_ ?_ <;> (repeat' (first | exact leSl_nil | exact leHp_nil | refine leSl_cons (by simp only [go_sem, ↓reduceIte, zn1, reduceCtorEq]; rfl) ?_ ?_ | refine leHp_cons (by simp only [go_sem, ↓reduceIte]; rfl) ?_ ?_ | exact VLe.refl rfl | exact VLe.cap rfl (by rfl) | refine HLe.same rfl ?_ | refine LLe.cons ?_ ?_)))
    exact LLe.lv (lv_rep _)
  · exact ⟨znc _, by simp, limbs_replicate _, Nat.pow_pos (by omega), by simp [val]⟩
  · rintro ⟨k, c, z⟩ ⟨hk, hI⟩ K hK
    simp only at hk hI ⊢
    have hI' := hI
    obtain ⟨hzl, hz, hc, _⟩ := hI'
    by_cases hlt : k < x.length
    · have q1 := decide_eq_true (p := (k : Int) < (x.length : Int)) (by omega)
      have hg := lv_get hlt
      have hd := limbs_getD hx k
      have hst := fun w hw => hI.step (w := w) hlt rfl hd hw (by omega)
      generalize x.getD k 0 = d at *
      have hs1 := hst (c + d * 2 ^ s) rfl
      have e1 : (d : Int) * 2 ^ s = ((d * 2 ^ s : Nat) : Int) := by simp
      have e2 := or_shift c d s hc (by omega)
      have hb : d * 2 ^ s < 18446744073709551616 := by omega
      generalize c + d * 2 ^ s = w at *
      generalize d * 2 ^ s = m at *
      (repeat (first | (with_reducible refine SC.condB (by simp (disch := omega) only [go_sem, ↓reduceIte]; rfl) ?_; with_reducible refine pickT ?_) | (with_reducible refine oz (by constructor <;> decide) ?_) | ((with_reducible apply SC.region); (simp (disch := omega) only [go_sem, ↓reduceIte, zn1, reduceCtorEq, zi1, if_pos, if_neg, q1, hms, e1, e2, hg, fd32, lv_len, zl5]; rfl))))
      refine hK _ (k + 1, w / 4294967296, z.set k (w % 4294967296)) ?_ ⟨by simp only; omega, hs1.1⟩ (by simp only; omega)
      (refine Le.of [] hB (by exact ⟨znc _, fun _ _ => znc _⟩) ?_ ?_ <;> (repeat' (first | exact leSl_nil | exact leHp_nil | refine leSl_cons (by simp only [go_sem, ↓reduceIte, zn1, reduceCtorEq]; rfl) ?_ ?_ | refine leHp_cons (by simp only [go_sem, ↓reduceIte]; rfl) ?_ ?_ | exact VLe.refl rfl | refine HLe.same rfl ?_)))
      exact LLe.lv (lv_set (by omega))
    · have hkn : k = x.length := by omega
      subst hkn
      have q1 := decide_eq_false (p := ((x.length : Nat) : Int) < (x.length : Int)) (by omega)
      have hd := hI.done
      have hc2 : c < 4294967296 := by omega
      have he := dg_eq (limbs_set hz x.length (x := c) hc2)
      rw [hd, List.length_set, hzl] at he
      have hls : (lv z).set x.length (.sc (.int .u32 (c : Int))) = lv (z.set x.length c) := lv_set rfl
      (repeat (first | (with_reducible refine SC.condB (by simp (disch := omega) only [go_sem, ↓reduceIte]; rfl) ?_; with_reducible refine pickF ?_) | (with_reducible refine oz (by constructor <;> decide) ?_) | ((with_reducible apply SC.region); (simp (disch := omega) only [go_sem, ↓reduceIte, zn1, zn2, reduceCtorEq, if_pos, q1, hls, lv_len]; rfl))))
      refine retI_r Tryz.results107 (by simp (disch := omega) only [go_sem, ↓reduceIte]; rfl) ?_
      rw [he]
      (refine Le.of [] hB (by exact ⟨znc _, fun _ _ => znc _⟩) ?_ ?_ <;> (repeat' (first | exact leSl_nil | exact leHp_nil | refine leSl_cons (by simp only [go_sem, ↓reduceIte]; rfl) ?_ ?_ | refine leHp_cons (by simp only [go_sem, ↓reduceIte]; rfl) ?_ ?_ | exact VLe.refl rfl | refine HLe.same rfl ?_)))
      exact LLe.lv rfl
end Go.Proofs.YtphilljhfdlfdaaGreat
namespace Go.Proofs.YtphilljhfdlfdaaGreat
open Go.RowKit
def seg (U : List Nat) (j : Nat) (z : List Nat) : List Nat := U.take j ++ (z ++ U.drop (j + z.length))
section
variable {U z : List Nat} {i j x : Nat}
theorem seg_len (h : j + z.length ≤ U.length) : (seg U j z).length = U.length := by unfold seg; simp; omega
theorem seg_get (h : j + z.length ≤ U.length) (hi : i < z.length) : (lv (seg U j z))[j + i]? = some (.sc (.int .u32 (z.getD i 0 : Nat))) := by
  have e : (seg U j z).getD (j + i) 0 = z.getD i 0 := by
    unfold seg
    rw [List.getD_eq_getElem?_getD, List.getD_eq_getElem?_getD, List.getElem?_append_right (by simp; omega), List.length_take, Nat.min_eq_left (by omega), znd, List.getElem?_append_left hi]
  rw [lv_get (by rw [seg_len h]; omega), e]
theorem seg_set (h : j + z.length ≤ U.length) (hi : i < z.length) {n : Int} (hn : n = (x : Int)) : (lv (seg U j z)).set (j + i) (.sc (.int .u32 n)) = lv (seg U j (z.set i x)) := by
  subst hn
  have e : (seg U j z).set (j + i) x = seg U j (z.set i x) := by
    unfold seg
    rw [List.set_append_right _ _ (by simp; omega), List.length_take, Nat.min_eq_left (by omega), znd, List.set_append_left _ _ hi, List.length_set]
  rw [← e]; exact lv_set rfl
theorem seg_self {m : Nat} (h : j + m ≤ U.length) : seg U j ((U.drop j).take m) = U := by
  unfold seg
  rw [show j + ((U.drop j).take m).length = j + m by simp; omega, ← List.drop_drop]
  rw [List.take_append_drop, List.take_append_drop]
end
theorem or_up (r u : Nat) (hr : r < 4294967296) (hu : u < 4294967296) : bits BinOp.or IntKind.u64 ((r : Int) * 4294967296) (u : Int) = ((r * 4294967296 + u : Nat) : Int) := by
  have h := u64_or_nat (r * 4294967296) u (by omega) (by omega)
  have e : r * 4294967296 ||| u = r * 4294967296 + u := by
    have := Nat.shiftLeft_add_eq_or_of_lt (b := u) (i := 32) (by omega) r
    rw [Nat.shiftLeft_eq] at this
    exact this.symm
  rw [e] at h
  rw [← h]; simp
theorem SC.meet {P : Program} {B : Base} {α : Type} (I : α → SS) (Inv : α → Prop) {id : Nat} {c0 : Code} {C cs : List Code} {Q : Exit → SS → Prop} {s : SS} (h : ∀ K : SS → Prop, (∀ s' z, Le B s' (I z) → Inv z → K s') → SC P B C (blockQ id (thenQ K Q)) s) (k : ∀ z, Inv z → SC P B (c0 :: cs) Q (I z)) : SC P B C (blockQ id (thenQ (SC P B (c0 :: cs) Q) Q)) s :=
  h (SC P B (c0 :: cs) Q) (fun _ z a b => SC.weak (by simp) a (k z b))
theorem getD_take {l : List Nat} {m i : Nat} (h : i < m) : (l.take m).getD i 0 = l.getD i 0 := by
  rw [List.getD_eq_getElem?_getD, List.getD_eq_getElem?_getD, List.getElem?_take, if_pos h]
set_option maxHeartbeats 4000000 in
theorem digit_i (U V : List Nat) (j n : Nat) (hU : limbs U) (hV : limbs V) (hn : 2 ≤ n) (hnV : n ≤ V.length) (hj : j + n + 1 ≤ U.length) (hm : U.length ≤ 800000000)
    (htop : 2147483648 ≤ V.getD (n - 1) 0) (hlt : val ((U.drop j).take (n + 1)) < 4294967296 * val (V.take n)) :
    Inl Tryz.prog 108 [.sl 0 j (n + 1) 1 none, .sl 1 0 n 1 (some n)] [(0, ⟨87, lv U, false⟩), (1, ⟨87, lv V, false⟩)] 3
      (.sc (.int .u32 (val ((U.drop j).take (n + 1)) / val (V.take n) : Nat))) [(0, ⟨87, lv (seg U j (dg (n + 1) (val ((U.drop j).take (n + 1)) % val (V.take n)))), false⟩), (1, ⟨87, lv V, false⟩)] 3 := by
  obtain ⟨k, rfl⟩ : ∃ k, n = k + 2 := ⟨n - 2, by omega⟩
  rw [show k + 2 - 1 = k + 1 by omega] at htop
  have hul : ((U.drop j).take (k + 2 + 1)).length = k + 3 := by simp; omega
  have hvl : (V.take (k + 2)).length = k + 2 := by simp; omega
  have lu := limbs_take (limbs_drop hU j) (k + 2 + 1)
  have lw := limbs_take hV (k + 2)
  have hseg := seg_self (U := U) (j := j) (m := k + 2 + 1) (by omega)
  have hvg : ∀ i, i < k + 2 → (V.take (k + 2)).getD i 0 = V.getD i 0 := fun i hi => getD_take hi
  have wg : ∀ i, i < k + 2 → (lv V)[i]? = some (.sc (.int .u32 (V.getD i 0 : Nat))) := fun i hi => lv_get (by omega)
  generalize (U.drop j).take (k + 2 + 1) = u at *
  generalize V.take (k + 2) = v at *
  have g0 := seg_get (U := U) (z := u) (j := j) (i := k) (by omega) (by omega)
  have g1 := seg_get (U := U) (z := u) (j := j) (i := k + 1) (by omega) (by omega)
  have g2 := seg_get (U := U) (z := u) (j := j) (i := k + 2) (by omega) (by omega)
  rw [hseg] at g0 g1 g2
  have w0 := wg k (by omega)
  have w1 := wg (k + 1) (by omega)
  have i1 : (((k + 2 : Nat) : Int) - 1).toNat = k + 1 := by omega
  have i2 : (((k + 2 : Nat) : Int) - 2).toNat = k := by omega
  have tu := val_top3 (u := u) (k := k) hul
  have tv := val_top2 (v := v) (k := k) hvl
  rw [hvg _ (by omega), hvg _ (by omega)] at tv
  have b0 := limbs_getD lu (k + 2)
  have b1 := limbs_getD lu (k + 1)
  have b2 := limbs_getD lu k
  have c1 := limbs_getD hV (k + 1)
  have c2 := limbs_getD hV k
  have bul := val_lt (limbs_take lu k)
  have bvl := val_lt (limbs_take lw k)
  rw [List.length_take, Nat.min_eq_left (by omega)] at bul bvl
  have hM : 0 < 4294967296 ^ k := Nat.pow_pos (by omega)
  generalize hu0 : u.getD (k + 2) 0 = u0 at *
  generalize hu1 : u.getD (k + 1) 0 = u1 at *
  generalize hu2 : u.getD k 0 = u2 at *
  generalize hv1 : V.getD (k + 1) 0 = v1 at *
  generalize hv2 : V.getD k 0 = v2 at *
  generalize val (u.take k) = ul at *
  generalize val (v.take k) = vl at *
  generalize hMM : 4294967296 ^ k = M at *
  have hul' := hlt
  rw [tu, tv] at hul'
  have hu01 := top_le hM hul' bvl c2
  have hV0 : 0 < val v := by
    rw [tv]; unfold VV
    have := Nat.mul_le_mul_right M (show 1 ≤ v1 * 4294967296 + v2 by omega)
    omega
  have hQ := Nat.div_mul_le_self (val u) (val v)
  have hQlt : val u / val v < 4294967296 := Nat.div_lt_of_lt_mul (by rw [Nat.mul_comm]; exact hlt)
  generalize hQQ : val u / val v = Q at *
  rw [tu, tv] at hQ
  have hq0 := guess_over (u0 := u0) (u1 := u1) bul hM (by omega) b1 b2 hQ
  have hq1 := guess_first hu01 b1 htop
  have hqr := Nat.div_add_mod (u0 * 4294967296 + u1) v1
  have hr0 := Nat.mod_lt (u0 * 4294967296 + u1) (show 0 < v1 by omega)
  rw [Nat.mul_comm] at hqr
  generalize hA : (u0 * 4294967296 + u1) / v1 = q0 at *
  generalize hB0 : (u0 * 4294967296 + u1) % v1 = r0 at *
  have e1 := or_up u0 u1 b0 b1
  have e2 : ((u0 * 4294967296 + u1 : Nat) : Int).tdiv (v1 : Int) = (q0 : Nat) := by rw [← hA]; exact (Int.ofNat_tdiv _ _).symm
  have e3 : ((u0 * 4294967296 + u1 : Nat) : Int).tmod (v1 : Int) = (r0 : Nat) := by rw [← hB0]; exact (Int.ofNat_tmod _ _).symm
  refine Inl.run Tryz.func108 rfl Tryz.ntmps108 (by simp) (by simp only [go_sem, zn4]; rfl) fun B hB => ?_
  (repeat (first | (with_reducible refine oz (by constructor <;> decide) ?_) | ((with_reducible apply SC.region); (simp (disch := omega) only [go_sem, ↓reduceIte, zn1, reduceCtorEq, if_pos, i1, w1]; rfl)) | (with_reducible refine SC.draw Tab.mixed rfl ?_; (repeat (refine DO.run (by simp (disch := omega) only [go_sem, ↓reduceIte, zn1, reduceCtorEq, zi1, zi2, if_pos, if_neg, i1, g1, g2, e1, e2, e3, mi32]; rfl) ?_)); refine DO.nil (by kernel_rfl) ?_)))
  refine SC.meet (fun y : Nat => ⟨[(0, .sl 0 j (k + 2 + 1) 1 none), (1, .sl 1 0 (k + 2) 1 (some (k + 2))), (5, .sc (.int .i64 ((k + 2 : Nat) : Int))), (8, .sc (.int .u64 y))], [(0, ⟨87, lv U, false⟩), (1, ⟨87, lv V, false⟩)], 3, 162⟩)
    (fun y => y < 4294967296 ∧ Q ≤ y ∧ y * val v < val u + val v) ?_ ?_
  · intro K0 hK0
    refine SC.loop (fun y : Nat × Nat => ⟨[(0, .sl 0 j (k + 2 + 1) 1 none), (1, .sl 1 0 (k + 2) 1 (some (k + 2))), (5, .sc (.int .i64 ((k + 2 : Nat) : Int))), (6, .sc (.int .u64 v1)), (8, .sc (.int .u64 y.1)), (9, .sc (.int .u64 y.2))], [(0, ⟨87, lv U, false⟩), (1, ⟨87, lv V, false⟩)], 3, 162⟩)
      (fun y => y.1 * v1 + y.2 = u0 * 4294967296 + u1 ∧ y.2 < 4294967296 ∧ Q ≤ y.1 ∧ y.1 ≤ 4294967297) (fun y => y.1) (q0, r0) ?_ ?_ ?_
    · (refine Le.of [] hB (by (constructor <;> (try simp) <;> (try omega))) ?_ ?_ <;> (repeat' (first | exact leSl_nil | exact leHp_nil | refine leSl_cons (by simp only [go_sem, ↓reduceIte, zn1, reduceCtorEq]; rfl) ?_ ?_ | refine leHp_cons (by simp only [go_sem, ↓reduceIte, reduceCtorEq]; rfl) ?_ ?_ | exact VLe.refl rfl | refine HLe.same rfl ?_)))
      all_goals exact LLe.lv rfl
    · exact ⟨hqr, by simp only; omega, hq0, hq1⟩
    · rintro ⟨q, r⟩ ⟨h1, h2, h3, h4⟩ K hK
      simp only at h1 h2 h3 h4 ⊢
      have hgd := fun ht => guess_down (q := q) (r := r) (Q := Q) bul h1 hQ hQlt h3 ht
      have hge := fun hb ht => guess_end (q := q) (r := r) (u2 := u2) (v2 := v2) (ul := ul) hM bvl (by omega) h1 hb ht
      have hbr := fun hr => guess_break (r := r) hu01 b1 (by omega) h1 hr
      have hnx : 1 ≤ q → (q - 1) * v1 + (r + v1) = u0 * 4294967296 + u1 := fun h => by
        obtain ⟨p, rfl⟩ : ∃ p, q = p + 1 := ⟨q - 1, by omega⟩
        rw [Nat.add_sub_cancel, ← h1, Nat.add_mul]; omega
      have hend : ∀ q r : Nat, 4294967296 ≤ r → q * v1 + r = u0 * 4294967296 + u1 → Q ≤ q → q < 4294967296 ∧ Q ≤ q ∧ q * val v < val u + val v := fun q r hr h1 h3 => by
        have hb := guess_break (r := r) hu01 b1 (by omega) h1 hr
        refine ⟨hb, h3, ?_⟩
        rw [tu, tv]
        have hp : q * v2 ≤ 4294967295 * 4294967295 := Nat.mul_le_mul (by omega) (by omega)
        exact guess_end (q := q) (r := r) (u2 := u2) (v2 := v2) (ul := ul) hM bvl (by omega) h1 hb (by omega)
      by_cases hbig : 4294967295 < q
      · have q1 := decide_eq_true (p := (4294967295 : Int) < (q : Int)) (by omega)
        obtain ⟨a1, a2⟩ := hgd (.inl hbig)
        have hn := hnx a2
        by_cases hr : 4294967295 < r + v1
        · have q2 := decide_eq_true (p := (4294967295 : Int) < (r : Int) + (v1 : Int)) (by omega)
          (repeat (first | (with_reducible refine SC.condB (by simp (disch := omega) only [go_sem, ↓reduceIte]; rfl) ?_; with_reducible refine pickT ?_) | (with_reducible refine oz (by constructor <;> decide) ?_) | ((with_reducible apply SC.region); (simp (disch := omega) only [go_sem, ↓reduceIte, zn1, reduceCtorEq, q2]; rfl)) | (with_reducible refine SC.draw Tab.mixed rfl ?_; (repeat (refine DO.run (by simp (disch := omega) only [go_sem, ↓reduceIte, zn1, reduceCtorEq, q1]; rfl) ?_)); refine DO.nil (by kernel_rfl) ?_)))
          refine hK0 _ (q - 1) ?_ ?_
          · (refine Le.of [] hB (by (constructor <;> (try simp) <;> (try omega))) ?_ ?_ <;> (repeat' (first | exact leSl_nil | exact leHp_nil | refine leSl_cons (by simp only [go_sem, ↓reduceIte, zn1, reduceCtorEq]; rfl) ?_ ?_ | refine leHp_cons (by simp only [go_sem, ↓reduceIte, reduceCtorEq]; rfl) ?_ ?_ | exact VLe.refl rfl | exact VLe.int (by first | rfl | omega) | refine HLe.same rfl ?_)))
            all_goals exact LLe.lv rfl
          · exact hend (q - 1) (r + v1) (by omega) hn a1
        · have q2 := decide_eq_false (p := (4294967295 : Int) < (r : Int) + (v1 : Int)) (by omega)
          (repeat (first | (with_reducible refine SC.condB (by simp (disch := omega) only [go_sem, ↓reduceIte]; rfl) ?_; first | with_reducible refine pickT ?_ | with_reducible refine pickF ?_) | (with_reducible refine oz (by constructor <;> decide) ?_) | ((with_reducible apply SC.region); (simp (disch := omega) only [go_sem, ↓reduceIte, zn1, reduceCtorEq, q2]; rfl)) | (with_reducible refine SC.draw Tab.mixed rfl ?_; (repeat (refine DO.run (by simp (disch := omega) only [go_sem, ↓reduceIte, zn1, reduceCtorEq, q1]; rfl) ?_)); refine DO.nil (by kernel_rfl) ?_)))
          refine hK _ (q - 1, r + v1) ?_ ⟨hn, by simp only; omega, a1, by simp only; omega⟩ (by simp only; omega)
          (refine Le.of [] hB (by (constructor <;> (try simp) <;> (try omega))) ?_ ?_ <;> (repeat' (first | exact leSl_nil | exact leHp_nil | refine leSl_cons (by simp only [go_sem, ↓reduceIte, zn1, reduceCtorEq]; rfl) ?_ ?_ | refine leHp_cons (by simp only [go_sem, ↓reduceIte, reduceCtorEq]; rfl) ?_ ?_ | exact VLe.refl rfl | exact VLe.int (by first | rfl | omega) | refine HLe.same rfl ?_)))
          all_goals exact LLe.lv rfl
      · have q1 := decide_eq_false (p := (4294967295 : Int) < (q : Int)) (by omega)
        have hp : q * v2 ≤ 4294967295 * 4294967295 := Nat.mul_le_mul (by omega) (by omega)
        have hm' : (q : Int) * (v2 : Int) = ((q * v2 : Nat) : Int) := by simp
        have hor := or_up r u2 h2 b2
        by_cases ht : r * 4294967296 + u2 < q * v2
        · obtain ⟨a1, a2⟩ := hgd (.inr ht)
          have hn := hnx a2
          generalize q * v2 = p at *
          have q3 := decide_eq_true (p := ((r * 4294967296 + u2 : Nat) : Int) < (p : Int)) (by omega)
          by_cases hr : 4294967295 < r + v1
          · have q2 := decide_eq_true (p := (4294967295 : Int) < (r : Int) + (v1 : Int)) (by omega)
            (repeat (first | (with_reducible refine SC.condB (by simp (disch := omega) only [go_sem, ↓reduceIte]; rfl) ?_; with_reducible refine pickT ?_) | (with_reducible refine oz (by constructor <;> decide) ?_) | ((with_reducible apply SC.region); (simp (disch := omega) only [go_sem, ↓reduceIte, zn1, reduceCtorEq, q2]; rfl)) | (with_reducible refine SC.draw Tab.mixed rfl ?_; (repeat (refine DO.run (by simp (disch := omega) only [go_sem, ↓reduceIte, zn1, reduceCtorEq, zi1, zi2, if_pos, if_neg, q1, q3, hm', hor, i2, g0, w0, mi32]; rfl) ?_)); refine DO.nil (by kernel_rfl) ?_)))
            refine hK0 _ (q - 1) ?_ ?_
            · (refine Le.of [] hB (by (constructor <;> (try simp) <;> (try omega))) ?_ ?_ <;> (repeat' (first | exact leSl_nil | exact leHp_nil | refine leSl_cons (by simp only [go_sem, ↓reduceIte, zn1, reduceCtorEq]; rfl) ?_ ?_ | refine leHp_cons (by simp only [go_sem, ↓reduceIte, reduceCtorEq]; rfl) ?_ ?_ | exact VLe.refl rfl | exact VLe.int (by first | rfl | omega) | refine HLe.same rfl ?_)))
              all_goals exact LLe.lv rfl
            · exact hend (q - 1) (r + v1) (by omega) hn a1
          · have q2 := decide_eq_false (p := (4294967295 : Int) < (r : Int) + (v1 : Int)) (by omega)
            (repeat (first | (with_reducible refine SC.condB (by simp (disch := omega) only [go_sem, ↓reduceIte]; rfl) ?_; first | with_reducible refine pickT ?_ | with_reducible refine pickF ?_) | (with_reducible refine oz (by constructor <;> decide) ?_) | ((with_reducible apply SC.region); (simp (disch := omega) only [go_sem, ↓reduceIte, zn1, reduceCtorEq, q2]; rfl)) | (with_reducible refine SC.draw Tab.mixed rfl ?_; (repeat (refine DO.run (by simp (disch := omega) only [go_sem, ↓reduceIte, zn1, reduceCtorEq, zi1, zi2, if_pos, if_neg, q1, q3, hm', hor, i2, g0, w0, mi32]; rfl) ?_)); refine DO.nil (by kernel_rfl) ?_)))
            refine hK _ (q - 1, r + v1) ?_ ⟨hn, by simp only; omega, a1, by simp only; omega⟩ (by simp only; omega)
            (refine Le.of [] hB (by (constructor <;> (try simp) <;> (try omega))) ?_ ?_ <;> (repeat' (first | exact leSl_nil | exact leHp_nil | refine leSl_cons (by simp only [go_sem, ↓reduceIte, zn1, reduceCtorEq]; rfl) ?_ ?_ | refine leHp_cons (by simp only [go_sem, ↓reduceIte, reduceCtorEq]; rfl) ?_ ?_ | exact VLe.refl rfl | exact VLe.int (by first | rfl | omega) | refine HLe.same rfl ?_)))
            all_goals exact LLe.lv rfl
        · have hfin := hge (by omega) (by omega)
          generalize q * v2 = p at *
          have q3 := decide_eq_false (p := ((r * 4294967296 + u2 : Nat) : Int) < (p : Int)) (by omega)
          (repeat (first | (with_reducible refine SC.condB (by simp (disch := omega) only [go_sem, ↓reduceIte]; rfl) ?_; with_reducible refine pickF ?_) | (with_reducible refine oz (by constructor <;> decide) ?_) | (with_reducible refine SC.draw Tab.mixed rfl ?_; (repeat (refine DO.run (by simp (disch := omega) only [go_sem, ↓reduceIte, zn1, reduceCtorEq, zi1, zi2, if_pos, if_neg, q1, q3, hm', hor, i2, g0, w0, mi32]; rfl) ?_)); refine DO.nil (by kernel_rfl) ?_)))
          refine hK0 _ q ?_ ⟨by omega, h3, by rw [tu, tv]; exact hfin⟩
          (refine Le.of [] hB (by (constructor <;> (try simp) <;> (try omega))) ?_ ?_ <;> (repeat' (first | exact leSl_nil | exact leHp_nil | refine leSl_cons (by simp only [go_sem, ↓reduceIte, zn1, reduceCtorEq]; rfl) ?_ ?_ | refine leHp_cons (by simp only [go_sem, ↓reduceIte, reduceCtorEq]; rfl) ?_ ?_ | exact VLe.refl rfl | refine HLe.same rfl ?_)))
          all_goals exact LLe.lv rfl
  · rintro q ⟨hqb, hq2, hq3⟩
    (repeat (first | (with_reducible refine oz (by constructor <;> decide) ?_) | ((with_reducible apply SC.region); (simp (disch := omega) only [go_sem, ↓reduceIte, zn1, reduceCtorEq]; rfl))))
    have hmask : ∀ w : Nat, w < 18446744073709551616 → bits BinOp.and IntKind.u64 (w : Int) 4294967295 = ((w % 4294967296 : Nat) : Int) := fun w hw => by
      have h := u64_and_nat w 4294967295 hw (by omega)
      have e : w &&& 4294967295 = w % 4294967296 := Nat.and_two_pow_sub_one_eq_mod w 32
      rw [e] at h; exact h
    refine SC.loop (fun y : Nat × Nat × Nat × List Nat => ⟨[(0, .sl 0 j (k + 2 + 1) 1 none), (1, .sl 1 0 (k + 2) 1 (some (k + 2))), (5, .sc (.int .i64 ((k + 2 : Nat) : Int))), (8, .sc (.int .u64 q)), (10, .sc (.int .u64 y.2.1)), (11, .sc (.int .u64 y.2.2.1)), (74, .sl 1 0 (k + 2) 1 (some (k + 2))), (75, .sc (.int .i64 ((k + 2 : Nat) : Int))), (76, .sc (.int .i64 y.1))], [(0, ⟨87, lv (seg U j y.2.2.2), false⟩), (1, ⟨87, lv V, false⟩)], 3, 162⟩)
      (fun y => y.1 ≤ k + 2 ∧ msInv u v q y.1 y.2.1 y.2.2.1 y.2.2.2) (fun y => k + 2 - y.1) (0, 0, 0, u) ?_ ?_ ?_
    · rw [hseg]
      (refine Le.of [] hB (by (constructor <;> (try simp) <;> (try omega))) ?_ ?_ <;> (repeat' (first | exact leSl_nil | exact leHp_nil | refine leSl_cons (by simp only [go_sem, ↓reduceIte, zn1, reduceCtorEq]; rfl) ?_ ?_ | refine leHp_cons (by simp only [go_sem, ↓reduceIte, reduceCtorEq]; rfl) ?_ ?_ | exact VLe.refl rfl | refine HLe.same rfl ?_)))
      all_goals exact LLe.lv rfl
    · exact ⟨znc _, rfl, lu, by simp only; omega, by simp only; omega, rfl, by simp [val]⟩
    · rintro ⟨i, br, c, z⟩ ⟨hi, hI⟩ K hK
      simp only at hi hI ⊢
      have hI' := hI
      obtain ⟨hzl, hz, hbr, hc, hdr, _⟩ := hI'
      have hzu := getD_of_drop hdr
      by_cases hlti : i < k + 2
      · have q1 := decide_eq_true (p := (i : Int) < ((k + 2 : Nat) : Int)) (by omega)
        have wi := wg i hlti
        have hei := hvg i hlti
        have lei := limbs_getD hV i
        have gi := seg_get (U := U) (z := z) (j := j) (i := i) (by omega) (by omega)
        rw [hzu] at gi
        have lui := limbs_getD lu i
        have hst := fun w d br' hw hd hb hdd => hI.step (i := i) (w := w) (d := d) (br' := br') (by omega) hei rfl lei lui hqb hw hd hb hdd
        generalize V.getD i 0 = e at *
        generalize u.getD i 0 = y at *
        have hp : q * e ≤ 4294967295 * 4294967295 := Nat.mul_le_mul (by omega) (by omega)
        have hm' : (q : Int) * (e : Int) = ((q * e : Nat) : Int) := by simp
        obtain ⟨w, hw⟩ : ∃ w, c + q * e = w := ⟨_, rfl⟩
        have hst := fun d br' => hst w d br' hw.symm
        have hwc : (c : Int) + ((q * e : Nat) : Int) = (w : Int) := by omega
        have hw2 : w < 18446744073709551616 := by omega
        generalize q * e = p at *
        have hmk := hmask w hw2
        have hwm : w % 4294967296 < 4294967296 := by omega
        generalize hmm : w % 4294967296 = m at *
        have hsl := seg_len (U := U) (z := z) (j := j) (by omega)
        by_cases hn : (y : Int) - m - br < 0
        · have e3 : IntKind.u64.wrap (IntKind.u64.wrap ((y : Int) - m) - br) = (y : Int) - m - br + 18446744073709551616 := by
            simp [IntKind.wrap, IntKind.bits, IntKind.signed]; omega
          have hs1 := hst (y + 4294967296 - m - br) 1 (by omega) (by omega) (by omega)
          (repeat (first | (with_reducible refine SC.condB (by simp (disch := omega) only [go_sem, ↓reduceIte]; rfl) ?_; with_reducible refine pickT ?_) | (with_reducible refine oz (by constructor <;> decide) ?_) | ((with_reducible apply SC.region); (simp (disch := omega) only [go_sem, ↓reduceIte, zn1, reduceCtorEq, zi1, if_pos, if_neg, q1, hm', hwc, hmk, wi, gi, fd32, fd63, e3, lv_len, hsl]; rfl))))
          refine hK _ (i + 1, 1, w / 4294967296, z.set i (y + 4294967296 - m - br)) ?_ ⟨by simp only; omega, hs1.1⟩ (by simp only; omega)
          (refine Le.of [] hB (by (constructor <;> (try simp) <;> (try omega))) ?_ ?_ <;> (repeat' (first | exact leSl_nil | exact leHp_nil | refine leSl_cons (by simp only [go_sem, ↓reduceIte, zn1, reduceCtorEq]; rfl) ?_ ?_ | refine leHp_cons (by simp only [go_sem, ↓reduceIte, reduceCtorEq]; rfl) ?_ ?_ | exact VLe.refl rfl | exact VLe.int (by first | rfl | (dsimp only; omega)) | refine HLe.same rfl ?_)))
          all_goals first | exact LLe.lv rfl | exact LLe.lv (seg_set (by omega) (by omega) (by omega))
        · have e3 : IntKind.u64.wrap (IntKind.u64.wrap ((y : Int) - m) - br) = (y : Int) - m - br := by
            simp [IntKind.wrap, IntKind.bits, IntKind.signed]; omega
          have hs1 := hst (y - m - br) 0 (by omega) (by omega) (by omega)
          (repeat (first | (with_reducible refine SC.condB (by simp (disch := omega) only [go_sem, ↓reduceIte]; rfl) ?_; with_reducible refine pickT ?_) | (with_reducible refine oz (by constructor <;> decide) ?_) | ((with_reducible apply SC.region); (simp (disch := omega) only [go_sem, ↓reduceIte, zn1, reduceCtorEq, zi1, if_pos, if_neg, q1, hm', hwc, hmk, wi, gi, fd32, fd63, lv_len, hsl]; rfl))))
          refine hK _ (i + 1, 0, w / 4294967296, z.set i (y - m - br)) ?_ ⟨by simp only; omega, hs1.1⟩ (by simp only; omega)
          (refine Le.of [] hB (by (constructor <;> (try simp) <;> (try omega))) ?_ ?_ <;> (repeat' (first | exact leSl_nil | exact leHp_nil | refine leSl_cons (by simp only [go_sem, ↓reduceIte, zn1, reduceCtorEq]; rfl) ?_ ?_ | refine leHp_cons (by simp only [go_sem, ↓reduceIte, reduceCtorEq]; rfl) ?_ ?_ | exact VLe.refl rfl | exact VLe.int (by first | rfl | (dsimp only; omega)) | refine HLe.same rfl ?_)))
          all_goals first | exact LLe.lv rfl | exact LLe.lv (seg_set (by omega) (by omega) (by omega))
      · have hik : i = k + 2 := by omega
        subst hik
        have q1 := decide_eq_false (p := ((k + 2 : Nat) : Int) < ((k + 2 : Nat) : Int)) (by omega)
        have gi := seg_get (U := U) (z := z) (j := j) (i := k + 2) (by omega) (by omega)
        rw [hzu, hu0] at gi
        have hsl := seg_len (U := U) (z := z) (j := j) (by omega)
        by_cases hcb : c + br ≤ u0
        · have e3 : IntKind.u64.wrap (IntKind.u64.wrap ((u0 : Int) - c) - br) = ((u0 - (c + br) : Nat) : Int) := by
            simp [IntKind.wrap, IntKind.bits, IntKind.signed]; omega
          have q2 : (((u0 : Int) - c - br) / 9223372036854775808 == 0) = true := by rw [beq_iff_eq]; omega
          obtain ⟨d1, d2⟩ := digit_right hul hvl hI (by omega) hV0 (by rw [hu0]; exact hcb)
          rw [hu0] at d2
          have hz2 := limbs_set hz (k + 2) (x := u0 - (c + br)) (by omega)
          have hd := dg_eq hz2
          rw [d2, List.length_set, hzl, hul] at hd
          have hls := seg_set (U := U) (z := z) (j := j) (i := k + 2) (x := u0 - (c + br)) (by omega) (by omega) (n := (u0 : Int) - c - br) (by omega)
          rw [← hd] at hls
          have hqQ : q = Q := d1.trans hQQ
          subst hqQ
          (repeat (first | (with_reducible refine SC.condB (by simp (disch := omega) only [go_sem, ↓reduceIte]; rfl) ?_; first | with_reducible refine pickT ?_ | with_reducible refine pickF ?_) | (with_reducible refine oz (by constructor <;> decide) ?_) | ((with_reducible apply SC.region); (simp (disch := omega) only [go_sem, ↓reduceIte, zn1, reduceCtorEq, zi1, if_pos, if_neg, q1, q2, gi, fd63, lv_len, hsl, hls]; rfl))))
          refine retI_r Tryz.results108 (by simp only [go_sem, ↓reduceIte]; rfl) ?_
          (refine Le.of [] hB (by (constructor <;> (try simp) <;> (try omega))) ?_ ?_ <;> (repeat' (first | exact leSl_nil | exact leHp_nil | refine leSl_cons (by simp (disch := omega) only [go_sem, ↓reduceIte]; rfl) ?_ ?_ | refine leHp_cons (by simp (disch := omega) only [go_sem, ↓reduceIte, reduceCtorEq]; rfl) ?_ ?_ | exact VLe.refl rfl | refine HLe.same rfl ?_)))
          all_goals exact LLe.lv rfl
        · have e3 : IntKind.u64.wrap (IntKind.u64.wrap ((u0 : Int) - c) - br) = (u0 : Int) - c - br + 18446744073709551616 := by
            simp [IntKind.wrap, IntKind.bits, IntKind.signed]; omega
          have q2 : ((((u0 : Int) - c - br + 18446744073709551616) / 9223372036854775808) == 0) = false := by rw [beq_eq_false_iff_ne]; omega
          (repeat (first | (with_reducible refine SC.condB (by simp (disch := omega) only [go_sem, ↓reduceIte]; rfl) ?_; with_reducible refine pickF ?_) | (with_reducible refine oz (by constructor <;> decide) ?_) | ((with_reducible apply SC.region); (simp (disch := omega) only [go_sem, ↓reduceIte, zn1, reduceCtorEq, zi1, if_pos, if_neg, q1, q2, gi, fd63, e3, lv_len, hsl]; rfl))))
          have hls := seg_set (U := U) (z := z) (j := j) (i := k + 2) (x := (4294967296 + u0 - (c + br)) % 4294967296) (by omega) (by omega) (n := ((u0 : Int) - c - br + 18446744073709551616) % 4294967296) (by omega)
          have hz2 := limbs_set hz (k + 2) (x := (4294967296 + u0 - (c + br)) % 4294967296) (by omega)
          have hless := fun z' h zz ca ha => digit_less (zz := zz) (ca := ca) hul hvl lu lw hI (by rw [hu0]; omega) (by omega) hq3 hV0 z' h ha
          rw [hu0] at hless
          have hless := hless _ rfl
          have hzl2 : (z.set (k + 2) ((4294967296 + u0 - (c + br)) % 4294967296)).length = k + 3 := by simp; omega
          have hz2n : (z.set (k + 2) ((4294967296 + u0 - (c + br)) % 4294967296)).getD (k + 2) 0 = (4294967296 + u0 - (c + br)) % 4294967296 := by
            rw [List.getD_eq_getElem?_getD, List.getElem?_set_self (by omega)]; rfl
          have ht : (4294967296 + u0 - (c + br)) % 4294967296 < 4294967296 := by omega
          generalize z.set (k + 2) ((4294967296 + u0 - (c + br)) % 4294967296) = z2 at *
          generalize (4294967296 + u0 - (c + br)) % 4294967296 = t at *
          (repeat (refine DO.nil (by kernel_rfl) ?_))
          refine SC.loop (fun y : Nat × Nat × List Nat => ⟨[(0, .sl 0 j (k + 2 + 1) 1 none), (1, .sl 1 0 (k + 2) 1 (some (k + 2))), (5, .sc (.int .i64 ((k + 2 : Nat) : Int))), (8, .sc (.int .u64 q)), (11, .sc (.int .u64 y.2.1)), (126, .sl 1 0 (k + 2) 1 (some (k + 2))), (127, .sc (.int .i64 ((k + 2 : Nat) : Int))), (128, .sc (.int .i64 y.1))], [(0, ⟨87, lv (seg U j y.2.2), false⟩), (1, ⟨87, lv V, false⟩)], 3, 162⟩)
            (fun y => y.1 ≤ k + 2 ∧ abInv z2 v y.1 y.2.1 y.2.2) (fun y => k + 2 - y.1) (0, 0, z2) ?_ ?_ ?_
          · (refine Le.of [] hB (by (constructor <;> (try simp) <;> (try omega))) ?_ ?_ <;> (repeat' (first | exact leSl_nil | exact leHp_nil | refine leSl_cons (by simp (disch := omega) only [go_sem, ↓reduceIte, zn1, reduceCtorEq]; rfl) ?_ ?_ | refine leHp_cons (by simp (disch := omega) only [go_sem, ↓reduceIte, reduceCtorEq]; rfl) ?_ ?_ | exact VLe.refl rfl | refine HLe.same rfl ?_)))
            all_goals first | exact LLe.lv rfl | exact LLe.lv hls
          · exact ⟨znc _, rfl, hz2, by simp only; omega, rfl, by simp [val]⟩
          · rintro ⟨i, ca, zz⟩ ⟨hi, hJ⟩ K' hK'
            simp only at hi hJ ⊢
            have hJ' := hJ
            obtain ⟨hzzl, hzz, hca, hzdr, _⟩ := hJ'
            have hzzu := getD_of_drop hzdr
            have hsl := seg_len (U := U) (z := zz) (j := j) (by omega)
            by_cases hlti : i < k + 2
            · have q1 := decide_eq_true (p := (i : Int) < ((k + 2 : Nat) : Int)) (by omega)
              have wi := wg i hlti
              have hei := hvg i hlti
              have lei := limbs_getD hV i
              have gi := seg_get (U := U) (z := zz) (j := j) (i := i) (by omega) (by omega)
              rw [hzzu] at gi
              have lui := limbs_getD hz2 i
              have hst := fun w hw => hJ.step (i := i) (w := w) (by omega) hei rfl lei lui hw
              generalize V.getD i 0 = e at *
              generalize z2.getD i 0 = y at *
              have hs1 := hst _ rfl
              (repeat (first | (with_reducible refine SC.condB (by simp (disch := omega) only [go_sem, ↓reduceIte]; rfl) ?_; with_reducible refine pickT ?_) | (with_reducible refine oz (by constructor <;> decide) ?_) | ((with_reducible apply SC.region); (simp (disch := omega) only [go_sem, ↓reduceIte, zn1, reduceCtorEq, zi1, if_pos, if_neg, q1, wi, gi, fd32, lv_len, hsl]; rfl))))
              refine hK' _ (i + 1, (ca + (y + e)) / 4294967296, zz.set i ((ca + (y + e)) % 4294967296)) ?_ ⟨by simp only; omega, hs1⟩ (by simp only; omega)
              (refine Le.of [] hB (by (constructor <;> (try simp) <;> (try omega))) ?_ ?_ <;> (repeat' (first | exact leSl_nil | exact leHp_nil | refine leSl_cons (by simp (disch := omega) only [go_sem, ↓reduceIte, zn1, reduceCtorEq]; rfl) ?_ ?_ | refine leHp_cons (by simp (disch := omega) only [go_sem, ↓reduceIte, reduceCtorEq]; rfl) ?_ ?_ | exact VLe.refl rfl | refine HLe.same rfl ?_)))
              all_goals first | exact LLe.lv rfl | exact LLe.lv (seg_set (by omega) (by omega) (by omega))
            · have hik : i = k + 2 := by omega
              subst hik
              have q1 := decide_eq_false (p := ((k + 2 : Nat) : Int) < ((k + 2 : Nat) : Int)) (by omega)
              have gi := seg_get (U := U) (z := zz) (j := j) (i := k + 2) (by omega) (by omega)
              rw [hzzu, hz2n] at gi
              obtain ⟨d1, d2, d3, d4⟩ := hless zz ca hJ
              have hd := dg_eq (limbs_set hzz (k + 2) (x := 0) (by omega))
              rw [d4, List.length_set, hzzl, hzl2] at hd
              have e4 : ((t : Int) + ca) % 4294967296 = 0 := by omega
              have hls2 := seg_set (U := U) (z := zz) (j := j) (i := k + 2) (x := 0) (by omega) (by omega) (n := (0 : Int)) rfl
              rw [← hd] at hls2
              have hqQ : q = Q + 1 := by omega
              subst hqQ
              (repeat (first | (with_reducible refine SC.condB (by simp (disch := omega) only [go_sem, ↓reduceIte]; rfl) ?_; with_reducible refine pickF ?_) | (with_reducible refine oz (by constructor <;> decide) ?_) | ((with_reducible apply SC.region); (simp (disch := omega) only [go_sem, ↓reduceIte, zn1, zn2, reduceCtorEq, if_pos, q1, gi, e4, lv_len, hsl, hls2]; rfl))))
              refine retI_r Tryz.results108 (by simp (disch := omega) only [go_sem, ↓reduceIte]; rfl) ?_
              (refine Le.of [] hB (by (constructor <;> (try simp) <;> (try omega))) ?_ ?_ <;> (repeat' (first | exact leSl_nil | exact leHp_nil | refine leSl_cons (by simp only [go_sem, ↓reduceIte]; rfl) ?_ ?_ | refine leHp_cons (by simp only [go_sem, ↓reduceIte, reduceCtorEq]; rfl) ?_ ?_ | exact VLe.int (by first | rfl | omega) | refine HLe.same rfl ?_)))
              all_goals exact LLe.lv rfl
end Go.Proofs.YtphilljhfdlfdaaGreat
namespace Go.Proofs.YtphilljhfdlfdaaGreat
open Go.RowKit
theorem short_i (a : List Nat) (d : Nat) (ha : limbs a) (hm : a.length ≤ 1000000000) (hd : 0 < d) (hd2 : d < 4294967296) : Spec Tryz.prog 97 [sv a, .sc (.int .u32 d)] (.tu [sv (dg a.length (val a / d)), .sc (.int .u32 (val a % d : Nat))]) := by
  unfold sv
  refine Spec.run Tryz.func97 rfl Tryz.ntmps97 (by simp) (by simp only [go_sem, zn4]; rfl) fun B hB => ?_
  (repeat (first | (with_reducible refine oz (by constructor <;> decide) ?_) | ((with_reducible apply SC.region); (simp (disch := omega) only [go_sem, ↓reduceIte, reduceCtorEq, if_pos]; rfl))))
  refine SC.loop (fun x : Nat × Nat × List Nat => ⟨[(0, .im (lv a) a.length), (1, .sc (.int .u32 d)), (6, .sl 0 0 a.length 1 none), (7, .sc (.int .u64 x.2.1)), (8, .sc (.int .i64 ((x.1 : Int) - 1)))], [(0, ⟨87, lv x.2.2, false⟩)], 1, 42⟩)
    (fun x => x.1 ≤ a.length ∧ shortInv a d x.1 x.2.1 x.2.2) (fun x => x.1) (a.length, 0, List.replicate a.length 0) ?_ ?_ ?_
  · (refine Le.of [] hB (by exact ⟨znc _, fun _ _ => znc _⟩) ?_ ?_ <;> (repeat' (first | exact leSl_nil | exact leHp_nil | refine leSl_cons (by simp only [go_sem, ↓reduceIte, zn1, reduceCtorEq]; rfl) ?_ ?_ | refine leHp_cons (by simp only [go_sem, ↓reduceIte]; rfl) ?_ ?_ | exact VLe.refl rfl | exact VLe.cap rfl (by rfl) | refine HLe.same rfl ?_)))
    exact LLe.lv (lv_rep _)
  · exact ⟨znb _, by simp, limbs_replicate _, hd, by simp [val]⟩
  · rintro ⟨k, r, z⟩ ⟨hk, hI⟩ K hK
    simp only at hk hI ⊢
    have hz : z.length = a.length := hI.1
    by_cases h0 : k = 0
    · subst h0
      have q1 : decide ((0 : Int) ≤ ((0 : Nat) : Int) - 1) = false := by simp
      have hdn := hI.done
      have he := dg_eq hI.2.1
      rw [hdn.1, hz] at he
      have ht : z.take a.length = z := by rw [← hz]; exact List.take_length
      (repeat (first | (with_reducible refine SC.condB (by simp only [go_sem, ↓reduceIte]; rfl) ?_; with_reducible refine pickF ?_) | (with_reducible refine oz (by constructor <;> decide) ?_) | ((with_reducible apply SC.region); (simp only [go_sem, ↓reduceIte, zn1, zn2, reduceCtorEq, q1]; rfl))))
      refine retQ_ret Tryz.results97 (by simp (disch := omega) only [go_sem, ↓reduceIte, zn1]; rfl) (by simp (disch := omega) only [go_sem, ↓reduceIte, if_pos, lv_len, lv_take, lv_clo, ht]; rfl) ?_
      have h3 := hI.2.2.1
      rw [he, hz, ← hdn.2]
      have : (r : Int) % 4294967296 = r := by omega
      rw [this]
    · obtain ⟨j, rfl⟩ : ∃ j, k = j + 1 := ⟨k - 1, by omega⟩
      have q1 : decide ((0 : Int) ≤ ((j + 1 : Nat) : Int) - 1) = true := by simp
      have hi : (((j + 1 : Nat) : Int) - 1).toNat = j := by omega
      have hj : j < a.length := by omega
      have la := limbs_getD ha j
      have ga := lv_get hj
      obtain ⟨hst, hq⟩ := hI.step hj rfl la
      have h3 := hI.2.2.1
      generalize a.getD j 0 = x at *
      have h4 : (((r : Int) * 4294967296 + (x : Int)) / (d : Int)) = (((r * 4294967296 + x) / d : Nat) : Int) := by simp
      have h5 : (((r : Int) * 4294967296 + (x : Int)) % (d : Int)) = (((r * 4294967296 + x) % d : Nat) : Int) := by simp
      have h6 : (r * 4294967296 + x) % d < d := Nat.mod_lt _ hd
      generalize (r * 4294967296 + x) / d = Q at *
      generalize (r * 4294967296 + x) % d = M at *
      (repeat (first | (with_reducible refine SC.condB (by simp (disch := omega) only [go_sem, ↓reduceIte]; rfl) ?_; with_reducible refine pickT ?_) | (with_reducible refine oz (by constructor <;> decide) ?_) | ((with_reducible apply SC.region); (simp (disch := omega) only [go_sem, ↓reduceIte, zn1, reduceCtorEq, if_pos, if_neg, q1, hi, ga, h4, h5, lv_len, zl5]; rfl))))
      refine hK _ (j, M, z.set j Q) ?_ ⟨by simp only; omega, hst⟩ (by simp only; omega)
      (refine Le.of [] hB (by exact ⟨znc _, fun _ _ => znc _⟩) ?_ ?_ <;> (repeat' (first | exact leSl_nil | exact leHp_nil | refine leSl_cons (by simp only [go_sem, ↓reduceIte, zn1, reduceCtorEq]; rfl) ?_ ?_ | refine leHp_cons (by simp only [go_sem, ↓reduceIte]; rfl) ?_ ?_ | exact VLe.refl rfl | exact VLe.int (by first | rfl | omega) | refine HLe.same rfl ?_)))
      exact LLe.lv (lv_set (by omega))
set_option maxHeartbeats 2000000 in
theorem est_i (r d : List Nat) (hr : limbs r) (hcr : canon r) (hd : limbs d) (hm : r.length ≤ 1000000000) (hd2 : 2 ≤ d.length) (hrd : d.length ≤ r.length) (hle : val d ≤ val r) :
    ∃ q : Nat, 0 < q ∧ q * val d ≤ val r ∧ Spec Tryz.prog 100 [sv r, sv d] (iv q) := by
  obtain ⟨m, hdm⟩ : ∃ m, d.length = m + 1 := ⟨d.length - 1, by omega⟩
  obtain ⟨n, hrn⟩ : ∃ n, r.length = n + 1 := ⟨r.length - 1, by omega⟩
  obtain ⟨k, rfl⟩ : ∃ k, n = m + k := ⟨n - m, by omega⟩
  have gd := lv_get (l := d) (i := m) (by omega)
  have gr := lv_get (l := r) (i := m + k) (by omega)
  have yl := limbs_getD hd m
  have xl := limbs_getD hr (m + k)
  have i1 : ((d.length : Int) - 1).toNat = m := by omega
  have i2 : ((r.length : Int) - 1).toNat = m + k := by omega
  have hxz : r.getD (m + k) 0 ≠ 0 := by
    have h := hcr (by intro e; subst e; simp at hrn)
    rw [List.getLast_eq_getElem] at h
    rw [List.getD_eq_getElem?_getD, zlb (by omega)]
    simpa [hrn] using h
  rcases Nat.eq_zero_or_pos k with hk | hk
  · subst hk
    have hest := est_zero (n := m) hd (by omega) hdm hle _ _ rfl rfl
    refine ⟨_, hest.1, hest.2, ?_⟩
    rw [Nat.add_zero] at gr xl i2 hxz
    generalize r.getD m 0 = x at *
    generalize d.getD m 0 = y at *
    obtain ⟨q, hq⟩ : ∃ q : Nat, q = x / (y + 1) := ⟨_, rfl⟩
    have hqx : q ≤ x := by rw [hq]; exact Nat.div_le_self _ _
    have hqi : (x : Int) / ((y : Int) + 1) = (q : Int) := by rw [hq]; simp
    rw [← hq] at hest ⊢
    have q1 : (((r.length : Int) - (d.length : Int)) == 0) = true := by simp only [beq_iff_eq]; omega
    by_cases h1 : 1 < q
    · have c1 := of_i (q : Int) (by omega) (by omega)
      rw [Nat.max_eq_right (by omega)]
      unfold iv sv at c1 ⊢
      refine Spec.run Tryz.func100 rfl Tryz.ntmps100 (by simp) (by simp only [go_sem, zn4]; rfl) fun B hB => ?_
      (repeat (first | refine DO.nil (by kernel_rfl) ?_ | (with_reducible refine oz (by constructor <;> decide) ?_) | ((apply SO.call); (iterate 3 (simp (disch := omega) only [go_sem, ↓reduceIte] <;> rfl)); (apply SCall.ofX); (assumption); (simp (disch := omega) only [go_sem] <;> rfl)) | ((with_reducible first | apply wa | apply wb | apply wc | apply wd); (simp (disch := omega) only [go_sem, ↓reduceIte, zn1, zn3, zn4, reduceCtorEq, if_pos, if_neg, lv_len, i1, i2, q1, gd, gr, hqi, zl5] <;> rfl); (first | refine pickT ?_ | fail_if_success with_reducible refine pickA ?_)) | ((with_reducible refine SC.draw Tab.mixed ?_ ?_); rfl) | (with_reducible apply SC.ops)))
      exact retQ_ret Tryz.results100 (by simp (disch := omega) only [go_sem, ↓reduceIte, zn1, zn3, zn4]; rfl) (by simp (disch := omega) only [go_sem, ↓reduceIte]; rfl) rfl
    · have c1 := of_i 1 (by omega) (by omega)
      rw [Nat.max_eq_left (by omega)]
      unfold iv sv at c1 ⊢
      refine Spec.run Tryz.func100 rfl Tryz.ntmps100 (by simp) (by simp only [go_sem, zn4]; rfl) fun B hB => ?_
      (repeat (first | refine DO.nil (by kernel_rfl) ?_ | (with_reducible refine oz (by constructor <;> decide) ?_) | ((apply SO.call); (iterate 3 (simp (disch := omega) only [go_sem, ↓reduceIte] <;> rfl)); (apply SCall.ofX); (assumption); (simp (disch := omega) only [go_sem] <;> rfl)) | ((with_reducible first | apply wa | apply wb | apply wc | apply wd); (simp (disch := omega) only [go_sem, ↓reduceIte, zn1, zn3, zn4, reduceCtorEq, if_pos, if_neg, lv_len, i1, i2, q1, gd, gr, hqi, zl5] <;> rfl); (first | refine pickT ?_ | fail_if_success with_reducible refine pickA ?_)) | ((with_reducible refine SC.draw Tab.mixed ?_ ?_); rfl) | (with_reducible apply SC.ops)))
      exact retQ_ret Tryz.results100 (by simp (disch := omega) only [go_sem, ↓reduceIte, zn1, zn3, zn4]; rfl) (by simp (disch := omega) only [go_sem, ↓reduceIte]; rfl) rfl
  · obtain ⟨j, rfl⟩ : ∃ j, k = j + 1 := ⟨k - 1, by omega⟩
    obtain ⟨m', rfl⟩ : ∃ m', m = m' + 1 := ⟨m - 1, by omega⟩
    have gz := lv_get (l := r) (i := m' + j + 1) (by omega)
    have zl := limbs_getD hr (m' + j + 1)
    have hest := est_more (r := r) (d := d) (n := m') (k := j) hd (by omega) (by omega) _ _ _ (by rw [show m' + j + 2 = m' + 1 + (j + 1) by omega]) rfl rfl hxz yl
    refine ⟨_, ?_, hest.2, ?_⟩
    · exact Nat.mul_pos hest.1 (Nat.pow_pos (by omega))
    have i3 : ((r.length : Int) - 2).toNat = m' + j + 1 := by omega
    generalize r.getD (m' + 1 + (j + 1)) 0 = x at *
    generalize d.getD (m' + 1) 0 = y at *
    generalize r.getD (m' + j + 1) 0 = z at *
    have hqi : ((x : Int) * 4294967296 + (z : Int)) / ((y : Int) + 1) = (((x * 4294967296 + z) / (y + 1) : Nat) : Int) := by simp
    have hq0 : (x * 4294967296 + z) / (y + 1) ≤ x * 4294967296 + z := Nat.div_le_self _ _
    generalize (x * 4294967296 + z) / (y + 1) = q at *
    have q1 : (((r.length : Int) - (d.length : Int)) == 0) = false := by simp only [beq_eq_false_iff_ne, ne_eq]; omega
    have i4 : ((r.length : Int) - (d.length : Int) - 1).toNat = j := by omega
    have hql : limbs [q % 4294967296, q / 4294967296] := limbs_two q (by omega)
    have c1 := made_i (List.replicate j 0 ++ [q % 4294967296, q / 4294967296]) false (by
      intro t ht
      rcases List.mem_append.1 ht with ht | ht
      · exact limbs_replicate j t ht
      · exact hql t ht) (by simp; omega)
    rw [val_append, val_replicate, val_two, List.length_replicate, zn9, Nat.mul_comm] at c1
    rw [show ∀ n : Nat, sgn false n = (n : Int) from fun _ => rfl] at c1
    have w1 : (q : Int) % 4294967296 = ((q % 4294967296 : Nat) : Int) := by simp
    have w2 : (q : Int) / 2 ^ min 32 64 % 4294967296 = ((q / 4294967296 : Nat) : Int) := by
      have : (2 : Int) ^ min 32 64 = 4294967296 := by decide
      rw [this]; omega
    have hlst : List.replicate j (V.sc (.int .u32 0)) ++ [V.sc (.int .u32 ((q % 4294967296 : Nat) : Int)), V.sc (.int .u32 ((q / 4294967296 : Nat) : Int))] = lv (List.replicate j 0 ++ [q % 4294967296, q / 4294967296]) := by simp [lv]
    have hll : (List.replicate j 0 ++ [q % 4294967296, q / 4294967296]).length = j + 2 := by simp
    generalize List.replicate j 0 ++ [q % 4294967296, q / 4294967296] = L at *
    have ht : L.take (j + 2) = L := by rw [← hll]; exact List.take_length
    unfold iv sv at c1 ⊢
    rw [hll] at c1
    refine Spec.run Tryz.func100 rfl Tryz.ntmps100 (by simp) (by simp only [go_sem, zn4]; rfl) fun B hB => ?_
    (repeat (first | refine DO.nil (by kernel_rfl) ?_ | (with_reducible refine oz (by constructor <;> decide) ?_) | ((apply SO.call); (iterate 3 (simp (disch := omega) only [go_sem, ↓reduceIte, zn2, if_pos, lv_len, ht, lv_take, lv_clo] <;> rfl)); (apply SCall.ofX); (assumption); (simp (disch := omega) only [go_sem, ↓reduceIte, zn7] <;> rfl)) | ((with_reducible first | apply wa | apply wb | apply wc | apply wd); (simp (disch := omega) only [go_sem, ↓reduceIte, zn1, zn2, zn3, zn4, reduceCtorEq, zi1, if_pos, if_neg, lv_len, i1, i2, i3, i4, q1, gd, gr, gz, hqi, zl5, w1, w2, hlst, List.take_replicate, Nat.min_self, List.length_replicate] <;> rfl); (first | refine pickF ?_ | fail_if_success with_reducible refine pickA ?_)) | ((with_reducible refine SC.draw Tab.mixed ?_ ?_); rfl) | (with_reducible apply SC.ops)))
    exact retQ_ret Tryz.results100 (by simp (disch := omega) only [go_sem, ↓reduceIte, zn1, zn3, zn4, reduceCtorEq]; rfl) (by simp (disch := omega) only [go_sem, ↓reduceIte]; rfl) rfl
end Go.Proofs.YtphilljhfdlfdaaGreat
namespace Go.Proofs.YtphilljhfdlfdaaGreat
open Go.RowKit
theorem fits_nat {K n : Nat} (h : n < 4294967296 ^ K) : Fits K (n : Int) := by unfold Fits; simpa using h
theorem fits_len' {K n : Nat} (h : n < 4294967296 ^ K) : (limbsOf n).length ≤ K := canon_len (limbsOf_canon _) (by rw [limbsOf_val]; exact h)
theorem made_nat (n : Nat) (h : (limbsOf n).length ≤ 1000000000) : Spec Tryz.prog 18 [sv (limbsOf n), .sc (.bool false)] (iv n) := by
  have := made_i (limbsOf n) false (limbsOf_limbs _) h
  rwa [limbsOf_val] at this
theorem limbsOf_ge {n : Nat} (h : 4294967296 ≤ n) : 2 ≤ (limbsOf n).length := by
  have h1 := val_lt (limbsOf_limbs n)
  rw [limbsOf_val] at h1
  rcases Nat.lt_or_ge (limbsOf n).length 2 with h2 | h2
  · have : 4294967296 ^ (limbsOf n).length ≤ 4294967296 ^ 1 := Nat.pow_le_pow_right (by omega) (by omega)
    omega
  · exact h2
theorem limbsOf_one {n : Nat} (h0 : 0 < n) (h : n < 4294967296) : limbsOf n = [n] := by
  have := limbsOf_eq (l := [n]) (limbs_one h) (by intro _; simp; omega)
  rwa [val_one] at this
theorem lv_one (n : Nat) : lv [n] = [.sc (.int .u32 (n : Int))] := rfl
theorem divide_one (A B : Nat) (K : Nat) (hA : A < 4294967296 ^ K) (hK : K ≤ 300000000) (hB : 0 < B) (hB2 : B < 4294967296) : Spec Tryz.prog 86 [sv (limbsOf A), sv (limbsOf B)] (.tu [iv ((A / B : Nat) : Int), iv ((A % B : Nat) : Int)]) := by
  have la := fits_len' hA
  have ga := val_lt (limbsOf_limbs A)
  rw [limbsOf_val] at ga
  have hm := Nat.mod_lt A hB
  have c1 := short_i (limbsOf A) B (limbsOf_limbs A) (by omega) hB hB2
  rw [limbsOf_val] at c1
  have c2 := dg_made (limbsOf A).length (A / B) false (Nat.lt_of_le_of_lt (Nat.div_le_self _ _) ga) (by omega)
  have c3 := made_i [A % B] false (limbs_one (by omega)) (by simp)
  rw [val_one] at c3
  rw [limbsOf_one hB hB2]
  unfold sv at c1 c2 c3 ⊢
  rw [lv_one] at c3 ⊢
  unfold iv sv at c2 c3 ⊢
  simp only [List.length_singleton] at c3 ⊢
  have q1 : (((1 : Nat) : Int) == 1) = true := by decide
  refine Spec.run Tryz.func86 rfl Tryz.ntmps86 (by simp) (by simp only [go_sem, zn4]; rfl) fun B hB => ?_
  (repeat (first | (with_reducible refine oz (by constructor <;> decide) ?_) | ((apply SO.call); (iterate 3 (simp (disch := omega) only [go_sem, ↓reduceIte, zn1, zn3] <;> rfl)); (apply SCall.ofX); (assumption); (simp (disch := omega) only [go_sem, ↓reduceIte, zn7] <;> rfl)) | ((with_reducible first | apply SC.condB | apply SC.region | apply SO.run); (simp (disch := omega) only [go_sem, ↓reduceIte, zn1, zn2, zn3, zn4, reduceCtorEq, zi1, if_pos, q1] <;> rfl); (first | refine pickT ?_ | fail_if_success with_reducible refine pickA ?_)) | (with_reducible apply SC.ops)))
  exact retQ_ret Tryz.results86 (by simp only [go_sem, ↓reduceIte, zn1, zn3, zn4, reduceCtorEq]; rfl) (by simp only [go_sem, ↓reduceIte]; rfl) rfl
set_option maxHeartbeats 2000000 in
theorem divide_long (X Y : Nat) (K : Nat) (hA : X < 4294967296 ^ K) (hBK : Y < 4294967296 ^ K) (hK : K ≤ 300000000) (hB2 : 4294967296 ≤ Y) : Spec Tryz.prog 86 [sv (limbsOf X), sv (limbsOf Y)] (.tu [iv ((X / Y : Nat) : Int), iv ((X % Y : Nat) : Int)]) := by
  have la := fits_len' hA
  have lb := fits_len' hBK
  have cA := made_nat X (by omega)
  have cB := made_nat Y (by omega)
  have hb2 := limbsOf_ge hB2
  have bb := limbsOf_limbs Y
  have hbc := limbsOf_canon Y
  obtain ⟨m, hm⟩ : ∃ m, (limbsOf Y).length = m + 1 := ⟨(limbsOf Y).length - 1, by omega⟩
  have gb := lv_get (l := limbsOf Y) (i := m) (by omega)
  have yl := limbs_getD bb m
  have y0 : (limbsOf Y).getD m 0 ≠ 0 := by
    have h := hbc (by intro e; rw [e] at hm; simp at hm)
    rw [List.getLast_eq_getElem] at h
    rw [List.getD_eq_getElem?_getD, zlb (by omega)]
    simpa [hm] using h
  generalize (limbsOf Y).getD m 0 = y at *
  have i1 : (((limbsOf Y).length : Int) - 1).toNat = m := by omega
  have q1 : (((limbsOf Y).length : Int) == 1) = false := by simp only [beq_eq_false_iff_ne, ne_eq]; omega
  unfold sv at cA cB ⊢
  refine Spec.run Tryz.func86 rfl Tryz.ntmps86 (by simp) (by simp only [go_sem, zn4]; rfl) fun B hB => ?_
  (repeat (first | (with_reducible refine SC.condB (by simp (disch := omega) only [go_sem, ↓reduceIte]; rfl) ?_; with_reducible refine pickF ?_) | (with_reducible refine oz (by constructor <;> decide) ?_) | ((with_reducible apply SC.region); (simp (disch := omega) only [go_sem, ↓reduceIte, zn1, zn4, reduceCtorEq, q1]; rfl))))
  refine SC.loop (fun s : Nat => ⟨[(0, .im (lv (limbsOf X)) (limbsOf X).length), (1, .im (lv (limbsOf Y)) (limbsOf Y).length), (4, .pt 0 0), (5, .pt 1 0), (8, .sc (.int .u32 s))], [(1, ⟨24, [.sc (.bool false), .sc (.slice none 0 0)], false⟩), (0, ⟨24, [.sc (.bool false), .sc (.slice none 0 0)], false⟩)], 2, 86⟩)
    (fun s => 0 < s ∧ s < 4294967296) (fun s => 4294967296 - s) 1 ?_ ?_ ?_
  · (refine Le.of [] hB (by exact ⟨znc _, fun _ _ => znc _⟩) ?_ ?_ <;> (repeat' (first | exact leSl_nil | exact leHp_nil | refine leSl_cons (by simp only [go_sem, ↓reduceIte, zn1, reduceCtorEq]; rfl) ?_ ?_ | refine leHp_cons (by simp only [go_sem, ↓reduceIte, reduceCtorEq]; rfl) ?_ ?_ | exact VLe.refl rfl | exact HLe.same rfl (LLe.refl rfl))))
  · omega
  · intro s ⟨hs0, hs⟩ K' hK'
    have hys : y * s ≤ 4294967295 * 4294967295 := Nat.mul_le_mul (by omega) (by omega)
    have hysi : (y : Int) * (s : Int) = ((y * s : Nat) : Int) := by simp
    have hss : s ≤ y * s := Nat.le_mul_of_pos_left _ (by omega)
    generalize y * s = ys at *
    by_cases hlt : ys < 2147483648
    · have q2 := decide_eq_true (p := (ys : Int) < 2147483648) (by omega)
      (repeat (first | (with_reducible refine SC.condB (by simp (disch := omega) only [go_sem, ↓reduceIte]; rfl) ?_; with_reducible refine pickT ?_) | (with_reducible refine oz (by constructor <;> decide) ?_) | ((with_reducible apply SC.region); (simp (disch := omega) only [go_sem, ↓reduceIte, zn1, reduceCtorEq, if_pos, q2, i1, gb, hysi, lv_len, zl5]; rfl))))
      refine hK' _ (2 * s) ?_ (by omega) (by omega)
      (refine Le.of [] hB (by exact ⟨znc _, fun _ _ => znc _⟩) ?_ ?_ <;> (repeat' (first | exact leSl_nil | exact leHp_nil | refine leSl_cons (by simp only [go_sem, ↓reduceIte, zn1, reduceCtorEq]; rfl) ?_ ?_ | refine leHp_cons (by simp only [go_sem, ↓reduceIte, reduceCtorEq]; rfl) ?_ ?_ | exact VLe.refl rfl | exact HLe.same rfl (LLe.refl rfl))))
    · have q2 := decide_eq_false (p := (ys : Int) < 2147483648) (by omega)
      have cs := made_i [s] false (limbs_one (by omega)) (by simp)
      rw [val_one, show sgn false s = (s : Int) from rfl] at cs
      have hsf : Fits 1 (s : Int) := fits_one (by omega)
      have cR := mul_i (X : Int) (s : Int) (K + 1) ((fits_nat hA).mono (by omega)) (hsf.mono (by omega)) (by omega)
      have cD := mul_i (Y : Int) (s : Int) (K + 1) ((fits_nat hBK).mono (by omega)) (hsf.mono (by omega)) (by omega)
      rw [← Int.natCast_mul] at cR cD
      have fR := (fits_nat hA).mul hsf
      have fD := (fits_nat hBK).mul hsf
      rw [← Int.natCast_mul] at fR fD
      have hD2 : 4294967296 ≤ Y * s := Nat.le_trans hB2 (Nat.le_mul_of_pos_right _ hs0)
      have hfin : ∀ R q : Nat, divInv (X * s) (Y * s) R q → R < Y * s → q = X / Y ∧ R / s = X % Y := fun R q h1 h2 => h1.done hs0 (by omega) h2
      have hle : ∀ R q : Nat, divInv (X * s) (Y * s) R q → R ≤ X * s ∧ q ≤ X * s := fun R q h => h.le (by omega)
      unfold sv at cs
      rw [lv_one] at cs
      simp only [List.length_singleton] at cs
      have hdi : divInv (X * s) (Y * s) (X * s) 0 := by simp [divInv]
      generalize X * s = AS at *
      generalize Y * s = D at *
      unfold iv sv at cA cB cs cR cD ⊢
      (repeat (first | refine DO.nil (by kernel_rfl) ?_ | (with_reducible refine oz (by constructor <;> decide) ?_) | ((first | apply SO.call | apply DO.call); (iterate 3 (simp (disch := omega) only [go_sem, ↓reduceIte, zn1, zn3] <;> rfl)); (first | apply SCall.ofX | apply DCall.ofX); (assumption); (simp (disch := omega) only [go_sem, ↓reduceIte, zn7] <;> rfl)) | ((with_reducible first | apply wa | apply wb | apply wc | apply wd); (simp (disch := omega) only [go_sem, ↓reduceIte, zn1, zn3, zn4, reduceCtorEq, if_pos, q2, i1, gb, hysi, lv_len, zl5] <;> rfl); (first | refine pickF ?_ | fail_if_success with_reducible refine pickA ?_)) | ((with_reducible refine SC.draw Tab.mixed ?_ ?_); rfl) | (with_reducible apply SC.ops)))
      refine SC.loop (fun z : Nat × Nat => ⟨[(0, .im (lv (limbsOf X)) (limbsOf X).length), (1, .im (lv (limbsOf Y)) (limbsOf Y).length), (4, .pt 0 0), (5, .pt 1 0), (8, .sc (.int .u32 s)), (9, .pt 3 0), (10, .pt 4 0), (11, .pt 5 0), (12, .pt 6 0)], [(6, ⟨24, [.sc (.bool (decide ((z.2 : Int) < 0))), .im (lv (limbsOf (z.2 : Int).natAbs)) (limbsOf (z.2 : Int).natAbs).length], false⟩), (5, ⟨24, [.sc (.bool (decide ((D : Int) < 0))), .im (lv (limbsOf (D : Int).natAbs)) (limbsOf (D : Int).natAbs).length], false⟩), (4, ⟨24, [.sc (.bool (decide ((z.1 : Int) < 0))), .im (lv (limbsOf (z.1 : Int).natAbs)) (limbsOf (z.1 : Int).natAbs).length], false⟩), (1, ⟨24, [.sc (.bool false), .sc (.slice none 0 0)], false⟩), (0, ⟨24, [.sc (.bool false), .sc (.slice none 0 0)], false⟩)], 7, 86⟩)
        (fun z => divInv AS D z.1 z.2) (fun z => z.1) (AS, 0) ?_ hdi ?_
      · (refine Le.of [] hB (by exact ⟨znc _, fun _ _ => znc _⟩) ?_ ?_ <;> (repeat' (first | exact leSl_nil | exact leHp_nil | refine leSl_cons (by simp only [go_sem, ↓reduceIte, zn1, reduceCtorEq]; rfl) ?_ ?_ | refine leHp_cons (by simp only [go_sem, ↓reduceIte, zn1, reduceCtorEq]; rfl) ?_ ?_ | exact VLe.refl rfl | exact HLe.same rfl (LLe.refl rfl) | refine HLe.same rfl ?_ | exact LLe.nil _ | refine LLe.cons ?_ ?_)))
        exact VLe.nil_im
      · rintro ⟨R, q⟩ hI K' hK'
        simp only at hI ⊢
        obtain ⟨hR, hq⟩ := hle R q hI
        have fRR : Fits (K + 1) (R : Int) := fits_nat (Nat.lt_of_le_of_lt hR (by unfold Fits at fR; simpa using fR))
        have fq : Fits (K + 1) (q : Int) := fits_nat (Nat.lt_of_le_of_lt hq (by unfold Fits at fR; simpa using fR))
        have lR := fits_len fRR
        have lD := fits_len fD
        have cl := less_n (R : Int).natAbs (D : Int).natAbs (by omega) (by omega)
        have vR := limbsOf_val (R : Int).natAbs
        have vD := limbsOf_val (D : Int).natAbs
        by_cases hlt : R < D
        · rw [decide_eq_true (by omega)] at cl
          have gR := val_lt (limbsOf_limbs (R : Int).natAbs)
          have c1 := short_i (limbsOf (R : Int).natAbs) s (limbsOf_limbs _) (by omega) hs0 hs
          have c2 := dg_made (limbsOf (R : Int).natAbs).length (val (limbsOf (R : Int).natAbs) / s) false (Nat.lt_of_le_of_lt (Nat.div_le_self _ _) gR) (by omega)
          obtain ⟨e1, e2⟩ := hfin R q hI hlt
          rw [vR] at c1 c2
          rw [show (R : Int).natAbs = R by omega, show sgn false (R / s) = ((R / s : Nat) : Int) from rfl] at c2
          rw [show (R : Int).natAbs / s = R / s by rw [show (R : Int).natAbs = R by omega]] at c1
          rw [← e1, ← e2]
          rw [show (R : Int).natAbs = R by omega] at c1 cl ⊢
          unfold iv sv at *
          (repeat (first | refine DO.nil (by kernel_rfl) ?_ | (with_reducible refine oz (by constructor <;> decide) ?_) | ((first | apply SO.call | apply DO.call); (iterate 3 (simp (disch := omega) only [go_sem, ↓reduceIte, zn1, zn2] <;> rfl)); (first | apply SCall.ofX | apply DCall.ofX); (assumption); (simp (disch := omega) only [go_sem] <;> rfl)) | ((with_reducible first | apply wa | apply wb | apply wc | apply wd); (simp (disch := omega) only [go_sem, ↓reduceIte, zn1, zn3, zn4, reduceCtorEq] <;> rfl); (first | refine pickF ?_ | fail_if_success with_reducible refine pickA ?_)) | ((with_reducible refine SC.draw Tab.mixed ?_ ?_); rfl) | (with_reducible apply SC.ops)))
          exact retQ_ret Tryz.results86 (by simp only [go_sem, ↓reduceIte, zn1, zn3, zn4, reduceCtorEq]; rfl) (by simp only [go_sem, ↓reduceIte]; rfl) rfl
        · rw [decide_eq_false (by omega)] at cl
          obtain ⟨e, he0, hed, ce⟩ := est_i (limbsOf (R : Int).natAbs) (limbsOf (D : Int).natAbs) (limbsOf_limbs _) (limbsOf_canon _) (limbsOf_limbs _) (by omega) (limbsOf_ge (by omega)) (canon_len (limbsOf_canon _) (by have := val_lt (limbsOf_limbs (R : Int).natAbs); omega)) (by omega)
          rw [vR, vD, show (R : Int).natAbs = R by omega, show (D : Int).natAbs = D by omega] at hed
          have hee : e ≤ e * D := Nat.le_mul_of_pos_right _ (by omega)
          have fe : Fits (K + 1) (e : Int) := fRR.of_natAbs_le (by omega)
          have fed : Fits (K + 1) ((e * D : Nat) : Int) := fRR.of_natAbs_le (by omega)
          have c1 := add_i q e (K + 1) fq fe (by omega)
          have c2 := mul_i e D (K + 1) fe fD (by omega)
          have c3 := sub_i R ((e * D : Nat) : Int) (K + 1) fRR fed (by omega)
          have hst := hI.step hed
          rw [← Int.natCast_add] at c1
          rw [← Int.natCast_mul] at c2
          rw [← Int.ofNat_sub hed] at c3
          generalize e * D = eD at *
          unfold iv sv at ce c1 c2 c3
          unfold sv at cl
          (repeat (first | refine DO.nil (by kernel_rfl) ?_ | (with_reducible refine oz (by constructor <;> decide) ?_) | ((first | apply SO.call | apply DO.call); (iterate 3 (simp (disch := omega) only [go_sem, ↓reduceIte, zn1] <;> rfl)); (first | apply SCall.ofX | apply DCall.ofX); (assumption); (simp (disch := omega) only [go_sem] <;> rfl)) | ((with_reducible first | apply wa | apply wb | apply wc | apply wd); (simp (disch := omega) only [go_sem, ↓reduceIte, zn1, zn3, zn4, reduceCtorEq] <;> rfl); (first | refine pickT ?_ | fail_if_success with_reducible refine pickA ?_)) | ((with_reducible refine SC.draw Tab.mixed ?_ ?_); rfl) | (with_reducible apply SC.ops)))
          refine hK' _ (R - eD, q + e) ?_ hst (by simp only; omega)
          (refine Le.of [] hB (by exact ⟨znc _, fun _ _ => znc _⟩) ?_ ?_ <;> (repeat' (first | exact leSl_nil | exact leHp_nil | refine leSl_cons (by simp only [go_sem, ↓reduceIte, zn1, reduceCtorEq]; rfl) ?_ ?_ | refine leHp_cons (by simp only [go_sem, ↓reduceIte, zn1, reduceCtorEq]; rfl) ?_ ?_ | exact VLe.refl rfl | exact HLe.same rfl (LLe.refl rfl))))
theorem divide_i (X Y : Nat) (K : Nat) (hX : X < 4294967296 ^ K) (hY : Y < 4294967296 ^ K) (hK : K ≤ 300000000) (h0 : 0 < Y) : Spec Tryz.prog 86 [sv (limbsOf X), sv (limbsOf Y)] (.tu [iv ((X / Y : Nat) : Int), iv ((X % Y : Nat) : Int)]) := by
  rcases Nat.lt_or_ge Y 4294967296 with h | h
  · exact divide_one X Y K hX hK h0 h
  · exact divide_long X Y K hX hY hK h
end Go.Proofs.YtphilljhfdlfdaaGreat
namespace Go.Proofs.YtphilljhfdlfdaaGreat
open Go.RowKit
theorem Spec.le {P : Program} {f : Nat} {args : List V} {x y : V} (h : Spec P f args y) (hv : VLe (fun _ => true) y x) : Spec P f args x := by
  intro S w vs hS hT ha
  refine (h S w vs hS hT ha).mono ?_
  rintro e w' ⟨v, h1, h2, h3⟩
  exact ⟨v, h1, h2, (hv _ _ _ _ _ h3).mono (fun _ h => ⟨h, rfl⟩) (fun _ h => h.1.elim)⟩
theorem VLe.tu {ok : Nat → Bool} {cs ds : List V} (h : LLe ok cs ds) (hl : cs.length = ds.length) : VLe ok (.tu cs) (.tu ds) := by
  intro S rho A w v hr
  cases hr with
  | tu h1 h2 =>
    refine .tu (by omega) fun i x u hx hu => ?_
    have hi := (List.getElem?_eq_some_iff.1 hx).1
    have hy : cs[i]? = some cs[i] := zlb (by omega)
    exact h.2 i _ x hy hx _ _ _ _ _ (h2 i _ u hy hu)
theorem pshort_i (a : List Nat) (d : Nat) (ha : limbs a) (hm : a.length ≤ 1000000000) (hd : 0 < d) (hd2 : d < 4294967296) : Spec Tryz.prog 105 [sv a, .sc (.int .u32 d)] (.tu [sv (dg a.length (val a / d)), .sc (.int .u32 (val a % d : Nat))]) := by
  unfold sv
  refine Spec.run Tryz.func105 rfl Tryz.ntmps105 (by simp) (by simp only [go_sem, zn4]; rfl) fun B hB => ?_
  (repeat (first | (with_reducible refine oz (by constructor <;> decide) ?_) | ((with_reducible apply SC.region); (simp (disch := omega) only [go_sem, ↓reduceIte, reduceCtorEq, if_pos]; rfl))))
  refine SC.loop (fun x : Nat × Nat × List Nat => ⟨[(0, .im (lv a) a.length), (1, .sc (.int .u32 d)), (6, .sl 0 0 a.length 1 none), (7, .sc (.int .u64 x.2.1)), (8, .sc (.int .i64 ((x.1 : Int) - 1)))], [(0, ⟨87, lv x.2.2, false⟩)], 1, 42⟩)
    (fun x => x.1 ≤ a.length ∧ shortInv a d x.1 x.2.1 x.2.2) (fun x => x.1) (a.length, 0, List.replicate a.length 0) ?_ ?_ ?_
  · (refine Le.of [] hB (by exact ⟨znc _, fun _ _ => znc _⟩) ?_ ?_ <;> (repeat' (first | exact leSl_nil | exact leHp_nil | refine leSl_cons (by simp only [go_sem, ↓reduceIte, zn1, reduceCtorEq]; rfl) ?_ ?_ | refine leHp_cons (by simp only [go_sem, ↓reduceIte]; rfl) ?_ ?_ | exact VLe.refl rfl | exact VLe.cap rfl (by rfl) | refine HLe.same rfl ?_)))
    exact LLe.lv (lv_rep _)
  · exact ⟨znb _, by simp, limbs_replicate _, hd, by simp [val]⟩
  · rintro ⟨k, r, z⟩ ⟨hk, hI⟩ K hK
    simp only at hk hI ⊢
    have hz : z.length = a.length := hI.1
    by_cases h0 : k = 0
    · subst h0
      have q1 : decide ((0 : Int) ≤ ((0 : Nat) : Int) - 1) = false := by simp
      have hdn := hI.done
      have he := dg_eq hI.2.1
      rw [hdn.1, hz] at he
      have ht : z.take a.length = z := by rw [← hz]; exact List.take_length
      (repeat (first | (with_reducible refine SC.condB (by simp only [go_sem, ↓reduceIte]; rfl) ?_; with_reducible refine pickF ?_) | (with_reducible refine oz (by constructor <;> decide) ?_) | ((with_reducible apply SC.region); (simp only [go_sem, ↓reduceIte, zn1, zn2, reduceCtorEq, q1]; rfl))))
      refine retQ_ret Tryz.results105 (by simp (disch := omega) only [go_sem, ↓reduceIte, zn1]; rfl) (by simp (disch := omega) only [go_sem, ↓reduceIte, if_pos, lv_len, lv_take, lv_clo, ht]; rfl) ?_
      have h3 := hI.2.2.1
      rw [he, hz, ← hdn.2]
      have : (r : Int) % 4294967296 = r := by omega
      rw [this]
    · obtain ⟨j, rfl⟩ : ∃ j, k = j + 1 := ⟨k - 1, by omega⟩
      have q1 : decide ((0 : Int) ≤ ((j + 1 : Nat) : Int) - 1) = true := by simp
      have hi : (((j + 1 : Nat) : Int) - 1).toNat = j := by omega
      have hj : j < a.length := by omega
      have la := limbs_getD ha j
      have ga := lv_get hj
      obtain ⟨hst, hq⟩ := hI.step hj rfl la
      have h3 := hI.2.2.1
      generalize a.getD j 0 = x at *
      have hor := or_up r x (by omega) la
      have h4 : ((r * 4294967296 + x : Nat) : Int).tdiv (d : Int) = (((r * 4294967296 + x) / d : Nat) : Int) := (Int.ofNat_tdiv _ _).symm
      have h5 : ((r * 4294967296 + x : Nat) : Int).tmod (d : Int) = (((r * 4294967296 + x) % d : Nat) : Int) := (Int.ofNat_tmod _ _).symm
      have h4' : ((r * 4294967296 + x : Nat) : Int) / (d : Int) = (((r * 4294967296 + x) / d : Nat) : Int) := by simp
      have h5' : ((r * 4294967296 + x : Nat) : Int) % (d : Int) = (((r * 4294967296 + x) % d : Nat) : Int) := by simp
      have h6 : (r * 4294967296 + x) % d < d := Nat.mod_lt _ hd
      generalize (r * 4294967296 + x) / d = Q at *
      generalize (r * 4294967296 + x) % d = M at *
      (repeat (first | (with_reducible refine SC.condB (by simp (disch := omega) only [go_sem, ↓reduceIte]; rfl) ?_; with_reducible refine pickT ?_) | (with_reducible refine oz (by constructor <;> decide) ?_) | ((with_reducible apply SC.region); (simp (disch := omega) only [go_sem, ↓reduceIte, zn1, reduceCtorEq, zi1, zi2, if_pos, if_neg, q1, hi, ga, hor, h4, h5, mi32, lv_len, zl5]; rfl))))
      refine hK _ (j, M, z.set j Q) ?_ ⟨by simp only; omega, hst⟩ (by simp only; omega)
      (refine Le.of [] hB (by exact ⟨znc _, fun _ _ => znc _⟩) ?_ ?_ <;> (repeat' (first | exact leSl_nil | exact leHp_nil | refine leSl_cons (by simp only [go_sem, ↓reduceIte, zn1, reduceCtorEq]; rfl) ?_ ?_ | refine leHp_cons (by simp only [go_sem, ↓reduceIte]; rfl) ?_ ?_ | exact VLe.refl rfl | exact VLe.int (by first | rfl | omega) | refine HLe.same rfl ?_)))
      exact LLe.lv (lv_set (by omega))
def DivTo (X Y : Nat) (x : V) : Prop := ∃ q r : List Nat, x = .tu [sv q, sv r] ∧ limbs q ∧ limbs r ∧ val q = X / Y ∧ val r = X % Y ∧ q.length ≤ (limbsOf X).length + 2 ∧ r.length ≤ (limbsOf X).length + (limbsOf Y).length + 2
theorem nat_lt_of_len {m n : Nat} (h : (limbsOf m).length < (limbsOf n).length) : m < n := by
  have h1 := val_lt (limbsOf_limbs m)
  have h2 := canon_ge (limbsOf_canon n) (by intro e; rw [e] at h; simp at h)
  rw [limbsOf_val] at h1 h2
  have h3 : 4294967296 ^ (limbsOf m).length ≤ 4294967296 ^ ((limbsOf n).length - 1) := Nat.pow_le_pow_right (by omega) (by omega)
  omega
theorem len_le_of {m n : Nat} (h : m ≤ n) : (limbsOf m).length ≤ (limbsOf n).length := by
  refine Nat.le_of_not_lt fun hlt => ?_
  have := nat_lt_of_len hlt
  omega
theorem div_less (X Y : Nat) (hX : (limbsOf X).length ≤ 300000000) (hY : (limbsOf Y).length ≤ 300000000) (h : X < Y) : ∃ x, DivTo X Y x ∧ Spec Tryz.prog 92 [sv (limbsOf X), sv (limbsOf Y)] x := by
  refine ⟨_, ⟨[], limbsOf X, rfl, fun x h => (by simp at h), limbsOf_limbs _, (Nat.div_eq_of_lt h).symm, by rw [limbsOf_val, Nat.mod_eq_of_lt h], by simp, by omega⟩, ?_⟩
  have c1 := compare_n X Y (by omega) (by omega)
  rw [Int.sign_eq_neg_one_of_neg (by omega)] at c1
  have c2 := clone_l (limbsOf X) (by omega)
  have q1 : decide ((-1 : Int) < 0) = true := by decide
  unfold sv at *
  refine Spec.run Tryz.func92 rfl Tryz.ntmps92 (by simp) (by simp only [go_sem, zn4]; rfl) fun B hB => ?_
  (repeat (first | (with_reducible refine oz (by constructor <;> decide) ?_) | ((apply SO.call); (iterate 3 (simp (disch := omega) only [go_sem, ↓reduceIte, zn1] <;> rfl)); (apply SCall.ofX); (assumption); (simp (disch := omega) only [go_sem] <;> rfl)) | ((with_reducible first | apply SC.condB | apply SC.region | apply SO.run); (simp (disch := omega) only [go_sem, ↓reduceIte, zn1, reduceCtorEq, q1] <;> rfl); (first | refine pickT ?_ | fail_if_success with_reducible refine pickA ?_)) | (with_reducible apply SC.ops)))
  exact retQ_ret Tryz.results92 (by simp (disch := omega) only [go_sem, ↓reduceIte, zn1]; rfl) (by simp (disch := omega) only [go_sem, ↓reduceIte]; rfl) rfl
theorem div_two (X Y : Nat) (hX : (limbsOf X).length ≤ 2) (h0 : 0 < Y) (h : Y ≤ X) : ∃ x, DivTo X Y x ∧ Spec Tryz.prog 92 [sv (limbsOf X), sv (limbsOf Y)] x := by
  have hlY := len_le_of h
  have bX : X < 18446744073709551616 := by
    have h1 := val_lt (limbsOf_limbs X)
    rw [limbsOf_val] at h1
    have : 4294967296 ^ (limbsOf X).length ≤ 4294967296 ^ 2 := Nat.pow_le_pow_right (by omega) hX
    omega
  have bq : X / Y < 18446744073709551616 := Nat.lt_of_le_of_lt (Nat.div_le_self _ _) bX
  have br : X % Y < 18446744073709551616 := Nat.lt_of_le_of_lt (Nat.mod_le _ _) bX
  have hlX : 1 ≤ (limbsOf X).length := by
    rcases Nat.eq_zero_or_pos (limbsOf X).length with e | e
    · have := limbsOf_nil.1 (List.eq_nil_of_length_eq_zero e); omega
    · exact e
  refine ⟨_, ⟨[X / Y % 4294967296, X / Y / 4294967296], [X % Y % 4294967296, X % Y / 4294967296], rfl, limbs_two _ bq, limbs_two _ br, val_two _, val_two _, by simp, by simp⟩, ?_⟩
  have c1 := compare_n X Y (by omega) (by omega)
  have hs : 0 ≤ ((X : Int) - Y).sign := by rcases Nat.lt_or_ge Y X with e | e; rw [Int.sign_eq_one_of_pos (by omega)]; omega; rw [show (X : Int) - Y = 0 by omega]; decide
  have q1 := decide_eq_false (p := ((X : Int) - Y).sign < 0) (by omega)
  have q2 := decide_eq_true (p := ((limbsOf X).length : Int) ≤ 2) (by omega)
  have c2 := word_i (limbsOf X) (limbsOf_limbs _) hX
  have c3 := word_i (limbsOf Y) (limbsOf_limbs _) (by omega)
  rw [limbsOf_val] at c2 c3
  have c4 := limbs_s (X / Y) bq
  have c5 := limbs_s (X % Y) br
  have e4 : (X : Int).tdiv (Y : Int) = ((X / Y : Nat) : Int) := (Int.ofNat_tdiv _ _).symm
  have e5 : (X : Int).tmod (Y : Int) = ((X % Y : Nat) : Int) := (Int.ofNat_tmod _ _).symm
  generalize ((X : Int) - Y).sign = s at *
  unfold sv at *
  generalize X / Y = Q at *
  generalize X % Y = R at *
  refine Spec.run Tryz.func92 rfl Tryz.ntmps92 (by simp) (by simp only [go_sem, zn4]; rfl) fun B hB => ?_
  (repeat (first | refine DO.nil (by kernel_rfl) ?_ | (with_reducible refine oz (by constructor <;> decide) ?_) | ((first | apply SO.call | apply DO.call); (iterate 3 (simp (disch := omega) only [go_sem, ↓reduceIte, zn1] <;> rfl)); (first | apply SCall.ofX | apply DCall.ofX); (assumption); (simp (disch := omega) only [go_sem] <;> rfl)) | ((with_reducible first | apply wa | apply wb | apply wc | apply wd); (simp (disch := omega) only [go_sem, ↓reduceIte, zn1, reduceCtorEq, if_neg, q1, q2, e4, e5] <;> rfl); (first | refine pT ?_ | refine pF ?_ | fail_if_success with_reducible refine pA ?_)) | ((with_reducible refine SC.draw Tab.mixed ?_ ?_); rfl) | (with_reducible apply SC.ops)))
  exact retQ_ret Tryz.results92 (by simp (disch := omega) only [go_sem, ↓reduceIte, zn1]; rfl) (by simp (disch := omega) only [go_sem, ↓reduceIte, zn4]; rfl) rfl
theorem div_one (X Y : Nat) (hX : (limbsOf X).length ≤ 300000000) (hX2 : 2 < (limbsOf X).length) (h0 : 0 < Y) (h : Y < 4294967296) : ∃ x, DivTo X Y x ∧ Spec Tryz.prog 92 [sv (limbsOf X), sv (limbsOf Y)] x := by
  have gX := val_lt (limbsOf_limbs X)
  rw [limbsOf_val] at gX
  have hm := Nat.mod_lt X h0
  refine ⟨_, ⟨dg (limbsOf X).length (X / Y), [X % Y], rfl, dg_limbs _ _, limbs_one (by omega), dg_val _ _ (Nat.lt_of_le_of_lt (Nat.div_le_self _ _) gX), val_one _, by rw [dg_len]; omega, by simp⟩, ?_⟩
  have hl1 : (limbsOf Y).length = 1 := by rw [limbsOf_one h0 h]; rfl
  have hlt : Y < X := nat_lt_of_len (by omega)
  have c1 := compare_n X Y (by omega) (by omega)
  rw [Int.sign_eq_one_of_pos (by omega)] at c1
  have c2 := pshort_i (limbsOf X) Y (limbsOf_limbs _) (by omega) h0 h
  rw [limbsOf_val] at c2
  rw [limbsOf_one h0 h] at c1 ⊢
  have q1 : decide ((1 : Int) < 0) = false := by decide
  have q2 := decide_eq_false (p := ((limbsOf X).length : Int) ≤ 2) (by omega)
  have q3 : (((1 : Nat) : Int) == 1) = true := by decide
  unfold sv at *
  rw [lv_one] at *
  simp only [List.length_singleton] at *
  refine Spec.run Tryz.func92 rfl Tryz.ntmps92 (by simp) (by simp only [go_sem, zn4]; rfl) fun B hB => ?_
  (repeat (first | (with_reducible refine oz (by constructor <;> decide) ?_) | ((apply SO.call); (iterate 3 (simp (disch := omega) only [go_sem, ↓reduceIte, zn1] <;> rfl)); (apply SCall.ofX); (assumption); (simp (disch := omega) only [go_sem] <;> rfl)) | ((with_reducible first | apply SC.condB | apply SC.region | apply SO.run); (simp (disch := omega) only [go_sem, ↓reduceIte, zn1, zn2, zn3, reduceCtorEq, zi1, if_pos, q1, q2, q3] <;> rfl); (first | refine pT ?_ | refine pF ?_ | fail_if_success with_reducible refine pA ?_)) | (with_reducible apply SC.ops)))
  exact retQ_ret Tryz.results92 (by simp (disch := omega) only [go_sem, ↓reduceIte, zn1]; rfl) (by simp (disch := omega) only [go_sem, ↓reduceIte, zn3]; rfl) rfl
end Go.Proofs.YtphilljhfdlfdaaGreat
namespace Go.Proofs.YtphilljhfdlfdaaGreat
open Go.RowKit
theorem dg_take : ∀ (k j m : Nat), (dg (k + j) m).take k = dg k m
  | 0, j, m => by simp [dg]
  | k + 1, j, m => by
    rw [show k + 1 + j = (k + j) + 1 by omega]
    simp only [dg, zl3]
    rw [dg_take k j]
theorem dg_drop : ∀ (k j m : Nat), (dg (k + j) m).drop k = dg j (m / 4294967296 ^ k)
  | 0, j, m => by simp
  | k + 1, j, m => by
    rw [show k + 1 + j = (k + j) + 1 by omega]
    simp only [dg, zl9]
    rw [dg_drop k j, Nat.div_div_eq_div_mul, Nat.pow_succ, Nat.mul_comm]
theorem dg_getD : ∀ (k i m : Nat), i < k → (dg k m).getD i 0 = m / 4294967296 ^ i % 4294967296
  | k + 1, 0, m, _ => by simp [dg]
  | k + 1, i + 1, m, h => by
    have := dg_getD k i (m / 4294967296) (by omega)
    simp only [dg]
    rw [show (m % 4294967296 :: dg k (m / 4294967296)).getD (i + 1) 0 = (dg k (m / 4294967296)).getD i 0 from rfl, this, Nat.div_div_eq_div_mul, Nat.pow_succ, Nat.mul_comm]
theorem take_succ_getD {l : List Nat} {i : Nat} (h : i < l.length) : l.take (i + 1) = l.take i ++ [l.getD i 0] := by
  rw [List.take_succ_eq_append_getElem h, List.getD_eq_getElem?_getD, zlb h]; rfl
theorem only_lv (p : Nat → Prop) (l : List Nat) : ∀ y ∈ lv l, Only p y := fun y hy => by
  obtain ⟨v, rfl⟩ := lv_sc l y hy
  exact .sc _
structure Shifted (Y s n m : Nat) : Prop where
  lt : Y * m < 4294967296 ^ n
  top : 2147483648 ≤ (dg (n + 1) (Y * m)).getD (n - 1) 0
theorem shifted {Y n t : Nat} (hn : (limbsOf Y).length = n) (h1 : 1 ≤ n) (ht : (limbsOf Y).getD (n - 1) 0 = t) : Shifted Y (32 - bl t) n (2 ^ (32 - bl t)) ∧ t ≠ 0 ∧ bl t ≤ 32 ∧ t < 4294967296 := by
  have tl := limbs_getD (limbsOf_limbs Y) (n - 1)
  rw [ht] at tl
  have hb := bl_le_of (x := t) (k := 32) (by omega)
  have t0 : t ≠ 0 := by
    have hc := limbsOf_canon Y (by intro e; rw [e] at hn; simp at hn; omega)
    rw [List.getLast_eq_getElem] at hc
    rw [List.getD_eq_getElem?_getD, zlb (by omega)] at ht
    simp only [hn] at hc
    intro e; exact hc (by simpa [e] using ht)
  have hv := val_last (z := limbsOf Y) (n := n - 1) (by omega)
  rw [limbsOf_val, ht] at hv
  have hlt := val_lt (limbs_take (limbsOf_limbs Y) (n - 1))
  rw [List.length_take, Nat.min_eq_left (by omega)] at hlt
  obtain ⟨a1, a2⟩ := bl_le t0
  have a3 := bl_lt t
  have p1 : 2 ^ bl t * 2 ^ (32 - bl t) = 4294967296 := by rw [← Nat.pow_add, show bl t + (32 - bl t) = 32 by omega]
  have p2 : 2 ^ (bl t - 1) * 2 ^ (32 - bl t) = 2147483648 := by rw [← Nat.pow_add, show bl t - 1 + (32 - bl t) = 31 by omega]
  have p3 : 4294967296 ^ n = 4294967296 ^ (n - 1) * 4294967296 := by rw [← Nat.pow_succ, show (n - 1).succ = n by omega]
  generalize hMM : 4294967296 ^ (n - 1) = M at *
  have hM : 0 < M := by omega
  generalize 2 ^ (32 - bl t) = p at *
  have u1 : Y * p < M * 4294967296 := by
    have b1 : Y < M * (t + 1) := by rw [Nat.mul_add]; omega
    have b2 : M * (t + 1) ≤ M * 2 ^ bl t := Nat.mul_le_mul_left _ (by omega)
    have hp : 0 < p := by rcases Nat.eq_zero_or_pos p with e | e; subst e; omega; exact e
    have b3 := Nat.mul_lt_mul_of_pos_right (Nat.lt_of_lt_of_le b1 b2) hp
    rw [Nat.mul_assoc, p1] at b3; exact b3
  refine ⟨⟨by rw [p3]; exact u1, ?_⟩, t0, hb, tl⟩
  rw [dg_getD _ _ _ (by omega)]
  rw [hMM]
  have u2 : 2147483648 * M ≤ Y * p := by
    have c1 : 2 ^ (bl t - 1) * p ≤ t * p := Nat.mul_le_mul_right _ a1
    have c2 : M * t ≤ Y := by omega
    have c3 := Nat.mul_le_mul_right p c2
    have c4 : M * 2147483648 ≤ M * (t * p) := Nat.mul_le_mul_left _ (by omega)
    rw [← Nat.mul_assoc] at c4
    omega
  have d1 := (Nat.le_div_iff_mul_le hM).2 u2
  have d2 := Nat.div_lt_of_lt_mul u1
  rw [Nat.mod_eq_of_lt d2]; exact d1
set_option maxHeartbeats 4000000 in
theorem div_long (X Y : Nat) (hX : (limbsOf X).length ≤ 300000000) (hX2 : 2 < (limbsOf X).length) (h0 : 2 ≤ (limbsOf Y).length) (h : Y ≤ X) : ∃ x, DivTo X Y x ∧ Spec Tryz.prog 92 [sv (limbsOf X), sv (limbsOf Y)] x := by
  have hlY := len_le_of h
  have c1 := compare_n X Y (by omega) (by omega)
  have hs0 : 0 ≤ ((X : Int) - Y).sign := by rcases Nat.lt_or_ge Y X with e | e; rw [Int.sign_eq_one_of_pos (by omega)]; omega; rw [show (X : Int) - Y = 0 by omega]; decide
  have gX := val_lt (limbsOf_limbs X)
  rw [limbsOf_val] at gX
  obtain ⟨hSh, ht0, htb, htl⟩ := shifted (Y := Y) rfl (by omega) rfl
  have hY0 : 0 < Y := by
    rcases Nat.eq_zero_or_pos Y with e | e
    · rw [e] at h0; simp [limbsOf_zero] at h0
    · exact e
  have gY := canon_ge (limbsOf_canon Y) (by intro e; rw [e] at h0; simp at h0)
  rw [limbsOf_val] at gY
  have c3 := shift_n (limbsOf X) (32 - bl ((limbsOf Y).getD ((limbsOf Y).length - 1) 0)) (limbsOf_limbs _) (by have := (bl_le ht0).2; omega) (by omega)
  have c4 := shift_n (limbsOf Y) (32 - bl ((limbsOf Y).getD ((limbsOf Y).length - 1) 0)) (limbsOf_limbs _) (by have := (bl_le ht0).2; omega) (by omega)
  have c2 := lz32_s _ htl
  have gt := lv_get (l := limbsOf Y) (i := (limbsOf Y).length - 1) (by omega)
  rw [limbsOf_val] at c3 c4
  have hRlt : X % Y < 4294967296 ^ (limbsOf Y).length := by
    have h1 := val_lt (limbsOf_limbs Y)
    rw [limbsOf_val] at h1
    have := Nat.mod_lt X hY0
    omega
  have hQlt : X / Y < 4294967296 ^ ((limbsOf X).length - (limbsOf Y).length + 1) := by
    refine Nat.div_lt_of_lt_mul (Nat.lt_of_lt_of_le gX ?_)
    refine Nat.le_trans ?_ (Nat.mul_le_mul_right _ gY)
    rw [← Nat.pow_add]
    exact Nat.pow_le_pow_right (by omega) (by omega)
  refine ⟨_, ⟨dg ((limbsOf X).length - (limbsOf Y).length + 1) (X / Y), dg (limbsOf Y).length (X % Y), rfl, dg_limbs _ _, dg_limbs _ _, dg_val _ _ hQlt, dg_val _ _ hRlt, by rw [dg_len]; omega, by rw [dg_len]; omega⟩, ?_⟩
  have q1 := decide_eq_false (p := ((X : Int) - Y).sign < 0) (by omega)
  have q2 := decide_eq_false (p := ((limbsOf X).length : Int) ≤ 2) (by omega)
  have q3 : (((limbsOf Y).length : Int) == 1) = false := by rw [beq_eq_false_iff_ne]; omega
  unfold sv at *
  rw [dg_len, dg_len]
  generalize ((X : Int) - Y).sign = sg at *
  generalize hlx : (limbsOf X).length = lx at *
  generalize hn : (limbsOf Y).length = n at *
  generalize (limbsOf Y).getD (n - 1) 0 = t at *
  generalize hs : 32 - bl t = s at *
  have i1 : ((n : Int) - 1).toNat = n - 1 := by omega
  have hN : ((lx : Int) - n + 1).toNat = lx - n + 1 := by omega
  refine Spec.run Tryz.func92 rfl Tryz.ntmps92 (by simp) (by simp (disch := omega) only [go_sem, zn4]; rfl) fun B hB => ?_
  (repeat (first | (with_reducible refine oz (by constructor <;> decide) ?_) | ((first | apply SO.call | apply DO.call); (iterate 3 (simp (disch := omega) only [go_sem, ↓reduceIte, zn1] <;> rfl)); (first | apply SCall.ofX | apply DCall.ofX); (assumption); (simp (disch := omega) only [go_sem] <;> rfl)) | ((with_reducible first | apply wa | apply wb | apply wc | apply wd); (simp (disch := omega) only [go_sem, ↓reduceIte, zn1, reduceCtorEq, if_pos, q1, q2, q3, i1, gt, lv_len, hn, zl5] <;> rfl); (first | refine pickF ?_ | fail_if_success with_reducible refine pickA ?_)) | ((with_reducible refine SC.draw Tab.mixed ?_ ?_); rfl) | (with_reducible apply SC.ops)))
  (refine DO.callN Tab.go107 (by simp (disch := omega) only [go_sem, ↓reduceIte, zn1]; rfl) (by simp (disch := omega) only [go_sem] <;> rfl) ?_; refine DNew.of (c3) rfl (by simp (disch := omega) only [go_sem]; rfl) ?_)
  (repeat (refine DO.run (by simp (disch := omega) only [go_sem, ↓reduceIte, zn1, reduceCtorEq]; rfl) ?_))
  (refine DO.callN Tab.go107 (by simp (disch := omega) only [go_sem, ↓reduceIte, zn1]; rfl) (by simp (disch := omega) only [go_sem] <;> rfl) ?_; refine DNew.of (c4) rfl (by simp (disch := omega) only [go_sem, zn4]; rfl) ?_)
  (repeat (refine DO.run (by simp (disch := omega) only [go_sem, ↓reduceIte, zn1, if_pos]; rfl) ?_))
  (refine DO.nil (by kernel_rfl) ?_)
  (repeat (first | (with_reducible refine oz (by constructor <;> decide) ?_) | ((with_reducible apply SC.region); (simp (disch := omega) only [go_sem, ↓reduceIte, zn1, zn4, reduceCtorEq, if_pos, hN]; rfl))))
  have hp0 : 0 < 2 ^ s := Nat.pow_pos (by omega)
  have hsl : s ≤ 31 := by have := (bl_le ht0).2; omega
  obtain ⟨hYlt, htop⟩ := hSh
  have hVt : (dg (n + 1) (Y * 2 ^ s)).take n = dg n (Y * 2 ^ s) := dg_take n 1 _
  have hVv := dg_val n (Y * 2 ^ s) hYlt
  have hVl := dg_len (n + 1) (Y * 2 ^ s)
  have hVb := dg_limbs (n + 1) (Y * 2 ^ s)
  have hinit : dvInv (X * 2 ^ s) (Y * 2 ^ s) n (lx - n + 1) (dg (lx + 1) (X * 2 ^ s)) (List.replicate (lx - n + 1) 0) := by
    have hXX : X * 2 ^ s < 4294967296 ^ (lx + 1) := by
      rw [Nat.pow_succ]
      have := Nat.pow_le_pow_right (n := 2) (by omega) (show s ≤ 32 by omega)
      exact Nat.mul_lt_mul_of_lt_of_le gX this (by omega)
    have hlt : X * 2 ^ s < 4294967296 ^ (lx - n + 1) * (Y * 2 ^ s) := by
      rw [← Nat.mul_assoc]
      refine Nat.mul_lt_mul_of_pos_right (Nat.lt_of_lt_of_le gX ?_) hp0
      refine Nat.le_trans ?_ (Nat.mul_le_mul_left _ gY)
      rw [← Nat.pow_add]
      exact Nat.pow_le_pow_right (by omega) (by omega)
    have hdv := Nat.div_lt_of_lt_mul hlt
    refine ⟨dg_limbs _ _, limbs_replicate _, by rw [dg_len, List.length_replicate]; omega, by simp, ?_, ?_⟩
    · rw [show lx + 1 = (lx - n + 1) + n by omega, dg_drop, dg_val _ _ (Nat.lt_trans hdv hYlt)]
      exact hdv
    · rw [dg_val _ _ hXX]; simp [val]
  generalize dg (n + 1) (Y * 2 ^ s) = V at *
  refine SC.loop (fun y : Nat × List Nat × List Nat => ⟨[(0, .im (lv (limbsOf X)) lx), (1, .im (lv (limbsOf Y)) n), (10, .sc (.int .i64 s)), (11, .sc (.int .i64 n)), (12, .sl 0 0 (lx + 1) 1 none), (13, .sl 1 0 n 1 (some n)), (14, .sl 2 0 (lx - n + 1) 1 none), (15, .sc (.int .i64 ((y.1 : Int) - 1)))], [(0, ⟨87, lv y.2.1, false⟩), (1, ⟨87, lv V, false⟩), (2, ⟨87, lv y.2.2, false⟩)], 3, 128⟩)
    (fun y => y.2.2.length = lx - n + 1 ∧ dvInv (X * 2 ^ s) (Y * 2 ^ s) n y.1 y.2.1 y.2.2) (fun y => y.1) (lx - n + 1, dg (lx + 1) (X * 2 ^ s), List.replicate (lx - n + 1) 0) ?_ ?_ ?_
  · (refine Le.of [] hB (by exact ⟨znc _, fun _ _ => znc _⟩) ?_ ?_ <;> (repeat' (first | exact leSl_nil | exact leHp_nil | refine leSl_cons (by simp (disch := omega) only [go_sem, ↓reduceIte, zn1, reduceCtorEq]; rfl) ?_ ?_ | refine leHp_cons (by simp (disch := omega) only [go_sem, ↓reduceIte, zn1, reduceCtorEq]; rfl) ?_ ?_ | exact VLe.refl rfl | exact VLe.int (by first | rfl | omega) | exact VLe.cap rfl (by rfl) | refine HLe.same rfl ?_ | refine LLe.cons ?_ ?_)))
    all_goals first | exact LLe.lv rfl | exact LLe.lv (lv_rep _)
  · exact ⟨by simp, hinit⟩
  · rintro ⟨k, Z, q⟩ ⟨hql, hI⟩ K hK
    simp only at hql hI ⊢
    have hI' := hI
    obtain ⟨hZb, hqb, hZl, hkq, _, _⟩ := hI'
    by_cases hk0 : k = 0
    · subst hk0
      have q4 : decide ((0 : Int) ≤ ((0 : Nat) : Int) - 1) = false := by simp
      obtain ⟨f1, f2⟩ := hI.done hp0 hY0
      have hqe := dg_eq hqb
      rw [f1, hql] at hqe
      have hqt : q.take (lx - n + 1) = q := by rw [← hql]; exact List.take_length
      (repeat (first | (with_reducible refine SC.condB (by simp (disch := omega) only [go_sem, ↓reduceIte]; rfl) ?_; with_reducible refine pickF ?_) | (with_reducible refine oz (by constructor <;> decide) ?_) | ((with_reducible apply SC.region); (simp (disch := omega) only [go_sem, ↓reduceIte, zn1, zn4, reduceCtorEq, if_pos, q4]; rfl))))
      have hDg : ∀ i, i < n → (dg n (X % Y)).getD i 0 = ((Z.getD (i + 1) 0 * 4294967296 + Z.getD i 0) / 2 ^ s) % 4294967296 := fun i hi => by
        rw [dg_getD _ _ _ hi, ← f2]; exact (back_limb hZb (by omega) (by omega)).symm
      have hDl := dg_len n (X % Y)
      have hDb := dg_limbs n (X % Y)
      generalize dg n (X % Y) = D at *
      refine SC.loop (fun y : Nat × List Nat => ⟨[(10, .sc (.int .i64 s)), (12, .sl 0 0 (lx + 1) 1 none), (14, .sl 2 0 (lx - n + 1) 1 none), (16, .sl 3 0 n 1 none), (102, .sc (.int .i64 n)), (103, .sc (.int .i64 y.1))], [(0, ⟨87, lv Z, false⟩), (2, ⟨87, lv q, false⟩), (3, ⟨87, lv y.2, false⟩)], 4, 128⟩)
        (fun y => y.1 ≤ n ∧ y.2.length = n ∧ y.2.take y.1 = D.take y.1) (fun y => n - y.1) (0, List.replicate n 0) ?_ ?_ ?_
      · (refine Le.of [] hB (by exact ⟨znc _, fun _ _ => znc _⟩) ?_ ?_ <;> (repeat' (first | exact leSl_nil | exact leHp_nil | refine leSl_cons (by simp (disch := omega) only [go_sem, ↓reduceIte, zn1, reduceCtorEq]; rfl) ?_ ?_ | refine leHp_cons (by simp (disch := omega) only [go_sem, ↓reduceIte, zn1, reduceCtorEq]; rfl) ?_ ?_ | exact VLe.refl rfl | exact VLe.cap rfl (by rfl) | refine HLe.same rfl ?_)))
        all_goals first | exact LLe.lv rfl | exact LLe.lv (lv_rep _)
      · exact ⟨znc _, by simp, rfl⟩
      · rintro ⟨i, r⟩ ⟨hin, hrl, hrt⟩ K' hK'
        simp only at hin hrl hrt ⊢
        by_cases hlti : i < n
        · have q5 := decide_eq_true (p := (i : Int) < (n : Int)) (by omega)
          have hi1 : ((i : Int) + 1).toNat = i + 1 := by omega
          have ga := lv_get (l := Z) (i := i + 1) (by omega)
          have gb := lv_get (l := Z) (i := i) (by omega)
          have la := limbs_getD hZb (i + 1)
          have lb := limbs_getD hZb i
          have hD := hDg i hlti
          have hts := take_succ_getD (l := D) (i := i) (by omega)
          rw [hD] at hts
          have htr : (r.set i ((Z.getD (i + 1) 0 * 4294967296 + Z.getD i 0) / 2 ^ s % 4294967296)).take (i + 1) = D.take (i + 1) := by
            rw [take_set_succ (by omega), hts, hrt]
          generalize Z.getD (i + 1) 0 = a at *
          generalize Z.getD i 0 = b at *
          have hor := or_up a b la lb
          have hms : min s 64 = s := by omega
          have hfd : ((a * 4294967296 + b : Nat) : Int).fdiv (2 ^ s) = (((a * 4294967296 + b) / 2 ^ s : Nat) : Int) := by
            rw [Int.fdiv_eq_ediv_of_nonneg _ (Int.le_of_lt (Int.pow_pos (by omega)))]; simp
          have hwb : (a * 4294967296 + b) / 2 ^ s < 18446744073709551616 := Nat.lt_of_le_of_lt (Nat.div_le_self _ _) (by omega)
          generalize (a * 4294967296 + b) / 2 ^ s = w at *
          (repeat (first | (with_reducible refine SC.condB (by simp (disch := omega) only [go_sem, ↓reduceIte]; rfl) ?_; with_reducible refine pickT ?_) | (with_reducible refine oz (by constructor <;> decide) ?_) | ((with_reducible apply SC.region); (simp (disch := omega) only [go_sem, ↓reduceIte, zn1, q5]; rfl)) | (with_reducible refine SC.draw Tab.mixed rfl ?_; (repeat (refine DO.run (by simp (disch := omega) only [go_sem, ↓reduceIte, zn1, reduceCtorEq, zi1, zi2, if_pos, if_neg, lv_len, hi1, ga, gb, hor, hms, hfd, mi32, lv_len, hrl]; rfl) ?_)); refine DO.nil (by kernel_rfl) ?_)))
          refine hK' _ (i + 1, r.set i (w % 4294967296)) ?_ ⟨by simp only; omega, by simp [hrl], htr⟩ (by simp only; omega)
          (refine Le.of [] hB (by exact ⟨znc _, fun _ _ => znc _⟩) ?_ ?_ <;> (repeat' (first | exact leSl_nil | exact leHp_nil | refine leSl_cons (by simp (disch := omega) only [go_sem, ↓reduceIte, zn1]; rfl) ?_ ?_ | refine leHp_cons (by simp (disch := omega) only [go_sem, ↓reduceIte, zn1, reduceCtorEq]; rfl) ?_ ?_ | exact VLe.refl rfl | refine HLe.same rfl ?_)))
          all_goals first | exact LLe.lv rfl | exact LLe.lv (lv_set (by omega))
        · have hie : i = n := by omega
          subst hie
          have q5 := decide_eq_false (p := (i : Int) < (i : Int)) (by omega)
          have hrD : r = D := by
            rw [zla (by omega), zla (by omega)] at hrt; exact hrt
          subst hrD
          have hrt2 : r.take i = r := by rw [← hrl]; exact List.take_length
          (repeat (first | (with_reducible refine SC.condB (by simp (disch := omega) only [go_sem, ↓reduceIte]; rfl) ?_; with_reducible refine pickF ?_) | (with_reducible refine oz (by constructor <;> decide) ?_) | ((with_reducible apply SC.region); (simp (disch := omega) only [go_sem, ↓reduceIte, zn1, zn2, q5]; rfl))))
          refine retQ_ret Tryz.results92 (by simp (disch := omega) only [go_sem, ↓reduceIte, zn1]; rfl) (by simp (disch := omega) only [go_sem, ↓reduceIte, zn1, reduceCtorEq, if_pos, lv_len, lv_take, lv_clo, hqt, hrt2]; rfl) ?_
          rw [hqe]
    · obtain ⟨j, rfl⟩ : ∃ j, k = j + 1 := ⟨k - 1, by omega⟩
      have q4 : decide ((0 : Int) ≤ ((j + 1 : Nat) : Int) - 1) = true := by simp
      have hi : (((j + 1 : Nat) : Int) - 1).toNat = j := by omega
      obtain ⟨g1, g2, g3⟩ := hI.seg hYlt
      have hdig := digit_i Z V j n hZb hVb (by omega) (by omega) (by omega) (by omega) htop (by rw [hVt, hVv]; exact g3)
      rw [hVt, hVv] at hdig
      (repeat (first | (with_reducible refine SC.condB (by simp (disch := omega) only [go_sem, ↓reduceIte]; rfl) ?_; with_reducible refine pickT ?_) | (with_reducible refine oz (by constructor <;> decide) ?_) | ((with_reducible apply SC.region); (simp (disch := omega) only [go_sem, ↓reduceIte, zn1, reduceCtorEq, if_pos, q4]; rfl))))
      refine SC.ops ?_
      (repeat (refine SO.run (by simp (disch := omega) only [go_sem, ↓reduceIte, zn1, reduceCtorEq, if_pos, hi]; rfl) ?_))
      have hi2 : (((j + 1 : Nat) : Int) - 1 + (n : Int) + 1).toNat - j = n + 1 := by omega
      refine SO.inl (by simp (disch := omega) only [go_sem]; rfl) Tab.go108 (by simp (disch := omega) only [go_sem, ↓reduceIte, zn1, hi2]; rfl) (by simp (disch := omega) only [go_sem] <;> rfl) ?_
      refine SInl.of hdig (by simp (disch := omega) only [go_sem, ↓reduceIte, reduceCtorEq]; try exact ⟨rfl, rfl, trivial⟩) (.sc _) ⟨only_lv _ _, only_lv _ _, trivial⟩ (by simp (disch := omega) only [go_sem]; rfl) (by simp (disch := omega) only [go_sem, ↓reduceIte, zn1, reduceCtorEq, decide_true, decide_false, Bool.or_true, Bool.or_false, Bool.or_self, zl8, zl7]; rfl) ?_
      have hst := hI.step hYlt (Nat.mul_pos hY0 hp0) (dg_limbs (n + 1) _) (dg_len _ _) (dg_val _ _ (Nat.lt_of_lt_of_le (Nat.mod_lt _ (Nat.mul_pos hY0 hp0)) (Nat.le_trans (Nat.le_of_lt hYlt) (Nat.pow_le_pow_right (by omega) (by omega)))))
      have hseg : seg Z j (dg (n + 1) (val ((Z.drop j).take (n + 1)) % (Y * 2 ^ s))) = Z.take j ++ (dg (n + 1) (val ((Z.drop j).take (n + 1)) % (Y * 2 ^ s)) ++ Z.drop (j + (n + 1))) := by
        unfold seg; rw [dg_len]
      rw [← hseg] at hst
      generalize val ((Z.drop j).take (n + 1)) / (Y * 2 ^ s) = d at *
      generalize seg Z j (dg (n + 1) (val ((Z.drop j).take (n + 1)) % (Y * 2 ^ s))) = Z' at *
      (repeat (refine SO.run (by simp (disch := omega) only [go_sem, ↓reduceIte, zn1, zn3, reduceCtorEq, if_pos, lv_len, hi, lv_len, hql]; rfl) ?_))
      (repeat (first | (with_reducible refine oz (by constructor <;> decide) ?_) | ((with_reducible apply SC.region); (simp (disch := omega) only [go_sem, ↓reduceIte, zn1, reduceCtorEq]; rfl))))
      refine hK _ (j, Z', q.set j d) ?_ ⟨by simp [hql], hst⟩ (by simp only; omega)
      (refine Le.of [] hB (by exact ⟨znc _, fun _ _ => znc _⟩) ?_ ?_ <;> (repeat' (first | exact leSl_nil | exact leHp_nil | refine leSl_cons (by simp only [go_sem, ↓reduceIte, zn1, reduceCtorEq]; rfl) ?_ ?_ | refine leHp_cons (by simp only [go_sem, ↓reduceIte, zn1, reduceCtorEq]; rfl) ?_ ?_ | exact VLe.refl rfl | exact VLe.int (by first | rfl | omega) | refine HLe.same rfl ?_)))
      all_goals first | exact LLe.lv rfl | exact LLe.lv (lv_set rfl)
end Go.Proofs.YtphilljhfdlfdaaGreat
namespace Go.Proofs.YtphilljhfdlfdaaGreat
open Go.RowKit
theorem divide_any (X Y : Nat) (hX : (limbsOf X).length ≤ 300000000) (hY : (limbsOf Y).length ≤ 300000000) (h0 : 0 < Y) : ∃ x, DivTo X Y x ∧ Spec Tryz.prog 92 [sv (limbsOf X), sv (limbsOf Y)] x := by
  rcases Nat.lt_or_ge X Y with h | h
  · exact div_less X Y hX hY h
  · rcases Nat.lt_or_ge 2 (limbsOf X).length with h2 | h2
    · rcases Nat.lt_or_ge Y 4294967296 with h3 | h3
      · exact div_one X Y hX h2 h0 h3
      · exact div_long X Y hX h2 (limbsOf_ge h3) h
    · exact div_two X Y h2 h0 h
end Go.Proofs.YtphilljhfdlfdaaGreat
namespace Go.Proofs.YtphilljhfdlfdaaGreat
open Go.RowKit
theorem made_int (x : Int) (h : (limbsOf x.natAbs).length ≤ 1000000000) (b : Bool) (hb : decide (x < 0) = b) : Spec Tryz.prog 18 [sv (limbsOf x.natAbs), .sc (.bool b)] (iv x) := by
  have := made_i (limbsOf x.natAbs) b (limbsOf_limbs _) h
  rwa [limbsOf_val, show sgn b x.natAbs = x by rw [← hb]; unfold sgn; split <;> simp_all <;> omega] at this
theorem divmod_1 (x y : Int) (K : Nat) (hx : Fits K x) (hy : Fits K y) (hK : K ≤ 200000000) (h0 : y ≠ 0) (hna : decide (x < 0) = false) (hnb : decide (y < 0) = false) : Spec Tryz.prog 81 [iv x, iv y] (.tu [iv (x / y), iv (x % y), .sc (.int .i64 0)]) := by
  have lx := fits_len hx
  have ly := fits_len hy
  have c1 := made_int x (by omega) _ hna
  have c2 := made_int y (by omega) _ hnb
  have c3 := sign_i y K hy (by omega)
  have q1 : (y.sign == 0) = false := by simp [Int.sign_eq_zero_iff_zero, h0]
  have hp : 0 < y.natAbs := by omega
  have c4 := divide_i x.natAbs y.natAbs K hx hy (by omega) hp
  have hsp := divmod_spec false false x.natAbs y.natAbs hp
  rw [show sgn false x.natAbs = x by unfold sgn; simp at hna ⊢; omega, show sgn false y.natAbs = y by unfold sgn; simp at hnb ⊢; omega] at hsp
  have hml := Nat.mod_lt x.natAbs hp
  have fq : Fits (K + 1) ((x.natAbs / y.natAbs : Nat) : Int) := (hx.mono (Nat.le_succ K)).of_natAbs_le (by rw [Int.natAbs_natCast]; exact Nat.div_le_self _ _)
  have fr : Fits (K + 1) ((x.natAbs % y.natAbs : Nat) : Int) := (hy.mono (Nat.le_succ K)).of_natAbs_le (by rw [Int.natAbs_natCast]; exact Nat.le_of_lt hml)
  simp only [Bool.false_eq_true, false_and, if_false, ne_eq, not_true_eq_false] at hsp
  rw [← hsp.1, ← hsp.2]
  generalize x.natAbs / y.natAbs = q at *
  generalize x.natAbs % y.natAbs = r at *
  unfold iv sv at *
  rw [hna, hnb]
  rw [hna] at c1
  rw [hnb] at c2 c3
  have q3 : (false != false) = false := rfl
  refine Spec.run Tryz.func81 rfl Tryz.ntmps81 (by simp) (by simp only [go_sem, zn4]; rfl) fun B hB => ?_
  (repeat (first | refine DO.nil (by kernel_rfl) ?_ | (with_reducible refine oz (by constructor <;> decide) ?_) | ((first | apply SO.call | apply DO.call); (iterate 3 (simp (disch := omega) only [go_sem, ↓reduceIte, zn1] <;> rfl)); (first | apply SCall.ofX | apply DCall.ofX); (assumption); (simp (disch := omega) only [go_sem] <;> rfl)) | ((with_reducible first | apply wa | apply wb | apply wc | apply wd); (simp (disch := omega) only [go_sem, ↓reduceIte, zn1, zn2, zn3, zn4, reduceCtorEq, q1, q3] <;> rfl); (first | refine pickF ?_ | fail_if_success with_reducible refine pickA ?_)) | ((with_reducible refine SC.draw Tab.mixed ?_ ?_); rfl) | (with_reducible apply SC.ops)))
  exact retQ_ret Tryz.results81 (by simp (disch := omega) only [go_sem, ↓reduceIte, zn1, zn3, zn4]; rfl) (by simp (disch := omega) only [go_sem, ↓reduceIte]; rfl) rfl
theorem divmod_2 (x y : Int) (K : Nat) (hx : Fits K x) (hy : Fits K y) (hK : K ≤ 200000000) (h0 : y ≠ 0) (hna : decide (x < 0) = false) (hnb : decide (y < 0) = true) : Spec Tryz.prog 81 [iv x, iv y] (.tu [iv (x / y), iv (x % y), .sc (.int .i64 0)]) := by
  have lx := fits_len hx
  have ly := fits_len hy
  have c1 := made_int x (by omega) _ hna
  have c2 := made_int y (by omega) _ hnb
  have c3 := sign_i y K hy (by omega)
  have q1 : (y.sign == 0) = false := by simp [Int.sign_eq_zero_iff_zero, h0]
  have hp : 0 < y.natAbs := by omega
  have c4 := divide_i x.natAbs y.natAbs K hx hy (by omega) hp
  have hsp := divmod_spec false true x.natAbs y.natAbs hp
  rw [show sgn false x.natAbs = x by unfold sgn; simp at hna ⊢; omega, show sgn true y.natAbs = y by unfold sgn; simp at hnb ⊢; omega] at hsp
  have hml := Nat.mod_lt x.natAbs hp
  have fq : Fits (K + 1) ((x.natAbs / y.natAbs : Nat) : Int) := (hx.mono (Nat.le_succ K)).of_natAbs_le (by rw [Int.natAbs_natCast]; exact Nat.div_le_self _ _)
  have fr : Fits (K + 1) ((x.natAbs % y.natAbs : Nat) : Int) := (hy.mono (Nat.le_succ K)).of_natAbs_le (by rw [Int.natAbs_natCast]; exact Nat.le_of_lt hml)
  have c10 := neg_i (((x.natAbs / y.natAbs : Nat) : Int)) (K + 2) (fq.mono (by omega)) (by omega)
  simp only [Bool.false_eq_true, false_and, if_false, ne_eq, not_false_eq_true, if_true] at hsp
  rw [← hsp.1, ← hsp.2]
  generalize x.natAbs / y.natAbs = q at *
  generalize x.natAbs % y.natAbs = r at *
  unfold iv sv at *
  rw [hna, hnb]
  rw [hna] at c1
  rw [hnb] at c2 c3
  have q3 : (false != true) = true := rfl
  refine Spec.run Tryz.func81 rfl Tryz.ntmps81 (by simp) (by simp only [go_sem, zn4]; rfl) fun B hB => ?_
  (repeat (first | refine DO.nil (by kernel_rfl) ?_ | (with_reducible refine oz (by constructor <;> decide) ?_) | ((first | apply SO.call | apply DO.call); (iterate 3 (simp (disch := omega) only [go_sem, ↓reduceIte, zn1] <;> rfl)); (first | apply SCall.ofX | apply DCall.ofX); (assumption); (simp (disch := omega) only [go_sem] <;> rfl)) | ((with_reducible first | apply wa | apply wb | apply wc | apply wd); (simp (disch := omega) only [go_sem, ↓reduceIte, zn1, zn2, zn3, zn4, reduceCtorEq, q1, q3] <;> rfl); (first | refine pT ?_ | refine pF ?_ | fail_if_success with_reducible refine pA ?_)) | ((with_reducible refine SC.draw Tab.mixed ?_ ?_); rfl) | (with_reducible apply SC.ops)))
  exact retQ_ret Tryz.results81 (by simp (disch := omega) only [go_sem, ↓reduceIte, zn1, zn3, zn4]; rfl) (by simp (disch := omega) only [go_sem, ↓reduceIte]; rfl) rfl
theorem divmod_3 (x y : Int) (K : Nat) (hx : Fits K x) (hy : Fits K y) (hK : K ≤ 200000000) (h0 : y ≠ 0) (hna : decide (x < 0) = true) (hnb : decide (y < 0) = false) (hr : 0 < x.natAbs % y.natAbs) : Spec Tryz.prog 81 [iv x, iv y] (.tu [iv (x / y), iv (x % y), .sc (.int .i64 0)]) := by
  have lx := fits_len hx
  have ly := fits_len hy
  have c1 := made_int x (by omega) _ hna
  have c2 := made_int y (by omega) _ hnb
  have c3 := sign_i y K hy (by omega)
  have q1 : (y.sign == 0) = false := by simp [Int.sign_eq_zero_iff_zero, h0]
  have hp : 0 < y.natAbs := by omega
  have c4 := divide_i x.natAbs y.natAbs K hx hy (by omega) hp
  have hsp := divmod_spec true false x.natAbs y.natAbs hp
  rw [show sgn true x.natAbs = x by unfold sgn; simp at hna ⊢; omega, show sgn false y.natAbs = y by unfold sgn; simp at hnb ⊢; omega] at hsp
  have hml := Nat.mod_lt x.natAbs hp
  have fq : Fits (K + 1) ((x.natAbs / y.natAbs : Nat) : Int) := (hx.mono (Nat.le_succ K)).of_natAbs_le (by rw [Int.natAbs_natCast]; exact Nat.div_le_self _ _)
  have fr : Fits (K + 1) ((x.natAbs % y.natAbs : Nat) : Int) := (hy.mono (Nat.le_succ K)).of_natAbs_le (by rw [Int.natAbs_natCast]; exact Nat.le_of_lt hml)
  have c5 := sign_i ((x.natAbs % y.natAbs : Nat) : Int) (K + 1) fr (by omega)
  have q2 : decide ((0 : Int) < (((x.natAbs % y.natAbs : Nat) : Int)).sign) = true := by rw [Int.sign_eq_one_of_pos (by omega)]; rfl
  have c6 := of_i 1 (by omega) (by omega)
  have c7 := add_i ((x.natAbs / y.natAbs : Nat) : Int) 1 (K + 1) fq (by unfold Fits; exact Nat.one_lt_pow (by omega) (by omega)) (by omega)
  have c8 := made_nat y.natAbs (by omega)
  have c9 := sub_i (y.natAbs : Int) ((x.natAbs % y.natAbs : Nat) : Int) (K + 1) ((hy.mono (Nat.le_succ K)).of_natAbs_le (by omega)) fr (by omega)
  have c10 := neg_i (((x.natAbs / y.natAbs : Nat) : Int) + 1) (K + 2) (fq.add (by unfold Fits; exact Nat.one_lt_pow (by omega) (by omega))) (by omega)
  simp only [hr, if_true, ne_eq, not_false_eq_true, reduceCtorEq, and_self] at hsp
  rw [← hsp.1, ← hsp.2]
  generalize x.natAbs / y.natAbs = q at *
  generalize x.natAbs % y.natAbs = r at *
  unfold iv sv at *
  rw [hna, hnb]
  rw [hna] at c1
  rw [hnb] at c2 c3
  have q3 : (true != false) = true := rfl
  refine Spec.run Tryz.func81 rfl Tryz.ntmps81 (by simp) (by simp only [go_sem, zn4]; rfl) fun B hB => ?_
  (repeat (first | refine DO.nil (by kernel_rfl) ?_ | (with_reducible refine oz (by constructor <;> decide) ?_) | ((first | apply SO.call | apply DO.call); (iterate 3 (simp (disch := omega) only [go_sem, ↓reduceIte, zn1] <;> rfl)); (first | apply SCall.ofX | apply DCall.ofX); (assumption); (simp (disch := omega) only [go_sem] <;> rfl)) | ((with_reducible first | apply wa | apply wb | apply wc | apply wd); (simp (disch := omega) only [go_sem, ↓reduceIte, zn1, zn2, zn3, zn4, reduceCtorEq, q1, q2] <;> rfl); (first | refine pT ?_ | refine pF ?_ | fail_if_success with_reducible refine pA ?_)) | ((with_reducible refine SC.draw Tab.mixed ?_ ?_); rfl) | (with_reducible apply SC.ops)))
  exact retQ_ret Tryz.results81 (by simp (disch := omega) only [go_sem, ↓reduceIte, zn1, zn3, zn4]; rfl) (by simp (disch := omega) only [go_sem, ↓reduceIte]; rfl) rfl
theorem divmod_4 (x y : Int) (K : Nat) (hx : Fits K x) (hy : Fits K y) (hK : K ≤ 200000000) (h0 : y ≠ 0) (hna : decide (x < 0) = true) (hnb : decide (y < 0) = true) (hr : 0 < x.natAbs % y.natAbs) : Spec Tryz.prog 81 [iv x, iv y] (.tu [iv (x / y), iv (x % y), .sc (.int .i64 0)]) := by
  have lx := fits_len hx
  have ly := fits_len hy
  have c1 := made_int x (by omega) _ hna
  have c2 := made_int y (by omega) _ hnb
  have c3 := sign_i y K hy (by omega)
  have q1 : (y.sign == 0) = false := by simp [Int.sign_eq_zero_iff_zero, h0]
  have hp : 0 < y.natAbs := by omega
  have c4 := divide_i x.natAbs y.natAbs K hx hy (by omega) hp
  have hsp := divmod_spec true true x.natAbs y.natAbs hp
  rw [show sgn true x.natAbs = x by unfold sgn; simp at hna ⊢; omega, show sgn true y.natAbs = y by unfold sgn; simp at hnb ⊢; omega] at hsp
  have hml := Nat.mod_lt x.natAbs hp
  have fq : Fits (K + 1) ((x.natAbs / y.natAbs : Nat) : Int) := (hx.mono (Nat.le_succ K)).of_natAbs_le (by rw [Int.natAbs_natCast]; exact Nat.div_le_self _ _)
  have fr : Fits (K + 1) ((x.natAbs % y.natAbs : Nat) : Int) := (hy.mono (Nat.le_succ K)).of_natAbs_le (by rw [Int.natAbs_natCast]; exact Nat.le_of_lt hml)
  have c5 := sign_i ((x.natAbs % y.natAbs : Nat) : Int) (K + 1) fr (by omega)
  have q2 : decide ((0 : Int) < (((x.natAbs % y.natAbs : Nat) : Int)).sign) = true := by rw [Int.sign_eq_one_of_pos (by omega)]; rfl
  have c6 := of_i 1 (by omega) (by omega)
  have c7 := add_i ((x.natAbs / y.natAbs : Nat) : Int) 1 (K + 1) fq (by unfold Fits; exact Nat.one_lt_pow (by omega) (by omega)) (by omega)
  have c8 := made_nat y.natAbs (by omega)
  have c9 := sub_i (y.natAbs : Int) ((x.natAbs % y.natAbs : Nat) : Int) (K + 1) ((hy.mono (Nat.le_succ K)).of_natAbs_le (by omega)) fr (by omega)
  simp only [hr, if_true, ne_eq, not_true_eq_false, if_false, and_self] at hsp
  rw [← hsp.1, ← hsp.2]
  generalize x.natAbs / y.natAbs = q at *
  generalize x.natAbs % y.natAbs = r at *
  unfold iv sv at *
  rw [hna, hnb]
  rw [hna] at c1
  rw [hnb] at c2 c3
  have q3 : (true != true) = false := rfl
  refine Spec.run Tryz.func81 rfl Tryz.ntmps81 (by simp) (by simp only [go_sem, zn4]; rfl) fun B hB => ?_
  (repeat (first | refine DO.nil (by kernel_rfl) ?_ | (with_reducible refine oz (by constructor <;> decide) ?_) | ((first | apply SO.call | apply DO.call); (iterate 3 (simp (disch := omega) only [go_sem, ↓reduceIte, zn1] <;> rfl)); (first | apply SCall.ofX | apply DCall.ofX); (assumption); (simp (disch := omega) only [go_sem] <;> rfl)) | ((with_reducible first | apply wa | apply wb | apply wc | apply wd); (simp (disch := omega) only [go_sem, ↓reduceIte, zn1, zn2, zn3, zn4, reduceCtorEq, q1, q2, q3] <;> rfl); (first | refine pT ?_ | refine pF ?_ | fail_if_success with_reducible refine pA ?_)) | ((with_reducible refine SC.draw Tab.mixed ?_ ?_); rfl) | (with_reducible apply SC.ops)))
  exact retQ_ret Tryz.results81 (by simp (disch := omega) only [go_sem, ↓reduceIte, zn1, zn3, zn4]; rfl) (by simp (disch := omega) only [go_sem, ↓reduceIte]; rfl) rfl
theorem divmod_5 (x y : Int) (K : Nat) (hx : Fits K x) (hy : Fits K y) (hK : K ≤ 200000000) (h0 : y ≠ 0) (hna : decide (x < 0) = true) (hnb : decide (y < 0) = false) (hr : x.natAbs % y.natAbs = 0) : Spec Tryz.prog 81 [iv x, iv y] (.tu [iv (x / y), iv (x % y), .sc (.int .i64 0)]) := by
  have lx := fits_len hx
  have ly := fits_len hy
  have c1 := made_int x (by omega) _ hna
  have c2 := made_int y (by omega) _ hnb
  have c3 := sign_i y K hy (by omega)
  have q1 : (y.sign == 0) = false := by simp [Int.sign_eq_zero_iff_zero, h0]
  have hp : 0 < y.natAbs := by omega
  have c4 := divide_i x.natAbs y.natAbs K hx hy (by omega) hp
  have hsp := divmod_spec true false x.natAbs y.natAbs hp
  rw [show sgn true x.natAbs = x by unfold sgn; simp at hna ⊢; omega, show sgn false y.natAbs = y by unfold sgn; simp at hnb ⊢; omega] at hsp
  have hml := Nat.mod_lt x.natAbs hp
  have fq : Fits (K + 1) ((x.natAbs / y.natAbs : Nat) : Int) := (hx.mono (Nat.le_succ K)).of_natAbs_le (by rw [Int.natAbs_natCast]; exact Nat.div_le_self _ _)
  have fr : Fits (K + 1) ((x.natAbs % y.natAbs : Nat) : Int) := (hy.mono (Nat.le_succ K)).of_natAbs_le (by rw [Int.natAbs_natCast]; exact Nat.le_of_lt hml)
  have c5 := sign_i ((x.natAbs % y.natAbs : Nat) : Int) (K + 1) fr (by omega)
  have q2 : decide ((0 : Int) < (((x.natAbs % y.natAbs : Nat) : Int)).sign) = false := by rw [hr]; rfl
  have c10 := neg_i (((x.natAbs / y.natAbs : Nat) : Int)) (K + 2) (fq.mono (by omega)) (by omega)
  simp only [hr, Nat.lt_irrefl, and_false, if_false, ne_eq, not_false_eq_true, if_true, reduceCtorEq] at hsp
  rw [← hsp.1, ← hsp.2]
  generalize x.natAbs / y.natAbs = q at *
  generalize x.natAbs % y.natAbs = r at *
  subst hr
  unfold iv sv at *
  rw [hna, hnb]
  rw [hna] at c1
  rw [hnb] at c2 c3
  have q3 : (true != false) = true := rfl
  refine Spec.run Tryz.func81 rfl Tryz.ntmps81 (by simp) (by simp only [go_sem, zn4]; rfl) fun B hB => ?_
  (repeat (first | refine DO.nil (by kernel_rfl) ?_ | (with_reducible refine oz (by constructor <;> decide) ?_) | ((first | apply SO.call | apply DO.call); (iterate 3 (simp (disch := omega) only [go_sem, ↓reduceIte, zn1] <;> rfl)); (first | apply SCall.ofX | apply DCall.ofX); (assumption); (simp (disch := omega) only [go_sem] <;> rfl)) | ((with_reducible first | apply wa | apply wb | apply wc | apply wd); (simp (disch := omega) only [go_sem, ↓reduceIte, zn1, zn2, zn3, zn4, reduceCtorEq, q1, q3, q2] <;> rfl); (first | refine pT ?_ | refine pF ?_ | fail_if_success with_reducible refine pA ?_)) | ((with_reducible refine SC.draw Tab.mixed ?_ ?_); rfl) | (with_reducible apply SC.ops)))
  exact retQ_ret Tryz.results81 (by simp (disch := omega) only [go_sem, ↓reduceIte, zn1, zn3, zn4]; rfl) (by simp (disch := omega) only [go_sem, ↓reduceIte]; rfl) rfl
theorem divmod_6 (x y : Int) (K : Nat) (hx : Fits K x) (hy : Fits K y) (hK : K ≤ 200000000) (h0 : y ≠ 0) (hna : decide (x < 0) = true) (hnb : decide (y < 0) = true) (hr : x.natAbs % y.natAbs = 0) : Spec Tryz.prog 81 [iv x, iv y] (.tu [iv (x / y), iv (x % y), .sc (.int .i64 0)]) := by
  have lx := fits_len hx
  have ly := fits_len hy
  have c1 := made_int x (by omega) _ hna
  have c2 := made_int y (by omega) _ hnb
  have c3 := sign_i y K hy (by omega)
  have q1 : (y.sign == 0) = false := by simp [Int.sign_eq_zero_iff_zero, h0]
  have hp : 0 < y.natAbs := by omega
  have c4 := divide_i x.natAbs y.natAbs K hx hy (by omega) hp
  have hsp := divmod_spec true true x.natAbs y.natAbs hp
  rw [show sgn true x.natAbs = x by unfold sgn; simp at hna ⊢; omega, show sgn true y.natAbs = y by unfold sgn; simp at hnb ⊢; omega] at hsp
  have hml := Nat.mod_lt x.natAbs hp
  have fq : Fits (K + 1) ((x.natAbs / y.natAbs : Nat) : Int) := (hx.mono (Nat.le_succ K)).of_natAbs_le (by rw [Int.natAbs_natCast]; exact Nat.div_le_self _ _)
  have fr : Fits (K + 1) ((x.natAbs % y.natAbs : Nat) : Int) := (hy.mono (Nat.le_succ K)).of_natAbs_le (by rw [Int.natAbs_natCast]; exact Nat.le_of_lt hml)
  have c5 := sign_i ((x.natAbs % y.natAbs : Nat) : Int) (K + 1) fr (by omega)
  have q2 : decide ((0 : Int) < (((x.natAbs % y.natAbs : Nat) : Int)).sign) = false := by rw [hr]; rfl
  simp only [hr, Nat.lt_irrefl, and_false, if_false, ne_eq, not_true_eq_false] at hsp
  rw [← hsp.1, ← hsp.2]
  generalize x.natAbs / y.natAbs = q at *
  generalize x.natAbs % y.natAbs = r at *
  subst hr
  unfold iv sv at *
  rw [hna, hnb]
  rw [hna] at c1
  rw [hnb] at c2 c3
  have q3 : (true != true) = false := rfl
  refine Spec.run Tryz.func81 rfl Tryz.ntmps81 (by simp) (by simp only [go_sem, zn4]; rfl) fun B hB => ?_
  (repeat (first | refine DO.nil (by kernel_rfl) ?_ | (with_reducible refine oz (by constructor <;> decide) ?_) | ((first | apply SO.call | apply DO.call); (iterate 3 (simp (disch := omega) only [go_sem, ↓reduceIte, zn1] <;> rfl)); (first | apply SCall.ofX | apply DCall.ofX); (assumption); (simp (disch := omega) only [go_sem] <;> rfl)) | ((with_reducible first | apply wa | apply wb | apply wc | apply wd); (simp (disch := omega) only [go_sem, ↓reduceIte, zn1, zn2, zn3, zn4, reduceCtorEq, q1, q3, q2] <;> rfl); (first | refine pickF ?_ | fail_if_success with_reducible refine pickA ?_)) | ((with_reducible refine SC.draw Tab.mixed ?_ ?_); rfl) | (with_reducible apply SC.ops)))
  exact retQ_ret Tryz.results81 (by simp (disch := omega) only [go_sem, ↓reduceIte, zn1, zn3, zn4]; rfl) (by simp (disch := omega) only [go_sem, ↓reduceIte]; rfl) rfl
theorem divmod_i (x y : Int) (K : Nat) (hx : Fits K x) (hy : Fits K y) (hK : K ≤ 200000000) (h0 : y ≠ 0) : Spec Tryz.prog 81 [iv x, iv y] (.tu [iv (x / y), iv (x % y), .sc (.int .i64 0)]) := by
  cases hna : decide (x < 0) <;> cases hnb : decide (y < 0)
  · exact divmod_1 x y K hx hy hK h0 hna hnb
  · exact divmod_2 x y K hx hy hK h0 hna hnb
  · rcases Nat.eq_zero_or_pos (x.natAbs % y.natAbs) with h | h
    · exact divmod_5 x y K hx hy hK h0 hna hnb h
    · exact divmod_3 x y K hx hy hK h0 hna hnb h
  · rcases Nat.eq_zero_or_pos (x.natAbs % y.natAbs) with h | h
    · exact divmod_6 x y K hx hy hK h0 hna hnb h
    · exact divmod_4 x y K hx hy hK h0 hna hnb h
end Go.Proofs.YtphilljhfdlfdaaGreat
namespace Go.Proofs.YtphilljhfdlfdaaGreat
open Go.RowKit
end Go.Proofs.YtphilljhfdlfdaaGreat
namespace Go.Proofs.YtphilljhfdlfdaaGreat
open Go.RowKit
theorem int_gcd_step (x y : Int) : Int.gcd y (x % y) = Int.gcd x y := by
  have e : x % y + y * (x / y) = x := Int.emod_add_mul_ediv x y
  apply Nat.dvd_antisymm
  · refine Int.dvd_gcd ?_ (Int.gcd_dvd_left _ _)
    have h1 := Int.gcd_dvd_left y (x % y)
    have h2 := Int.gcd_dvd_right y (x % y)
    have h3 := Int.dvd_add h2 (Int.dvd_mul_of_dvd_left (c := x / y) h1)
    rwa [e] at h3
  · refine Int.dvd_gcd (Int.gcd_dvd_right _ _) ?_
    have h1 := Int.gcd_dvd_left x y
    have h2 := Int.gcd_dvd_right x y
    rw [Int.emod_def]
    exact Int.dvd_sub h1 (Int.dvd_mul_of_dvd_left (c := x / y) h2)
theorem nat_gcd_step (x y : Nat) : Nat.gcd y (x % y) = Nat.gcd x y := by
  rw [Nat.gcd_comm x y, Nat.gcd_rec y x, Nat.gcd_comm]
theorem Fits.emod {K : Nat} {x y : Int} (hy : Fits K y) (h0 : y ≠ 0) : Fits K (x % y) := by
  have := Int.emod_nonneg x h0
  have := Int.emod_lt x h0
  unfold Fits at *; omega
theorem Fits.one {K : Nat} (h : 1 ≤ K) : Fits K 1 := by
  have := Nat.pow_le_pow_right (n := 4294967296) (by omega) h
  unfold Fits; simp at *; omega
theorem Fits.zero (K : Nat) : Fits K 0 := by unfold Fits; exact Nat.pow_pos (by omega)
def ic (z : Int) : List V := [.sc (.bool (decide (z < 0))), .im (lv (limbsOf z.natAbs)) (limbsOf z.natAbs).length]
def z0 : List V := [.sc (.bool false), .sc (.slice none 0 0)]
theorem ic_ok (ok : Nat → Bool) (z : Int) : (ic z).all (okL ok) = true := rfl
theorem LLe.ic {ok : Nat → Bool} {x y : Int} (h : x = y) : LLe ok (Go.Proofs.YtphilljhfdlfdaaGreat.ic x) (Go.Proofs.YtphilljhfdlfdaaGreat.ic y) := by subst h; exact LLe.refl (ic_ok _ _)
set_option maxHeartbeats 1000000 in
theorem rgcd_i (a b : Int) (K : Nat) (ha : Fits K a) (hb : Fits K b) (hK : K ≤ 100000000) : Spec Tryz.prog 80 [iv a, iv b] (iv (Int.gcd a b : Int)) := by
  unfold iv sv
  refine Spec.run Tryz.func80 rfl Tryz.ntmps80 (by simp) (by simp only [go_sem, zn4]; rfl) fun B hB => ?_
  (repeat (first | (with_reducible refine oz (by constructor <;> decide) ?_) | ((with_reducible apply SC.region); (simp (disch := omega) only [go_sem, ↓reduceIte, zn1, zn4, reduceCtorEq]; rfl))))
  refine SC.loop (fun u : Int × Int => ⟨[(2, .pt 0 0), (3, .pt 1 0), (4, .pt 2 0)], [(0, ⟨24, ic u.1, false⟩), (1, ⟨24, ic u.2, false⟩), (2, ⟨24, [.sc (.bool false), .sc (.slice none 0 0)], false⟩)], 3, 23⟩)
    (fun u => Fits K u.1 ∧ Fits K u.2 ∧ Int.gcd u.1 u.2 = Int.gcd a b) (fun u => u.2.natAbs) (a, b) ?_ ?_ ?_
  · unfold ic
    (refine Le.of [] hB (by exact ⟨znc _, fun _ _ => znc _⟩) ?_ ?_ <;> (repeat' (first | exact leSl_nil | exact leHp_nil | refine leSl_cons (by simp only [go_sem, ↓reduceIte, zn1]; rfl) ?_ ?_ | refine leHp_cons (by simp only [go_sem, ↓reduceIte, zn1, reduceCtorEq]; rfl) ?_ ?_ | exact VLe.refl rfl | exact HLe.same rfl (LLe.refl rfl))))
  · exact ⟨ha, hb, rfl⟩
  · rintro ⟨x, y⟩ ⟨hx, hy, hg⟩ K' hK'
    simp only at hx hy hg ⊢
    have c1 := sign_i y K hy (by omega)
    unfold iv sv at c1
    unfold ic
    by_cases h0 : y = 0
    · subst h0
      have c2 := made_nat x.natAbs (by have := fits_len hx; omega)
      rw [Int.gcd_zero_right] at hg
      unfold iv sv at c2
      (repeat (first | (with_reducible refine oz (by constructor <;> decide) ?_) | ((apply SO.call); (iterate 3 (simp only [go_sem, ↓reduceIte, zn2] <;> rfl)); (apply SCall.ofX); (assumption); (simp only [go_sem] <;> rfl)) | ((with_reducible first | apply SC.condB | apply SC.region | apply SO.run); (simp only [go_sem, ↓reduceIte, zn1, zn2, zn3, zn4, reduceCtorEq] <;> rfl); (first | refine pickF ?_ | fail_if_success with_reducible refine pickA ?_)) | (with_reducible apply SC.ops)))
      refine retQ_ret Tryz.results80 (by simp only [go_sem, ↓reduceIte, zn1, zn3, zn4, reduceCtorEq]; rfl) (by simp only [go_sem, ↓reduceIte]; rfl) ?_
      rw [hg]
    · have q1 : (y.sign != 0) = true := by rw [bne_iff_ne]; exact fun h => h0 (Int.sign_eq_zero_iff_zero.1 h)
      have c2 := divmod_i x y K hx hy (by omega) h0
      unfold iv sv at c2
      (repeat (first | refine DO.nil (by kernel_rfl) ?_ | (with_reducible refine oz (by constructor <;> decide) ?_) | ((apply SO.call); (iterate 3 (simp (disch := omega) only [go_sem, ↓reduceIte, zn1] <;> rfl)); (apply SCall.ofX); (assumption); (simp (disch := omega) only [go_sem] <;> rfl)) | ((with_reducible first | apply wa | apply wb | apply wc | apply wd); (simp (disch := omega) only [go_sem, ↓reduceIte, zn1, zn3, zn4, reduceCtorEq, q1] <;> rfl); (first | refine pickT ?_ | fail_if_success with_reducible refine pickA ?_)) | ((with_reducible refine SC.draw Tab.mixed ?_ ?_); rfl) | (with_reducible apply SC.ops)))
      refine hK' _ (y, x % y) ?_ ⟨hy, hy.emod h0, by simp only; rw [int_gcd_step, hg]⟩ (by simp only; have := Int.emod_nonneg x h0; have := Int.emod_lt x h0; omega)
      unfold ic
      (refine Le.of [] hB (by exact ⟨znc _, fun _ _ => znc _⟩) ?_ ?_ <;> (repeat' (first | exact leSl_nil | exact leHp_nil | refine leSl_cons (by simp only [go_sem, ↓reduceIte, zn1]; rfl) ?_ ?_ | refine leHp_cons (by simp only [go_sem, ↓reduceIte, zn1, reduceCtorEq]; rfl) ?_ ?_ | exact VLe.refl rfl | exact HLe.same rfl (LLe.refl rfl))))
theorem limbsOf_pos {n : Nat} (h : n ≠ 0) : 0 < (limbsOf n).length := List.length_pos_iff.2 fun e => h (limbsOf_nil.1 e)
theorem two_lt {n : Nat} (h : (limbsOf n).length ≤ 2) : n < 18446744073709551616 := by
  have h1 := val_lt (limbsOf_limbs n)
  rw [limbsOf_val] at h1
  have : 4294967296 ^ (limbsOf n).length ≤ 4294967296 ^ 2 := Nat.pow_le_pow_right (by omega) h
  omega
set_option maxHeartbeats 2000000 in
theorem pgcd_i (a b : Int) (K : Nat) (ha : Fits K a) (hb : Fits K b) (hK : K ≤ 100000000) : Spec Tryz.prog 84 [iv a, iv b] (iv (Int.gcd a b : Int)) := by
  have la := fits_len ha
  have lb := fits_len hb
  have t1 := trim_n a.natAbs (by omega)
  have t2 := trim_n b.natAbs (by omega)
  unfold iv sv at *
  refine Spec.run Tryz.func84 rfl Tryz.ntmps84 (by simp) (by simp only [go_sem, zn4]; rfl) fun B hB => ?_
  (repeat (first | refine DO.nil (by kernel_rfl) ?_ | (with_reducible refine oz (by constructor <;> decide) ?_) | ((apply DO.call); (iterate 3 (simp (disch := omega) only [go_sem, ↓reduceIte] <;> rfl)); (apply DCall.ofX); (assumption); (simp (disch := omega) only [go_sem] <;> rfl)) | ((with_reducible first | apply SC.region | apply DO.run); (simp (disch := omega) only [go_sem, ↓reduceIte, zn1, zn4, reduceCtorEq] <;> rfl); (fail_if_success with_reducible refine pickA ?_)) | ((with_reducible refine SC.draw Tab.mixed ?_ ?_); rfl)))
  refine SC.loop (fun u : Nat × Nat => ⟨[(4, .pt 2 0), (5, .im (lv (limbsOf u.1)) (limbsOf u.1).length), (6, .im (lv (limbsOf u.2)) (limbsOf u.2).length)], [(2, ⟨24, [.sc (.bool false), .sc (.slice none 0 0)], false⟩)], 3, 56⟩)
    (fun u => (limbsOf u.1).length ≤ K ∧ (limbsOf u.2).length ≤ K ∧ Nat.gcd u.1 u.2 = Int.gcd a b) (fun u => u.2) (a.natAbs, b.natAbs) ?_ ?_ ?_
  · (refine Le.of [] hB (by exact ⟨znc _, fun _ _ => znc _⟩) ?_ ?_ <;> (repeat' (first | exact leSl_nil | exact leHp_nil | refine leSl_cons (by simp only [go_sem, ↓reduceIte, zn1]; rfl) ?_ ?_ | refine leHp_cons (by simp only [go_sem, ↓reduceIte]; rfl) ?_ ?_ | exact VLe.refl rfl | exact HLe.same rfl (LLe.refl rfl))))
  · exact ⟨la, lb, rfl⟩
  · rintro ⟨x, y⟩ ⟨hx, hy, hg⟩ K' hK'
    simp only at hx hy hg ⊢
    by_cases h0 : y = 0
    · subst h0
      have q1 : decide ((0 : Int) < ((limbsOf 0).length : Int)) = false := by simp [limbsOf_zero]
      have q2 : (((limbsOf 0).length : Int) == 0) = true := by simp [limbsOf_zero]
      have c1 := clone_l (limbsOf x) (by omega)
      have c2 := pvalue_n x false (x : Int) rfl (by omega)
      rw [Nat.gcd_zero_right] at hg
      unfold iv sv at *
      (repeat (first | (with_reducible refine oz (by constructor <;> decide) ?_) | ((apply SO.call); (iterate 3 (simp (disch := omega) only [go_sem, ↓reduceIte] <;> rfl)); (apply SCall.ofX); (assumption); (simp (disch := omega) only [go_sem] <;> rfl)) | ((with_reducible first | apply SC.condB | apply SC.region | apply SO.run); (simp (disch := omega) only [go_sem, ↓reduceIte, zn1, zn3, zn4, q1, q2] <;> rfl); (first | refine pT ?_ | refine pF ?_ | fail_if_success with_reducible refine pA ?_)) | (with_reducible apply SC.ops)))
      refine retQ_ret Tryz.results84 (by simp only [go_sem, ↓reduceIte, zn1, zn3, zn4]; rfl) (by simp only [go_sem, ↓reduceIte]; rfl) ?_
      rw [hg]
    · have hp := limbsOf_pos h0
      have q1 := decide_eq_true (p := (0 : Int) < ((limbsOf y).length : Int)) (by omega)
      have hmod : x % y < y := Nat.mod_lt _ (by omega)
      have hxy : (limbsOf (x % y)).length ≤ (limbsOf y).length := len_le_of (by omega)
      by_cases h2 : 2 < max (limbsOf x).length (limbsOf y).length
      · have q2 := decide_eq_true (p := (2 : Int) < (if ((limbsOf y).length : Int) > ((limbsOf x).length : Int) then ((limbsOf y).length : Int) else ((limbsOf x).length : Int))) (by split <;> omega)
        obtain ⟨r, ⟨ql, rl, rfl, hql, hrl, vq, vr, lq, lr⟩, c1⟩ := divide_any x y (by omega) (by omega) (by omega)
        have c2 := trim_i rl hrl (by omega)
        rw [vr] at c2
        unfold sv at *
        (repeat (first | (with_reducible refine oz (by constructor <;> decide) ?_) | ((apply SO.call); (iterate 3 (simp (disch := omega) only [go_sem, ↓reduceIte, zn1] <;> rfl)); (apply SCall.ofX); (assumption); (simp (disch := omega) only [go_sem] <;> rfl)) | ((with_reducible first | apply SC.condB | apply SC.region | apply SO.run); (simp (disch := omega) only [go_sem, ↓reduceIte, zn1, q1, q2] <;> rfl); (first | refine pickT ?_ | fail_if_success with_reducible refine pickA ?_)) | (with_reducible apply SC.ops)))
        refine hK' _ (y, x % y) ?_ ⟨hy, by simp only; omega, by simp only; rw [nat_gcd_step, hg]⟩ (by simp only; omega)
        (refine Le.of [] hB (by exact ⟨znc _, fun _ _ => znc _⟩) ?_ ?_ <;> (repeat' (first | exact leSl_nil | exact leHp_nil | refine leSl_cons (by simp only [go_sem, ↓reduceIte, zn1]; rfl) ?_ ?_ | refine leHp_cons (by simp only [go_sem, ↓reduceIte]; rfl) ?_ ?_ | exact VLe.refl rfl | exact HLe.same rfl (LLe.refl rfl))))
      · have q2 := decide_eq_false (p := (2 : Int) < (if ((limbsOf y).length : Int) > ((limbsOf x).length : Int) then ((limbsOf y).length : Int) else ((limbsOf x).length : Int))) (by split <;> omega)
        have q3 : (((limbsOf y).length : Int) == 0) = false := by rw [beq_eq_false_iff_ne]; omega
        have c1 := word_i (limbsOf x) (limbsOf_limbs x) (by omega)
        have c2 := word_i (limbsOf y) (limbsOf_limbs y) (by omega)
        rw [limbsOf_val] at c1 c2
        have bx := two_lt (n := x) (by omega)
        have bY := two_lt (n := y) (by omega)
        unfold sv at *
        (repeat (first | (with_reducible refine oz (by constructor <;> decide) ?_) | ((apply SO.call); (iterate 3 (simp (disch := omega) only [go_sem, ↓reduceIte] <;> rfl)); (apply SCall.ofX); (assumption); (simp (disch := omega) only [go_sem] <;> rfl)) | ((with_reducible first | apply SC.condB | apply SC.region | apply SO.run); (simp (disch := omega) only [go_sem, ↓reduceIte, zn1, q1, q2, q3] <;> rfl); (first | refine pickF ?_ | fail_if_success with_reducible refine pickA ?_)) | (with_reducible apply SC.ops)))
        refine SC.loop (fun u : Nat × Nat => ⟨[(4, .pt 2 0), (9, .sc (.int .u64 u.1)), (10, .sc (.int .u64 u.2))], [(2, ⟨24, [.sc (.bool false), .sc (.slice none 0 0)], false⟩)], 3, 56⟩)
          (fun u => u.1 < 18446744073709551616 ∧ u.2 < 18446744073709551616 ∧ Nat.gcd u.1 u.2 = Int.gcd a b) (fun u => u.2) (x, y) ?_ ?_ ?_
        · (refine Le.of [] hB (by exact ⟨znc _, fun _ _ => znc _⟩) ?_ ?_ <;> (repeat' (first | exact leSl_nil | exact leHp_nil | refine leSl_cons (by simp only [go_sem, ↓reduceIte, zn1]; rfl) ?_ ?_ | refine leHp_cons (by simp only [go_sem, ↓reduceIte]; rfl) ?_ ?_ | exact VLe.refl rfl | exact HLe.same rfl (LLe.refl rfl))))
        · exact ⟨bx, bY, hg⟩
        · rintro ⟨u, v⟩ ⟨hu, hv, hg⟩ K2 hK2
          simp only at hu hv hg ⊢
          by_cases h0 : v = 0
          · subst h0
            have c3 := limbs_s u hu
            have c4 := value_i false [u % 4294967296, u / 4294967296] (limbs_two u hu) (by simp)
            rw [Nat.gcd_zero_right] at hg
            rw [val_two] at c4
            unfold iv sv lv at c4
            simp only [List.map, List.length_cons, List.length_nil, zn9, zn4] at c4
            have q4 : decide ((0 : Int) < ((0 : Nat) : Int)) = false := by simp
            (repeat (first | (with_reducible refine oz (by constructor <;> decide) ?_) | ((apply SO.call); (iterate 3 (simp only [go_sem, ↓reduceIte, zn2] <;> rfl)); (apply SCall.ofX); (assumption); (simp only [go_sem] <;> rfl)) | ((with_reducible first | apply SC.condB | apply SC.region | apply SO.run); (simp only [go_sem, ↓reduceIte, zn1, zn3, zn4, q4] <;> rfl); (first | refine pickF ?_ | fail_if_success with_reducible refine pickA ?_)) | (with_reducible apply SC.ops)))
            refine retQ_ret Tryz.results84 (by simp only [go_sem, ↓reduceIte, zn1, zn3, zn4]; rfl) (by simp only [go_sem, ↓reduceIte]; rfl) ?_
            subst hg
            rfl
          · have q4 := decide_eq_true (p := (0 : Int) < (v : Int)) (by omega)
            have e5 : (u : Int).tmod (v : Int) = ((u % v : Nat) : Int) := (Int.ofNat_tmod _ _).symm
            have hm : u % v < v := Nat.mod_lt _ (by omega)
            (repeat (first | refine DO.nil (by kernel_rfl) ?_ | (with_reducible refine oz (by constructor <;> decide) ?_) | ((with_reducible first | apply SC.condB | apply SC.region | apply DO.run); (simp (disch := omega) only [go_sem, ↓reduceIte, zn1, if_neg, q4, e5] <;> rfl); (first | refine pickT ?_ | fail_if_success with_reducible refine pickA ?_)) | ((with_reducible refine SC.draw Tab.mixed ?_ ?_); rfl)))
            refine hK2 _ (v, u % v) ?_ ⟨hv, by simp only; omega, by simp only; rw [nat_gcd_step, hg]⟩ (by simp only; omega)
            (refine Le.of [] hB (by exact ⟨znc _, fun _ _ => znc _⟩) ?_ ?_ <;> (repeat' (first | exact leSl_nil | exact leHp_nil | refine leSl_cons (by simp only [go_sem, ↓reduceIte, zn1]; rfl) ?_ ?_ | refine leHp_cons (by simp only [go_sem, ↓reduceIte]; rfl) ?_ ?_ | exact VLe.refl rfl | exact HLe.same rfl (LLe.refl rfl))))
end Go.Proofs.YtphilljhfdlfdaaGreat
namespace Go.Proofs.YtphilljhfdlfdaaGreat
end Go.Proofs.YtphilljhfdlfdaaGreat
namespace Go.Proofs.YtphilljhfdlfdaaGreat
open Go.RowKit
end Go.Proofs.YtphilljhfdlfdaaGreat
namespace Go.Proofs.YtphilljhfdlfdaaGreat
open Go.RowKit
theorem take_le (l : List Nat) (n : Nat) : (l.take n).length ≤ l.length := by simp; omega
theorem take_take_len (l : List Nat) (n : Nat) : l.take (l.take n).length = l.take n := by
  rw [List.length_take]
  rcases Nat.le_total n l.length with h | h
  · rw [Nat.min_eq_left h]
  · rw [Nat.min_eq_right h, zla (znb _), zla h]
theorem min_take (l : List Nat) (n : Nat) : (if (n : Int) < (l.length : Int) then (n : Int) else (l.length : Int)) = (((l.take n).length : Nat) : Int) := by
  rw [List.length_take]; split <;> omega
end Go.Proofs.YtphilljhfdlfdaaGreat
