/- Texts joined: Qg Qh Qi Qj Qk Ql Qm. -/
import Derived.Test.YtpodnbcdddcdmaaGreatDoorVb
import Derived.Test.YtpodnbcdddcdmaaGreatDoorVc
import Derived.Test.YtpodnbcdddcdmaaGreatDoorVe
import Derived.Test.YtpodnbcdddcdmaaGreatDoorVf
set_option linter.all false
/- The program's division: bits.Len32, LeadingZeros32, shift. -/
namespace Go.Proofs.YtpodnbcdddcdmaaGreatDoor
open Go.RowKit
def bl (x : Nat) : Nat := if x = 0 then 0 else x.log2 + 1
theorem bl_lt (x : Nat) : x < 2 ^ bl x := by
  unfold bl; split
  · omega
  · exact Nat.lt_log2_self
theorem bl_le {x : Nat} (h : x ≠ 0) : 2 ^ (bl x - 1) ≤ x ∧ 1 ≤ bl x := by
  unfold bl; rw [if_neg h]
  exact ⟨Nat.log2_self_le h, by omega⟩
theorem bl_eq {x L : Nat} (h1 : x < 2 ^ L) (h2 : 2 ^ (L - 1) ≤ x) (h3 : 1 ≤ L) : bl x = L := by
  have hx : x ≠ 0 := by have := Nat.pow_pos (a := 2) (n := L - 1) (by omega); omega
  obtain ⟨a, b⟩ := bl_le hx
  have c := bl_lt x
  have e1 : bl x - 1 < L := (Nat.pow_lt_pow_iff_right (a := 2) (by omega)).1 (by omega)
  have e2 : L - 1 < bl x := (Nat.pow_lt_pow_iff_right (a := 2) (by omega)).1 (by omega)
  omega
theorem bl_div {x k : Nat} (h : x / 2 ^ k ≠ 0) : bl x = bl (x / 2 ^ k) + k := by
  obtain ⟨a, b⟩ := bl_le h
  have c := bl_lt (x / 2 ^ k)
  generalize bl (x / 2 ^ k) = L at *
  refine bl_eq ?_ ?_ (by omega)
  · rw [Nat.pow_add]; exact (Nat.div_lt_iff_lt_mul (Nat.pow_pos (by omega))).1 c
  · rw [show L + k - 1 = (L - 1) + k by omega, Nat.pow_add]; exact (Nat.le_div_iff_mul_le (Nat.pow_pos (by omega))).1 a
theorem bl_le_of {x k : Nat} (h : x < 2 ^ k) : bl x ≤ k := by
  by_cases hx : x = 0
  · subst hx; unfold bl; simp
  · obtain ⟨a, b⟩ := bl_le hx
    have : bl x - 1 < k := (Nat.pow_lt_pow_iff_right (a := 2) (by omega)).1 (by omega)
    omega
def strIx (s : ByteArray) (n : Int) : Option V := if 0 ≤ n then (s[n.toNat]?).map fun b => .sc (.int .u8 b.toNat) else none
section
variable {P : Program}
@[go_sem] theorem exIndex_str (T : Nat) (s : ByteArray) (k : IntKind) (n : Int) : exIndex P T (.sc (.string s)) (.sc (.int k n)) = if isStr P T = true then strIx s n else none := by
  simp only [exIndex, strIx]
  by_cases h1 : isStr P T = true <;> by_cases h2 : 0 ≤ n <;> simp [h1, h2]
end
def tabOk (s : ByteArray) : Bool := (List.range 256).all fun y => match s[y]? with | some b => b.toNat == bl y | none => false
theorem strIx_tab {s : ByteArray} {y : Nat} (hy : y < 256) (h : tabOk s = true) : strIx s (y : Int) = some (.sc (.int .u8 (bl y : Nat))) := by
  have := List.all_eq_true.1 h y (List.mem_range.2 hy)
  unfold strIx
  rw [if_pos (by omega), Int.toNat_natCast]
  split at this
  · rename_i b hb
    rw [hb]
    have e : b.toNat = bl y := by simpa using this
    simp [e]
  · cases this
theorem mi16 : min 16 32 = 16 := rfl
theorem mi8 : min 8 32 = 8 := rfl
theorem mi32 : min 32 64 = 32 := rfl
set_option maxRecDepth 100000 in
theorem len32_s (x : Nat) (hx : x < 4294967296) : Spec Tryz.prog 112 [.sc (.int .u32 x)] (.sc (.int .i64 (bl x : Nat))) := by
  have d1 : (x : Int).fdiv 65536 = ((x / 65536 : Nat) : Int) := by rw [Int.fdiv_eq_ediv_of_nonneg _ (by omega)]; rfl
  have d2 : (x : Int).fdiv 256 = ((x / 256 : Nat) : Int) := by rw [Int.fdiv_eq_ediv_of_nonneg _ (by omega)]; rfl
  have d3 : ((x / 65536 : Nat) : Int).fdiv 256 = ((x / 65536 / 256 : Nat) : Int) := by rw [Int.fdiv_eq_ediv_of_nonneg _ (by omega)]; rfl
  have fin : ∀ (y k : Nat), y < 256 → bl y + k = bl x → k ≤ 24 → ((k : Int) + (bl y : Nat)) = (bl x : Nat) := fun y k _ h _ => by omega
  have hb : bl x ≤ 32 := bl_le_of (by omega)
  by_cases h1 : 65536 ≤ x
  · have q1 := decide_eq_true (p := (65536 : Int) ≤ (x : Int)) (by omega)
    by_cases h2 : 256 ≤ x / 65536
    · have q2 := decide_eq_true (p := (256 : Int) ≤ ((x / 65536 : Nat) : Int)) (by omega)
      have e1 := bl_div (x := x) (k := 16) (by omega)
      have e2 := bl_div (x := x / 65536) (k := 8) (by omega)
      have hy : x / 65536 / 256 < 256 := by omega
      simp only [Nat.reducePow] at e1 e2
      generalize x / 65536 / 256 = y at *
      have hby : bl y ≤ 8 := by omega
      refine Spec.run Tryz.func112 rfl Tryz.ntmps112 (by simp) (by simp (disch := omega) only [go_sem]; rfl) fun B hB => ?_
      (repeat (first | refine DO.nil (by kernel_rfl) ?_ | (with_reducible refine SC.condB (by simp (disch := omega) only [go_sem, ↓reduceIte]; rfl) ?_; first | with_reducible refine pickT ?_ | with_reducible refine pickF ?_) | (with_reducible refine oz (by constructor <;> decide) ?_) | ((with_reducible apply SC.region); (focus (simp (disch := omega) only [go_sem, ↓reduceIte, Nat.reduceEqDiff, reduceCtorEq, Int.reduceToNat, Int.reducePow, if_neg, q1, q2, d1, d3, mi16, mi8]; rfl))) | (with_reducible refine SC.draw Tab.mixed rfl ?_; (repeat (refine DO.run (by simp (disch := omega) only [go_sem, ↓reduceIte, Nat.reduceEqDiff, Nat.reduceLT, Nat.reduceLeDiff, Nat.reduceAdd, Nat.reduceMul, Nat.reduceSub, reduceCtorEq, Nat.reduceBEq, Int.reduceToNat, Int.reducePow, if_pos, if_neg, q1, q2, d1, d3, mi16, mi8]; rfl) ?_)); refine DO.nil (by kernel_rfl) ?_)))
      refine SC.ops ?_
      (repeat (refine SO.run (by simp (disch := omega) only [go_sem, ↓reduceIte, reduceCtorEq]; rfl) ?_))
      refine SO.run (by simp (disch := omega) only [go_sem, ↓reduceIte]; rw [strIx_tab hy]; rotate_left; kernel_rfl; simp (disch := omega) only [go_sem]; rfl) ?_
      (repeat (refine SO.run (by simp (disch := omega) only [go_sem, ↓reduceIte, Nat.reduceEqDiff, Nat.reduceLT]; rfl) ?_))
      (repeat (first | refine DO.nil (by kernel_rfl) ?_ | (with_reducible refine SC.condB (by simp (disch := omega) only [go_sem, ↓reduceIte, Nat.reduceEqDiff, Nat.reduceLT, Nat.reduceLeDiff, Nat.reduceAdd, Nat.reduceMul, Nat.reduceSub, reduceCtorEq, Nat.reduceBEq, Int.reduceToNat, Int.reducePow, if_pos, if_neg]; rfl) ?_; first | with_reducible refine pickT ?_ | with_reducible refine pickF ?_) | (with_reducible refine oz (by constructor <;> decide) ?_) | ((with_reducible apply SC.region); (focus (simp (disch := omega) only [go_sem, ↓reduceIte, Nat.reduceEqDiff, Nat.reduceLT, Nat.reduceLeDiff, Nat.reduceAdd, Nat.reduceMul, Nat.reduceSub, reduceCtorEq, Nat.reduceBEq, Int.reduceToNat, Int.reducePow, if_pos, if_neg]; rfl))) | (with_reducible refine SC.draw Tab.mixed rfl ?_; (repeat (refine DO.run (by simp (disch := omega) only [go_sem, ↓reduceIte, Nat.reduceEqDiff, Nat.reduceLT, Nat.reduceLeDiff, Nat.reduceAdd, Nat.reduceMul, Nat.reduceSub, reduceCtorEq, Nat.reduceBEq, Int.reduceToNat, Int.reducePow, if_pos, if_neg]; rfl) ?_)); refine DO.nil (by kernel_rfl) ?_)))
      refine retQ_ret Tryz.results112 (by simp (disch := omega) only [go_sem, ↓reduceIte]; rfl) (by simp (disch := omega) only [go_sem]; rfl) ?_
      rw [e1, e2]; congr 2; omega
    · have q2 := decide_eq_false (p := (256 : Int) ≤ ((x / 65536 : Nat) : Int)) (by omega)
      have e1 := bl_div (x := x) (k := 16) (by omega)
      have hy : x / 65536 < 256 := by omega
      simp only [Nat.reducePow] at e1
      generalize x / 65536 = y at *
      refine Spec.run Tryz.func112 rfl Tryz.ntmps112 (by simp) (by simp (disch := omega) only [go_sem]; rfl) fun B hB => ?_
      (repeat (first | refine DO.nil (by kernel_rfl) ?_ | (with_reducible refine SC.condB (by simp (disch := omega) only [go_sem, ↓reduceIte]; rfl) ?_; first | with_reducible refine pickT ?_ | with_reducible refine pickF ?_) | (with_reducible refine oz (by constructor <;> decide) ?_) | ((with_reducible apply SC.region); (focus (simp (disch := omega) only [go_sem, ↓reduceIte, Nat.reduceEqDiff, reduceCtorEq, Int.reduceToNat, Int.reducePow, if_neg, q1, q2, d1, mi16]; rfl))) | (with_reducible refine SC.draw Tab.mixed rfl ?_; (repeat (refine DO.run (by simp (disch := omega) only [go_sem, ↓reduceIte, Nat.reduceEqDiff, Nat.reduceLT, Nat.reduceLeDiff, Nat.reduceAdd, Nat.reduceMul, Nat.reduceSub, reduceCtorEq, Nat.reduceBEq, Int.reduceToNat, Int.reducePow, if_pos, if_neg, q1, q2, d1, mi16, mi8]; rfl) ?_)); refine DO.nil (by kernel_rfl) ?_)))
      refine SC.ops ?_
      (repeat (refine SO.run (by simp (disch := omega) only [go_sem, ↓reduceIte, Nat.reduceEqDiff, reduceCtorEq]; rfl) ?_))
      refine SO.run (by simp (disch := omega) only [go_sem, ↓reduceIte]; rw [strIx_tab hy]; rotate_left; kernel_rfl; simp (disch := omega) only [go_sem]; rfl) ?_
      (repeat (refine SO.run (by simp (disch := omega) only [go_sem, ↓reduceIte, Nat.reduceEqDiff, Nat.reduceLT]; rfl) ?_))
      (repeat (first | refine DO.nil (by kernel_rfl) ?_ | (with_reducible refine SC.condB (by simp (disch := omega) only [go_sem, ↓reduceIte, Nat.reduceEqDiff, Nat.reduceLT, Nat.reduceLeDiff, Nat.reduceAdd, Nat.reduceMul, Nat.reduceSub, reduceCtorEq, Nat.reduceBEq, Int.reduceToNat, Int.reducePow, if_pos, if_neg]; rfl) ?_; first | with_reducible refine pickT ?_ | with_reducible refine pickF ?_) | (with_reducible refine oz (by constructor <;> decide) ?_) | ((with_reducible apply SC.region); (focus (simp (disch := omega) only [go_sem, ↓reduceIte, Nat.reduceEqDiff, Nat.reduceLT, Nat.reduceLeDiff, Nat.reduceAdd, Nat.reduceMul, Nat.reduceSub, reduceCtorEq, Nat.reduceBEq, Int.reduceToNat, Int.reducePow, if_pos, if_neg]; rfl))) | (with_reducible refine SC.draw Tab.mixed rfl ?_; (repeat (refine DO.run (by simp (disch := omega) only [go_sem, ↓reduceIte, Nat.reduceEqDiff, Nat.reduceLT, Nat.reduceLeDiff, Nat.reduceAdd, Nat.reduceMul, Nat.reduceSub, reduceCtorEq, Nat.reduceBEq, Int.reduceToNat, Int.reducePow, if_pos, if_neg]; rfl) ?_)); refine DO.nil (by kernel_rfl) ?_)))
      refine retQ_ret Tryz.results112 (by simp (disch := omega) only [go_sem, ↓reduceIte]; rfl) (by simp (disch := omega) only [go_sem]; rfl) ?_
      rw [e1]; congr 2; omega
  · have q1 := decide_eq_false (p := (65536 : Int) ≤ (x : Int)) (by omega)
    by_cases h2 : 256 ≤ x
    · have q2 := decide_eq_true (p := (256 : Int) ≤ (x : Int)) (by omega)
      have e1 := bl_div (x := x) (k := 8) (by omega)
      have hy : x / 256 < 256 := by omega
      simp only [Nat.reducePow] at e1
      generalize x / 256 = y at *
      refine Spec.run Tryz.func112 rfl Tryz.ntmps112 (by simp) (by simp (disch := omega) only [go_sem]; rfl) fun B hB => ?_
      (repeat (first | refine DO.nil (by kernel_rfl) ?_ | (with_reducible refine SC.condB (by simp (disch := omega) only [go_sem, ↓reduceIte]; rfl) ?_; first | with_reducible refine pickT ?_ | with_reducible refine pickF ?_) | (with_reducible refine oz (by constructor <;> decide) ?_) | ((with_reducible apply SC.region); (focus (simp (disch := omega) only [go_sem, ↓reduceIte, Nat.reduceEqDiff, reduceCtorEq, Int.reduceToNat, Int.reducePow, if_neg, q1, q2, d2, mi8]; rfl))) | (with_reducible refine SC.draw Tab.mixed rfl ?_; (repeat (refine DO.run (by simp (disch := omega) only [go_sem, ↓reduceIte, Nat.reduceEqDiff, Nat.reduceLT, Nat.reduceLeDiff, Nat.reduceAdd, Nat.reduceMul, Nat.reduceSub, reduceCtorEq, Nat.reduceBEq, Int.reduceToNat, Int.reducePow, if_pos, if_neg, q1, q2, d2, mi16, mi8]; rfl) ?_)); refine DO.nil (by kernel_rfl) ?_)))
      refine SC.ops ?_
      (repeat (refine SO.run (by simp (disch := omega) only [go_sem, ↓reduceIte, reduceCtorEq]; rfl) ?_))
      refine SO.run (by simp (disch := omega) only [go_sem, ↓reduceIte]; rw [strIx_tab hy]; rotate_left; kernel_rfl; simp (disch := omega) only [go_sem]; rfl) ?_
      (repeat (refine SO.run (by simp (disch := omega) only [go_sem, ↓reduceIte, Nat.reduceEqDiff, Nat.reduceLT]; rfl) ?_))
      (repeat (first | refine DO.nil (by kernel_rfl) ?_ | (with_reducible refine SC.condB (by simp (disch := omega) only [go_sem, ↓reduceIte, Nat.reduceEqDiff, Nat.reduceLT, Nat.reduceLeDiff, Nat.reduceAdd, Nat.reduceMul, Nat.reduceSub, reduceCtorEq, Nat.reduceBEq, Int.reduceToNat, Int.reducePow, if_pos, if_neg]; rfl) ?_; first | with_reducible refine pickT ?_ | with_reducible refine pickF ?_) | (with_reducible refine oz (by constructor <;> decide) ?_) | ((with_reducible apply SC.region); (focus (simp (disch := omega) only [go_sem, ↓reduceIte, Nat.reduceEqDiff, Nat.reduceLT, Nat.reduceLeDiff, Nat.reduceAdd, Nat.reduceMul, Nat.reduceSub, reduceCtorEq, Nat.reduceBEq, Int.reduceToNat, Int.reducePow, if_pos, if_neg]; rfl))) | (with_reducible refine SC.draw Tab.mixed rfl ?_; (repeat (refine DO.run (by simp (disch := omega) only [go_sem, ↓reduceIte, Nat.reduceEqDiff, Nat.reduceLT, Nat.reduceLeDiff, Nat.reduceAdd, Nat.reduceMul, Nat.reduceSub, reduceCtorEq, Nat.reduceBEq, Int.reduceToNat, Int.reducePow, if_pos, if_neg]; rfl) ?_)); refine DO.nil (by kernel_rfl) ?_)))
      refine retQ_ret Tryz.results112 (by simp (disch := omega) only [go_sem, ↓reduceIte]; rfl) (by simp (disch := omega) only [go_sem]; rfl) ?_
      rw [e1]; congr 2; omega
    · have q2 := decide_eq_false (p := (256 : Int) ≤ (x : Int)) (by omega)
      have hy : x < 256 := by omega
      refine Spec.run Tryz.func112 rfl Tryz.ntmps112 (by simp) (by simp (disch := omega) only [go_sem]; rfl) fun B hB => ?_
      (repeat (first | refine DO.nil (by kernel_rfl) ?_ | (with_reducible refine SC.condB (by simp (disch := omega) only [go_sem, ↓reduceIte]; rfl) ?_; first | with_reducible refine pickT ?_ | with_reducible refine pickF ?_) | (with_reducible refine oz (by constructor <;> decide) ?_) | ((with_reducible apply SC.region); (focus (simp (disch := omega) only [go_sem, ↓reduceIte, Nat.reduceEqDiff, reduceCtorEq, q1, q2]; rfl))) | (with_reducible refine SC.draw Tab.mixed rfl ?_; (repeat (refine DO.run (by simp (disch := omega) only [go_sem, ↓reduceIte, Nat.reduceEqDiff, Nat.reduceLT, Nat.reduceLeDiff, Nat.reduceAdd, Nat.reduceMul, Nat.reduceSub, reduceCtorEq, Nat.reduceBEq, Int.reduceToNat, Int.reducePow, if_pos, if_neg, q1, q2]; rfl) ?_)); refine DO.nil (by kernel_rfl) ?_)))
      refine SC.ops ?_
      (repeat (refine SO.run (by simp (disch := omega) only [go_sem, ↓reduceIte, Nat.reduceEqDiff, reduceCtorEq]; rfl) ?_))
      refine SO.run (by simp (disch := omega) only [go_sem, ↓reduceIte]; rw [strIx_tab hy]; rotate_left; kernel_rfl; simp (disch := omega) only [go_sem]; rfl) ?_
      (repeat (refine SO.run (by simp (disch := omega) only [go_sem, ↓reduceIte, Nat.reduceEqDiff, Nat.reduceLT]; rfl) ?_))
      (repeat (first | refine DO.nil (by kernel_rfl) ?_ | (with_reducible refine SC.condB (by simp (disch := omega) only [go_sem, ↓reduceIte, Nat.reduceEqDiff, Nat.reduceLT, Nat.reduceLeDiff, Nat.reduceAdd, Nat.reduceMul, Nat.reduceSub, reduceCtorEq, Nat.reduceBEq, Int.reduceToNat, Int.reducePow, if_pos, if_neg]; rfl) ?_; first | with_reducible refine pickT ?_ | with_reducible refine pickF ?_) | (with_reducible refine oz (by constructor <;> decide) ?_) | ((with_reducible apply SC.region); (focus (simp (disch := omega) only [go_sem, ↓reduceIte, Nat.reduceEqDiff, Nat.reduceLT, Nat.reduceLeDiff, Nat.reduceAdd, Nat.reduceMul, Nat.reduceSub, reduceCtorEq, Nat.reduceBEq, Int.reduceToNat, Int.reducePow, if_pos, if_neg]; rfl))) | (with_reducible refine SC.draw Tab.mixed rfl ?_; (repeat (refine DO.run (by simp (disch := omega) only [go_sem, ↓reduceIte, Nat.reduceEqDiff, Nat.reduceLT, Nat.reduceLeDiff, Nat.reduceAdd, Nat.reduceMul, Nat.reduceSub, reduceCtorEq, Nat.reduceBEq, Int.reduceToNat, Int.reducePow, if_pos, if_neg]; rfl) ?_)); refine DO.nil (by kernel_rfl) ?_)))
      refine retQ_ret Tryz.results112 (by simp (disch := omega) only [go_sem, ↓reduceIte]; rfl) (by simp (disch := omega) only [go_sem]; rfl) ?_
      congr 2; omega
theorem lz32_s (x : Nat) (hx : x < 4294967296) : Spec Tryz.prog 99 [.sc (.int .u32 x)] (.sc (.int .i64 ((32 - bl x : Nat) : Int))) := by
  have hb : bl x ≤ 32 := bl_le_of (by omega)
  have c1 := len32_s x hx
  refine Spec.run Tryz.func99 rfl Tryz.ntmps99 (by simp) (by simp (disch := omega) only [go_sem]; rfl) fun B hB => ?_
  (repeat (first | refine DO.nil (by kernel_rfl) ?_ | (with_reducible refine oz (by constructor <;> decide) ?_) | ((first | apply SO.call | apply DO.call); (iterate 3 (focus (simp (disch := omega) only [go_sem, ↓reduceIte] <;> rfl))); (first | apply SCall.ofX | apply DCall.ofX); (focus (first | assumption)); (focus (simp (disch := omega) only [go_sem] <;> rfl))) | ((with_reducible first | apply SC.condB | apply SC.region | apply SO.run | apply DO.run); (focus (simp (disch := omega) only [go_sem, ↓reduceIte, Nat.reduceLT, reduceCtorEq] <;> rfl)); (first | refine pickT ?_ | refine pickF ?_ | fail_if_success with_reducible refine pickA ?_)) | ((with_reducible refine SC.draw Tab.mixed ?_ ?_); (focus rfl)) | (with_reducible apply SC.ops)))
  refine retQ_ret Tryz.results99 (by simp (disch := omega) only [go_sem, ↓reduceIte]; rfl) (by simp (disch := omega) only [go_sem]; rfl) ?_
  congr 2; omega
theorem or_shift (c d s : Nat) (hc : c < 2 ^ s) (hw : c + d * 2 ^ s < 18446744073709551616) : bits BinOp.or IntKind.u64 (c : Int) ((d * 2 ^ s : Nat) : Int) = ((c + d * 2 ^ s : Nat) : Int) := by
  have h := u64_or_nat c (d * 2 ^ s) (by omega) (by omega)
  have e : c ||| d * 2 ^ s = c + d * 2 ^ s := by
    have := Nat.shiftLeft_add_eq_or_of_lt (b := c) (i := s) hc d
    rw [Nat.shiftLeft_eq, Nat.or_comm] at this
    omega
  rw [e] at h; exact h
theorem lv_sc (l : List Nat) : ∀ y ∈ lv l, ∃ v, y = .sc v := by
  intro y hy
  unfold lv at hy
  obtain ⟨n, _, rfl⟩ := List.mem_map.1 hy
  exact ⟨_, rfl⟩
section
variable {P : Program} {B : Base}
theorem retI_r {fn : Func} {x y : V} {sl : List (Nat × V)} {hp hp' : List (Nat × Blk)} {nx nx' nt : Nat} {rs : List ResultVar} (hr : fn.results = rs.toArray) (h1 : resG P ⟨sl, hp, nx, nt⟩ rs = some y) (h2 : Le B ⟨[(0, y)], hp, nx, 1⟩ ⟨[(0, x)], hp', nx', 1⟩) : retI P fn B x hp' nx' .ret ⟨sl, hp, nx, nt⟩ := retI_ret hr h1 h2
end
theorem shift_n (x : List Nat) (s : Nat) (hx : limbs x) (hs : s ≤ 31) (hm : x.length ≤ 400000000000) : NewP Tryz.prog 100 [sv x, .sc (.int .i64 s)] ⟨68, lv (dg (x.length + 1) (val x * 2 ^ s)), false⟩ 0 (x.length + 1) 1 none := by
  refine NewP.of (by omega) (lv_sc _) ?_
  have hN : ((x.length : Int) + 1).toNat = x.length + 1 := by omega
  have hms : min s 64 = s := by omega
  have hp : 2 ^ s ≤ 2147483648 := by have := Nat.pow_le_pow_right (n := 2) (by omega) hs; omega
  unfold sv
  refine Inl.run Tryz.func100 rfl Tryz.ntmps100 (by simp) (by simp (disch := omega) only [go_sem, Nat.reduceAdd]; rfl) fun B hB => ?_
  (repeat (first | refine DO.nil (by kernel_rfl) ?_ | (with_reducible refine SC.condB (by simp (disch := omega) only [go_sem, ↓reduceIte, Nat.reduceEqDiff, Nat.reduceLT, Nat.reduceLeDiff, Nat.reduceAdd, Nat.reduceMul, Nat.reduceSub, reduceCtorEq, Nat.reduceBEq, Int.reduceToNat, Int.reducePow, if_pos, if_neg, lv_len, hN]; rfl) ?_; first | with_reducible refine pickT ?_ | with_reducible refine pickF ?_) | (with_reducible refine oz (by constructor <;> decide) ?_) | ((with_reducible apply SC.region); (focus (simp (disch := omega) only [go_sem, ↓reduceIte, reduceCtorEq, if_pos, hN]; rfl))) | (with_reducible refine SC.draw Tab.mixed rfl ?_; (repeat (refine DO.run (by simp (disch := omega) only [go_sem, ↓reduceIte, Nat.reduceEqDiff, Nat.reduceLT, Nat.reduceLeDiff, Nat.reduceAdd, Nat.reduceMul, Nat.reduceSub, reduceCtorEq, Nat.reduceBEq, Int.reduceToNat, Int.reducePow, if_pos, if_neg, lv_len, hN]; rfl) ?_)); refine DO.nil (by kernel_rfl) ?_)))
  refine SC.loop (fun u : Nat × Nat × List Nat => ⟨[(0, .im (lv x) x.length), (1, .sc (.int .i64 s)), (5, .sl 0 0 (x.length + 1) 1 none), (6, .sc (.int .u64 u.2.1)), (13, .im (lv x) x.length), (14, .sc (.int .i64 x.length)), (15, .sc (.int .i64 u.1))], [(0, ⟨68, lv u.2.2, false⟩)], 1, 41⟩)
    (fun u => u.1 ≤ x.length ∧ shiftInv x (2 ^ s) u.1 u.2.1 u.2.2) (fun u => x.length - u.1) (0, 0, List.replicate (x.length + 1) 0) ?_ ?_ ?_
  · (refine Le.of [] hB (by first | exact ⟨Nat.zero_le _, fun _ _ => Nat.zero_le _⟩ | (constructor <;> (try simp) <;> (try omega))) ?_ ?_ <;> (repeat' (first | exact leSl_nil | exact leHp_nil | refine leSl_cons (by simp (disch := omega) only [go_sem, ↓reduceIte, Nat.reduceEqDiff, reduceCtorEq]; rfl) ?_ ?_ | refine leHp_cons (by simp (disch := omega) only [go_sem, ↓reduceIte]; rfl) ?_ ?_ | exact VLe.junk _ | exact VLe.refl rfl | exact VLe.nil_sl _ _ _ | exact VLe.int (by first | rfl | omega | (dsimp only; omega)) | exact VLe.bool rfl | exact VLe.sl rfl (by first | rfl | omega | (dsimp only; omega) | (simp; done)) | exact VLe.cap rfl (by first | rfl | omega | (dsimp only; omega) | (simp; done)) | exact VLe.im rfl rfl | exact HLe.new rfl | exact HLe.same rfl (LLe.refl rfl) | refine HLe.same rfl ?_ | exact LLe.nil _ | exact LLe.refl rfl | refine LLe.cons ?_ ?_)))
    exact LLe.lv (lv_rep _)
  · exact ⟨Nat.zero_le _, by simp, limbs_replicate _, Nat.pow_pos (by omega), by simp [val]⟩
  · rintro ⟨k, c, z⟩ ⟨hk, hI⟩ K hK
    simp only at hk hI ⊢
    have hI' := hI
    obtain ⟨hzl, hz, hc, _⟩ := hI'
    by_cases hlt : k < x.length
    · have q1 := decide_eq_true (p := (k : Int) < (x.length : Int)) (by omega)
      have hg := lv_get hlt
      have hd := limbs_getD hx k
      have hst := fun w hw => hI.step (w := w) hlt rfl hd hw (by omega)
      generalize x.getD k 0 = d at *
      have hs1 := hst (c + d * 2 ^ s) rfl
      have e1 : (d : Int) * 2 ^ s = ((d * 2 ^ s : Nat) : Int) := by simp
      have e2 := or_shift c d s hc (by omega)
      have hb : d * 2 ^ s < 18446744073709551616 := by omega
      generalize c + d * 2 ^ s = w at *
      generalize d * 2 ^ s = m at *
      (repeat (first | refine DO.nil (by kernel_rfl) ?_ | (with_reducible refine SC.condB (by simp (disch := omega) only [go_sem, ↓reduceIte]; rfl) ?_; first | with_reducible refine pickT ?_ | with_reducible refine pickF ?_) | (with_reducible refine oz (by constructor <;> decide) ?_) | ((with_reducible apply SC.region); (focus (simp (disch := omega) only [go_sem, ↓reduceIte, Nat.reduceEqDiff, reduceCtorEq, Int.reduceToNat, if_pos, if_neg, q1, hms, e1, e2, hg, fd32, lv_len, List.getElem?_drop]; rfl))) | (with_reducible refine SC.draw Tab.mixed rfl ?_; (repeat (refine DO.run (by simp (disch := omega) only [go_sem, ↓reduceIte, Nat.reduceEqDiff, Nat.reduceLT, Nat.reduceLeDiff, Nat.reduceAdd, Nat.reduceMul, Nat.reduceSub, reduceCtorEq, Nat.reduceBEq, Int.reduceToNat, Int.reducePow, if_pos, if_neg, q1, hms, e1, e2, hg, fd32, lv_len, List.getElem?_drop]; rfl) ?_)); refine DO.nil (by kernel_rfl) ?_)))
      refine hK _ (k + 1, w / 4294967296, z.set k (w % 4294967296)) ?_ ⟨by simp only; omega, hs1.1⟩ (by simp only; omega)
      (refine Le.of [] hB (by first | exact ⟨Nat.zero_le _, fun _ _ => Nat.zero_le _⟩ | (constructor <;> (try simp) <;> (try omega))) ?_ ?_ <;> (repeat' (first | exact leSl_nil | exact leHp_nil | refine leSl_cons (by simp (disch := omega) only [go_sem, ↓reduceIte, Nat.reduceEqDiff, reduceCtorEq]; rfl) ?_ ?_ | refine leHp_cons (by simp (disch := omega) only [go_sem, ↓reduceIte]; rfl) ?_ ?_ | exact VLe.junk _ | exact VLe.refl rfl | exact VLe.nil_sl _ _ _ | exact VLe.int (by first | rfl | omega | (dsimp only; omega)) | exact VLe.bool rfl | exact VLe.sl rfl (by first | rfl | omega | (dsimp only; omega) | (simp; done)) | exact VLe.cap rfl (by first | rfl | omega | (dsimp only; omega) | (simp; done)) | exact VLe.im rfl rfl | exact HLe.new rfl | exact HLe.same rfl (LLe.refl rfl) | refine HLe.same rfl ?_ | exact LLe.nil _ | exact LLe.refl rfl | refine LLe.cons ?_ ?_)))
      exact LLe.lv (lv_set (by omega))
    · have hkn : k = x.length := by omega
      subst hkn
      have q1 := decide_eq_false (p := ((x.length : Nat) : Int) < (x.length : Int)) (by omega)
      have hd := hI.done
      have hc2 : c < 4294967296 := by omega
      have he := dg_eq (limbs_set hz x.length (x := c) hc2)
      rw [hd, List.length_set, hzl] at he
      have hls : (lv z).set x.length (.sc (.int .u32 (c : Int))) = lv (z.set x.length c) := lv_set rfl
      (repeat (first | refine DO.nil (by kernel_rfl) ?_ | (with_reducible refine SC.condB (by simp (disch := omega) only [go_sem, ↓reduceIte]; rfl) ?_; first | with_reducible refine pickT ?_ | with_reducible refine pickF ?_) | (with_reducible refine oz (by constructor <;> decide) ?_) | ((with_reducible apply SC.region); (focus (simp (disch := omega) only [go_sem, ↓reduceIte, Nat.reduceEqDiff, Nat.reduceLT, reduceCtorEq, if_pos, q1, hls, lv_len]; rfl))) | (with_reducible refine SC.draw Tab.mixed rfl ?_; (repeat (refine DO.run (by simp (disch := omega) only [go_sem, ↓reduceIte, Nat.reduceEqDiff, Nat.reduceLT, Nat.reduceLeDiff, Nat.reduceAdd, Nat.reduceMul, Nat.reduceSub, reduceCtorEq, Nat.reduceBEq, Int.reduceToNat, Int.reducePow, if_pos, if_neg, q1, hls, lv_len]; rfl) ?_)); refine DO.nil (by kernel_rfl) ?_)))
      refine retI_r Tryz.results100 (by simp (disch := omega) only [go_sem, ↓reduceIte]; rfl) ?_
      rw [he]
      (refine Le.of [] hB (by first | exact ⟨Nat.zero_le _, fun _ _ => Nat.zero_le _⟩ | (constructor <;> (try simp) <;> (try omega))) ?_ ?_ <;> (repeat' (first | exact leSl_nil | exact leHp_nil | refine leSl_cons (by simp (disch := omega) only [go_sem, ↓reduceIte]; rfl) ?_ ?_ | refine leHp_cons (by simp (disch := omega) only [go_sem, ↓reduceIte]; rfl) ?_ ?_ | exact VLe.junk _ | exact VLe.refl rfl | exact VLe.nil_sl _ _ _ | exact VLe.int (by first | rfl | omega | (dsimp only; omega)) | exact VLe.bool rfl | exact VLe.sl rfl (by first | rfl | omega | (dsimp only; omega) | (simp; done)) | exact VLe.cap rfl (by first | rfl | omega | (dsimp only; omega) | (simp; done)) | exact VLe.im rfl rfl | exact HLe.new rfl | exact HLe.same rfl (LLe.refl rfl) | refine HLe.same rfl ?_ | exact LLe.nil _ | exact LLe.refl rfl | refine LLe.cons ?_ ?_)))
      exact LLe.lv rfl
end Go.Proofs.YtpodnbcdddcdmaaGreatDoor

/- The program's division: a digit of the quotient. -/
namespace Go.Proofs.YtpodnbcdddcdmaaGreatDoor
open Go.RowKit
def seg (U : List Nat) (j : Nat) (z : List Nat) : List Nat := U.take j ++ (z ++ U.drop (j + z.length))
section
variable {U z : List Nat} {i j x : Nat}
theorem seg_len (h : j + z.length ≤ U.length) : (seg U j z).length = U.length := by unfold seg; simp; omega
theorem seg_get (h : j + z.length ≤ U.length) (hi : i < z.length) : (lv (seg U j z))[j + i]? = some (.sc (.int .u32 (z.getD i 0 : Nat))) := by
  have e : (seg U j z).getD (j + i) 0 = z.getD i 0 := by
    unfold seg
    rw [List.getD_eq_getElem?_getD, List.getD_eq_getElem?_getD, List.getElem?_append_right (by simp; omega), List.length_take, Nat.min_eq_left (by omega), Nat.add_sub_cancel_left, List.getElem?_append_left hi]
  rw [lv_get (by rw [seg_len h]; omega), e]
theorem seg_set (h : j + z.length ≤ U.length) (hi : i < z.length) {n : Int} (hn : n = (x : Int)) : (lv (seg U j z)).set (j + i) (.sc (.int .u32 n)) = lv (seg U j (z.set i x)) := by
  subst hn
  have e : (seg U j z).set (j + i) x = seg U j (z.set i x) := by
    unfold seg
    rw [List.set_append_right _ _ (by simp; omega), List.length_take, Nat.min_eq_left (by omega), Nat.add_sub_cancel_left, List.set_append_left _ _ hi, List.length_set]
  rw [← e]; exact lv_set rfl
theorem seg_self {m : Nat} (h : j + m ≤ U.length) : seg U j ((U.drop j).take m) = U := by
  unfold seg
  rw [show j + ((U.drop j).take m).length = j + m by simp; omega, ← List.drop_drop]
  rw [List.take_append_drop, List.take_append_drop]
end
theorem or_up (r u : Nat) (hr : r < 4294967296) (hu : u < 4294967296) : bits BinOp.or IntKind.u64 ((r : Int) * 4294967296) (u : Int) = ((r * 4294967296 + u : Nat) : Int) := by
  have h := u64_or_nat (r * 4294967296) u (by omega) (by omega)
  have e : r * 4294967296 ||| u = r * 4294967296 + u := by
    have := Nat.shiftLeft_add_eq_or_of_lt (b := u) (i := 32) (by omega) r
    rw [Nat.shiftLeft_eq] at this
    exact this.symm
  rw [e] at h
  rw [← h]; simp
theorem SC.meet {P : Program} {B : Base} {α : Type} (I : α → SS) (Inv : α → Prop) {id : Nat} {c0 : Code} {C cs : List Code} {Q : Exit → SS → Prop} {s : SS} (h : ∀ K : SS → Prop, (∀ s' z, Le B s' (I z) → Inv z → K s') → SC P B C (blockQ id (thenQ K Q)) s) (k : ∀ z, Inv z → SC P B (c0 :: cs) Q (I z)) : SC P B C (blockQ id (thenQ (SC P B (c0 :: cs) Q) Q)) s :=
  h (SC P B (c0 :: cs) Q) (fun _ z a b => SC.weak (by simp) a (k z b))
theorem getD_take {l : List Nat} {m i : Nat} (h : i < m) : (l.take m).getD i 0 = l.getD i 0 := by
  rw [List.getD_eq_getElem?_getD, List.getD_eq_getElem?_getD, List.getElem?_take, if_pos h]
set_option maxHeartbeats 4000000 in
theorem digit_i (U V : List Nat) (j n : Nat) (hU : limbs U) (hV : limbs V) (hn : 2 ≤ n) (hnV : n ≤ V.length) (hj : j + n + 1 ≤ U.length) (hm : U.length ≤ 800000000000)
    (htop : 2147483648 ≤ V.getD (n - 1) 0) (hlt : val ((U.drop j).take (n + 1)) < 4294967296 * val (V.take n)) :
    Inl Tryz.prog 101 [.sl 0 j (n + 1) 1 none, .sl 1 0 n 1 (some n)] [(0, ⟨68, lv U, false⟩), (1, ⟨68, lv V, false⟩)] 3
      (.sc (.int .u32 (val ((U.drop j).take (n + 1)) / val (V.take n) : Nat))) [(0, ⟨68, lv (seg U j (dg (n + 1) (val ((U.drop j).take (n + 1)) % val (V.take n)))), false⟩), (1, ⟨68, lv V, false⟩)] 3 := by
  obtain ⟨k, rfl⟩ : ∃ k, n = k + 2 := ⟨n - 2, by omega⟩
  rw [show k + 2 - 1 = k + 1 by omega] at htop
  have hul : ((U.drop j).take (k + 2 + 1)).length = k + 3 := by simp; omega
  have hvl : (V.take (k + 2)).length = k + 2 := by simp; omega
  have lu := limbs_take (limbs_drop hU j) (k + 2 + 1)
  have lw := limbs_take hV (k + 2)
  have hseg := seg_self (U := U) (j := j) (m := k + 2 + 1) (by omega)
  have hvg : ∀ i, i < k + 2 → (V.take (k + 2)).getD i 0 = V.getD i 0 := fun i hi => getD_take hi
  have wg : ∀ i, i < k + 2 → (lv V)[i]? = some (.sc (.int .u32 (V.getD i 0 : Nat))) := fun i hi => lv_get (by omega)
  generalize (U.drop j).take (k + 2 + 1) = u at *
  generalize V.take (k + 2) = v at *
  have g0 := seg_get (U := U) (z := u) (j := j) (i := k) (by omega) (by omega)
  have g1 := seg_get (U := U) (z := u) (j := j) (i := k + 1) (by omega) (by omega)
  have g2 := seg_get (U := U) (z := u) (j := j) (i := k + 2) (by omega) (by omega)
  rw [hseg] at g0 g1 g2
  have w0 := wg k (by omega)
  have w1 := wg (k + 1) (by omega)
  have i1 : (((k + 2 : Nat) : Int) - 1).toNat = k + 1 := by omega
  have i2 : (((k + 2 : Nat) : Int) - 2).toNat = k := by omega
  -- the highest limbs
  have tu := val_top3 (u := u) (k := k) hul
  have tv := val_top2 (v := v) (k := k) hvl
  rw [hvg _ (by omega), hvg _ (by omega)] at tv
  have b0 := limbs_getD lu (k + 2)
  have b1 := limbs_getD lu (k + 1)
  have b2 := limbs_getD lu k
  have c1 := limbs_getD hV (k + 1)
  have c2 := limbs_getD hV k
  have bul := val_lt (limbs_take lu k)
  have bvl := val_lt (limbs_take lw k)
  rw [List.length_take, Nat.min_eq_left (by omega)] at bul bvl
  have hM : 0 < 4294967296 ^ k := Nat.pow_pos (by omega)
  generalize hu0 : u.getD (k + 2) 0 = u0 at *
  generalize hu1 : u.getD (k + 1) 0 = u1 at *
  generalize hu2 : u.getD k 0 = u2 at *
  generalize hv1 : V.getD (k + 1) 0 = v1 at *
  generalize hv2 : V.getD k 0 = v2 at *
  generalize val (u.take k) = ul at *
  generalize val (v.take k) = vl at *
  generalize hMM : 4294967296 ^ k = M at *
  have hul' := hlt
  rw [tu, tv] at hul'
  have hu01 := top_le hM hul' bvl c2
  have hV0 : 0 < val v := by
    rw [tv]; unfold VV
    have := Nat.mul_le_mul_right M (show 1 ≤ v1 * 4294967296 + v2 by omega)
    omega
  have hQ := Nat.div_mul_le_self (val u) (val v)
  have hQlt : val u / val v < 4294967296 := Nat.div_lt_of_lt_mul (by rw [Nat.mul_comm]; exact hlt)
  generalize hQQ : val u / val v = Q at *
  rw [tu, tv] at hQ
  have hq0 := guess_over (u0 := u0) (u1 := u1) bul hM (by omega) b1 b2 hQ
  have hq1 := guess_first hu01 b1 htop
  have hqr := Nat.div_add_mod (u0 * 4294967296 + u1) v1
  have hr0 := Nat.mod_lt (u0 * 4294967296 + u1) (show 0 < v1 by omega)
  rw [Nat.mul_comm] at hqr
  generalize hA : (u0 * 4294967296 + u1) / v1 = q0 at *
  generalize hB0 : (u0 * 4294967296 + u1) % v1 = r0 at *
  have e1 := or_up u0 u1 b0 b1
  have e2 : ((u0 * 4294967296 + u1 : Nat) : Int).tdiv (v1 : Int) = (q0 : Nat) := by rw [← hA]; exact (Int.ofNat_tdiv _ _).symm
  have e3 : ((u0 * 4294967296 + u1 : Nat) : Int).tmod (v1 : Int) = (r0 : Nat) := by rw [← hB0]; exact (Int.ofNat_tmod _ _).symm
  refine Inl.run Tryz.func101 rfl Tryz.ntmps101 (by simp) (by simp (disch := omega) only [go_sem, Nat.reduceAdd]; rfl) fun B hB => ?_
  (repeat (first | refine DO.nil (by kernel_rfl) ?_ | (with_reducible refine SC.condB (by simp (disch := omega) only [go_sem, ↓reduceIte, Nat.reduceEqDiff, Nat.reduceLT, Nat.reduceLeDiff, Nat.reduceAdd, Nat.reduceMul, Nat.reduceSub, reduceCtorEq, Nat.reduceBEq, Int.reduceToNat, Int.reducePow, if_pos, if_neg, i1, i2, g0, g1, g2, w0, w1, e1, e2, e3, mi32]; rfl) ?_; first | with_reducible refine pickT ?_ | with_reducible refine pickF ?_) | (with_reducible refine oz (by constructor <;> decide) ?_) | ((with_reducible apply SC.region); (focus (simp (disch := omega) only [go_sem, ↓reduceIte, Nat.reduceEqDiff, reduceCtorEq, if_pos, i1, w1]; rfl))) | (with_reducible refine SC.draw Tab.mixed rfl ?_; (repeat (refine DO.run (by simp (disch := omega) only [go_sem, ↓reduceIte, Nat.reduceEqDiff, reduceCtorEq, Int.reduceToNat, Int.reducePow, if_pos, if_neg, i1, g1, g2, e1, e2, e3, mi32]; rfl) ?_)); refine DO.nil (by kernel_rfl) ?_)))
  refine SC.meet (fun y : Nat => ⟨[(0, .sl 0 j (k + 2 + 1) 1 none), (1, .sl 1 0 (k + 2) 1 (some (k + 2))), (5, .sc (.int .i64 ((k + 2 : Nat) : Int))), (8, .sc (.int .u64 y))], [(0, ⟨68, lv U, false⟩), (1, ⟨68, lv V, false⟩)], 3, 162⟩)
    (fun y => y < 4294967296 ∧ Q ≤ y ∧ y * val v < val u + val v) ?_ ?_
  · intro K0 hK0
    refine SC.loop (fun y : Nat × Nat => ⟨[(0, .sl 0 j (k + 2 + 1) 1 none), (1, .sl 1 0 (k + 2) 1 (some (k + 2))), (5, .sc (.int .i64 ((k + 2 : Nat) : Int))), (6, .sc (.int .u64 v1)), (8, .sc (.int .u64 y.1)), (9, .sc (.int .u64 y.2))], [(0, ⟨68, lv U, false⟩), (1, ⟨68, lv V, false⟩)], 3, 162⟩)
      (fun y => y.1 * v1 + y.2 = u0 * 4294967296 + u1 ∧ y.2 < 4294967296 ∧ Q ≤ y.1 ∧ y.1 ≤ 4294967297) (fun y => y.1) (q0, r0) ?_ ?_ ?_
    · (refine Le.of [] hB (by first | exact ⟨Nat.zero_le _, fun _ _ => Nat.zero_le _⟩ | (constructor <;> (try simp) <;> (try omega))) ?_ ?_ <;> (repeat' (first | exact leSl_nil | exact leHp_nil | refine leSl_cons (by simp (disch := omega) only [go_sem, ↓reduceIte, Nat.reduceEqDiff, reduceCtorEq]; rfl) ?_ ?_ | refine leHp_cons (by simp (disch := omega) only [go_sem, ↓reduceIte, reduceCtorEq]; rfl) ?_ ?_ | exact VLe.junk _ | exact VLe.refl rfl | exact VLe.nil_sl _ _ _ | exact VLe.int (by first | rfl | omega | (dsimp only; omega)) | exact VLe.bool rfl | exact VLe.sl rfl (by first | rfl | omega | (dsimp only; omega) | (simp; done)) | exact VLe.cap rfl (by first | rfl | omega | (dsimp only; omega) | (simp; done)) | exact VLe.im rfl rfl | exact HLe.new rfl | exact HLe.same rfl (LLe.refl rfl) | refine HLe.same rfl ?_ | exact LLe.nil _ | exact LLe.refl rfl | refine LLe.cons ?_ ?_)))
      all_goals exact LLe.lv rfl
    · exact ⟨hqr, by simp only; omega, hq0, hq1⟩
    · rintro ⟨q, r⟩ ⟨h1, h2, h3, h4⟩ K hK
      simp only at h1 h2 h3 h4 ⊢
      have hgd := fun ht => guess_down (q := q) (r := r) (Q := Q) bul h1 hQ hQlt h3 ht
      have hge := fun hb ht => guess_end (q := q) (r := r) (u2 := u2) (v2 := v2) (ul := ul) hM bvl (by omega) h1 hb ht
      have hbr := fun hr => guess_break (r := r) hu01 b1 (by omega) h1 hr
      have hnx : 1 ≤ q → (q - 1) * v1 + (r + v1) = u0 * 4294967296 + u1 := fun h => by
        obtain ⟨p, rfl⟩ : ∃ p, q = p + 1 := ⟨q - 1, by omega⟩
        rw [Nat.add_sub_cancel, ← h1, Nat.add_mul]; omega
      -- left by the second way
      have hend : ∀ q r : Nat, 4294967296 ≤ r → q * v1 + r = u0 * 4294967296 + u1 → Q ≤ q → q < 4294967296 ∧ Q ≤ q ∧ q * val v < val u + val v := fun q r hr h1 h3 => by
        have hb := guess_break (r := r) hu01 b1 (by omega) h1 hr
        refine ⟨hb, h3, ?_⟩
        rw [tu, tv]
        have hp : q * v2 ≤ 4294967295 * 4294967295 := Nat.mul_le_mul (by omega) (by omega)
        exact guess_end (q := q) (r := r) (u2 := u2) (v2 := v2) (ul := ul) hM bvl (by omega) h1 hb (by omega)
      by_cases hbig : 4294967295 < q
      · have q1 := decide_eq_true (p := (4294967295 : Int) < (q : Int)) (by omega)
        obtain ⟨a1, a2⟩ := hgd (.inl hbig)
        have hn := hnx a2
        by_cases hr : 4294967295 < r + v1
        · have q2 := decide_eq_true (p := (4294967295 : Int) < (r : Int) + (v1 : Int)) (by omega)
          (repeat (first | refine DO.nil (by kernel_rfl) ?_ | (with_reducible refine SC.condB (by simp (disch := omega) only [go_sem, ↓reduceIte]; rfl) ?_; first | with_reducible refine pickT ?_ | with_reducible refine pickF ?_) | (with_reducible refine oz (by constructor <;> decide) ?_) | ((with_reducible apply SC.region); (focus (simp (disch := omega) only [go_sem, ↓reduceIte, Nat.reduceEqDiff, reduceCtorEq, q2]; rfl))) | (with_reducible refine SC.draw Tab.mixed rfl ?_; (repeat (refine DO.run (by simp (disch := omega) only [go_sem, ↓reduceIte, Nat.reduceEqDiff, reduceCtorEq, q1]; rfl) ?_)); refine DO.nil (by kernel_rfl) ?_)))
          refine hK0 _ (q - 1) ?_ ?_
          · (refine Le.of [] hB (by first | exact ⟨Nat.zero_le _, fun _ _ => Nat.zero_le _⟩ | (constructor <;> (try simp) <;> (try omega))) ?_ ?_ <;> (repeat' (first | exact leSl_nil | exact leHp_nil | refine leSl_cons (by simp (disch := omega) only [go_sem, ↓reduceIte, Nat.reduceEqDiff, reduceCtorEq]; rfl) ?_ ?_ | refine leHp_cons (by simp (disch := omega) only [go_sem, ↓reduceIte, reduceCtorEq]; rfl) ?_ ?_ | exact VLe.junk _ | exact VLe.refl rfl | exact VLe.nil_sl _ _ _ | exact VLe.int (by first | rfl | omega | (dsimp only; omega)) | exact VLe.bool rfl | exact VLe.sl rfl (by first | rfl | omega | (dsimp only; omega) | (simp; done)) | exact VLe.cap rfl (by first | rfl | omega | (dsimp only; omega) | (simp; done)) | exact VLe.im rfl rfl | exact HLe.new rfl | exact HLe.same rfl (LLe.refl rfl) | refine HLe.same rfl ?_ | exact LLe.nil _ | exact LLe.refl rfl | refine LLe.cons ?_ ?_)))
            all_goals exact LLe.lv rfl
          · exact hend (q - 1) (r + v1) (by omega) hn a1
        · have q2 := decide_eq_false (p := (4294967295 : Int) < (r : Int) + (v1 : Int)) (by omega)
          (repeat (first | refine DO.nil (by kernel_rfl) ?_ | (with_reducible refine SC.condB (by simp (disch := omega) only [go_sem, ↓reduceIte]; rfl) ?_; first | with_reducible refine pickT ?_ | with_reducible refine pickF ?_) | (with_reducible refine oz (by constructor <;> decide) ?_) | ((with_reducible apply SC.region); (focus (simp (disch := omega) only [go_sem, ↓reduceIte, Nat.reduceEqDiff, reduceCtorEq, q2]; rfl))) | (with_reducible refine SC.draw Tab.mixed rfl ?_; (repeat (refine DO.run (by simp (disch := omega) only [go_sem, ↓reduceIte, Nat.reduceEqDiff, reduceCtorEq, q1]; rfl) ?_)); refine DO.nil (by kernel_rfl) ?_)))
          refine hK _ (q - 1, r + v1) ?_ ⟨hn, by simp only; omega, a1, by simp only; omega⟩ (by simp only; omega)
          (refine Le.of [] hB (by first | exact ⟨Nat.zero_le _, fun _ _ => Nat.zero_le _⟩ | (constructor <;> (try simp) <;> (try omega))) ?_ ?_ <;> (repeat' (first | exact leSl_nil | exact leHp_nil | refine leSl_cons (by simp (disch := omega) only [go_sem, ↓reduceIte, Nat.reduceEqDiff, reduceCtorEq]; rfl) ?_ ?_ | refine leHp_cons (by simp (disch := omega) only [go_sem, ↓reduceIte, reduceCtorEq]; rfl) ?_ ?_ | exact VLe.junk _ | exact VLe.refl rfl | exact VLe.nil_sl _ _ _ | exact VLe.int (by first | rfl | omega | (dsimp only; omega)) | exact VLe.bool rfl | exact VLe.sl rfl (by first | rfl | omega | (dsimp only; omega) | (simp; done)) | exact VLe.cap rfl (by first | rfl | omega | (dsimp only; omega) | (simp; done)) | exact VLe.im rfl rfl | exact HLe.new rfl | exact HLe.same rfl (LLe.refl rfl) | refine HLe.same rfl ?_ | exact LLe.nil _ | exact LLe.refl rfl | refine LLe.cons ?_ ?_)))
          all_goals exact LLe.lv rfl
      · have q1 := decide_eq_false (p := (4294967295 : Int) < (q : Int)) (by omega)
        have hp : q * v2 ≤ 4294967295 * 4294967295 := Nat.mul_le_mul (by omega) (by omega)
        have hm' : (q : Int) * (v2 : Int) = ((q * v2 : Nat) : Int) := by simp
        have hor := or_up r u2 h2 b2
        by_cases ht : r * 4294967296 + u2 < q * v2
        · obtain ⟨a1, a2⟩ := hgd (.inr ht)
          have hn := hnx a2
          generalize q * v2 = p at *
          have q3 := decide_eq_true (p := ((r * 4294967296 + u2 : Nat) : Int) < (p : Int)) (by omega)
          by_cases hr : 4294967295 < r + v1
          · have q2 := decide_eq_true (p := (4294967295 : Int) < (r : Int) + (v1 : Int)) (by omega)
            (repeat (first | refine DO.nil (by kernel_rfl) ?_ | (with_reducible refine SC.condB (by simp (disch := omega) only [go_sem, ↓reduceIte]; rfl) ?_; first | with_reducible refine pickT ?_ | with_reducible refine pickF ?_) | (with_reducible refine oz (by constructor <;> decide) ?_) | ((with_reducible apply SC.region); (focus (simp (disch := omega) only [go_sem, ↓reduceIte, Nat.reduceEqDiff, reduceCtorEq, q2]; rfl))) | (with_reducible refine SC.draw Tab.mixed rfl ?_; (repeat (refine DO.run (by simp (disch := omega) only [go_sem, ↓reduceIte, Nat.reduceEqDiff, reduceCtorEq, Int.reduceToNat, Int.reducePow, if_pos, if_neg, q1, q3, hm', hor, i2, g0, w0, mi32]; rfl) ?_)); refine DO.nil (by kernel_rfl) ?_)))
            refine hK0 _ (q - 1) ?_ ?_
            · (refine Le.of [] hB (by first | exact ⟨Nat.zero_le _, fun _ _ => Nat.zero_le _⟩ | (constructor <;> (try simp) <;> (try omega))) ?_ ?_ <;> (repeat' (first | exact leSl_nil | exact leHp_nil | refine leSl_cons (by simp (disch := omega) only [go_sem, ↓reduceIte, Nat.reduceEqDiff, reduceCtorEq]; rfl) ?_ ?_ | refine leHp_cons (by simp (disch := omega) only [go_sem, ↓reduceIte, reduceCtorEq]; rfl) ?_ ?_ | exact VLe.junk _ | exact VLe.refl rfl | exact VLe.nil_sl _ _ _ | exact VLe.int (by first | rfl | omega | (dsimp only; omega)) | exact VLe.bool rfl | exact VLe.sl rfl (by first | rfl | omega | (dsimp only; omega) | (simp; done)) | exact VLe.cap rfl (by first | rfl | omega | (dsimp only; omega) | (simp; done)) | exact VLe.im rfl rfl | exact HLe.new rfl | exact HLe.same rfl (LLe.refl rfl) | refine HLe.same rfl ?_ | exact LLe.nil _ | exact LLe.refl rfl | refine LLe.cons ?_ ?_)))
              all_goals exact LLe.lv rfl
            · exact hend (q - 1) (r + v1) (by omega) hn a1
          · have q2 := decide_eq_false (p := (4294967295 : Int) < (r : Int) + (v1 : Int)) (by omega)
            (repeat (first | refine DO.nil (by kernel_rfl) ?_ | (with_reducible refine SC.condB (by simp (disch := omega) only [go_sem, ↓reduceIte]; rfl) ?_; first | with_reducible refine pickT ?_ | with_reducible refine pickF ?_) | (with_reducible refine oz (by constructor <;> decide) ?_) | ((with_reducible apply SC.region); (focus (simp (disch := omega) only [go_sem, ↓reduceIte, Nat.reduceEqDiff, reduceCtorEq, q2]; rfl))) | (with_reducible refine SC.draw Tab.mixed rfl ?_; (repeat (refine DO.run (by simp (disch := omega) only [go_sem, ↓reduceIte, Nat.reduceEqDiff, reduceCtorEq, Int.reduceToNat, Int.reducePow, if_pos, if_neg, q1, q3, hm', hor, i2, g0, w0, mi32]; rfl) ?_)); refine DO.nil (by kernel_rfl) ?_)))
            refine hK _ (q - 1, r + v1) ?_ ⟨hn, by simp only; omega, a1, by simp only; omega⟩ (by simp only; omega)
            (refine Le.of [] hB (by first | exact ⟨Nat.zero_le _, fun _ _ => Nat.zero_le _⟩ | (constructor <;> (try simp) <;> (try omega))) ?_ ?_ <;> (repeat' (first | exact leSl_nil | exact leHp_nil | refine leSl_cons (by simp (disch := omega) only [go_sem, ↓reduceIte, Nat.reduceEqDiff, reduceCtorEq]; rfl) ?_ ?_ | refine leHp_cons (by simp (disch := omega) only [go_sem, ↓reduceIte, reduceCtorEq]; rfl) ?_ ?_ | exact VLe.junk _ | exact VLe.refl rfl | exact VLe.nil_sl _ _ _ | exact VLe.int (by first | rfl | omega | (dsimp only; omega)) | exact VLe.bool rfl | exact VLe.sl rfl (by first | rfl | omega | (dsimp only; omega) | (simp; done)) | exact VLe.cap rfl (by first | rfl | omega | (dsimp only; omega) | (simp; done)) | exact VLe.im rfl rfl | exact HLe.new rfl | exact HLe.same rfl (LLe.refl rfl) | refine HLe.same rfl ?_ | exact LLe.nil _ | exact LLe.refl rfl | refine LLe.cons ?_ ?_)))
            all_goals exact LLe.lv rfl
        · have hfin := hge (by omega) (by omega)
          generalize q * v2 = p at *
          have q3 := decide_eq_false (p := ((r * 4294967296 + u2 : Nat) : Int) < (p : Int)) (by omega)
          (repeat (first | refine DO.nil (by kernel_rfl) ?_ | (with_reducible refine SC.condB (by simp (disch := omega) only [go_sem, ↓reduceIte]; rfl) ?_; first | with_reducible refine pickT ?_ | with_reducible refine pickF ?_) | (with_reducible refine oz (by constructor <;> decide) ?_) | ((with_reducible apply SC.region); (focus (simp (disch := omega) only [go_sem, ↓reduceIte, Nat.reduceEqDiff, Nat.reduceLT, Nat.reduceLeDiff, Nat.reduceAdd, Nat.reduceMul, Nat.reduceSub, reduceCtorEq, Nat.reduceBEq, Int.reduceToNat, Int.reducePow, if_pos, if_neg, q1, q3, hm', hor, i1, i2, g0, g1, g2, w0, w1, mi32]; rfl))) | (with_reducible refine SC.draw Tab.mixed rfl ?_; (repeat (refine DO.run (by simp (disch := omega) only [go_sem, ↓reduceIte, Nat.reduceEqDiff, reduceCtorEq, Int.reduceToNat, Int.reducePow, if_pos, if_neg, q1, q3, hm', hor, i2, g0, w0, mi32]; rfl) ?_)); refine DO.nil (by kernel_rfl) ?_)))
          refine hK0 _ q ?_ ⟨by omega, h3, by rw [tu, tv]; exact hfin⟩
          (refine Le.of [] hB (by first | exact ⟨Nat.zero_le _, fun _ _ => Nat.zero_le _⟩ | (constructor <;> (try simp) <;> (try omega))) ?_ ?_ <;> (repeat' (first | exact leSl_nil | exact leHp_nil | refine leSl_cons (by simp (disch := omega) only [go_sem, ↓reduceIte, Nat.reduceEqDiff, reduceCtorEq]; rfl) ?_ ?_ | refine leHp_cons (by simp (disch := omega) only [go_sem, ↓reduceIte, reduceCtorEq]; rfl) ?_ ?_ | exact VLe.junk _ | exact VLe.refl rfl | exact VLe.nil_sl _ _ _ | exact VLe.int (by first | rfl | omega | (dsimp only; omega)) | exact VLe.bool rfl | exact VLe.sl rfl (by first | rfl | omega | (dsimp only; omega) | (simp; done)) | exact VLe.cap rfl (by first | rfl | omega | (dsimp only; omega) | (simp; done)) | exact VLe.im rfl rfl | exact HLe.new rfl | exact HLe.same rfl (LLe.refl rfl) | refine HLe.same rfl ?_ | exact LLe.nil _ | exact LLe.refl rfl | refine LLe.cons ?_ ?_)))
          all_goals exact LLe.lv rfl
  · rintro q ⟨hqb, hq2, hq3⟩
    (repeat (first | refine DO.nil (by kernel_rfl) ?_ | (with_reducible refine SC.condB (by simp (disch := omega) only [go_sem, ↓reduceIte, Nat.reduceEqDiff, Nat.reduceLT, Nat.reduceLeDiff, Nat.reduceAdd, Nat.reduceMul, Nat.reduceSub, reduceCtorEq, Nat.reduceBEq, Int.reduceToNat, Int.reducePow, if_pos, if_neg]; rfl) ?_; first | with_reducible refine pickT ?_ | with_reducible refine pickF ?_) | (with_reducible refine oz (by constructor <;> decide) ?_) | ((with_reducible apply SC.region); (focus (simp (disch := omega) only [go_sem, ↓reduceIte, Nat.reduceEqDiff, reduceCtorEq]; rfl))) | (with_reducible refine SC.draw Tab.mixed rfl ?_; (repeat (refine DO.run (by simp (disch := omega) only [go_sem, ↓reduceIte, Nat.reduceEqDiff, Nat.reduceLT, Nat.reduceLeDiff, Nat.reduceAdd, Nat.reduceMul, Nat.reduceSub, reduceCtorEq, Nat.reduceBEq, Int.reduceToNat, Int.reducePow, if_pos, if_neg]; rfl) ?_)); refine DO.nil (by kernel_rfl) ?_)))
    have hmask : ∀ w : Nat, w < 18446744073709551616 → bits BinOp.and IntKind.u64 (w : Int) 4294967295 = ((w % 4294967296 : Nat) : Int) := fun w hw => by
      have h := u64_and_nat w 4294967295 hw (by omega)
      have e : w &&& 4294967295 = w % 4294967296 := Nat.and_two_pow_sub_one_eq_mod w 32
      rw [e] at h; exact h
    refine SC.loop (fun y : Nat × Nat × Nat × List Nat => ⟨[(0, .sl 0 j (k + 2 + 1) 1 none), (1, .sl 1 0 (k + 2) 1 (some (k + 2))), (5, .sc (.int .i64 ((k + 2 : Nat) : Int))), (8, .sc (.int .u64 q)), (10, .sc (.int .u64 y.2.1)), (11, .sc (.int .u64 y.2.2.1)), (74, .sl 1 0 (k + 2) 1 (some (k + 2))), (75, .sc (.int .i64 ((k + 2 : Nat) : Int))), (76, .sc (.int .i64 y.1))], [(0, ⟨68, lv (seg U j y.2.2.2), false⟩), (1, ⟨68, lv V, false⟩)], 3, 162⟩)
      (fun y => y.1 ≤ k + 2 ∧ msInv u v q y.1 y.2.1 y.2.2.1 y.2.2.2) (fun y => k + 2 - y.1) (0, 0, 0, u) ?_ ?_ ?_
    · rw [hseg]
      (refine Le.of [] hB (by first | exact ⟨Nat.zero_le _, fun _ _ => Nat.zero_le _⟩ | (constructor <;> (try simp) <;> (try omega))) ?_ ?_ <;> (repeat' (first | exact leSl_nil | exact leHp_nil | refine leSl_cons (by simp (disch := omega) only [go_sem, ↓reduceIte, Nat.reduceEqDiff, reduceCtorEq]; rfl) ?_ ?_ | refine leHp_cons (by simp (disch := omega) only [go_sem, ↓reduceIte, reduceCtorEq]; rfl) ?_ ?_ | exact VLe.junk _ | exact VLe.refl rfl | exact VLe.nil_sl _ _ _ | exact VLe.int (by first | rfl | omega | (dsimp only; omega)) | exact VLe.bool rfl | exact VLe.sl rfl (by first | rfl | omega | (dsimp only; omega) | (simp; done)) | exact VLe.cap rfl (by first | rfl | omega | (dsimp only; omega) | (simp; done)) | exact VLe.im rfl rfl | exact HLe.new rfl | exact HLe.same rfl (LLe.refl rfl) | refine HLe.same rfl ?_ | exact LLe.nil _ | exact LLe.refl rfl | refine LLe.cons ?_ ?_)))
      all_goals exact LLe.lv rfl
    · exact ⟨Nat.zero_le _, rfl, lu, by simp only; omega, by simp only; omega, rfl, by simp [val]⟩
    · rintro ⟨i, br, c, z⟩ ⟨hi, hI⟩ K hK
      simp only at hi hI ⊢
      have hI' := hI
      obtain ⟨hzl, hz, hbr, hc, hdr, _⟩ := hI'
      have hzu := getD_of_drop hdr
      by_cases hlti : i < k + 2
      · have q1 := decide_eq_true (p := (i : Int) < ((k + 2 : Nat) : Int)) (by omega)
        have wi := wg i hlti
        have hei := hvg i hlti
        have lei := limbs_getD hV i
        have gi := seg_get (U := U) (z := z) (j := j) (i := i) (by omega) (by omega)
        rw [hzu] at gi
        have lui := limbs_getD lu i
        have hst := fun w d br' hw hd hb hdd => hI.step (i := i) (w := w) (d := d) (br' := br') (by omega) hei rfl lei lui hqb hw hd hb hdd
        generalize V.getD i 0 = e at *
        generalize u.getD i 0 = y at *
        have hp : q * e ≤ 4294967295 * 4294967295 := Nat.mul_le_mul (by omega) (by omega)
        have hm' : (q : Int) * (e : Int) = ((q * e : Nat) : Int) := by simp
        obtain ⟨w, hw⟩ : ∃ w, c + q * e = w := ⟨_, rfl⟩
        have hst := fun d br' => hst w d br' hw.symm
        have hwc : (c : Int) + ((q * e : Nat) : Int) = (w : Int) := by omega
        have hw2 : w < 18446744073709551616 := by omega
        generalize q * e = p at *
        have hmk := hmask w hw2
        have hwm : w % 4294967296 < 4294967296 := by omega
        generalize hmm : w % 4294967296 = m at *
        have hsl := seg_len (U := U) (z := z) (j := j) (by omega)
        by_cases hn : (y : Int) - m - br < 0
        · have e3 : IntKind.u64.wrap (IntKind.u64.wrap ((y : Int) - m) - br) = (y : Int) - m - br + 18446744073709551616 := by
            simp [IntKind.wrap, IntKind.bits, IntKind.signed]; omega
          have hs1 := hst (y + 4294967296 - m - br) 1 (by omega) (by omega) (by omega)
          (repeat (first | refine DO.nil (by kernel_rfl) ?_ | (with_reducible refine SC.condB (by simp (disch := omega) only [go_sem, ↓reduceIte]; rfl) ?_; first | with_reducible refine pickT ?_ | with_reducible refine pickF ?_) | (with_reducible refine oz (by constructor <;> decide) ?_) | ((with_reducible apply SC.region); (focus (simp (disch := omega) only [go_sem, ↓reduceIte, Nat.reduceEqDiff, reduceCtorEq, Int.reduceToNat, if_pos, if_neg, q1, hm', hwc, hmk, wi, gi, fd32, fd63, e3, lv_len, hsl]; rfl))) | (with_reducible refine SC.draw Tab.mixed rfl ?_; (repeat (refine DO.run (by simp (disch := omega) only [go_sem, ↓reduceIte, Nat.reduceEqDiff, Nat.reduceLT, Nat.reduceLeDiff, Nat.reduceAdd, Nat.reduceMul, Nat.reduceSub, reduceCtorEq, Nat.reduceBEq, Int.reduceToNat, Int.reducePow, if_pos, if_neg, q1, hm', hwc, hmk, wi, gi, fd32, fd63, e3, lv_len, hsl]; rfl) ?_)); refine DO.nil (by kernel_rfl) ?_)))
          refine hK _ (i + 1, 1, w / 4294967296, z.set i (y + 4294967296 - m - br)) ?_ ⟨by simp only; omega, hs1.1⟩ (by simp only; omega)
          (refine Le.of [] hB (by first | exact ⟨Nat.zero_le _, fun _ _ => Nat.zero_le _⟩ | (constructor <;> (try simp) <;> (try omega))) ?_ ?_ <;> (repeat' (first | exact leSl_nil | exact leHp_nil | refine leSl_cons (by simp (disch := omega) only [go_sem, ↓reduceIte, Nat.reduceEqDiff, reduceCtorEq]; rfl) ?_ ?_ | refine leHp_cons (by simp (disch := omega) only [go_sem, ↓reduceIte, reduceCtorEq]; rfl) ?_ ?_ | exact VLe.junk _ | exact VLe.refl rfl | exact VLe.nil_sl _ _ _ | exact VLe.int (by first | rfl | omega | (dsimp only; omega)) | exact VLe.bool rfl | exact VLe.sl rfl (by first | rfl | omega | (dsimp only; omega) | (simp; done)) | exact VLe.cap rfl (by first | rfl | omega | (dsimp only; omega) | (simp; done)) | exact VLe.im rfl rfl | exact HLe.new rfl | exact HLe.same rfl (LLe.refl rfl) | refine HLe.same rfl ?_ | exact LLe.nil _ | exact LLe.refl rfl | refine LLe.cons ?_ ?_)))
          all_goals first | exact LLe.lv rfl | exact LLe.lv (seg_set (by omega) (by omega) (by omega))
        · have e3 : IntKind.u64.wrap (IntKind.u64.wrap ((y : Int) - m) - br) = (y : Int) - m - br := by
            simp [IntKind.wrap, IntKind.bits, IntKind.signed]; omega
          have hs1 := hst (y - m - br) 0 (by omega) (by omega) (by omega)
          (repeat (first | refine DO.nil (by kernel_rfl) ?_ | (with_reducible refine SC.condB (by simp (disch := omega) only [go_sem, ↓reduceIte]; rfl) ?_; first | with_reducible refine pickT ?_ | with_reducible refine pickF ?_) | (with_reducible refine oz (by constructor <;> decide) ?_) | ((with_reducible apply SC.region); (focus (simp (disch := omega) only [go_sem, ↓reduceIte, Nat.reduceEqDiff, reduceCtorEq, Int.reduceToNat, if_pos, if_neg, q1, hm', hwc, hmk, wi, gi, fd32, fd63, lv_len, hsl]; rfl))) | (with_reducible refine SC.draw Tab.mixed rfl ?_; (repeat (refine DO.run (by simp (disch := omega) only [go_sem, ↓reduceIte, Nat.reduceEqDiff, Nat.reduceLT, Nat.reduceLeDiff, Nat.reduceAdd, Nat.reduceMul, Nat.reduceSub, reduceCtorEq, Nat.reduceBEq, Int.reduceToNat, Int.reducePow, if_pos, if_neg, q1, hm', hwc, hmk, wi, gi, fd32, fd63, e3, lv_len, hsl]; rfl) ?_)); refine DO.nil (by kernel_rfl) ?_)))
          refine hK _ (i + 1, 0, w / 4294967296, z.set i (y - m - br)) ?_ ⟨by simp only; omega, hs1.1⟩ (by simp only; omega)
          (refine Le.of [] hB (by first | exact ⟨Nat.zero_le _, fun _ _ => Nat.zero_le _⟩ | (constructor <;> (try simp) <;> (try omega))) ?_ ?_ <;> (repeat' (first | exact leSl_nil | exact leHp_nil | refine leSl_cons (by simp (disch := omega) only [go_sem, ↓reduceIte, Nat.reduceEqDiff, reduceCtorEq]; rfl) ?_ ?_ | refine leHp_cons (by simp (disch := omega) only [go_sem, ↓reduceIte, reduceCtorEq]; rfl) ?_ ?_ | exact VLe.junk _ | exact VLe.refl rfl | exact VLe.nil_sl _ _ _ | exact VLe.int (by first | rfl | omega | (dsimp only; omega)) | exact VLe.bool rfl | exact VLe.sl rfl (by first | rfl | omega | (dsimp only; omega) | (simp; done)) | exact VLe.cap rfl (by first | rfl | omega | (dsimp only; omega) | (simp; done)) | exact VLe.im rfl rfl | exact HLe.new rfl | exact HLe.same rfl (LLe.refl rfl) | refine HLe.same rfl ?_ | exact LLe.nil _ | exact LLe.refl rfl | refine LLe.cons ?_ ?_)))
          all_goals first | exact LLe.lv rfl | exact LLe.lv (seg_set (by omega) (by omega) (by omega))
      · have hik : i = k + 2 := by omega
        subst hik
        have q1 := decide_eq_false (p := ((k + 2 : Nat) : Int) < ((k + 2 : Nat) : Int)) (by omega)
        have gi := seg_get (U := U) (z := z) (j := j) (i := k + 2) (by omega) (by omega)
        rw [hzu, hu0] at gi
        have hsl := seg_len (U := U) (z := z) (j := j) (by omega)
        by_cases hcb : c + br ≤ u0
        · have e3 : IntKind.u64.wrap (IntKind.u64.wrap ((u0 : Int) - c) - br) = ((u0 - (c + br) : Nat) : Int) := by
            simp [IntKind.wrap, IntKind.bits, IntKind.signed]; omega
          have q2 : (((u0 : Int) - c - br) / 9223372036854775808 == 0) = true := by rw [beq_iff_eq]; omega
          obtain ⟨d1, d2⟩ := digit_right hul hvl hI (by omega) hV0 (by rw [hu0]; exact hcb)
          rw [hu0] at d2
          have hz2 := limbs_set hz (k + 2) (x := u0 - (c + br)) (by omega)
          have hd := dg_eq hz2
          rw [d2, List.length_set, hzl, hul] at hd
          have hls := seg_set (U := U) (z := z) (j := j) (i := k + 2) (x := u0 - (c + br)) (by omega) (by omega) (n := (u0 : Int) - c - br) (by omega)
          rw [← hd] at hls
          have hqQ : q = Q := d1.trans hQQ
          subst hqQ
          (repeat (first | refine DO.nil (by kernel_rfl) ?_ | (with_reducible refine SC.condB (by simp (disch := omega) only [go_sem, ↓reduceIte]; rfl) ?_; first | with_reducible refine pickT ?_ | with_reducible refine pickF ?_) | (with_reducible refine oz (by constructor <;> decide) ?_) | ((with_reducible apply SC.region); (focus (simp (disch := omega) only [go_sem, ↓reduceIte, Nat.reduceEqDiff, reduceCtorEq, Int.reduceToNat, if_pos, if_neg, q1, q2, gi, fd63, lv_len, hsl, hls]; rfl))) | (with_reducible refine SC.draw Tab.mixed rfl ?_; (repeat (refine DO.run (by simp (disch := omega) only [go_sem, ↓reduceIte, Nat.reduceEqDiff, Nat.reduceLT, Nat.reduceLeDiff, Nat.reduceAdd, Nat.reduceMul, Nat.reduceSub, reduceCtorEq, Nat.reduceBEq, Int.reduceToNat, Int.reducePow, if_pos, if_neg, q1, q2, gi, fd63, e3, lv_len, hsl, hls]; rfl) ?_)); refine DO.nil (by kernel_rfl) ?_)))
          refine retI_r Tryz.results101 (by simp (disch := omega) only [go_sem, ↓reduceIte]; rfl) ?_
          (refine Le.of [] hB (by first | exact ⟨Nat.zero_le _, fun _ _ => Nat.zero_le _⟩ | (constructor <;> (try simp) <;> (try omega))) ?_ ?_ <;> (repeat' (first | exact leSl_nil | exact leHp_nil | refine leSl_cons (by simp (disch := omega) only [go_sem, ↓reduceIte]; rfl) ?_ ?_ | refine leHp_cons (by simp (disch := omega) only [go_sem, ↓reduceIte, reduceCtorEq]; rfl) ?_ ?_ | exact VLe.junk _ | exact VLe.refl rfl | exact VLe.nil_sl _ _ _ | exact VLe.int (by first | rfl | omega | (dsimp only; omega)) | exact VLe.bool rfl | exact VLe.sl rfl (by first | rfl | omega | (dsimp only; omega) | (simp; done)) | exact VLe.cap rfl (by first | rfl | omega | (dsimp only; omega) | (simp; done)) | exact VLe.im rfl rfl | exact HLe.new rfl | exact HLe.same rfl (LLe.refl rfl) | refine HLe.same rfl ?_ | exact LLe.nil _ | exact LLe.refl rfl | refine LLe.cons ?_ ?_)))
          all_goals exact LLe.lv rfl
        · have e3 : IntKind.u64.wrap (IntKind.u64.wrap ((u0 : Int) - c) - br) = (u0 : Int) - c - br + 18446744073709551616 := by
            simp [IntKind.wrap, IntKind.bits, IntKind.signed]; omega
          have q2 : ((((u0 : Int) - c - br + 18446744073709551616) / 9223372036854775808) == 0) = false := by rw [beq_eq_false_iff_ne]; omega
          (repeat (first | refine DO.nil (by kernel_rfl) ?_ | (with_reducible refine SC.condB (by simp (disch := omega) only [go_sem, ↓reduceIte]; rfl) ?_; first | with_reducible refine pickT ?_ | with_reducible refine pickF ?_) | (with_reducible refine oz (by constructor <;> decide) ?_) | ((with_reducible apply SC.region); (focus (simp (disch := omega) only [go_sem, ↓reduceIte, Nat.reduceEqDiff, reduceCtorEq, Int.reduceToNat, if_pos, if_neg, q1, q2, gi, fd63, e3, lv_len, hsl]; rfl))) | (with_reducible refine SC.draw Tab.mixed rfl ?_; (repeat (refine DO.run (by simp (disch := omega) only [go_sem, ↓reduceIte, Nat.reduceEqDiff, Nat.reduceLT, Nat.reduceLeDiff, Nat.reduceAdd, Nat.reduceMul, Nat.reduceSub, reduceCtorEq, Nat.reduceBEq, Int.reduceToNat, Int.reducePow, if_pos, if_neg, q1, q2, gi, fd63, e3, lv_len, hsl]; rfl) ?_)); refine DO.nil (by kernel_rfl) ?_)))
          have hls := seg_set (U := U) (z := z) (j := j) (i := k + 2) (x := (4294967296 + u0 - (c + br)) % 4294967296) (by omega) (by omega) (n := ((u0 : Int) - c - br + 18446744073709551616) % 4294967296) (by omega)
          have hz2 := limbs_set hz (k + 2) (x := (4294967296 + u0 - (c + br)) % 4294967296) (by omega)
          have hless := fun z' h zz ca ha => digit_less (zz := zz) (ca := ca) hul hvl lu lw hI (by rw [hu0]; omega) (by omega) hq3 hV0 z' h ha
          rw [hu0] at hless
          have hless := hless _ rfl
          have hzl2 : (z.set (k + 2) ((4294967296 + u0 - (c + br)) % 4294967296)).length = k + 3 := by simp; omega
          have hz2n : (z.set (k + 2) ((4294967296 + u0 - (c + br)) % 4294967296)).getD (k + 2) 0 = (4294967296 + u0 - (c + br)) % 4294967296 := by
            rw [List.getD_eq_getElem?_getD, List.getElem?_set_self (by omega)]; rfl
          have ht : (4294967296 + u0 - (c + br)) % 4294967296 < 4294967296 := by omega
          generalize z.set (k + 2) ((4294967296 + u0 - (c + br)) % 4294967296) = z2 at *
          generalize (4294967296 + u0 - (c + br)) % 4294967296 = t at *
          (repeat (first | refine DO.nil (by kernel_rfl) ?_ | (with_reducible refine SC.condB (by simp (disch := omega) only [go_sem, ↓reduceIte, Nat.reduceEqDiff, Nat.reduceLT, Nat.reduceLeDiff, Nat.reduceAdd, Nat.reduceMul, Nat.reduceSub, reduceCtorEq, Nat.reduceBEq, Int.reduceToNat, Int.reducePow, if_pos, if_neg, hls]; rfl) ?_; first | with_reducible refine pickT ?_ | with_reducible refine pickF ?_) | (with_reducible refine oz (by constructor <;> decide) ?_) | ((with_reducible apply SC.region); (focus (simp (disch := omega) only [go_sem, ↓reduceIte, Nat.reduceEqDiff, Nat.reduceLT, Nat.reduceLeDiff, Nat.reduceAdd, Nat.reduceMul, Nat.reduceSub, reduceCtorEq, Nat.reduceBEq, Int.reduceToNat, Int.reducePow, if_pos, if_neg, hls]; rfl))) | (with_reducible refine SC.draw Tab.mixed rfl ?_; (repeat (refine DO.run (by simp (disch := omega) only [go_sem, ↓reduceIte, Nat.reduceEqDiff, Nat.reduceLT, Nat.reduceLeDiff, Nat.reduceAdd, Nat.reduceMul, Nat.reduceSub, reduceCtorEq, Nat.reduceBEq, Int.reduceToNat, Int.reducePow, if_pos, if_neg, hls]; rfl) ?_)); refine DO.nil (by kernel_rfl) ?_)))
          refine SC.loop (fun y : Nat × Nat × List Nat => ⟨[(0, .sl 0 j (k + 2 + 1) 1 none), (1, .sl 1 0 (k + 2) 1 (some (k + 2))), (5, .sc (.int .i64 ((k + 2 : Nat) : Int))), (8, .sc (.int .u64 q)), (11, .sc (.int .u64 y.2.1)), (126, .sl 1 0 (k + 2) 1 (some (k + 2))), (127, .sc (.int .i64 ((k + 2 : Nat) : Int))), (128, .sc (.int .i64 y.1))], [(0, ⟨68, lv (seg U j y.2.2), false⟩), (1, ⟨68, lv V, false⟩)], 3, 162⟩)
            (fun y => y.1 ≤ k + 2 ∧ abInv z2 v y.1 y.2.1 y.2.2) (fun y => k + 2 - y.1) (0, 0, z2) ?_ ?_ ?_
          · (refine Le.of [] hB (by first | exact ⟨Nat.zero_le _, fun _ _ => Nat.zero_le _⟩ | (constructor <;> (try simp) <;> (try omega))) ?_ ?_ <;> (repeat' (first | exact leSl_nil | exact leHp_nil | refine leSl_cons (by simp (disch := omega) only [go_sem, ↓reduceIte, Nat.reduceEqDiff, reduceCtorEq]; rfl) ?_ ?_ | refine leHp_cons (by simp (disch := omega) only [go_sem, ↓reduceIte, reduceCtorEq]; rfl) ?_ ?_ | exact VLe.junk _ | exact VLe.refl rfl | exact VLe.nil_sl _ _ _ | exact VLe.int (by first | rfl | omega | (dsimp only; omega)) | exact VLe.bool rfl | exact VLe.sl rfl (by first | rfl | omega | (dsimp only; omega) | (simp; done)) | exact VLe.cap rfl (by first | rfl | omega | (dsimp only; omega) | (simp; done)) | exact VLe.im rfl rfl | exact HLe.new rfl | exact HLe.same rfl (LLe.refl rfl) | refine HLe.same rfl ?_ | exact LLe.nil _ | exact LLe.refl rfl | refine LLe.cons ?_ ?_)))
            all_goals first | exact LLe.lv rfl | exact LLe.lv hls
          · exact ⟨Nat.zero_le _, rfl, hz2, by simp only; omega, rfl, by simp [val]⟩
          · rintro ⟨i, ca, zz⟩ ⟨hi, hJ⟩ K' hK'
            simp only at hi hJ ⊢
            have hJ' := hJ
            obtain ⟨hzzl, hzz, hca, hzdr, _⟩ := hJ'
            have hzzu := getD_of_drop hzdr
            have hsl := seg_len (U := U) (z := zz) (j := j) (by omega)
            by_cases hlti : i < k + 2
            · have q1 := decide_eq_true (p := (i : Int) < ((k + 2 : Nat) : Int)) (by omega)
              have wi := wg i hlti
              have hei := hvg i hlti
              have lei := limbs_getD hV i
              have gi := seg_get (U := U) (z := zz) (j := j) (i := i) (by omega) (by omega)
              rw [hzzu] at gi
              have lui := limbs_getD hz2 i
              have hst := fun w hw => hJ.step (i := i) (w := w) (by omega) hei rfl lei lui hw
              generalize V.getD i 0 = e at *
              generalize z2.getD i 0 = y at *
              have hs1 := hst _ rfl
              (repeat (first | refine DO.nil (by kernel_rfl) ?_ | (with_reducible refine SC.condB (by simp (disch := omega) only [go_sem, ↓reduceIte]; rfl) ?_; first | with_reducible refine pickT ?_ | with_reducible refine pickF ?_) | (with_reducible refine oz (by constructor <;> decide) ?_) | ((with_reducible apply SC.region); (focus (simp (disch := omega) only [go_sem, ↓reduceIte, Nat.reduceEqDiff, reduceCtorEq, Int.reduceToNat, if_pos, if_neg, q1, wi, gi, fd32, lv_len, hsl]; rfl))) | (with_reducible refine SC.draw Tab.mixed rfl ?_; (repeat (refine DO.run (by simp (disch := omega) only [go_sem, ↓reduceIte, Nat.reduceEqDiff, Nat.reduceLT, Nat.reduceLeDiff, Nat.reduceAdd, Nat.reduceMul, Nat.reduceSub, reduceCtorEq, Nat.reduceBEq, Int.reduceToNat, Int.reducePow, if_pos, if_neg, q1, wi, gi, fd32, lv_len, hsl]; rfl) ?_)); refine DO.nil (by kernel_rfl) ?_)))
              refine hK' _ (i + 1, (ca + (y + e)) / 4294967296, zz.set i ((ca + (y + e)) % 4294967296)) ?_ ⟨by simp only; omega, hs1⟩ (by simp only; omega)
              (refine Le.of [] hB (by first | exact ⟨Nat.zero_le _, fun _ _ => Nat.zero_le _⟩ | (constructor <;> (try simp) <;> (try omega))) ?_ ?_ <;> (repeat' (first | exact leSl_nil | exact leHp_nil | refine leSl_cons (by simp (disch := omega) only [go_sem, ↓reduceIte, Nat.reduceEqDiff, reduceCtorEq]; rfl) ?_ ?_ | refine leHp_cons (by simp (disch := omega) only [go_sem, ↓reduceIte, reduceCtorEq]; rfl) ?_ ?_ | exact VLe.junk _ | exact VLe.refl rfl | exact VLe.nil_sl _ _ _ | exact VLe.int (by first | rfl | omega | (dsimp only; omega)) | exact VLe.bool rfl | exact VLe.sl rfl (by first | rfl | omega | (dsimp only; omega) | (simp; done)) | exact VLe.cap rfl (by first | rfl | omega | (dsimp only; omega) | (simp; done)) | exact VLe.im rfl rfl | exact HLe.new rfl | exact HLe.same rfl (LLe.refl rfl) | refine HLe.same rfl ?_ | exact LLe.nil _ | exact LLe.refl rfl | refine LLe.cons ?_ ?_)))
              all_goals first | exact LLe.lv rfl | exact LLe.lv (seg_set (by omega) (by omega) (by omega))
            · have hik : i = k + 2 := by omega
              subst hik
              have q1 := decide_eq_false (p := ((k + 2 : Nat) : Int) < ((k + 2 : Nat) : Int)) (by omega)
              have gi := seg_get (U := U) (z := zz) (j := j) (i := k + 2) (by omega) (by omega)
              rw [hzzu, hz2n] at gi
              obtain ⟨d1, d2, d3, d4⟩ := hless zz ca hJ
              have hd := dg_eq (limbs_set hzz (k + 2) (x := 0) (by omega))
              rw [d4, List.length_set, hzzl, hzl2] at hd
              have e4 : ((t : Int) + ca) % 4294967296 = 0 := by omega
              have hls2 := seg_set (U := U) (z := zz) (j := j) (i := k + 2) (x := 0) (by omega) (by omega) (n := (0 : Int)) rfl
              rw [← hd] at hls2
              have hqQ : q = Q + 1 := by omega
              subst hqQ
              (repeat (first | refine DO.nil (by kernel_rfl) ?_ | (with_reducible refine SC.condB (by simp (disch := omega) only [go_sem, ↓reduceIte]; rfl) ?_; first | with_reducible refine pickT ?_ | with_reducible refine pickF ?_) | (with_reducible refine oz (by constructor <;> decide) ?_) | ((with_reducible apply SC.region); (focus (simp (disch := omega) only [go_sem, ↓reduceIte, Nat.reduceEqDiff, Nat.reduceLT, reduceCtorEq, if_pos, q1, gi, e4, lv_len, hsl, hls2]; rfl))) | (with_reducible refine SC.draw Tab.mixed rfl ?_; (repeat (refine DO.run (by simp (disch := omega) only [go_sem, ↓reduceIte, Nat.reduceEqDiff, Nat.reduceLT, Nat.reduceLeDiff, Nat.reduceAdd, Nat.reduceMul, Nat.reduceSub, reduceCtorEq, Nat.reduceBEq, Int.reduceToNat, Int.reducePow, if_pos, if_neg, q1, gi, e4, lv_len, hsl, hls2]; rfl) ?_)); refine DO.nil (by kernel_rfl) ?_)))
              refine retI_r Tryz.results101 (by simp (disch := omega) only [go_sem, ↓reduceIte]; rfl) ?_
              (refine Le.of [] hB (by first | exact ⟨Nat.zero_le _, fun _ _ => Nat.zero_le _⟩ | (constructor <;> (try simp) <;> (try omega))) ?_ ?_ <;> (repeat' (first | exact leSl_nil | exact leHp_nil | refine leSl_cons (by simp (disch := omega) only [go_sem, ↓reduceIte]; rfl) ?_ ?_ | refine leHp_cons (by simp (disch := omega) only [go_sem, ↓reduceIte, reduceCtorEq]; rfl) ?_ ?_ | exact VLe.junk _ | exact VLe.refl rfl | exact VLe.nil_sl _ _ _ | exact VLe.int (by first | rfl | omega | (dsimp only; omega)) | exact VLe.bool rfl | exact VLe.sl rfl (by first | rfl | omega | (dsimp only; omega) | (simp; done)) | exact VLe.cap rfl (by first | rfl | omega | (dsimp only; omega) | (simp; done)) | exact VLe.im rfl rfl | exact HLe.new rfl | exact HLe.same rfl (LLe.refl rfl) | refine HLe.same rfl ?_ | exact LLe.nil _ | exact LLe.refl rfl | refine LLe.cons ?_ ?_)))
              all_goals exact LLe.lv rfl
end Go.Proofs.YtpodnbcdddcdmaaGreatDoor

/- The program's division: short, divide. -/
namespace Go.Proofs.YtpodnbcdddcdmaaGreatDoor
open Go.RowKit
theorem Spec.le {P : Program} {f : Nat} {args : List V} {x y : V} (h : Spec P f args y) (hv : VLe (fun _ => true) y x) : Spec P f args x := by
  intro S w vs hS hT ha
  refine (h S w vs hS hT ha).mono ?_
  rintro e w' ⟨v, h1, h2, h3⟩
  exact ⟨v, h1, h2, (hv _ _ _ _ _ h3).mono (fun _ h => ⟨h, rfl⟩) (fun _ h => h.1.elim)⟩
theorem VLe.tu {ok : Nat → Bool} {cs ds : List V} (h : LLe ok cs ds) (hl : cs.length = ds.length) : VLe ok (.tu cs) (.tu ds) := by
  intro S rho A w v hr
  cases hr with
  | tu h1 h2 =>
    refine .tu (by omega) fun i x u hx hu => ?_
    have hi := (List.getElem?_eq_some_iff.1 hx).1
    have hy : cs[i]? = some cs[i] := List.getElem?_eq_getElem (by omega)
    exact h.2 i _ x hy hx _ _ _ _ _ (h2 i _ u hy hu)
theorem pshort_i (a : List Nat) (d : Nat) (ha : limbs a) (hm : a.length ≤ 1000000000000) (hd : 0 < d) (hd2 : d < 4294967296) : Spec Tryz.prog 69 [sv a, .sc (.int .u32 d)] (.tu [sv (dg a.length (val a / d)), .sc (.int .u32 (val a % d : Nat))]) := by
  unfold sv
  refine Spec.run Tryz.func69 rfl Tryz.ntmps69 (by simp) (by simp (disch := omega) only [go_sem, Nat.reduceAdd]; rfl) fun B hB => ?_
  (repeat (first | refine DO.nil (by kernel_rfl) ?_ | (with_reducible refine SC.condB (by simp (disch := omega) only [go_sem, ↓reduceIte, Nat.reduceEqDiff, Nat.reduceLT, Nat.reduceLeDiff, Nat.reduceAdd, Nat.reduceMul, Nat.reduceSub, reduceCtorEq, Nat.reduceBEq, Int.reduceToNat, Int.reducePow, if_pos, if_neg, lv_len]; rfl) ?_; first | with_reducible refine pickT ?_ | with_reducible refine pickF ?_) | (with_reducible refine oz (by constructor <;> decide) ?_) | ((with_reducible apply SC.region); (focus (simp (disch := omega) only [go_sem, ↓reduceIte, reduceCtorEq, if_pos]; rfl))) | (with_reducible refine SC.draw Tab.mixed rfl ?_; (repeat (refine DO.run (by simp (disch := omega) only [go_sem, ↓reduceIte, Nat.reduceEqDiff, Nat.reduceLT, Nat.reduceLeDiff, Nat.reduceAdd, Nat.reduceMul, Nat.reduceSub, reduceCtorEq, Nat.reduceBEq, Int.reduceToNat, Int.reducePow, if_pos, if_neg, lv_len]; rfl) ?_)); refine DO.nil (by kernel_rfl) ?_)))
  refine SC.loop (fun x : Nat × Nat × List Nat => ⟨[(0, .im (lv a) a.length), (1, .sc (.int .u32 d)), (6, .sl 0 0 a.length 1 none), (7, .sc (.int .u64 x.2.1)), (8, .sc (.int .i64 ((x.1 : Int) - 1)))], [(0, ⟨68, lv x.2.2, false⟩)], 1, 42⟩)
    (fun x => x.1 ≤ a.length ∧ shortInv a d x.1 x.2.1 x.2.2) (fun x => x.1) (a.length, 0, List.replicate a.length 0) ?_ ?_ ?_
  · (refine Le.of [] hB (by first | exact ⟨Nat.zero_le _, fun _ _ => Nat.zero_le _⟩ | (constructor <;> (try simp) <;> (try omega))) ?_ ?_ <;> (repeat' (first | exact leSl_nil | exact leHp_nil | refine leSl_cons (by simp (disch := omega) only [go_sem, ↓reduceIte, Nat.reduceEqDiff, reduceCtorEq]; rfl) ?_ ?_ | refine leHp_cons (by simp (disch := omega) only [go_sem, ↓reduceIte]; rfl) ?_ ?_ | exact VLe.junk _ | exact VLe.refl rfl | exact VLe.nil_sl _ _ _ | exact VLe.int (by first | rfl | omega | (dsimp only; omega)) | exact VLe.bool rfl | exact VLe.sl rfl (by first | rfl | omega | (dsimp only; omega) | (simp; done)) | exact VLe.cap rfl (by first | rfl | omega | (dsimp only; omega) | (simp; done)) | exact VLe.im rfl rfl | exact HLe.new rfl | exact HLe.same rfl (LLe.refl rfl) | refine HLe.same rfl ?_ | exact LLe.nil _ | exact LLe.refl rfl | refine LLe.cons ?_ ?_)))
    exact LLe.lv (lv_rep _)
  · exact ⟨Nat.le_refl _, by simp, limbs_replicate _, hd, by simp [val]⟩
  · rintro ⟨k, r, z⟩ ⟨hk, hI⟩ K hK
    simp only at hk hI ⊢
    have hz : z.length = a.length := hI.1
    by_cases h0 : k = 0
    · subst h0
      have q1 : decide ((0 : Int) ≤ ((0 : Nat) : Int) - 1) = false := by simp
      have hdn := hI.done
      have he := dg_eq hI.2.1
      rw [hdn.1, hz] at he
      have ht : z.take a.length = z := by rw [← hz]; exact List.take_length
      (repeat (first | refine DO.nil (by kernel_rfl) ?_ | (with_reducible refine SC.condB (by simp (disch := omega) only [go_sem, ↓reduceIte]; rfl) ?_; first | with_reducible refine pickT ?_ | with_reducible refine pickF ?_) | (with_reducible refine oz (by constructor <;> decide) ?_) | ((with_reducible apply SC.region); (focus (simp (disch := omega) only [go_sem, ↓reduceIte, Nat.reduceEqDiff, Nat.reduceLT, reduceCtorEq, q1]; rfl))) | (with_reducible refine SC.draw Tab.mixed rfl ?_; (repeat (refine DO.run (by simp (disch := omega) only [go_sem, ↓reduceIte, Nat.reduceEqDiff, Nat.reduceLT, Nat.reduceLeDiff, Nat.reduceAdd, Nat.reduceMul, Nat.reduceSub, reduceCtorEq, Nat.reduceBEq, Int.reduceToNat, Int.reducePow, if_pos, if_neg, q1]; rfl) ?_)); refine DO.nil (by kernel_rfl) ?_)))
      refine retQ_ret Tryz.results69 (by simp (disch := omega) only [go_sem, ↓reduceIte, Nat.reduceEqDiff]; rfl) (by simp (disch := omega) only [go_sem, ↓reduceIte, if_pos, lv_len, lv_take, lv_clo, ht]; rfl) ?_
      have h3 := hI.2.2.1
      rw [he, hz, ← hdn.2]
      have : (r : Int) % 4294967296 = r := by omega
      rw [this]
    · obtain ⟨j, rfl⟩ : ∃ j, k = j + 1 := ⟨k - 1, by omega⟩
      have q1 : decide ((0 : Int) ≤ ((j + 1 : Nat) : Int) - 1) = true := by simp
      have hi : (((j + 1 : Nat) : Int) - 1).toNat = j := by omega
      have hj : j < a.length := by omega
      have la := limbs_getD ha j
      have ga := lv_get hj
      obtain ⟨hst, hq⟩ := hI.step hj rfl la
      have h3 := hI.2.2.1
      generalize a.getD j 0 = x at *
      have hor := or_up r x (by omega) la
      have h4 : ((r * 4294967296 + x : Nat) : Int).tdiv (d : Int) = (((r * 4294967296 + x) / d : Nat) : Int) := (Int.ofNat_tdiv _ _).symm
      have h5 : ((r * 4294967296 + x : Nat) : Int).tmod (d : Int) = (((r * 4294967296 + x) % d : Nat) : Int) := (Int.ofNat_tmod _ _).symm
      have h4' : ((r * 4294967296 + x : Nat) : Int) / (d : Int) = (((r * 4294967296 + x) / d : Nat) : Int) := by simp
      have h5' : ((r * 4294967296 + x : Nat) : Int) % (d : Int) = (((r * 4294967296 + x) % d : Nat) : Int) := by simp
      have h6 : (r * 4294967296 + x) % d < d := Nat.mod_lt _ hd
      generalize (r * 4294967296 + x) / d = Q at *
      generalize (r * 4294967296 + x) % d = M at *
      (repeat (first | refine DO.nil (by kernel_rfl) ?_ | (with_reducible refine SC.condB (by simp (disch := omega) only [go_sem, ↓reduceIte]; rfl) ?_; first | with_reducible refine pickT ?_ | with_reducible refine pickF ?_) | (with_reducible refine oz (by constructor <;> decide) ?_) | ((with_reducible apply SC.region); (focus (simp (disch := omega) only [go_sem, ↓reduceIte, Nat.reduceEqDiff, reduceCtorEq, Int.reduceToNat, Int.reducePow, if_pos, if_neg, q1, hi, ga, hor, h4, h5, mi32, lv_len, List.getElem?_drop]; rfl))) | (with_reducible refine SC.draw Tab.mixed rfl ?_; (repeat (refine DO.run (by simp (disch := omega) only [go_sem, ↓reduceIte, Nat.reduceEqDiff, Nat.reduceLT, Nat.reduceLeDiff, Nat.reduceAdd, Nat.reduceMul, Nat.reduceSub, reduceCtorEq, Nat.reduceBEq, Int.reduceToNat, Int.reducePow, if_pos, if_neg, q1, hi, ga, hor, h4, h5, h4', h5', mi32, lv_len, List.getElem?_drop]; rfl) ?_)); refine DO.nil (by kernel_rfl) ?_)))
      refine hK _ (j, M, z.set j Q) ?_ ⟨by simp only; omega, hst⟩ (by simp only; omega)
      (refine Le.of [] hB (by first | exact ⟨Nat.zero_le _, fun _ _ => Nat.zero_le _⟩ | (constructor <;> (try simp) <;> (try omega))) ?_ ?_ <;> (repeat' (first | exact leSl_nil | exact leHp_nil | refine leSl_cons (by simp (disch := omega) only [go_sem, ↓reduceIte, Nat.reduceEqDiff, reduceCtorEq]; rfl) ?_ ?_ | refine leHp_cons (by simp (disch := omega) only [go_sem, ↓reduceIte]; rfl) ?_ ?_ | exact VLe.junk _ | exact VLe.refl rfl | exact VLe.nil_sl _ _ _ | exact VLe.int (by first | rfl | omega | (dsimp only; omega)) | exact VLe.bool rfl | exact VLe.sl rfl (by first | rfl | omega | (dsimp only; omega) | (simp; done)) | exact VLe.cap rfl (by first | rfl | omega | (dsimp only; omega) | (simp; done)) | exact VLe.im rfl rfl | exact HLe.new rfl | exact HLe.same rfl (LLe.refl rfl) | refine HLe.same rfl ?_ | exact LLe.nil _ | exact LLe.refl rfl | refine LLe.cons ?_ ?_)))
      exact LLe.lv (lv_set (by omega))
def DivTo (X Y : Nat) (x : V) : Prop := ∃ q r : List Nat, x = .tu [sv q, sv r] ∧ limbs q ∧ limbs r ∧ val q = X / Y ∧ val r = X % Y ∧ q.length ≤ (limbsOf X).length + 2 ∧ r.length ≤ (limbsOf X).length + (limbsOf Y).length + 2
theorem nat_lt_of_len {m n : Nat} (h : (limbsOf m).length < (limbsOf n).length) : m < n := by
  have h1 := val_lt (limbsOf_limbs m)
  have h2 := canon_ge (limbsOf_canon n) (by intro e; rw [e] at h; simp at h)
  rw [limbsOf_val] at h1 h2
  have h3 : 4294967296 ^ (limbsOf m).length ≤ 4294967296 ^ ((limbsOf n).length - 1) := Nat.pow_le_pow_right (by omega) (by omega)
  omega
theorem len_le_of {m n : Nat} (h : m ≤ n) : (limbsOf m).length ≤ (limbsOf n).length := by
  refine Nat.le_of_not_lt fun hlt => ?_
  have := nat_lt_of_len hlt
  omega
theorem div_less (X Y : Nat) (hX : (limbsOf X).length ≤ 300000000000) (hY : (limbsOf Y).length ≤ 300000000000) (h : X < Y) : ∃ x, DivTo X Y x ∧ Spec Tryz.prog 76 [sv (limbsOf X), sv (limbsOf Y)] x := by
  refine ⟨_, ⟨[], limbsOf X, rfl, fun x h => (by simp at h), limbsOf_limbs _, (Nat.div_eq_of_lt h).symm, by rw [limbsOf_val, Nat.mod_eq_of_lt h], by simp, by omega⟩, ?_⟩
  have c1 := compare_n X Y (by omega) (by omega)
  rw [Int.sign_eq_neg_one_of_neg (by omega)] at c1
  have c2 := clone_l (limbsOf X) (by omega)
  have q1 : decide ((-1 : Int) < 0) = true := by decide
  unfold sv at *
  refine Spec.run Tryz.func76 rfl Tryz.ntmps76 (by simp) (by simp (disch := omega) only [go_sem, Nat.reduceAdd]; rfl) fun B hB => ?_
  (repeat (first | refine DO.nil (by kernel_rfl) ?_ | (with_reducible refine oz (by constructor <;> decide) ?_) | ((first | apply SO.call | apply DO.call); (iterate 3 (focus (simp (disch := omega) only [go_sem, ↓reduceIte, Nat.reduceEqDiff] <;> rfl))); (first | apply SCall.ofX | apply DCall.ofX); (focus (first | assumption)); (focus (simp (disch := omega) only [go_sem] <;> rfl))) | ((with_reducible first | apply SC.condB | apply SC.region | apply SO.run | apply DO.run); (focus (simp (disch := omega) only [go_sem, ↓reduceIte, Nat.reduceEqDiff, reduceCtorEq, q1] <;> rfl)); (first | refine pickT ?_ | refine pickF ?_ | fail_if_success with_reducible refine pickA ?_)) | ((with_reducible refine SC.draw Tab.mixed ?_ ?_); (focus rfl)) | (with_reducible apply SC.ops)))
  exact retQ_ret Tryz.results76 (by simp (disch := omega) only [go_sem, ↓reduceIte, Nat.reduceEqDiff]; rfl) (by simp (disch := omega) only [go_sem, ↓reduceIte]; rfl) rfl
theorem div_two (X Y : Nat) (hX : (limbsOf X).length ≤ 2) (h0 : 0 < Y) (h : Y ≤ X) : ∃ x, DivTo X Y x ∧ Spec Tryz.prog 76 [sv (limbsOf X), sv (limbsOf Y)] x := by
  have hlY := len_le_of h
  have bX : X < 18446744073709551616 := by
    have h1 := val_lt (limbsOf_limbs X)
    rw [limbsOf_val] at h1
    have : 4294967296 ^ (limbsOf X).length ≤ 4294967296 ^ 2 := Nat.pow_le_pow_right (by omega) hX
    omega
  have bq : X / Y < 18446744073709551616 := Nat.lt_of_le_of_lt (Nat.div_le_self _ _) bX
  have br : X % Y < 18446744073709551616 := Nat.lt_of_le_of_lt (Nat.mod_le _ _) bX
  have hlX : 1 ≤ (limbsOf X).length := by
    rcases Nat.eq_zero_or_pos (limbsOf X).length with e | e
    · have := limbsOf_nil.1 (List.eq_nil_of_length_eq_zero e); omega
    · exact e
  refine ⟨_, ⟨[X / Y % 4294967296, X / Y / 4294967296], [X % Y % 4294967296, X % Y / 4294967296], rfl, limbs_two _ bq, limbs_two _ br, val_two _, val_two _, by simp, by simp⟩, ?_⟩
  have c1 := compare_n X Y (by omega) (by omega)
  have hs : 0 ≤ ((X : Int) - Y).sign := by rcases Nat.lt_or_ge Y X with e | e; rw [Int.sign_eq_one_of_pos (by omega)]; omega; rw [show (X : Int) - Y = 0 by omega]; decide
  have q1 := decide_eq_false (p := ((X : Int) - Y).sign < 0) (by omega)
  have q2 := decide_eq_true (p := ((limbsOf X).length : Int) ≤ 2) (by omega)
  have c2 := word_i (limbsOf X) (limbsOf_limbs _) hX
  have c3 := word_i (limbsOf Y) (limbsOf_limbs _) (by omega)
  rw [limbsOf_val] at c2 c3
  have c4 := limbs_s (X / Y) bq
  have c5 := limbs_s (X % Y) br
  have e4 : (X : Int).tdiv (Y : Int) = ((X / Y : Nat) : Int) := (Int.ofNat_tdiv _ _).symm
  have e5 : (X : Int).tmod (Y : Int) = ((X % Y : Nat) : Int) := (Int.ofNat_tmod _ _).symm
  generalize ((X : Int) - Y).sign = s at *
  unfold sv at *
  generalize X / Y = Q at *
  generalize X % Y = R at *
  refine Spec.run Tryz.func76 rfl Tryz.ntmps76 (by simp) (by simp (disch := omega) only [go_sem, Nat.reduceAdd]; rfl) fun B hB => ?_
  (repeat (first | refine DO.nil (by kernel_rfl) ?_ | (with_reducible refine oz (by constructor <;> decide) ?_) | ((first | apply SO.call | apply DO.call); (iterate 3 (focus (simp (disch := omega) only [go_sem, ↓reduceIte, Nat.reduceEqDiff] <;> rfl))); (first | apply SCall.ofX | apply DCall.ofX); (focus (first | assumption)); (focus (simp (disch := omega) only [go_sem] <;> rfl))) | ((with_reducible first | apply SC.condB | apply SC.region | apply SO.run | apply DO.run); (focus (simp (disch := omega) only [go_sem, ↓reduceIte, Nat.reduceEqDiff, reduceCtorEq, if_neg, q1, q2, e4, e5] <;> rfl)); (first | refine pickT ?_ | refine pickF ?_ | fail_if_success with_reducible refine pickA ?_)) | ((with_reducible refine SC.draw Tab.mixed ?_ ?_); (focus rfl)) | (with_reducible apply SC.ops)))
  exact retQ_ret Tryz.results76 (by simp (disch := omega) only [go_sem, ↓reduceIte, Nat.reduceEqDiff]; rfl) (by simp (disch := omega) only [go_sem, ↓reduceIte, Nat.reduceAdd]; rfl) rfl
theorem div_one (X Y : Nat) (hX : (limbsOf X).length ≤ 300000000000) (hX2 : 2 < (limbsOf X).length) (h0 : 0 < Y) (h : Y < 4294967296) : ∃ x, DivTo X Y x ∧ Spec Tryz.prog 76 [sv (limbsOf X), sv (limbsOf Y)] x := by
  have gX := val_lt (limbsOf_limbs X)
  rw [limbsOf_val] at gX
  have hm := Nat.mod_lt X h0
  refine ⟨_, ⟨dg (limbsOf X).length (X / Y), [X % Y], rfl, dg_limbs _ _, limbs_one (by omega), dg_val _ _ (Nat.lt_of_le_of_lt (Nat.div_le_self _ _) gX), val_one _, by rw [dg_len]; omega, by simp⟩, ?_⟩
  have hl1 : (limbsOf Y).length = 1 := by rw [limbsOf_one h0 h]; rfl
  have hlt : Y < X := nat_lt_of_len (by omega)
  have c1 := compare_n X Y (by omega) (by omega)
  rw [Int.sign_eq_one_of_pos (by omega)] at c1
  have c2 := pshort_i (limbsOf X) Y (limbsOf_limbs _) (by omega) h0 h
  rw [limbsOf_val] at c2
  rw [limbsOf_one h0 h] at c1 ⊢
  have q1 : decide ((1 : Int) < 0) = false := by decide
  have q2 := decide_eq_false (p := ((limbsOf X).length : Int) ≤ 2) (by omega)
  have q3 : (((1 : Nat) : Int) == 1) = true := by decide
  unfold sv at *
  rw [lv_one] at *
  simp only [List.length_singleton] at *
  refine Spec.run Tryz.func76 rfl Tryz.ntmps76 (by simp) (by simp (disch := omega) only [go_sem, Nat.reduceAdd]; rfl) fun B hB => ?_
  (repeat (first | refine DO.nil (by kernel_rfl) ?_ | (with_reducible refine oz (by constructor <;> decide) ?_) | ((first | apply SO.call | apply DO.call); (iterate 3 (focus (simp (disch := omega) only [go_sem, ↓reduceIte, Nat.reduceEqDiff] <;> rfl))); (first | apply SCall.ofX | apply DCall.ofX); (focus (first | assumption)); (focus (simp (disch := omega) only [go_sem] <;> rfl))) | ((with_reducible first | apply SC.condB | apply SC.region | apply SO.run | apply DO.run); (focus (simp (disch := omega) only [go_sem, ↓reduceIte, Nat.reduceEqDiff, Nat.reduceLT, Nat.reduceLeDiff, reduceCtorEq, Int.reduceToNat, if_pos, q1, q2, q3] <;> rfl)); (first | refine pickT ?_ | refine pickF ?_ | fail_if_success with_reducible refine pickA ?_)) | ((with_reducible refine SC.draw Tab.mixed ?_ ?_); (focus rfl)) | (with_reducible apply SC.ops)))
  exact retQ_ret Tryz.results76 (by simp (disch := omega) only [go_sem, ↓reduceIte, Nat.reduceEqDiff]; rfl) (by simp (disch := omega) only [go_sem, ↓reduceIte, Nat.reduceLeDiff]; rfl) rfl
end Go.Proofs.YtpodnbcdddcdmaaGreatDoor

/- The program's division: divide in the general case. -/
namespace Go.Proofs.YtpodnbcdddcdmaaGreatDoor
open Go.RowKit
theorem dg_take : ∀ (k j m : Nat), (dg (k + j) m).take k = dg k m
  | 0, j, m => by simp [dg]
  | k + 1, j, m => by
    rw [show k + 1 + j = (k + j) + 1 by omega]
    simp only [dg, List.take_succ_cons]
    rw [dg_take k j]
theorem dg_drop : ∀ (k j m : Nat), (dg (k + j) m).drop k = dg j (m / 4294967296 ^ k)
  | 0, j, m => by simp
  | k + 1, j, m => by
    rw [show k + 1 + j = (k + j) + 1 by omega]
    simp only [dg, List.drop_succ_cons]
    rw [dg_drop k j, Nat.div_div_eq_div_mul, Nat.pow_succ, Nat.mul_comm]
theorem dg_getD : ∀ (k i m : Nat), i < k → (dg k m).getD i 0 = m / 4294967296 ^ i % 4294967296
  | k + 1, 0, m, _ => by simp [dg]
  | k + 1, i + 1, m, h => by
    have := dg_getD k i (m / 4294967296) (by omega)
    simp only [dg]
    rw [show (m % 4294967296 :: dg k (m / 4294967296)).getD (i + 1) 0 = (dg k (m / 4294967296)).getD i 0 from rfl, this, Nat.div_div_eq_div_mul, Nat.pow_succ, Nat.mul_comm]
theorem take_succ_getD {l : List Nat} {i : Nat} (h : i < l.length) : l.take (i + 1) = l.take i ++ [l.getD i 0] := by
  rw [List.take_succ_eq_append_getElem h, List.getD_eq_getElem?_getD, List.getElem?_eq_getElem h]; rfl
theorem only_lv (p : Nat → Prop) (l : List Nat) : ∀ y ∈ lv l, Only p y := fun y hy => by
  obtain ⟨v, rfl⟩ := lv_sc l y hy
  exact .sc _
structure Shifted (Y s n m : Nat) : Prop where
  lt : Y * m < 4294967296 ^ n
  top : 2147483648 ≤ (dg (n + 1) (Y * m)).getD (n - 1) 0
theorem shifted {Y n t : Nat} (hn : (limbsOf Y).length = n) (h1 : 1 ≤ n) (ht : (limbsOf Y).getD (n - 1) 0 = t) : Shifted Y (32 - bl t) n (2 ^ (32 - bl t)) ∧ t ≠ 0 ∧ bl t ≤ 32 ∧ t < 4294967296 := by
  have tl := limbs_getD (limbsOf_limbs Y) (n - 1)
  rw [ht] at tl
  have hb := bl_le_of (x := t) (k := 32) (by omega)
  have t0 : t ≠ 0 := by
    have hc := limbsOf_canon Y (by intro e; rw [e] at hn; simp at hn; omega)
    rw [List.getLast_eq_getElem] at hc
    rw [List.getD_eq_getElem?_getD, List.getElem?_eq_getElem (by omega)] at ht
    simp only [hn] at hc
    intro e; exact hc (by simpa [e] using ht)
  have hv := val_last (z := limbsOf Y) (n := n - 1) (by omega)
  rw [limbsOf_val, ht] at hv
  have hlt := val_lt (limbs_take (limbsOf_limbs Y) (n - 1))
  rw [List.length_take, Nat.min_eq_left (by omega)] at hlt
  obtain ⟨a1, a2⟩ := bl_le t0
  have a3 := bl_lt t
  have p1 : 2 ^ bl t * 2 ^ (32 - bl t) = 4294967296 := by rw [← Nat.pow_add, show bl t + (32 - bl t) = 32 by omega]
  have p2 : 2 ^ (bl t - 1) * 2 ^ (32 - bl t) = 2147483648 := by rw [← Nat.pow_add, show bl t - 1 + (32 - bl t) = 31 by omega]
  have p3 : 4294967296 ^ n = 4294967296 ^ (n - 1) * 4294967296 := by rw [← Nat.pow_succ, show (n - 1).succ = n by omega]
  generalize hMM : 4294967296 ^ (n - 1) = M at *
  have hM : 0 < M := by omega
  generalize 2 ^ (32 - bl t) = p at *
  have u1 : Y * p < M * 4294967296 := by
    have b1 : Y < M * (t + 1) := by rw [Nat.mul_add]; omega
    have b2 : M * (t + 1) ≤ M * 2 ^ bl t := Nat.mul_le_mul_left _ (by omega)
    have hp : 0 < p := by rcases Nat.eq_zero_or_pos p with e | e; subst e; omega; exact e
    have b3 := Nat.mul_lt_mul_of_pos_right (Nat.lt_of_lt_of_le b1 b2) hp
    rw [Nat.mul_assoc, p1] at b3; exact b3
  refine ⟨⟨by rw [p3]; exact u1, ?_⟩, t0, hb, tl⟩
  rw [dg_getD _ _ _ (by omega)]
  rw [hMM]
  have u2 : 2147483648 * M ≤ Y * p := by
    have c1 : 2 ^ (bl t - 1) * p ≤ t * p := Nat.mul_le_mul_right _ a1
    have c2 : M * t ≤ Y := by omega
    have c3 := Nat.mul_le_mul_right p c2
    have c4 : M * 2147483648 ≤ M * (t * p) := Nat.mul_le_mul_left _ (by omega)
    rw [← Nat.mul_assoc] at c4
    omega
  have d1 := (Nat.le_div_iff_mul_le hM).2 u2
  have d2 := Nat.div_lt_of_lt_mul u1
  rw [Nat.mod_eq_of_lt d2]; exact d1
set_option maxHeartbeats 4000000 in
theorem div_long (X Y : Nat) (hX : (limbsOf X).length ≤ 300000000000) (hX2 : 2 < (limbsOf X).length) (h0 : 2 ≤ (limbsOf Y).length) (h : Y ≤ X) : ∃ x, DivTo X Y x ∧ Spec Tryz.prog 76 [sv (limbsOf X), sv (limbsOf Y)] x := by
  have hlY := len_le_of h
  have c1 := compare_n X Y (by omega) (by omega)
  have hs0 : 0 ≤ ((X : Int) - Y).sign := by rcases Nat.lt_or_ge Y X with e | e; rw [Int.sign_eq_one_of_pos (by omega)]; omega; rw [show (X : Int) - Y = 0 by omega]; decide
  have gX := val_lt (limbsOf_limbs X)
  rw [limbsOf_val] at gX
  obtain ⟨hSh, ht0, htb, htl⟩ := shifted (Y := Y) rfl (by omega) rfl
  have hY0 : 0 < Y := by
    rcases Nat.eq_zero_or_pos Y with e | e
    · rw [e] at h0; simp [limbsOf_zero] at h0
    · exact e
  have gY := canon_ge (limbsOf_canon Y) (by intro e; rw [e] at h0; simp at h0)
  rw [limbsOf_val] at gY
  have c3 := shift_n (limbsOf X) (32 - bl ((limbsOf Y).getD ((limbsOf Y).length - 1) 0)) (limbsOf_limbs _) (by have := (bl_le ht0).2; omega) (by omega)
  have c4 := shift_n (limbsOf Y) (32 - bl ((limbsOf Y).getD ((limbsOf Y).length - 1) 0)) (limbsOf_limbs _) (by have := (bl_le ht0).2; omega) (by omega)
  have c2 := lz32_s _ htl
  have gt := lv_get (l := limbsOf Y) (i := (limbsOf Y).length - 1) (by omega)
  rw [limbsOf_val] at c3 c4
  have hRlt : X % Y < 4294967296 ^ (limbsOf Y).length := by
    have h1 := val_lt (limbsOf_limbs Y)
    rw [limbsOf_val] at h1
    have := Nat.mod_lt X hY0
    omega
  have hQlt : X / Y < 4294967296 ^ ((limbsOf X).length - (limbsOf Y).length + 1) := by
    refine Nat.div_lt_of_lt_mul (Nat.lt_of_lt_of_le gX ?_)
    refine Nat.le_trans ?_ (Nat.mul_le_mul_right _ gY)
    rw [← Nat.pow_add]
    exact Nat.pow_le_pow_right (by omega) (by omega)
  refine ⟨_, ⟨dg ((limbsOf X).length - (limbsOf Y).length + 1) (X / Y), dg (limbsOf Y).length (X % Y), rfl, dg_limbs _ _, dg_limbs _ _, dg_val _ _ hQlt, dg_val _ _ hRlt, by rw [dg_len]; omega, by rw [dg_len]; omega⟩, ?_⟩
  have q1 := decide_eq_false (p := ((X : Int) - Y).sign < 0) (by omega)
  have q2 := decide_eq_false (p := ((limbsOf X).length : Int) ≤ 2) (by omega)
  have q3 : (((limbsOf Y).length : Int) == 1) = false := by rw [beq_eq_false_iff_ne]; omega
  unfold sv at *
  rw [dg_len, dg_len]
  generalize ((X : Int) - Y).sign = sg at *
  generalize hlx : (limbsOf X).length = lx at *
  generalize hn : (limbsOf Y).length = n at *
  generalize (limbsOf Y).getD (n - 1) 0 = t at *
  generalize hs : 32 - bl t = s at *
  have i1 : ((n : Int) - 1).toNat = n - 1 := by omega
  have hN : ((lx : Int) - n + 1).toNat = lx - n + 1 := by omega
  refine Spec.run Tryz.func76 rfl Tryz.ntmps76 (by simp) (by simp (disch := omega) only [go_sem, Nat.reduceAdd]; rfl) fun B hB => ?_
  (repeat (first | refine DO.nil (by kernel_rfl) ?_ | (with_reducible refine oz (by constructor <;> decide) ?_) | ((first | apply SO.call | apply DO.call); (iterate 3 (focus (simp (disch := omega) only [go_sem, ↓reduceIte, Nat.reduceEqDiff] <;> rfl))); (first | apply SCall.ofX | apply DCall.ofX); (focus (first | assumption)); (focus (simp (disch := omega) only [go_sem] <;> rfl))) | ((with_reducible first | apply SC.condB | apply SC.region | apply SO.run | apply DO.run); (focus (simp (disch := omega) only [go_sem, ↓reduceIte, Nat.reduceEqDiff, reduceCtorEq, if_pos, q1, q2, q3, i1, gt, lv_len, hn, List.getElem?_drop] <;> rfl)); (first | refine pickT ?_ | refine pickF ?_ | fail_if_success with_reducible refine pickA ?_)) | ((with_reducible refine SC.draw Tab.mixed ?_ ?_); (focus rfl)) | (with_reducible apply SC.ops)))
  (refine DO.callN Tab.go100 (by simp (disch := omega) only [go_sem, ↓reduceIte, Nat.reduceEqDiff]; rfl) (by simp (disch := omega) only [go_sem] <;> rfl) ?_; refine DNew.of (c3) rfl (by simp (disch := omega) only [go_sem]; rfl) ?_)
  (repeat (refine DO.run (by simp (disch := omega) only [go_sem, ↓reduceIte, Nat.reduceEqDiff, reduceCtorEq]; rfl) ?_))
  (refine DO.callN Tab.go100 (by simp (disch := omega) only [go_sem, ↓reduceIte, Nat.reduceEqDiff]; rfl) (by simp (disch := omega) only [go_sem] <;> rfl) ?_; refine DNew.of (c4) rfl (by simp (disch := omega) only [go_sem, Nat.reduceAdd]; rfl) ?_)
  (repeat (refine DO.run (by simp (disch := omega) only [go_sem, ↓reduceIte, Nat.reduceEqDiff, if_pos]; rfl) ?_))
  (refine DO.nil (by kernel_rfl) ?_)
  (repeat (first | refine DO.nil (by kernel_rfl) ?_ | (with_reducible refine SC.condB (by simp (disch := omega) only [go_sem, ↓reduceIte, Nat.reduceEqDiff, Nat.reduceLT, Nat.reduceLeDiff, Nat.reduceAdd, Nat.reduceMul, Nat.reduceSub, reduceCtorEq, Nat.reduceBEq, Int.reduceToNat, Int.reducePow, if_pos, if_neg, q1, q2, q3, i1, gt, lv_len, hlx, hn, List.getElem?_drop, hN]; rfl) ?_; first | with_reducible refine pickT ?_ | with_reducible refine pickF ?_) | (with_reducible refine oz (by constructor <;> decide) ?_) | ((with_reducible apply SC.region); (focus (simp (disch := omega) only [go_sem, ↓reduceIte, Nat.reduceEqDiff, Nat.reduceAdd, reduceCtorEq, if_pos, hN]; rfl))) | (with_reducible refine SC.draw Tab.mixed rfl ?_; (repeat (refine DO.run (by simp (disch := omega) only [go_sem, ↓reduceIte, Nat.reduceEqDiff, Nat.reduceLT, Nat.reduceLeDiff, Nat.reduceAdd, Nat.reduceMul, Nat.reduceSub, reduceCtorEq, Nat.reduceBEq, Int.reduceToNat, Int.reducePow, if_pos, if_neg, q1, q2, q3, i1, gt, lv_len, hlx, hn, List.getElem?_drop, hN]; rfl) ?_)); refine DO.nil (by kernel_rfl) ?_)))
  -- the loop of digits
  have hp0 : 0 < 2 ^ s := Nat.pow_pos (by omega)
  have hsl : s ≤ 31 := by have := (bl_le ht0).2; omega
  obtain ⟨hYlt, htop⟩ := hSh
  have hVt : (dg (n + 1) (Y * 2 ^ s)).take n = dg n (Y * 2 ^ s) := dg_take n 1 _
  have hVv := dg_val n (Y * 2 ^ s) hYlt
  have hVl := dg_len (n + 1) (Y * 2 ^ s)
  have hVb := dg_limbs (n + 1) (Y * 2 ^ s)
  have hinit : dvInv (X * 2 ^ s) (Y * 2 ^ s) n (lx - n + 1) (dg (lx + 1) (X * 2 ^ s)) (List.replicate (lx - n + 1) 0) := by
    have hXX : X * 2 ^ s < 4294967296 ^ (lx + 1) := by
      rw [Nat.pow_succ]
      have := Nat.pow_le_pow_right (n := 2) (by omega) (show s ≤ 32 by omega)
      exact Nat.mul_lt_mul_of_lt_of_le gX this (by omega)
    have hlt : X * 2 ^ s < 4294967296 ^ (lx - n + 1) * (Y * 2 ^ s) := by
      rw [← Nat.mul_assoc]
      refine Nat.mul_lt_mul_of_pos_right (Nat.lt_of_lt_of_le gX ?_) hp0
      refine Nat.le_trans ?_ (Nat.mul_le_mul_left _ gY)
      rw [← Nat.pow_add]
      exact Nat.pow_le_pow_right (by omega) (by omega)
    have hdv := Nat.div_lt_of_lt_mul hlt
    refine ⟨dg_limbs _ _, limbs_replicate _, by rw [dg_len, List.length_replicate]; omega, by simp, ?_, ?_⟩
    · rw [show lx + 1 = (lx - n + 1) + n by omega, dg_drop, dg_val _ _ (Nat.lt_trans hdv hYlt)]
      exact hdv
    · rw [dg_val _ _ hXX]; simp [val]
  generalize dg (n + 1) (Y * 2 ^ s) = V at *
  refine SC.loop (fun y : Nat × List Nat × List Nat => ⟨[(0, .im (lv (limbsOf X)) lx), (1, .im (lv (limbsOf Y)) n), (10, .sc (.int .i64 s)), (11, .sc (.int .i64 n)), (12, .sl 0 0 (lx + 1) 1 none), (13, .sl 1 0 n 1 (some n)), (14, .sl 2 0 (lx - n + 1) 1 none), (15, .sc (.int .i64 ((y.1 : Int) - 1)))], [(0, ⟨68, lv y.2.1, false⟩), (1, ⟨68, lv V, false⟩), (2, ⟨68, lv y.2.2, false⟩)], 3, 128⟩)
    (fun y => y.2.2.length = lx - n + 1 ∧ dvInv (X * 2 ^ s) (Y * 2 ^ s) n y.1 y.2.1 y.2.2) (fun y => y.1) (lx - n + 1, dg (lx + 1) (X * 2 ^ s), List.replicate (lx - n + 1) 0) ?_ ?_ ?_
  · (refine Le.of [] hB (by first | exact ⟨Nat.zero_le _, fun _ _ => Nat.zero_le _⟩ | (constructor <;> (try simp) <;> (try omega))) ?_ ?_ <;> (repeat' (first | exact leSl_nil | exact leHp_nil | refine leSl_cons (by simp (disch := omega) only [go_sem, ↓reduceIte, Nat.reduceEqDiff, reduceCtorEq]; rfl) ?_ ?_ | refine leHp_cons (by simp (disch := omega) only [go_sem, ↓reduceIte, Nat.reduceEqDiff, reduceCtorEq]; rfl) ?_ ?_ | exact VLe.junk _ | exact VLe.refl rfl | exact VLe.nil_sl _ _ _ | exact VLe.int (by first | rfl | omega | (dsimp only; omega)) | exact VLe.bool rfl | exact VLe.sl rfl (by first | rfl | omega | (dsimp only; omega) | (simp; done)) | exact VLe.cap rfl (by first | rfl | omega | (dsimp only; omega) | (simp; done)) | exact VLe.im rfl rfl | exact HLe.new rfl | exact HLe.same rfl (LLe.refl rfl) | refine HLe.same rfl ?_ | exact LLe.nil _ | exact LLe.refl rfl | refine LLe.cons ?_ ?_)))
    all_goals first | exact LLe.lv rfl | exact LLe.lv (lv_rep _)
  · exact ⟨by simp, hinit⟩
  · rintro ⟨k, Z, q⟩ ⟨hql, hI⟩ K hK
    simp only at hql hI ⊢
    have hI' := hI
    obtain ⟨hZb, hqb, hZl, hkq, _, _⟩ := hI'
    by_cases hk0 : k = 0
    · subst hk0
      have q4 : decide ((0 : Int) ≤ ((0 : Nat) : Int) - 1) = false := by simp
      obtain ⟨f1, f2⟩ := hI.done hp0 hY0
      have hqe := dg_eq hqb
      rw [f1, hql] at hqe
      have hqt : q.take (lx - n + 1) = q := by rw [← hql]; exact List.take_length
      (repeat (first | refine DO.nil (by kernel_rfl) ?_ | (with_reducible refine SC.condB (by simp (disch := omega) only [go_sem, ↓reduceIte]; rfl) ?_; first | with_reducible refine pickT ?_ | with_reducible refine pickF ?_) | (with_reducible refine oz (by constructor <;> decide) ?_) | ((with_reducible apply SC.region); (focus (simp (disch := omega) only [go_sem, ↓reduceIte, Nat.reduceEqDiff, Nat.reduceAdd, reduceCtorEq, if_pos, q4]; rfl))) | (with_reducible refine SC.draw Tab.mixed rfl ?_; (repeat (refine DO.run (by simp (disch := omega) only [go_sem, ↓reduceIte, Nat.reduceEqDiff, Nat.reduceLT, Nat.reduceLeDiff, Nat.reduceAdd, Nat.reduceMul, Nat.reduceSub, reduceCtorEq, Nat.reduceBEq, Int.reduceToNat, Int.reducePow, if_pos, if_neg, q1, q2, q3, i1, gt, lv_len, hlx, hn, List.getElem?_drop, q4]; rfl) ?_)); refine DO.nil (by kernel_rfl) ?_)))
      have hDg : ∀ i, i < n → (dg n (X % Y)).getD i 0 = ((Z.getD (i + 1) 0 * 4294967296 + Z.getD i 0) / 2 ^ s) % 4294967296 := fun i hi => by
        rw [dg_getD _ _ _ hi, ← f2]; exact (back_limb hZb (by omega) (by omega)).symm
      have hDl := dg_len n (X % Y)
      have hDb := dg_limbs n (X % Y)
      generalize dg n (X % Y) = D at *
      refine SC.loop (fun y : Nat × List Nat => ⟨[(10, .sc (.int .i64 s)), (12, .sl 0 0 (lx + 1) 1 none), (14, .sl 2 0 (lx - n + 1) 1 none), (16, .sl 3 0 n 1 none), (102, .sc (.int .i64 n)), (103, .sc (.int .i64 y.1))], [(0, ⟨68, lv Z, false⟩), (2, ⟨68, lv q, false⟩), (3, ⟨68, lv y.2, false⟩)], 4, 128⟩)
        (fun y => y.1 ≤ n ∧ y.2.length = n ∧ y.2.take y.1 = D.take y.1) (fun y => n - y.1) (0, List.replicate n 0) ?_ ?_ ?_
      · (refine Le.of [] hB (by first | exact ⟨Nat.zero_le _, fun _ _ => Nat.zero_le _⟩ | (constructor <;> (try simp) <;> (try omega))) ?_ ?_ <;> (repeat' (first | exact leSl_nil | exact leHp_nil | refine leSl_cons (by simp (disch := omega) only [go_sem, ↓reduceIte, Nat.reduceEqDiff, reduceCtorEq]; rfl) ?_ ?_ | refine leHp_cons (by simp (disch := omega) only [go_sem, ↓reduceIte, Nat.reduceEqDiff, reduceCtorEq]; rfl) ?_ ?_ | exact VLe.junk _ | exact VLe.refl rfl | exact VLe.nil_sl _ _ _ | exact VLe.int (by first | rfl | omega | (dsimp only; omega)) | exact VLe.bool rfl | exact VLe.sl rfl (by first | rfl | omega | (dsimp only; omega) | (simp; done)) | exact VLe.cap rfl (by first | rfl | omega | (dsimp only; omega) | (simp; done)) | exact VLe.im rfl rfl | exact HLe.new rfl | exact HLe.same rfl (LLe.refl rfl) | refine HLe.same rfl ?_ | exact LLe.nil _ | exact LLe.refl rfl | refine LLe.cons ?_ ?_)))
        all_goals first | exact LLe.lv rfl | exact LLe.lv (lv_rep _)
      · exact ⟨Nat.zero_le _, by simp, rfl⟩
      · rintro ⟨i, r⟩ ⟨hin, hrl, hrt⟩ K' hK'
        simp only at hin hrl hrt ⊢
        by_cases hlti : i < n
        · have q5 := decide_eq_true (p := (i : Int) < (n : Int)) (by omega)
          have hi1 : ((i : Int) + 1).toNat = i + 1 := by omega
          have ga := lv_get (l := Z) (i := i + 1) (by omega)
          have gb := lv_get (l := Z) (i := i) (by omega)
          have la := limbs_getD hZb (i + 1)
          have lb := limbs_getD hZb i
          have hD := hDg i hlti
          have hts := take_succ_getD (l := D) (i := i) (by omega)
          rw [hD] at hts
          have htr : (r.set i ((Z.getD (i + 1) 0 * 4294967296 + Z.getD i 0) / 2 ^ s % 4294967296)).take (i + 1) = D.take (i + 1) := by
            rw [take_set_succ (by omega), hts, hrt]
          generalize Z.getD (i + 1) 0 = a at *
          generalize Z.getD i 0 = b at *
          have hor := or_up a b la lb
          have hms : min s 64 = s := by omega
          have hfd : ((a * 4294967296 + b : Nat) : Int).fdiv (2 ^ s) = (((a * 4294967296 + b) / 2 ^ s : Nat) : Int) := by
            rw [Int.fdiv_eq_ediv_of_nonneg _ (Int.le_of_lt (Int.pow_pos (by omega)))]; simp
          have hwb : (a * 4294967296 + b) / 2 ^ s < 18446744073709551616 := Nat.lt_of_le_of_lt (Nat.div_le_self _ _) (by omega)
          generalize (a * 4294967296 + b) / 2 ^ s = w at *
          (repeat (first | refine DO.nil (by kernel_rfl) ?_ | (with_reducible refine SC.condB (by simp (disch := omega) only [go_sem, ↓reduceIte]; rfl) ?_; first | with_reducible refine pickT ?_ | with_reducible refine pickF ?_) | (with_reducible refine oz (by constructor <;> decide) ?_) | ((with_reducible apply SC.region); (focus (simp (disch := omega) only [go_sem, ↓reduceIte, Nat.reduceEqDiff, q5]; rfl))) | (with_reducible refine SC.draw Tab.mixed rfl ?_; (repeat (refine DO.run (by simp (disch := omega) only [go_sem, ↓reduceIte, Nat.reduceEqDiff, reduceCtorEq, Int.reduceToNat, Int.reducePow, if_pos, if_neg, lv_len, hi1, ga, gb, hor, hms, hfd, mi32, lv_len, hrl]; rfl) ?_)); refine DO.nil (by kernel_rfl) ?_)))
          refine hK' _ (i + 1, r.set i (w % 4294967296)) ?_ ⟨by simp only; omega, by simp [hrl], htr⟩ (by simp only; omega)
          (refine Le.of [] hB (by first | exact ⟨Nat.zero_le _, fun _ _ => Nat.zero_le _⟩ | (constructor <;> (try simp) <;> (try omega))) ?_ ?_ <;> (repeat' (first | exact leSl_nil | exact leHp_nil | refine leSl_cons (by simp (disch := omega) only [go_sem, ↓reduceIte, Nat.reduceEqDiff]; rfl) ?_ ?_ | refine leHp_cons (by simp (disch := omega) only [go_sem, ↓reduceIte, Nat.reduceEqDiff, reduceCtorEq]; rfl) ?_ ?_ | exact VLe.junk _ | exact VLe.refl rfl | exact VLe.nil_sl _ _ _ | exact VLe.int (by first | rfl | omega | (dsimp only; omega)) | exact VLe.bool rfl | exact VLe.sl rfl (by first | rfl | omega | (dsimp only; omega) | (simp; done)) | exact VLe.cap rfl (by first | rfl | omega | (dsimp only; omega) | (simp; done)) | exact VLe.im rfl rfl | exact HLe.new rfl | exact HLe.same rfl (LLe.refl rfl) | refine HLe.same rfl ?_ | exact LLe.nil _ | exact LLe.refl rfl | refine LLe.cons ?_ ?_)))
          all_goals first | exact LLe.lv rfl | exact LLe.lv (lv_set (by omega))
        · have hie : i = n := by omega
          subst hie
          have q5 := decide_eq_false (p := (i : Int) < (i : Int)) (by omega)
          have hrD : r = D := by
            rw [List.take_of_length_le (by omega), List.take_of_length_le (by omega)] at hrt; exact hrt
          subst hrD
          have hrt2 : r.take i = r := by rw [← hrl]; exact List.take_length
          (repeat (first | refine DO.nil (by kernel_rfl) ?_ | (with_reducible refine SC.condB (by simp (disch := omega) only [go_sem, ↓reduceIte]; rfl) ?_; first | with_reducible refine pickT ?_ | with_reducible refine pickF ?_) | (with_reducible refine oz (by constructor <;> decide) ?_) | ((with_reducible apply SC.region); (focus (simp (disch := omega) only [go_sem, ↓reduceIte, Nat.reduceEqDiff, Nat.reduceLT, q5]; rfl))) | (with_reducible refine SC.draw Tab.mixed rfl ?_; (repeat (refine DO.run (by simp (disch := omega) only [go_sem, ↓reduceIte, Nat.reduceEqDiff, Nat.reduceLT, Nat.reduceLeDiff, Nat.reduceAdd, Nat.reduceMul, Nat.reduceSub, reduceCtorEq, Nat.reduceBEq, Int.reduceToNat, Int.reducePow, if_pos, if_neg, q1, q2, q3, i1, gt, lv_len, hlx, hn, List.getElem?_drop, q5]; rfl) ?_)); refine DO.nil (by kernel_rfl) ?_)))
          refine retQ_ret Tryz.results76 (by simp (disch := omega) only [go_sem, ↓reduceIte, Nat.reduceEqDiff]; rfl) (by simp (disch := omega) only [go_sem, ↓reduceIte, Nat.reduceEqDiff, reduceCtorEq, if_pos, lv_len, lv_take, lv_clo, hqt, hrt2]; rfl) ?_
          rw [hqe]
    · obtain ⟨j, rfl⟩ : ∃ j, k = j + 1 := ⟨k - 1, by omega⟩
      have q4 : decide ((0 : Int) ≤ ((j + 1 : Nat) : Int) - 1) = true := by simp
      have hi : (((j + 1 : Nat) : Int) - 1).toNat = j := by omega
      obtain ⟨g1, g2, g3⟩ := hI.seg hYlt
      have hdig := digit_i Z V j n hZb hVb (by omega) (by omega) (by omega) (by omega) htop (by rw [hVt, hVv]; exact g3)
      rw [hVt, hVv] at hdig
      (repeat (first | refine DO.nil (by kernel_rfl) ?_ | (with_reducible refine SC.condB (by simp (disch := omega) only [go_sem, ↓reduceIte]; rfl) ?_; first | with_reducible refine pickT ?_ | with_reducible refine pickF ?_) | (with_reducible refine oz (by constructor <;> decide) ?_) | ((with_reducible apply SC.region); (focus (simp (disch := omega) only [go_sem, ↓reduceIte, Nat.reduceEqDiff, reduceCtorEq, if_pos, q4]; rfl))) | (with_reducible refine SC.draw Tab.mixed rfl ?_; (repeat (refine DO.run (by simp (disch := omega) only [go_sem, ↓reduceIte, Nat.reduceEqDiff, Nat.reduceLT, Nat.reduceLeDiff, Nat.reduceAdd, Nat.reduceMul, Nat.reduceSub, reduceCtorEq, Nat.reduceBEq, Int.reduceToNat, Int.reducePow, if_pos, if_neg, q1, q2, q3, i1, gt, lv_len, hlx, hn, List.getElem?_drop, q4]; rfl) ?_)); refine DO.nil (by kernel_rfl) ?_)))
      refine SC.ops ?_
      (repeat (refine SO.run (by simp (disch := omega) only [go_sem, ↓reduceIte, Nat.reduceEqDiff, reduceCtorEq, if_pos, hi]; rfl) ?_))
      have hi2 : (((j + 1 : Nat) : Int) - 1 + (n : Int) + 1).toNat - j = n + 1 := by omega
      refine SO.inl (by simp (disch := omega) only [go_sem]; rfl) Tab.go101 (by simp (disch := omega) only [go_sem, ↓reduceIte, Nat.reduceEqDiff, hi2]; rfl) (by simp (disch := omega) only [go_sem] <;> rfl) ?_
      refine SInl.of hdig (by simp (disch := omega) only [go_sem, ↓reduceIte, reduceCtorEq]; try exact ⟨rfl, rfl, trivial⟩) (.sc _) ⟨only_lv _ _, only_lv _ _, trivial⟩ (by simp (disch := omega) only [go_sem]; rfl) (by simp (disch := omega) only [go_sem, ↓reduceIte, Nat.reduceEqDiff, reduceCtorEq, decide_true, decide_false, Bool.or_true, Bool.or_false, Bool.or_self, List.cons_append, List.nil_append]; rfl) ?_
      have hst := hI.step hYlt (Nat.mul_pos hY0 hp0) (dg_limbs (n + 1) _) (dg_len _ _) (dg_val _ _ (Nat.lt_of_lt_of_le (Nat.mod_lt _ (Nat.mul_pos hY0 hp0)) (Nat.le_trans (Nat.le_of_lt hYlt) (Nat.pow_le_pow_right (by omega) (by omega)))))
      have hseg : seg Z j (dg (n + 1) (val ((Z.drop j).take (n + 1)) % (Y * 2 ^ s))) = Z.take j ++ (dg (n + 1) (val ((Z.drop j).take (n + 1)) % (Y * 2 ^ s)) ++ Z.drop (j + (n + 1))) := by
        unfold seg; rw [dg_len]
      rw [← hseg] at hst
      generalize val ((Z.drop j).take (n + 1)) / (Y * 2 ^ s) = d at *
      generalize seg Z j (dg (n + 1) (val ((Z.drop j).take (n + 1)) % (Y * 2 ^ s))) = Z' at *
      (repeat (refine SO.run (by simp (disch := omega) only [go_sem, ↓reduceIte, Nat.reduceEqDiff, Nat.reduceLeDiff, reduceCtorEq, if_pos, lv_len, hi, lv_len, hql]; rfl) ?_))
      (repeat (first | refine DO.nil (by kernel_rfl) ?_ | (with_reducible refine SC.condB (by simp (disch := omega) only [go_sem, ↓reduceIte, Nat.reduceEqDiff, Nat.reduceLT, Nat.reduceLeDiff, Nat.reduceAdd, Nat.reduceMul, Nat.reduceSub, reduceCtorEq, Nat.reduceBEq, Int.reduceToNat, Int.reducePow, if_pos, if_neg, q1, q2, q3, i1, gt, lv_len, hlx, hn, List.getElem?_drop]; rfl) ?_; first | with_reducible refine pickT ?_ | with_reducible refine pickF ?_) | (with_reducible refine oz (by constructor <;> decide) ?_) | ((with_reducible apply SC.region); (focus (simp (disch := omega) only [go_sem, ↓reduceIte, Nat.reduceEqDiff, reduceCtorEq]; rfl))) | (with_reducible refine SC.draw Tab.mixed rfl ?_; (repeat (refine DO.run (by simp (disch := omega) only [go_sem, ↓reduceIte, Nat.reduceEqDiff, Nat.reduceLT, Nat.reduceLeDiff, Nat.reduceAdd, Nat.reduceMul, Nat.reduceSub, reduceCtorEq, Nat.reduceBEq, Int.reduceToNat, Int.reducePow, if_pos, if_neg, q1, q2, q3, i1, gt, lv_len, hlx, hn, List.getElem?_drop]; rfl) ?_)); refine DO.nil (by kernel_rfl) ?_)))
      refine hK _ (j, Z', q.set j d) ?_ ⟨by simp [hql], hst⟩ (by simp only; omega)
      (refine Le.of [] hB (by first | exact ⟨Nat.zero_le _, fun _ _ => Nat.zero_le _⟩ | (constructor <;> (try simp) <;> (try omega))) ?_ ?_ <;> (repeat' (first | exact leSl_nil | exact leHp_nil | refine leSl_cons (by simp (disch := omega) only [go_sem, ↓reduceIte, Nat.reduceEqDiff, reduceCtorEq]; rfl) ?_ ?_ | refine leHp_cons (by simp (disch := omega) only [go_sem, ↓reduceIte, Nat.reduceEqDiff, reduceCtorEq]; rfl) ?_ ?_ | exact VLe.junk _ | exact VLe.refl rfl | exact VLe.nil_sl _ _ _ | exact VLe.int (by first | rfl | omega | (dsimp only; omega)) | exact VLe.bool rfl | exact VLe.sl rfl (by first | rfl | omega | (dsimp only; omega) | (simp; done)) | exact VLe.cap rfl (by first | rfl | omega | (dsimp only; omega) | (simp; done)) | exact VLe.im rfl rfl | exact HLe.new rfl | exact HLe.same rfl (LLe.refl rfl) | refine HLe.same rfl ?_ | exact LLe.nil _ | exact LLe.refl rfl | refine LLe.cons ?_ ?_)))
      all_goals first | exact LLe.lv rfl | exact LLe.lv (lv_set rfl)
end Go.Proofs.YtpodnbcdddcdmaaGreatDoor

/- The program's division: DivMod. -/
namespace Go.Proofs.YtpodnbcdddcdmaaGreatDoor
open Go.RowKit
theorem divide_any (X Y : Nat) (hX : (limbsOf X).length ≤ 300000000000) (hY : (limbsOf Y).length ≤ 300000000000) (h0 : 0 < Y) : ∃ x, DivTo X Y x ∧ Spec Tryz.prog 76 [sv (limbsOf X), sv (limbsOf Y)] x := by
  rcases Nat.lt_or_ge X Y with h | h
  · exact div_less X Y hX hY h
  · rcases Nat.lt_or_ge 2 (limbsOf X).length with h2 | h2
    · rcases Nat.lt_or_ge Y 4294967296 with h3 | h3
      · exact div_one X Y hX h2 h0 h3
      · exact div_long X Y hX h2 (limbsOf_ge h3) h
    · exact div_two X Y h2 h0 h
theorem sgn_abs (x : Int) : sgn (decide (x < 0)) x.natAbs = x := by
  unfold sgn
  by_cases h : x < 0
  · simp [h]; omega
  · simp [h]; omega
set_option maxHeartbeats 1000000 in
theorem pdivmod_i (x y : Int) (K : Nat) (hx : Fits K x) (hy : Fits K y) (hK : K ≤ 200000000000) (h0 : y ≠ 0) : Spec Tryz.prog 65 [iv x, iv y] (.tu [iv (x / y), iv (x % y), .sc (.int .i64 0)]) := by
  have lx := fits_len hx
  have ly := fits_len hy
  have hY : 0 < y.natAbs := by omega
  obtain ⟨r, ⟨ql, rl, rfl, hql, hrl, vq, vr, lq, lr⟩, c3⟩ := divide_any x.natAbs y.natAbs (by omega) (by omega) hY
  have c1 := trim_n x.natAbs (by omega)
  have c2 := trim_n y.natAbs (by omega)
  have c4 := trim_i rl hrl (by omega)
  rw [vr] at c4
  have hR : x.natAbs % y.natAbs < y.natAbs := Nat.mod_lt _ hY
  have lR : (limbsOf (x.natAbs % y.natAbs)).length ≤ (limbsOf y.natAbs).length := len_le_of (by omega)
  have hQ : x.natAbs / y.natAbs ≤ x.natAbs := Nat.div_le_self _ _
  have lQ : (limbsOf (x.natAbs / y.natAbs)).length ≤ (limbsOf x.natAbs).length := len_le_of hQ
  obtain ⟨s1, s2⟩ := divmod_spec (decide (x < 0)) (decide (y < 0)) x.natAbs y.natAbs hY
  rw [sgn_abs, sgn_abs] at s1 s2
  have q1 : (((limbsOf y.natAbs).length : Int) == 0) = false := by
    rw [beq_eq_false_iff_ne]
    have : limbsOf y.natAbs ≠ [] := fun h => by have := limbsOf_nil.1 h; omega
    have := List.length_pos_iff.2 this
    omega
  have hne : ∀ b c : Bool, (b != c) = decide (b ≠ c) := by intro b c; cases b <;> cases c <;> rfl
  by_cases hn : x < 0 ∧ 0 < x.natAbs % y.natAbs
  · obtain ⟨hneg, hpos⟩ := hn
    have hnx := decide_eq_true hneg
    rw [hnx] at s1 s2
    simp only [true_and, if_pos hpos] at s1 s2
    have q2 := decide_eq_true (p := (0 : Int) < ((limbsOf (x.natAbs % y.natAbs)).length : Int)) (by
      have : limbsOf (x.natAbs % y.natAbs) ≠ [] := fun h => by have := limbsOf_nil.1 h; omega
      have := List.length_pos_iff.2 this
      omega)
    have c5 := trim_i ql hql (by omega)
    rw [vq] at c5
    have c6 := pplus_i (limbsOf (x.natAbs / y.natAbs)) [1] (limbsOf_limbs _) (limbs_one (by omega)) (by omega) (by simp)
    rw [limbsOf_val, val_one] at c6
    have c7 := pminus_i (limbsOf y.natAbs) (limbsOf (x.natAbs % y.natAbs)) (limbsOf_limbs _) (limbsOf_limbs _) (by omega) lR (by rw [limbsOf_val, limbsOf_val]; omega)
    rw [limbsOf_val, limbsOf_val] at c7
    have gq := val_lt (limbsOf_limbs (x.natAbs / y.natAbs))
    rw [limbsOf_val] at gq
    have c8 := pvalue_dg (max (limbsOf (x.natAbs / y.natAbs)).length [1].length + 1) (x.natAbs / y.natAbs + 1) (true != decide (y < 0)) (x / y) (by
        rw [← s1, hne]; unfold sgn; by_cases hb : y < 0 <;> simp [hb]) (by
        have : 4294967296 ^ (limbsOf (x.natAbs / y.natAbs)).length ≤ 4294967296 ^ max (limbsOf (x.natAbs / y.natAbs)).length [1].length := Nat.pow_le_pow_right (by omega) (by omega)
        rw [Nat.pow_succ]; omega) (by simp; omega)
    have gy := val_lt (limbsOf_limbs y.natAbs)
    rw [limbsOf_val] at gy
    have c9 := pvalue_dg (limbsOf y.natAbs).length (y.natAbs - x.natAbs % y.natAbs) false (x % y) (by rw [← s2]; unfold sgn; simp; omega) (by omega) (by omega)
    unfold iv sv at *
    rw [hnx]
    rw [lv_one] at c6
    simp only [List.length_singleton] at c6 c8
    refine Spec.run Tryz.func65 rfl Tryz.ntmps65 (by simp) (by simp (disch := omega) only [go_sem, Nat.reduceAdd]; rfl) fun B hB => ?_
    (repeat (first | refine DO.nil (by kernel_rfl) ?_ | (with_reducible refine oz (by constructor <;> decide) ?_) | ((first | apply SO.call | apply DO.call); (iterate 3 (focus (simp (disch := omega) only [go_sem, ↓reduceIte, Nat.reduceEqDiff, Nat.reduceLT, Nat.reduceLeDiff] <;> rfl))); (first | apply SCall.ofX | apply DCall.ofX); (focus (first | assumption)); (focus (simp (disch := omega) only [go_sem, ↓reduceIte, Nat.reduceBEq] <;> rfl))) | ((with_reducible first | apply SC.condB | apply SC.region | apply SO.run | apply DO.run); (focus (simp (disch := omega) only [go_sem, ↓reduceIte, Nat.reduceEqDiff, Nat.reduceLeDiff, Nat.reduceAdd, reduceCtorEq, q1, q2] <;> rfl)); (first | refine pickT ?_ | refine pickF ?_ | fail_if_success with_reducible refine pickA ?_)) | ((with_reducible refine SC.draw Tab.mixed ?_ ?_); (focus rfl)) | (with_reducible apply SC.ops)))
    exact retQ_ret Tryz.results65 (by simp (disch := omega) only [go_sem, ↓reduceIte, Nat.reduceEqDiff, Nat.reduceLeDiff, Nat.reduceAdd]; rfl) (by simp (disch := omega) only [go_sem, ↓reduceIte]; rfl) rfl
  · have hif : ¬(decide (x < 0) = true ∧ 0 < x.natAbs % y.natAbs) := by rw [decide_eq_true_eq]; exact hn
    rw [if_neg hif] at s1 s2
    have c8 := value_i (decide (x < 0) != decide (y < 0)) ql hql (by omega)
    rw [vq, show sgn (decide (x < 0) != decide (y < 0)) (x.natAbs / y.natAbs) = x / y by
      rw [← s1, hne]; unfold sgn; by_cases hb : decide (x < 0) = decide (y < 0) <;> simp [hb]] at c8
    have c9 := pvalue_n (x.natAbs % y.natAbs) false (x % y) (by rw [← s2]; rfl) (by omega)
    by_cases hneg : x < 0
    · have hnx := decide_eq_true hneg
      have q2 := decide_eq_false (p := (0 : Int) < ((limbsOf (x.natAbs % y.natAbs)).length : Int)) (by
        have : x.natAbs % y.natAbs = 0 := by omega
        rw [this, limbsOf_zero]; simp)
      unfold iv sv at *
      rw [hnx] at c8 ⊢
      refine Spec.run Tryz.func65 rfl Tryz.ntmps65 (by simp) (by simp (disch := omega) only [go_sem, Nat.reduceAdd]; rfl) fun B hB => ?_
      (repeat (first | refine DO.nil (by kernel_rfl) ?_ | (with_reducible refine oz (by constructor <;> decide) ?_) | ((first | apply SO.call | apply DO.call); (iterate 3 (focus (simp (disch := omega) only [go_sem, ↓reduceIte, Nat.reduceEqDiff, Nat.reduceLT] <;> rfl))); (first | apply SCall.ofX | apply DCall.ofX); (focus (first | assumption)); (focus (simp (disch := omega) only [go_sem] <;> rfl))) | ((with_reducible first | apply SC.condB | apply SC.region | apply SO.run | apply DO.run); (focus (simp (disch := omega) only [go_sem, ↓reduceIte, Nat.reduceEqDiff, Nat.reduceLeDiff, Nat.reduceAdd, reduceCtorEq, q1, q2] <;> rfl)); (first | refine pickT ?_ | refine pickF ?_ | fail_if_success with_reducible refine pickA ?_)) | ((with_reducible refine SC.draw Tab.mixed ?_ ?_); (focus rfl)) | (with_reducible apply SC.ops)))
      exact retQ_ret Tryz.results65 (by simp (disch := omega) only [go_sem, ↓reduceIte, Nat.reduceEqDiff, Nat.reduceLeDiff, Nat.reduceAdd]; rfl) (by simp (disch := omega) only [go_sem, ↓reduceIte]; rfl) rfl
    · have hnx := decide_eq_false hneg
      unfold iv sv at *
      rw [hnx] at c8 ⊢
      refine Spec.run Tryz.func65 rfl Tryz.ntmps65 (by simp) (by simp (disch := omega) only [go_sem, Nat.reduceAdd]; rfl) fun B hB => ?_
      (repeat (first | refine DO.nil (by kernel_rfl) ?_ | (with_reducible refine oz (by constructor <;> decide) ?_) | ((first | apply SO.call | apply DO.call); (iterate 3 (focus (simp (disch := omega) only [go_sem, ↓reduceIte, Nat.reduceEqDiff, Nat.reduceLT] <;> rfl))); (first | apply SCall.ofX | apply DCall.ofX); (focus (first | assumption)); (focus (simp (disch := omega) only [go_sem] <;> rfl))) | ((with_reducible first | apply SC.condB | apply SC.region | apply SO.run | apply DO.run); (focus (simp (disch := omega) only [go_sem, ↓reduceIte, Nat.reduceEqDiff, Nat.reduceLeDiff, Nat.reduceAdd, reduceCtorEq, q1] <;> rfl)); (first | refine pickT ?_ | refine pickF ?_ | fail_if_success with_reducible refine pickA ?_)) | ((with_reducible refine SC.draw Tab.mixed ?_ ?_); (focus rfl)) | (with_reducible apply SC.ops)))
      exact retQ_ret Tryz.results65 (by simp (disch := omega) only [go_sem, ↓reduceIte, Nat.reduceEqDiff, Nat.reduceLeDiff, Nat.reduceAdd]; rfl) (by simp (disch := omega) only [go_sem, ↓reduceIte]; rfl) rfl
end Go.Proofs.YtpodnbcdddcdmaaGreatDoor

/- The reference's integers by value: Valid, Abs, Made of an absolute value. -/
namespace Go.Proofs.YtpodnbcdddcdmaaGreatDoor
open Go.RowKit
end Go.Proofs.YtpodnbcdddcdmaaGreatDoor

/- Greatest common divisors by value: the reference's Gcd, the program's Gcd. -/
namespace Go.Proofs.YtpodnbcdddcdmaaGreatDoor
open Go.RowKit
theorem int_gcd_step (x y : Int) : Int.gcd y (x % y) = Int.gcd x y := by
  have e : x % y + y * (x / y) = x := Int.emod_add_mul_ediv x y
  apply Nat.dvd_antisymm
  · refine Int.dvd_gcd ?_ (Int.gcd_dvd_left _ _)
    have h1 := Int.gcd_dvd_left y (x % y)
    have h2 := Int.gcd_dvd_right y (x % y)
    have h3 := Int.dvd_add h2 (Int.dvd_mul_of_dvd_left (c := x / y) h1)
    rwa [e] at h3
  · refine Int.dvd_gcd (Int.gcd_dvd_right _ _) ?_
    have h1 := Int.gcd_dvd_left x y
    have h2 := Int.gcd_dvd_right x y
    rw [Int.emod_def]
    exact Int.dvd_sub h1 (Int.dvd_mul_of_dvd_left (c := x / y) h2)
theorem nat_gcd_step (x y : Nat) : Nat.gcd y (x % y) = Nat.gcd x y := by
  rw [Nat.gcd_comm x y, Nat.gcd_rec y x, Nat.gcd_comm]
theorem Fits.emod {K : Nat} {x y : Int} (hy : Fits K y) (h0 : y ≠ 0) : Fits K (x % y) := by
  have := Int.emod_nonneg x h0
  have := Int.emod_lt x h0
  unfold Fits at *; omega
theorem Fits.one {K : Nat} (h : 1 ≤ K) : Fits K 1 := by
  have := Nat.pow_le_pow_right (n := 4294967296) (by omega) h
  unfold Fits; simp at *; omega
theorem Fits.zero (K : Nat) : Fits K 0 := by unfold Fits; exact Nat.pow_pos (by omega)
def ic (z : Int) : List V := [.sc (.bool (decide (z < 0))), .im (lv (limbsOf z.natAbs)) (limbsOf z.natAbs).length]
def z0 : List V := [.sc (.bool false), .sc (.slice none 0 0)]
theorem ic_ok (ok : Nat → Bool) (z : Int) : (ic z).all (okL ok) = true := rfl
theorem LLe.ic {ok : Nat → Bool} {x y : Int} (h : x = y) : LLe ok (Go.Proofs.YtpodnbcdddcdmaaGreatDoor.ic x) (Go.Proofs.YtpodnbcdddcdmaaGreatDoor.ic y) := by subst h; exact LLe.refl (ic_ok _ _)
set_option maxHeartbeats 1000000 in
theorem rgcd_i (a b : Int) (K : Nat) (ha : Fits K a) (hb : Fits K b) (hK : K ≤ 100000000000) : Spec Tryz.prog 47 [iv a, iv b] (iv (Int.gcd a b : Int)) := by
  unfold iv sv
  refine Spec.run Tryz.func47 rfl Tryz.ntmps47 (by simp) (by simp (disch := omega) only [go_sem, Nat.reduceAdd]; rfl) fun B hB => ?_
  (repeat (first | refine DO.nil (by kernel_rfl) ?_ | (with_reducible refine SC.condB (by simp (disch := omega) only [go_sem, ↓reduceIte, Nat.reduceEqDiff, Nat.reduceLT, Nat.reduceLeDiff, Nat.reduceAdd, Nat.reduceMul, Nat.reduceSub, reduceCtorEq, Nat.reduceBEq, Int.reduceToNat, Int.reducePow, if_pos, if_neg]; rfl) ?_; first | with_reducible refine pickT ?_ | with_reducible refine pickF ?_) | (with_reducible refine oz (by constructor <;> decide) ?_) | ((with_reducible apply SC.region); (focus (simp (disch := omega) only [go_sem, ↓reduceIte, Nat.reduceEqDiff, Nat.reduceAdd, reduceCtorEq]; rfl))) | (with_reducible refine SC.draw Tab.mixed rfl ?_; (repeat (refine DO.run (by simp (disch := omega) only [go_sem, ↓reduceIte, Nat.reduceEqDiff, Nat.reduceLT, Nat.reduceLeDiff, Nat.reduceAdd, Nat.reduceMul, Nat.reduceSub, reduceCtorEq, Nat.reduceBEq, Int.reduceToNat, Int.reducePow, if_pos, if_neg]; rfl) ?_)); refine DO.nil (by kernel_rfl) ?_)))
  refine SC.loop (fun u : Int × Int => ⟨[(2, .pt 0 0), (3, .pt 1 0), (4, .pt 2 0)], [(0, ⟨27, ic u.1, false⟩), (1, ⟨27, ic u.2, false⟩), (2, ⟨27, [.sc (.bool false), .sc (.slice none 0 0)], false⟩)], 3, 23⟩)
    (fun u => Fits K u.1 ∧ Fits K u.2 ∧ Int.gcd u.1 u.2 = Int.gcd a b) (fun u => u.2.natAbs) (a, b) ?_ ?_ ?_
  · unfold ic
    (refine Le.of [] hB (by first | exact ⟨Nat.zero_le _, fun _ _ => Nat.zero_le _⟩ | (constructor <;> (try simp) <;> (try omega))) ?_ ?_ <;> (repeat' (first | exact leSl_nil | exact leHp_nil | refine leSl_cons (by simp (disch := omega) only [go_sem, ↓reduceIte, Nat.reduceEqDiff]; rfl) ?_ ?_ | refine leHp_cons (by simp (disch := omega) only [go_sem, ↓reduceIte, Nat.reduceEqDiff, reduceCtorEq]; rfl) ?_ ?_ | exact VLe.junk _ | exact VLe.refl rfl | exact VLe.nil_sl _ _ _ | exact VLe.int (by first | rfl | omega | (dsimp only; omega)) | exact VLe.bool rfl | exact VLe.sl rfl (by first | rfl | omega | (dsimp only; omega) | (simp; done)) | exact VLe.cap rfl (by first | rfl | omega | (dsimp only; omega) | (simp; done)) | exact VLe.im rfl rfl | exact HLe.new rfl | exact HLe.same rfl (LLe.refl rfl) | refine HLe.same rfl ?_ | exact LLe.nil _ | exact LLe.refl rfl | refine LLe.cons ?_ ?_)))
  · exact ⟨ha, hb, rfl⟩
  · rintro ⟨x, y⟩ ⟨hx, hy, hg⟩ K' hK'
    simp only at hx hy hg ⊢
    have c1 := sign_i y K hy (by omega)
    unfold iv sv at c1
    unfold ic
    by_cases h0 : y = 0
    · subst h0
      have c2 := made_nat x.natAbs (by have := fits_len hx; omega)
      rw [Int.gcd_zero_right] at hg
      unfold iv sv at c2
      (repeat (first | refine DO.nil (by kernel_rfl) ?_ | (with_reducible refine oz (by constructor <;> decide) ?_) | ((first | apply SO.call | apply DO.call); (iterate 3 (focus (simp (disch := omega) only [go_sem, ↓reduceIte, Nat.reduceLT] <;> rfl))); (first | apply SCall.ofX | apply DCall.ofX); (focus (first | assumption)); (focus (simp (disch := omega) only [go_sem] <;> rfl))) | ((with_reducible first | apply SC.condB | apply SC.region | apply SO.run | apply DO.run); (focus (simp (disch := omega) only [go_sem, ↓reduceIte, Nat.reduceEqDiff, Nat.reduceLT, Nat.reduceLeDiff, Nat.reduceAdd, reduceCtorEq] <;> rfl)); (first | refine pickT ?_ | refine pickF ?_ | fail_if_success with_reducible refine pickA ?_)) | ((with_reducible refine SC.draw Tab.mixed ?_ ?_); (focus rfl)) | (with_reducible apply SC.ops)))
      refine retQ_ret Tryz.results47 (by simp (disch := omega) only [go_sem, ↓reduceIte, Nat.reduceEqDiff, Nat.reduceLeDiff, Nat.reduceAdd, reduceCtorEq]; rfl) (by simp (disch := omega) only [go_sem, ↓reduceIte]; rfl) ?_
      rw [hg]
    · have q1 : (y.sign != 0) = true := by rw [bne_iff_ne]; exact fun h => h0 (Int.sign_eq_zero_iff_zero.1 h)
      have c2 := divmod_i x y K hx hy (by omega) h0
      unfold iv sv at c2
      (repeat (first | refine DO.nil (by kernel_rfl) ?_ | (with_reducible refine oz (by constructor <;> decide) ?_) | ((first | apply SO.call | apply DO.call); (iterate 3 (focus (simp (disch := omega) only [go_sem, ↓reduceIte, Nat.reduceEqDiff] <;> rfl))); (first | apply SCall.ofX | apply DCall.ofX); (focus (first | assumption)); (focus (simp (disch := omega) only [go_sem] <;> rfl))) | ((with_reducible first | apply SC.condB | apply SC.region | apply SO.run | apply DO.run); (focus (simp (disch := omega) only [go_sem, ↓reduceIte, Nat.reduceEqDiff, Nat.reduceLeDiff, Nat.reduceAdd, reduceCtorEq, q1] <;> rfl)); (first | refine pickT ?_ | refine pickF ?_ | fail_if_success with_reducible refine pickA ?_)) | ((with_reducible refine SC.draw Tab.mixed ?_ ?_); (focus rfl)) | (with_reducible apply SC.ops)))
      refine hK' _ (y, x % y) ?_ ⟨hy, hy.emod h0, by simp only; rw [int_gcd_step, hg]⟩ (by simp only; have := Int.emod_nonneg x h0; have := Int.emod_lt x h0; omega)
      unfold ic
      (refine Le.of [] hB (by first | exact ⟨Nat.zero_le _, fun _ _ => Nat.zero_le _⟩ | (constructor <;> (try simp) <;> (try omega))) ?_ ?_ <;> (repeat' (first | exact leSl_nil | exact leHp_nil | refine leSl_cons (by simp (disch := omega) only [go_sem, ↓reduceIte, Nat.reduceEqDiff]; rfl) ?_ ?_ | refine leHp_cons (by simp (disch := omega) only [go_sem, ↓reduceIte, Nat.reduceEqDiff, reduceCtorEq]; rfl) ?_ ?_ | exact VLe.junk _ | exact VLe.refl rfl | exact VLe.nil_sl _ _ _ | exact VLe.int (by first | rfl | omega | (dsimp only; omega)) | exact VLe.bool rfl | exact VLe.sl rfl (by first | rfl | omega | (dsimp only; omega) | (simp; done)) | exact VLe.cap rfl (by first | rfl | omega | (dsimp only; omega) | (simp; done)) | exact VLe.im rfl rfl | exact HLe.new rfl | exact HLe.same rfl (LLe.refl rfl) | refine HLe.same rfl ?_ | exact LLe.nil _ | exact LLe.refl rfl | refine LLe.cons ?_ ?_)))
theorem limbsOf_pos {n : Nat} (h : n ≠ 0) : 0 < (limbsOf n).length := List.length_pos_iff.2 fun e => h (limbsOf_nil.1 e)
theorem two_lt {n : Nat} (h : (limbsOf n).length ≤ 2) : n < 18446744073709551616 := by
  have h1 := val_lt (limbsOf_limbs n)
  rw [limbsOf_val] at h1
  have : 4294967296 ^ (limbsOf n).length ≤ 4294967296 ^ 2 := Nat.pow_le_pow_right (by omega) h
  omega
set_option maxHeartbeats 2000000 in
theorem pgcd_i (a b : Int) (K : Nat) (ha : Fits K a) (hb : Fits K b) (hK : K ≤ 100000000000) : Spec Tryz.prog 54 [iv a, iv b] (iv (Int.gcd a b : Int)) := by
  have la := fits_len ha
  have lb := fits_len hb
  have t1 := trim_n a.natAbs (by omega)
  have t2 := trim_n b.natAbs (by omega)
  unfold iv sv at *
  refine Spec.run Tryz.func54 rfl Tryz.ntmps54 (by simp) (by simp (disch := omega) only [go_sem, Nat.reduceAdd]; rfl) fun B hB => ?_
  (repeat (first | refine DO.nil (by kernel_rfl) ?_ | (with_reducible refine oz (by constructor <;> decide) ?_) | ((first | apply SO.call | apply DO.call); (iterate 3 (focus (simp (disch := omega) only [go_sem, ↓reduceIte] <;> rfl))); (first | apply SCall.ofX | apply DCall.ofX); (focus (first | assumption)); (focus (simp (disch := omega) only [go_sem] <;> rfl))) | ((with_reducible first | apply SC.condB | apply SC.region | apply SO.run | apply DO.run); (focus (simp (disch := omega) only [go_sem, ↓reduceIte, Nat.reduceEqDiff, Nat.reduceAdd, reduceCtorEq] <;> rfl)); (first | refine pickT ?_ | refine pickF ?_ | fail_if_success with_reducible refine pickA ?_)) | ((with_reducible refine SC.draw Tab.mixed ?_ ?_); (focus rfl)) | (with_reducible apply SC.ops)))
  refine SC.loop (fun u : Nat × Nat => ⟨[(4, .pt 2 0), (5, .im (lv (limbsOf u.1)) (limbsOf u.1).length), (6, .im (lv (limbsOf u.2)) (limbsOf u.2).length)], [(2, ⟨27, [.sc (.bool false), .sc (.slice none 0 0)], false⟩)], 3, 56⟩)
    (fun u => (limbsOf u.1).length ≤ K ∧ (limbsOf u.2).length ≤ K ∧ Nat.gcd u.1 u.2 = Int.gcd a b) (fun u => u.2) (a.natAbs, b.natAbs) ?_ ?_ ?_
  · (refine Le.of [] hB (by first | exact ⟨Nat.zero_le _, fun _ _ => Nat.zero_le _⟩ | (constructor <;> (try simp) <;> (try omega))) ?_ ?_ <;> (repeat' (first | exact leSl_nil | exact leHp_nil | refine leSl_cons (by simp (disch := omega) only [go_sem, ↓reduceIte, Nat.reduceEqDiff]; rfl) ?_ ?_ | refine leHp_cons (by simp (disch := omega) only [go_sem, ↓reduceIte]; rfl) ?_ ?_ | exact VLe.junk _ | exact VLe.refl rfl | exact VLe.nil_sl _ _ _ | exact VLe.int (by first | rfl | omega | (dsimp only; omega)) | exact VLe.bool rfl | exact VLe.sl rfl (by first | rfl | omega | (dsimp only; omega) | (simp; done)) | exact VLe.cap rfl (by first | rfl | omega | (dsimp only; omega) | (simp; done)) | exact VLe.im rfl rfl | exact HLe.new rfl | exact HLe.same rfl (LLe.refl rfl) | refine HLe.same rfl ?_ | exact LLe.nil _ | exact LLe.refl rfl | refine LLe.cons ?_ ?_)))
  · exact ⟨la, lb, rfl⟩
  · rintro ⟨x, y⟩ ⟨hx, hy, hg⟩ K' hK'
    simp only at hx hy hg ⊢
    by_cases h0 : y = 0
    · subst h0
      have q1 : decide ((0 : Int) < ((limbsOf 0).length : Int)) = false := by simp [limbsOf_zero]
      have q2 : (((limbsOf 0).length : Int) == 0) = true := by simp [limbsOf_zero]
      have c1 := clone_l (limbsOf x) (by omega)
      have c2 := pvalue_n x false (x : Int) rfl (by omega)
      rw [Nat.gcd_zero_right] at hg
      unfold iv sv at *
      (repeat (first | refine DO.nil (by kernel_rfl) ?_ | (with_reducible refine oz (by constructor <;> decide) ?_) | ((first | apply SO.call | apply DO.call); (iterate 3 (focus (simp (disch := omega) only [go_sem, ↓reduceIte] <;> rfl))); (first | apply SCall.ofX | apply DCall.ofX); (focus (first | assumption)); (focus (simp (disch := omega) only [go_sem] <;> rfl))) | ((with_reducible first | apply SC.condB | apply SC.region | apply SO.run | apply DO.run); (focus (simp (disch := omega) only [go_sem, ↓reduceIte, Nat.reduceEqDiff, Nat.reduceLeDiff, Nat.reduceAdd, q1, q2] <;> rfl)); (first | refine pickT ?_ | refine pickF ?_ | fail_if_success with_reducible refine pickA ?_)) | ((with_reducible refine SC.draw Tab.mixed ?_ ?_); (focus rfl)) | (with_reducible apply SC.ops)))
      refine retQ_ret Tryz.results54 (by simp (disch := omega) only [go_sem, ↓reduceIte, Nat.reduceEqDiff, Nat.reduceLeDiff, Nat.reduceAdd]; rfl) (by simp (disch := omega) only [go_sem, ↓reduceIte]; rfl) ?_
      rw [hg]
    · have hp := limbsOf_pos h0
      have q1 := decide_eq_true (p := (0 : Int) < ((limbsOf y).length : Int)) (by omega)
      have hmod : x % y < y := Nat.mod_lt _ (by omega)
      have hxy : (limbsOf (x % y)).length ≤ (limbsOf y).length := len_le_of (by omega)
      by_cases h2 : 2 < max (limbsOf x).length (limbsOf y).length
      · have q2 := decide_eq_true (p := (2 : Int) < (if ((limbsOf y).length : Int) > ((limbsOf x).length : Int) then ((limbsOf y).length : Int) else ((limbsOf x).length : Int))) (by split <;> omega)
        obtain ⟨r, ⟨ql, rl, rfl, hql, hrl, vq, vr, lq, lr⟩, c1⟩ := divide_any x y (by omega) (by omega) (by omega)
        have c2 := trim_i rl hrl (by omega)
        rw [vr] at c2
        unfold sv at *
        (repeat (first | refine DO.nil (by kernel_rfl) ?_ | (with_reducible refine oz (by constructor <;> decide) ?_) | ((first | apply SO.call | apply DO.call); (iterate 3 (focus (simp (disch := omega) only [go_sem, ↓reduceIte, Nat.reduceEqDiff] <;> rfl))); (first | apply SCall.ofX | apply DCall.ofX); (focus (first | assumption)); (focus (simp (disch := omega) only [go_sem] <;> rfl))) | ((with_reducible first | apply SC.condB | apply SC.region | apply SO.run | apply DO.run); (focus (simp (disch := omega) only [go_sem, ↓reduceIte, Nat.reduceEqDiff, q1, q2] <;> rfl)); (first | refine pickT ?_ | refine pickF ?_ | fail_if_success with_reducible refine pickA ?_)) | ((with_reducible refine SC.draw Tab.mixed ?_ ?_); (focus rfl)) | (with_reducible apply SC.ops)))
        refine hK' _ (y, x % y) ?_ ⟨hy, by simp only; omega, by simp only; rw [nat_gcd_step, hg]⟩ (by simp only; omega)
        (refine Le.of [] hB (by first | exact ⟨Nat.zero_le _, fun _ _ => Nat.zero_le _⟩ | (constructor <;> (try simp) <;> (try omega))) ?_ ?_ <;> (repeat' (first | exact leSl_nil | exact leHp_nil | refine leSl_cons (by simp (disch := omega) only [go_sem, ↓reduceIte, Nat.reduceEqDiff]; rfl) ?_ ?_ | refine leHp_cons (by simp (disch := omega) only [go_sem, ↓reduceIte]; rfl) ?_ ?_ | exact VLe.junk _ | exact VLe.refl rfl | exact VLe.nil_sl _ _ _ | exact VLe.int (by first | rfl | omega | (dsimp only; omega)) | exact VLe.bool rfl | exact VLe.sl rfl (by first | rfl | omega | (dsimp only; omega) | (simp; done)) | exact VLe.cap rfl (by first | rfl | omega | (dsimp only; omega) | (simp; done)) | exact VLe.im rfl rfl | exact HLe.new rfl | exact HLe.same rfl (LLe.refl rfl) | refine HLe.same rfl ?_ | exact LLe.nil _ | exact LLe.refl rfl | refine LLe.cons ?_ ?_)))
      · have q2 := decide_eq_false (p := (2 : Int) < (if ((limbsOf y).length : Int) > ((limbsOf x).length : Int) then ((limbsOf y).length : Int) else ((limbsOf x).length : Int))) (by split <;> omega)
        have q3 : (((limbsOf y).length : Int) == 0) = false := by rw [beq_eq_false_iff_ne]; omega
        have c1 := word_i (limbsOf x) (limbsOf_limbs x) (by omega)
        have c2 := word_i (limbsOf y) (limbsOf_limbs y) (by omega)
        rw [limbsOf_val] at c1 c2
        have bx := two_lt (n := x) (by omega)
        have bY := two_lt (n := y) (by omega)
        unfold sv at *
        (repeat (first | refine DO.nil (by kernel_rfl) ?_ | (with_reducible refine oz (by constructor <;> decide) ?_) | ((first | apply SO.call | apply DO.call); (iterate 3 (focus (simp (disch := omega) only [go_sem, ↓reduceIte] <;> rfl))); (first | apply SCall.ofX | apply DCall.ofX); (focus (first | assumption)); (focus (simp (disch := omega) only [go_sem] <;> rfl))) | ((with_reducible first | apply SC.condB | apply SC.region | apply SO.run | apply DO.run); (focus (simp (disch := omega) only [go_sem, ↓reduceIte, Nat.reduceEqDiff, q1, q2, q3] <;> rfl)); (first | refine pickT ?_ | refine pickF ?_ | fail_if_success with_reducible refine pickA ?_)) | ((with_reducible refine SC.draw Tab.mixed ?_ ?_); (focus rfl)) | (with_reducible apply SC.ops)))
        refine SC.loop (fun u : Nat × Nat => ⟨[(4, .pt 2 0), (9, .sc (.int .u64 u.1)), (10, .sc (.int .u64 u.2))], [(2, ⟨27, [.sc (.bool false), .sc (.slice none 0 0)], false⟩)], 3, 56⟩)
          (fun u => u.1 < 18446744073709551616 ∧ u.2 < 18446744073709551616 ∧ Nat.gcd u.1 u.2 = Int.gcd a b) (fun u => u.2) (x, y) ?_ ?_ ?_
        · (refine Le.of [] hB (by first | exact ⟨Nat.zero_le _, fun _ _ => Nat.zero_le _⟩ | (constructor <;> (try simp) <;> (try omega))) ?_ ?_ <;> (repeat' (first | exact leSl_nil | exact leHp_nil | refine leSl_cons (by simp (disch := omega) only [go_sem, ↓reduceIte, Nat.reduceEqDiff]; rfl) ?_ ?_ | refine leHp_cons (by simp (disch := omega) only [go_sem, ↓reduceIte]; rfl) ?_ ?_ | exact VLe.junk _ | exact VLe.refl rfl | exact VLe.nil_sl _ _ _ | exact VLe.int (by first | rfl | omega | (dsimp only; omega)) | exact VLe.bool rfl | exact VLe.sl rfl (by first | rfl | omega | (dsimp only; omega) | (simp; done)) | exact VLe.cap rfl (by first | rfl | omega | (dsimp only; omega) | (simp; done)) | exact VLe.im rfl rfl | exact HLe.new rfl | exact HLe.same rfl (LLe.refl rfl) | refine HLe.same rfl ?_ | exact LLe.nil _ | exact LLe.refl rfl | refine LLe.cons ?_ ?_)))
        · exact ⟨bx, bY, hg⟩
        · rintro ⟨u, v⟩ ⟨hu, hv, hg⟩ K2 hK2
          simp only at hu hv hg ⊢
          by_cases h0 : v = 0
          · subst h0
            have c3 := limbs_s u hu
            have c4 := value_i false [u % 4294967296, u / 4294967296] (limbs_two u hu) (by simp)
            rw [Nat.gcd_zero_right] at hg
            rw [val_two] at c4
            unfold iv sv lv at c4
            simp only [List.map, List.length_cons, List.length_nil, Nat.zero_add, Nat.reduceAdd] at c4
            have q4 : decide ((0 : Int) < ((0 : Nat) : Int)) = false := by simp
            (repeat (first | refine DO.nil (by kernel_rfl) ?_ | (with_reducible refine oz (by constructor <;> decide) ?_) | ((first | apply SO.call | apply DO.call); (iterate 3 (focus (simp (disch := omega) only [go_sem, ↓reduceIte, Nat.reduceLT] <;> rfl))); (first | apply SCall.ofX | apply DCall.ofX); (focus (first | assumption)); (focus (simp (disch := omega) only [go_sem] <;> rfl))) | ((with_reducible first | apply SC.condB | apply SC.region | apply SO.run | apply DO.run); (focus (simp (disch := omega) only [go_sem, ↓reduceIte, Nat.reduceEqDiff, Nat.reduceLeDiff, Nat.reduceAdd, q4] <;> rfl)); (first | refine pickT ?_ | refine pickF ?_ | fail_if_success with_reducible refine pickA ?_)) | ((with_reducible refine SC.draw Tab.mixed ?_ ?_); (focus rfl)) | (with_reducible apply SC.ops)))
            refine retQ_ret Tryz.results54 (by simp (disch := omega) only [go_sem, ↓reduceIte, Nat.reduceEqDiff, Nat.reduceLeDiff, Nat.reduceAdd]; rfl) (by simp (disch := omega) only [go_sem, ↓reduceIte]; rfl) ?_
            subst hg
            rfl
          · have q4 := decide_eq_true (p := (0 : Int) < (v : Int)) (by omega)
            have e5 : (u : Int).tmod (v : Int) = ((u % v : Nat) : Int) := (Int.ofNat_tmod _ _).symm
            have hm : u % v < v := Nat.mod_lt _ (by omega)
            (repeat (first | refine DO.nil (by kernel_rfl) ?_ | (with_reducible refine oz (by constructor <;> decide) ?_) | ((with_reducible first | apply SC.condB | apply SC.region | apply SO.run | apply DO.run); (focus (simp (disch := omega) only [go_sem, ↓reduceIte, Nat.reduceEqDiff, if_neg, q4, e5] <;> rfl)); (first | refine pickT ?_ | refine pickF ?_ | fail_if_success with_reducible refine pickA ?_)) | ((with_reducible refine SC.draw Tab.mixed ?_ ?_); (focus rfl)) | (with_reducible apply SC.ops)))
            refine hK2 _ (v, u % v) ?_ ⟨hv, by simp only; omega, by simp only; rw [nat_gcd_step, hg]⟩ (by simp only; omega)
            (refine Le.of [] hB (by first | exact ⟨Nat.zero_le _, fun _ _ => Nat.zero_le _⟩ | (constructor <;> (try simp) <;> (try omega))) ?_ ?_ <;> (repeat' (first | exact leSl_nil | exact leHp_nil | refine leSl_cons (by simp (disch := omega) only [go_sem, ↓reduceIte, Nat.reduceEqDiff]; rfl) ?_ ?_ | refine leHp_cons (by simp (disch := omega) only [go_sem, ↓reduceIte]; rfl) ?_ ?_ | exact VLe.junk _ | exact VLe.refl rfl | exact VLe.nil_sl _ _ _ | exact VLe.int (by first | rfl | omega | (dsimp only; omega)) | exact VLe.bool rfl | exact VLe.sl rfl (by first | rfl | omega | (dsimp only; omega) | (simp; done)) | exact VLe.cap rfl (by first | rfl | omega | (dsimp only; omega) | (simp; done)) | exact VLe.im rfl rfl | exact HLe.new rfl | exact HLe.same rfl (LLe.refl rfl) | refine HLe.same rfl ?_ | exact LLe.nil _ | exact LLe.refl rfl | refine LLe.cons ?_ ?_)))
end Go.Proofs.YtpodnbcdddcdmaaGreatDoor
