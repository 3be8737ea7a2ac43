/- Texts joined: Jk Qd Qe Vam Van Qg. -/
import Derived.Test.YtdcbmdmlhjemmaaVf
import Derived.Test.YtdcbmdmlhjemmaaVg
import Derived.Test.YtdcbmdmlhjemmaaVh
import Derived.Test.YtdcbmdmlhjemmaaVi
set_option linter.all false
open Nat renaming reduceEqDiff → zn1, reduceLT → zn2, reduceLeDiff → zn3, reduceAdd → zn4, reduceMul → zn5, reduceSub → zn6, reduceBEq → zn7, mul_one → zn8, zero_add → zn9, one_mul → zna, le_refl → znb, zero_le → znc, add_sub_cancel_left → znd, sub_eq_zero_of_le → zne, add_assoc → znf
open Int renaming reduceToNat → zi1, reducePow → zi2
open List renaming length_append → zl1, drop_zero → zl2, take_succ_cons → zl3, take_zero → zl4, getElem?_drop → zl5, append_assoc → zl6, nil_append → zl7, cons_append → zl8, drop_succ_cons → zl9, take_of_length_le → zla, getElem?_eq_getElem → zlb, getElem?_eq_some_iff → zlc, map_cons → zld, map_nil → zle, all_eq_true → zlf
namespace Go.Proofs.Ytdcbmdmlhjemmaa
open Go.RowKit
theorem lv_rep (n : Nat) : List.replicate n (.sc (.int .u32 0)) = lv (List.replicate n 0) := by simp [lv]
theorem lv_set {l : List Nat} {i x : Nat} {e : Int} (h : e = (x : Int)) : (lv l).set i (.sc (.int .u32 e)) = lv (l.set i x) := by subst h; simp [lv, List.map_set]
theorem sgn_mul (x y : Int) : sgn (decide (x < 0) != decide (y < 0)) (x.natAbs * y.natAbs) = x * y := by
 rcases Int.lt_or_le x 0 with hx | hx <;> rcases Int.lt_or_le y 0 with hy | hy
 ·rw [decide_eq_true hx, decide_eq_true hy]
  obtain ⟨m, rfl⟩ : ∃ m : Nat, x = -m := ⟨x.natAbs, by omega⟩
  obtain ⟨n, rfl⟩ : ∃ n : Nat, y = -n := ⟨y.natAbs, by omega⟩
  simp [sgn, Int.neg_mul_neg]
 ·rw [decide_eq_true hx, decide_eq_false (by omega)]
  obtain ⟨m, rfl⟩ : ∃ m : Nat, x = -m := ⟨x.natAbs, by omega⟩
  obtain ⟨n, rfl⟩ : ∃ n : Nat, y = n := ⟨y.natAbs, by omega⟩
  simp [sgn, Int.neg_mul]
 ·rw [decide_eq_false (by omega), decide_eq_true hy]
  obtain ⟨m, rfl⟩ : ∃ m : Nat, x = m := ⟨x.natAbs, by omega⟩
  obtain ⟨n, rfl⟩ : ∃ n : Nat, y = -n := ⟨y.natAbs, by omega⟩
  simp [sgn, Int.mul_neg]
 ·rw [decide_eq_false (by omega), decide_eq_false (by omega)]
  obtain ⟨m, rfl⟩ : ∃ m : Nat, x = m := ⟨x.natAbs, by omega⟩
  obtain ⟨n, rfl⟩ : ∃ n : Nat, y = n := ⟨y.natAbs, by omega⟩
  simp [sgn]
theorem mul_i (x y : Int) (K : Nat) (hx : Fits K x) (hy : Fits K y) (hK : K ≤ 400000000000) : Spec Try.prog 60 [iv x, iv y] (iv (x * y)) := by
 have lx := fits_len hx
 have ly := fits_len hy
 obtain ⟨a, ea⟩ : ∃ a, a = limbsOf x.natAbs := ⟨_, rfl⟩
 obtain ⟨b, eb⟩ : ∃ b, b = limbsOf y.natAbs := ⟨_, rfl⟩
 have vx : val a = x.natAbs := by rw [ea]; exact limbsOf_val _
 have vy : val b = y.natAbs := by rw [eb]; exact limbsOf_val _
 have bx : limbs a := by rw [ea]; exact limbsOf_limbs _
 have bY : limbs b := by rw [eb]; exact limbsOf_limbs _
 rw [← ea] at lx
 rw [← eb] at ly
 unfold iv sv
 rw [← ea, ← eb]
 refine Spec.run Try.func60 rfl Try.ntmps60 (by simp) sF fun B hB => ?_
 obtain ⟨ax, hax⟩ : ∃ ax : Blk, ax = ⟨43, [.sc (.bool (decide (x < 0))), .im (lv a) a.length], false⟩ := ⟨_, rfl⟩
 have hN : ((a.length : Int) + (b.length : Int) + 1).toNat = a.length + b.length + 1 := by omega
 (repeat (first | (with_reducible refine oA ?_) | ((with_reducible apply SC.region); (focus (simp (disch := omega) only [go_sem, ↓reduceIte, zn1, zn4, reduceCtorEq, if_pos, hN]; rfl)))))
 refine SC.loop (fun x' : Nat × List Nat => ⟨[(2, .pt 0 0), (3, .pt 1 0), (4, .pt 2 0), (5, .sl 3 0 (a.length + b.length + 1) 1 none), (6, .sc (.int .i64 x'.1))], [(3, ⟨80, lv x'.2, false⟩), (2, ⟨43, [.sc (.bool false), .sc (.slice none 0 0)], false⟩), (1, ⟨43, [.sc (.bool (decide (y < 0))), .im (lv b) b.length], false⟩), (0, ⟨43, [.sc (.bool (decide (x < 0))), .im (lv a) a.length], false⟩)], 4, 81⟩)
  (fun x' => x'.1 ≤ a.length ∧ mulInv a b x'.1 0 0 x'.2) (fun x' => a.length - x'.1) (0, List.replicate (a.length + b.length + 1) 0) ?_ ?_ ?_
 ·(refine Le.of [] hB (by exact ⟨znc _, fun _ _ => znc _⟩) ?_ ?_ <;> (repeat' (first | exact leSl_nil | exact leHp_nil | refine leSl_cons sF ?_ ?_ | refine leHp_cons sF ?_ ?_ | exact VLe.refl rfl | exact VLe.cap rfl (by rfl) | exact HLe.same rfl (LLe.refl rfl) | refine HLe.same rfl ?_ | refine LLe.cons ?_ ?_)))
  exact LLe.lv (lv_rep _)
 ·exact ⟨znc _, by simp, limbs_replicate _, by simp [val, val_replicate]⟩
 ·rintro ⟨i, z⟩ ⟨hi, hI⟩ K hK
  simp only at hi hI ⊢
  have hz : z.length = a.length + b.length + 1 := hI.1
  by_cases hA : i < a.length
  ·have q1 := decide_eq_true (p := (i : Int) < a.length) (by omega)
   (repeat (first | (with_reducible refine SC.condB sF ?_; with_reducible refine pickT ?_) | (with_reducible refine oA ?_) | ((with_reducible apply SC.region); (focus (simp (disch := omega) only [go_sem, ↓reduceIte, zn1, reduceCtorEq, q1]; rfl)))))
   refine SC.loop (fun x' : Nat × Nat × List Nat => ⟨[(2, .pt 0 0), (3, .pt 1 0), (4, .pt 2 0), (5, .sl 3 0 (a.length + b.length + 1) 1 none), (6, .sc (.int .i64 i)), (7, .sc (.int .u64 x'.2.1)), (8, .sc (.int .i64 x'.1))], [(3, ⟨80, lv x'.2.2, false⟩), (2, ⟨43, [.sc (.bool false), .sc (.slice none 0 0)], false⟩), (1, ⟨43, [.sc (.bool (decide (y < 0))), .im (lv b) b.length], false⟩), (0, ⟨43, [.sc (.bool (decide (x < 0))), .im (lv a) a.length], false⟩)], 4, 81⟩)
    (fun x' => x'.1 ≤ b.length + 1 ∧ x'.2.1 < 4294967296 ∧ mulInv a b i x'.1 x'.2.1 x'.2.2) (fun x' => b.length + 1 - x'.1) (0, 0, z) ?_ ?_ ?_
   ·(refine Le.of [] hB (by exact ⟨znc _, fun _ _ => znc _⟩) ?_ ?_ <;> (repeat' (first | exact leSl_nil | exact leHp_nil | refine leSl_cons sF ?_ ?_ | refine leHp_cons sF ?_ ?_ | exact VLe.refl rfl | exact HLe.same rfl (LLe.refl rfl) | refine HLe.same rfl ?_)))
    exact LLe.lv rfl
   ·exact ⟨znc _, by simp only; omega, hI⟩
   ·rintro ⟨k, c, z⟩ ⟨hk, hc, hI⟩ K' hK'
    simp only at hk hc hI ⊢
    have hz : z.length = a.length + b.length + 1 := hI.1
    have la := limbs_getD bx i
    have lb := limbs_getD bY k
    have lz := limbs_getD hI.2.1 (i + k)
    by_cases hend : k < b.length ∨ 0 < c
    ·have hk1 : k ≤ b.length := by
      rcases Nat.lt_or_ge k (b.length + 1) with h | h
      ·omega
      ·have h1 : k = b.length + 1 := by omega
       subst h1
       have := hI.noCarry bx bY hA
       omega
     have hidx : ((i : Int) + (k : Int)).toNat = i + k := by omega
     have hst := hI.step (by omega) _ _ _ rfl rfl rfl
     have hzi : i + k < z.length := by omega
     have gz := lv_get hzi
     have ga := lv_get hA
     by_cases hB' : k < b.length
     ·have q2 := decide_eq_true (p := (k : Int) < b.length) (by omega)
      have gb := lv_get hB'
      generalize a.getD i 0 = xa at *
      generalize b.getD k 0 = xb at *
      generalize z.getD (i + k) 0 = xz at *
      have hp : xa * xb ≤ 4294967295 * 4294967295 := Nat.mul_le_mul (by omega) (by omega)
      have hm : (xa : Int) * (xb : Int) = ((xa * xb : Nat) : Int) := by simp
      generalize xa * xb = pr at *
      (repeat (first | (with_reducible refine SC.condB sF ?_; with_reducible refine pickT ?_) | (with_reducible refine oA ?_) | ((with_reducible apply SC.region); (focus (simp (disch := omega) only [go_sem, ↓reduceIte, zn1, reduceCtorEq, if_pos, if_neg, q2, hidx, gz, lv_len]; rfl))) | (with_reducible refine SC.draw Tab.mixed rfl ?_; (repeat (refine DO.run (by simp (disch := omega) only [go_sem, ↓reduceIte, zn1, reduceCtorEq, if_pos, ga, gb, hm, lv_len, zl5]; rfl) ?_)); refine DO.nil (by kernel_rfl) ?_)))
      refine hK' _ (k + 1, (c + xz + pr) / 4294967296, z.set (i + k) ((c + xz + pr) % 4294967296)) ?_ ⟨by simp only; omega, by simp only; omega, hst⟩ (by simp only; omega)
      (refine Le.of [] hB (by exact ⟨znc _, fun _ _ => znc _⟩) ?_ ?_ <;> (repeat' (first | exact leSl_nil | exact leHp_nil | refine leSl_cons sF ?_ ?_ | refine leHp_cons sF ?_ ?_ | exact VLe.refl rfl | exact HLe.same rfl (LLe.refl rfl) | refine HLe.same rfl ?_)))
      exact LLe.lv (lv_set (by omega))
     ·have q2 := decide_eq_false (p := (k : Int) < b.length) (by omega)
      have q3 := decide_eq_true (p := (0 : Int) < c) (by omega)
      have hz0 := getD_ge (l := b) (k := k) hB'
      rw [hz0, Nat.mul_zero, Nat.add_zero] at hst
      generalize z.getD (i + k) 0 = xz at *
      (repeat (first | (with_reducible refine SC.condB sF ?_; first | with_reducible refine pickT ?_ | with_reducible refine pickF ?_) | (with_reducible refine oA ?_) | ((with_reducible apply SC.region); (focus (simp (disch := omega) only [go_sem, ↓reduceIte, zn1, reduceCtorEq, if_pos, if_neg, q2, q3, hidx, gz, lv_len]; rfl)))))
      refine hK' _ (k + 1, (c + xz) / 4294967296, z.set (i + k) ((c + xz) % 4294967296)) ?_ ⟨by simp only; omega, by simp only; omega, hst⟩ (by simp only; omega)
      (refine Le.of [] hB (by exact ⟨znc _, fun _ _ => znc _⟩) ?_ ?_ <;> (repeat' (first | exact leSl_nil | exact leHp_nil | refine leSl_cons sF ?_ ?_ | refine leHp_cons sF ?_ ?_ | exact VLe.refl rfl | exact HLe.same rfl (LLe.refl rfl) | refine HLe.same rfl ?_)))
      exact LLe.lv (lv_set (by omega))
    ·have hc0 : c = 0 := by omega
     subst hc0
     have q2 := decide_eq_false (p := (k : Int) < b.length) (by omega)
     have q3 : decide ((0 : Int) < ((0 : Nat) : Int)) = false := by simp
     (repeat (first | (with_reducible refine SC.condB sF ?_; with_reducible refine pickF ?_) | (with_reducible refine oA ?_) | ((with_reducible apply SC.region); (focus (simp (disch := omega) only [go_sem, ↓reduceIte, zn1, reduceCtorEq, q2, q3]; rfl)))))
     refine hK _ (i + 1, z) ?_ ⟨by simp only; omega, hI.row (by omega)⟩ (by simp only; omega)
     (refine Le.of [] hB (by exact ⟨znc _, fun _ _ => znc _⟩) ?_ ?_ <;> (repeat' (first | exact leSl_nil | exact leHp_nil | refine leSl_cons sF ?_ ?_ | refine leHp_cons sF ?_ ?_ | exact VLe.refl rfl | exact HLe.same rfl (LLe.refl rfl) | refine HLe.same rfl ?_)))
     exact LLe.lv rfl
  ·have q1 := decide_eq_false (p := (i : Int) < a.length) (by omega)
   have hd := hI.done (by omega)
   have c2 := made_i z (decide (x < 0) != decide (y < 0)) hI.2.1 (by omega)
   have e2 : sgn (decide (x < 0) != decide (y < 0)) (val z) = x * y := by
    rw [hd, vx, vy]; exact sgn_mul x y
   rw [e2] at c2
   unfold iv sv at c2
   rw [hz] at c2
   have ht : z.take (a.length + b.length + 1) = z := by rw [← hz]; exact List.take_length
   (repeat (first | (with_reducible refine oA ?_) | ((apply SO.call); (iterate 3 (focus (simp (disch := omega) only [go_sem, ↓reduceIte, zn1, zn2, if_pos, lv_len, lv_take, lv_clo, ht] <;> rfl))); (apply SCall.ofX); (focus (assumption)); (focus (simp (disch := omega) only [go_sem, ↓reduceIte, zn7] <;> rfl))) | ((with_reducible first | apply SC.condB | apply SC.region | apply SO.run); (focus (simp (disch := omega) only [go_sem, ↓reduceIte, zn1, zn2, zn3, zn4, reduceCtorEq, q1] <;> rfl)); (first | refine pickF ?_ | fail_if_success with_reducible refine pickA ?_)) | (with_reducible apply SC.ops)))
   exact retQ_ret Try.results60 sF sF rfl
theorem take_set_succ {l : List Nat} {k x : Nat} (h : k < l.length) : (l.set k x).take (k + 1) = l.take k ++ [x] := by
 rw [List.take_succ_eq_append_getElem (by simpa using h)]
 simp only [List.take_set, List.getElem_set_self]
 rw [List.set_eq_of_length_le (by simp; omega)]
theorem fd32 (n : Int) : n.fdiv (2 ^ min 32 64) = n / 4294967296 := by rw [show (2 : Int) ^ min 32 64 = 4294967296 by decide]; exact Int.fdiv_eq_ediv_of_nonneg _ (by omega)
theorem fd63 (n : Int) : n.fdiv (2 ^ min 63 64) = n / 9223372036854775808 := by rw [show (2 : Int) ^ min 63 64 = 9223372036854775808 by decide]; exact Int.fdiv_eq_ediv_of_nonneg _ (by omega)
set_option maxHeartbeats 1000000 in
theorem pplus_i (x y : List Nat) (hx : limbs x) (hy : limbs y) (hmx : x.length ≤ 900000000000) (hmy : y.length ≤ 900000000000) : Spec Try.prog 68 [sv x, sv y] (sv (dg (max x.length y.length + 1) (val x + val y))) := by
 unfold sv
 rcases Nat.lt_or_ge x.length y.length with hlt | hge
 ·have q0 := decide_eq_true (p := ((x.length : Nat) : Int) < (y.length : Int)) (by omega)
  have hN : ((y.length : Int) + 1).toNat = y.length + 1 := by omega
  refine Spec.run Try.func68 rfl Try.ntmps68 (by simp) sF fun B hB => ?_
  (repeat (first | (with_reducible refine SC.condB sF ?_; with_reducible refine pickT ?_) | (with_reducible refine oA ?_) | ((with_reducible apply SC.region); (focus (simp (disch := omega) only [go_sem, ↓reduceIte, zn1, reduceCtorEq, if_pos, q0, hN]; rfl)))))
  refine SC.loop (fun u : Nat × Nat × List Nat => ⟨[(0, .im (lv y) y.length), (1, .im (lv x) x.length), (5, .sl 0 0 (y.length + 1) 1 none), (6, .sc (.int .u64 u.2.1)), (20, .sc (.int .i64 y.length)), (21, .sc (.int .i64 u.1))], [(0, ⟨80, lv u.2.2, false⟩)], 1, 57⟩)
   (fun u => u.2.1 ≤ 1 ∧ u.1 ≤ y.length ∧ u.2.2.length = y.length + 1 ∧ limbs u.2.2 ∧ plusInv y x u.1 u.2.1 (u.2.2.take u.1)) (fun u => y.length - u.1) (0, 0, List.replicate (y.length + 1) 0) ?_ ?_ ?_
  ·(refine Le.of [] hB (by exact ⟨znc _, fun _ _ => znc _⟩) ?_ ?_ <;> (repeat' (first | exact leSl_nil | exact leHp_nil | refine leSl_cons sF ?_ ?_ | refine leHp_cons sF ?_ ?_ | exact VLe.refl rfl | exact VLe.cap rfl (by rfl) | refine HLe.same rfl ?_ | refine LLe.cons ?_ ?_)))
   exact LLe.lv (lv_rep _)
  ·exact ⟨znc _, znc _, by simp, limbs_replicate _, by simp, fun n hn => by simp at hn, by simp [val]⟩
  ·rintro ⟨k, c, z⟩ ⟨hc, hk, hzl, hz, hI⟩ K hK
   simp only at hc hk hzl hz hI ⊢
   have la := limbs_getD hy k
   have lb := limbs_getD hx k
   by_cases hka : k < y.length
   ·have q1 := decide_eq_true (p := (k : Int) < (y.length : Int)) (by omega)
    have hst := hI.step _ _ rfl rfl
    rw [← take_set_succ (by omega)] at hst
    have ga := lv_get hka
    by_cases hkb : k < x.length
    ·have q2 := decide_eq_true (p := (k : Int) < (x.length : Int)) (by omega)
     have gb := lv_get hkb
     generalize y.getD k 0 = s at *
     generalize x.getD k 0 = t at *
     (repeat (first | (with_reducible refine SC.condB sF ?_; with_reducible refine pickT ?_) | (with_reducible refine oA ?_) | ((with_reducible apply SC.region); (focus (simp (disch := omega) only [go_sem, ↓reduceIte, zn1, reduceCtorEq, zi1, if_pos, if_neg, q1, q2, fd32, ga, gb, lv_len, zl5]; rfl)))))
     refine hK _ (k + 1, (c + s + t) / 4294967296, z.set k ((c + s + t) % 4294967296)) ?_ ⟨by simp only; omega, by simp only; omega, by simp [hzl], limbs_set hz _ (by omega), hst⟩ (by simp only; omega)
     (refine Le.of [] hB (by exact ⟨znc _, fun _ _ => znc _⟩) ?_ ?_ <;> (repeat' (first | exact leSl_nil | exact leHp_nil | refine leSl_cons sF ?_ ?_ | refine leHp_cons sF ?_ ?_ | exact VLe.refl rfl | refine HLe.same rfl ?_)))
     exact LLe.lv (lv_set (by omega))
    ·have q2 := decide_eq_false (p := (k : Int) < (x.length : Int)) (by omega)
     have hb0 := getD_ge hkb
     rw [hb0] at hst
     generalize y.getD k 0 = s at *
     (repeat (first | (with_reducible refine SC.condB sF ?_; first | with_reducible refine pickT ?_ | with_reducible refine pickF ?_) | (with_reducible refine oA ?_) | ((with_reducible apply SC.region); (focus (simp (disch := omega) only [go_sem, ↓reduceIte, zn1, reduceCtorEq, zi1, if_pos, if_neg, q1, q2, fd32, ga, lv_len, zl5]; rfl)))))
     refine hK _ (k + 1, (c + s + 0) / 4294967296, z.set k ((c + s + 0) % 4294967296)) ?_ ⟨by simp only; omega, by simp only; omega, by simp [hzl], limbs_set hz _ (by omega), hst⟩ (by simp only; omega)
     (refine Le.of [] hB (by exact ⟨znc _, fun _ _ => znc _⟩) ?_ ?_ <;> (repeat' (first | exact leSl_nil | exact leHp_nil | refine leSl_cons sF ?_ ?_ | refine leHp_cons sF ?_ ?_ | exact VLe.refl rfl | refine HLe.same rfl ?_)))
     exact LLe.lv (lv_set (by omega))
   ·have hkn : k = y.length := by omega
    subst hkn
    have q1 := decide_eq_false (p := ((y.length : Nat) : Int) < (y.length : Int)) (by omega)
    obtain ⟨h1, h2, h3⟩ := hI
    rw [zla (l := y) (znb _), zla (l := x) (by omega)] at h3
    have hw := take_set_succ (l := z) (k := y.length) (x := c) (by omega)
    rw [zla (by simp [hzl])] at hw
    have hv : val (z.set y.length c) = val y + val x := by
     rw [hw, val_append, h1]; simp only [val]; omega
    have hl2 : (z.set y.length c).length = y.length + 1 := by simp [hzl]
    have he := dg_eq (limbs_set hz y.length (x := c) (by omega))
    rw [hv, hl2] at he
    have hls : (lv z).set y.length (.sc (.int .u32 (c : Int))) = lv (z.set y.length c) := lv_set rfl
    have ht : (z.set y.length c).take (y.length + 1) = z.set y.length c := by rw [← hl2]; exact List.take_length
    (repeat (first | (with_reducible refine SC.condB sF ?_; with_reducible refine pickF ?_) | (with_reducible refine oA ?_) | ((with_reducible apply SC.region); (focus (simp (disch := omega) only [go_sem, ↓reduceIte, zn1, zn2, reduceCtorEq, if_pos, q1, hls, lv_len]; rfl)))))
    refine retQ_ret Try.results68 sF (by simp (disch := omega) only [go_sem, ↓reduceIte, if_pos, lv_len, lv_take, lv_clo, ht]; rfl) ?_
    rw [show max x.length y.length = y.length by omega, Nat.add_comm (val x), he, hl2]
 ·have q0 := decide_eq_false (p := ((x.length : Nat) : Int) < (y.length : Int)) (by omega)
  have hN : ((x.length : Int) + 1).toNat = x.length + 1 := by omega
  refine Spec.run Try.func68 rfl Try.ntmps68 (by simp) sF fun B hB => ?_
  (repeat (first | (with_reducible refine SC.condB sF ?_; with_reducible refine pickF ?_) | (with_reducible refine oA ?_) | ((with_reducible apply SC.region); (focus (simp (disch := omega) only [go_sem, ↓reduceIte, zn1, reduceCtorEq, if_pos, q0, hN]; rfl)))))
  refine SC.loop (fun u : Nat × Nat × List Nat => ⟨[(0, .im (lv x) x.length), (1, .im (lv y) y.length), (5, .sl 0 0 (x.length + 1) 1 none), (6, .sc (.int .u64 u.2.1)), (20, .sc (.int .i64 x.length)), (21, .sc (.int .i64 u.1))], [(0, ⟨80, lv u.2.2, false⟩)], 1, 57⟩)
   (fun u => u.2.1 ≤ 1 ∧ u.1 ≤ x.length ∧ u.2.2.length = x.length + 1 ∧ limbs u.2.2 ∧ plusInv x y u.1 u.2.1 (u.2.2.take u.1)) (fun u => x.length - u.1) (0, 0, List.replicate (x.length + 1) 0) ?_ ?_ ?_
  ·(refine Le.of [] hB (by exact ⟨znc _, fun _ _ => znc _⟩) ?_ ?_ <;> (repeat' (first | exact leSl_nil | exact leHp_nil | refine leSl_cons sF ?_ ?_ | refine leHp_cons sF ?_ ?_ | exact VLe.refl rfl | exact VLe.cap rfl (by rfl) | refine HLe.same rfl ?_ | refine LLe.cons ?_ ?_)))
   exact LLe.lv (lv_rep _)
  ·exact ⟨znc _, znc _, by simp, limbs_replicate _, by simp, fun n hn => by simp at hn, by simp [val]⟩
  ·rintro ⟨k, c, z⟩ ⟨hc, hk, hzl, hz, hI⟩ K hK
   simp only at hc hk hzl hz hI ⊢
   have la := limbs_getD hx k
   have lb := limbs_getD hy k
   by_cases hka : k < x.length
   ·have q1 := decide_eq_true (p := (k : Int) < (x.length : Int)) (by omega)
    have hst := hI.step _ _ rfl rfl
    rw [← take_set_succ (by omega)] at hst
    have ga := lv_get hka
    by_cases hkb : k < y.length
    ·have q2 := decide_eq_true (p := (k : Int) < (y.length : Int)) (by omega)
     have gb := lv_get hkb
     generalize x.getD k 0 = s at *
     generalize y.getD k 0 = t at *
     (repeat (first | (with_reducible refine SC.condB sF ?_; with_reducible refine pickT ?_) | (with_reducible refine oA ?_) | ((with_reducible apply SC.region); (focus (simp (disch := omega) only [go_sem, ↓reduceIte, zn1, reduceCtorEq, zi1, if_pos, if_neg, q1, q2, fd32, ga, gb, lv_len, zl5]; rfl)))))
     refine hK _ (k + 1, (c + s + t) / 4294967296, z.set k ((c + s + t) % 4294967296)) ?_ ⟨by simp only; omega, by simp only; omega, by simp [hzl], limbs_set hz _ (by omega), hst⟩ (by simp only; omega)
     (refine Le.of [] hB (by exact ⟨znc _, fun _ _ => znc _⟩) ?_ ?_ <;> (repeat' (first | exact leSl_nil | exact leHp_nil | refine leSl_cons sF ?_ ?_ | refine leHp_cons sF ?_ ?_ | exact VLe.refl rfl | refine HLe.same rfl ?_)))
     exact LLe.lv (lv_set (by omega))
    ·have q2 := decide_eq_false (p := (k : Int) < (y.length : Int)) (by omega)
     have hb0 := getD_ge hkb
     rw [hb0] at hst
     generalize x.getD k 0 = s at *
     (repeat (first | (with_reducible refine SC.condB sF ?_; first | with_reducible refine pickT ?_ | with_reducible refine pickF ?_) | (with_reducible refine oA ?_) | ((with_reducible apply SC.region); (focus (simp (disch := omega) only [go_sem, ↓reduceIte, zn1, reduceCtorEq, zi1, if_pos, if_neg, q1, q2, fd32, ga, lv_len, zl5]; rfl)))))
     refine hK _ (k + 1, (c + s + 0) / 4294967296, z.set k ((c + s + 0) % 4294967296)) ?_ ⟨by simp only; omega, by simp only; omega, by simp [hzl], limbs_set hz _ (by omega), hst⟩ (by simp only; omega)
     (refine Le.of [] hB (by exact ⟨znc _, fun _ _ => znc _⟩) ?_ ?_ <;> (repeat' (first | exact leSl_nil | exact leHp_nil | refine leSl_cons sF ?_ ?_ | refine leHp_cons sF ?_ ?_ | exact VLe.refl rfl | refine HLe.same rfl ?_)))
     exact LLe.lv (lv_set (by omega))
   ·have hkn : k = x.length := by omega
    subst hkn
    have q1 := decide_eq_false (p := ((x.length : Nat) : Int) < (x.length : Int)) (by omega)
    obtain ⟨h1, h2, h3⟩ := hI
    rw [zla (l := x) (znb _), zla (l := y) (by omega)] at h3
    have hw := take_set_succ (l := z) (k := x.length) (x := c) (by omega)
    rw [zla (by simp [hzl])] at hw
    have hv : val (z.set x.length c) = val x + val y := by
     rw [hw, val_append, h1]; simp only [val]; omega
    have hl2 : (z.set x.length c).length = x.length + 1 := by simp [hzl]
    have he := dg_eq (limbs_set hz x.length (x := c) (by omega))
    rw [hv, hl2] at he
    have hls : (lv z).set x.length (.sc (.int .u32 (c : Int))) = lv (z.set x.length c) := lv_set rfl
    have ht : (z.set x.length c).take (x.length + 1) = z.set x.length c := by rw [← hl2]; exact List.take_length
    (repeat (first | (with_reducible refine SC.condB sF ?_; with_reducible refine pickF ?_) | (with_reducible refine oA ?_) | ((with_reducible apply SC.region); (focus (simp (disch := omega) only [go_sem, ↓reduceIte, zn1, zn2, reduceCtorEq, if_pos, q1, hls, lv_len]; rfl)))))
    refine retQ_ret Try.results68 sF (by simp (disch := omega) only [go_sem, ↓reduceIte, if_pos, lv_len, lv_take, lv_clo, ht]; rfl) ?_
    rw [show max x.length y.length = x.length by omega, he, hl2]
set_option maxHeartbeats 1000000 in
theorem pminus_i (x y : List Nat) (hx : limbs x) (hy : limbs y) (hmx : x.length ≤ 900000000000) (hl : y.length ≤ x.length) (hv : val y ≤ val x) : Spec Try.prog 70 [sv x, sv y] (sv (dg x.length (val x - val y))) := by
 unfold sv
 refine Spec.run Try.func70 rfl Try.ntmps70 (by simp) sF fun B hB => ?_
 (repeat (first | (with_reducible refine oA ?_) | ((with_reducible apply SC.region); (focus (simp (disch := omega) only [go_sem, ↓reduceIte, reduceCtorEq, if_pos]; rfl)))))
 refine SC.loop (fun u : Nat × Nat × List Nat => ⟨[(0, .im (lv x) x.length), (1, .im (lv y) y.length), (5, .sl 0 0 x.length 1 none), (6, .sc (.int .u64 u.2.1)), (13, .sc (.int .i64 x.length)), (14, .sc (.int .i64 u.1))], [(0, ⟨80, lv u.2.2, false⟩)], 1, 44⟩)
  (fun u => u.2.1 ≤ 1 ∧ u.1 ≤ x.length ∧ u.2.2.length = x.length ∧ limbs u.2.2 ∧ minusInv x y u.1 u.2.1 (u.2.2.take u.1)) (fun u => x.length - u.1) (0, 0, List.replicate x.length 0) ?_ ?_ ?_
 ·(refine Le.of [] hB (by exact ⟨znc _, fun _ _ => znc _⟩) ?_ ?_ <;> (repeat' (first | exact leSl_nil | exact leHp_nil | refine leSl_cons sF ?_ ?_ | refine leHp_cons sF ?_ ?_ | exact VLe.refl rfl | exact VLe.cap rfl (by rfl) | refine HLe.same rfl ?_)))
  exact LLe.lv (lv_rep _)
 ·exact ⟨znc _, znc _, by simp, limbs_replicate _, by simp, fun n hn => by simp at hn, by simp [val]⟩
 ·rintro ⟨k, c, z⟩ ⟨hc, hk, hzl, hz, hI⟩ K hK
  simp only at hc hk hzl hz hI ⊢
  have la := limbs_getD hx k
  have lb := limbs_getD hy k
  by_cases hka : k < x.length
  ·have q1 := decide_eq_true (p := (k : Int) < (x.length : Int)) (by omega)
   have ga := lv_get hka
   have hst : ∀ d c' : Nat, d < 4294967296 → (d : Int) = (x.getD k 0 : Nat) - c - (y.getD k 0 : Nat) + 4294967296 * c' → minusInv x y (k + 1) c' ((z.set k d).take (k + 1)) := fun d c' h1 h2 => by
    rw [take_set_succ (by omega)]; exact hI.step _ _ d c' rfl rfl h1 h2
   have wneg : ∀ n : Int, -18446744073709551616 ≤ n → n < 0 → IntKind.u64.wrap n = n + 18446744073709551616 := fun n h1 h2 => by simp [IntKind.wrap, IntKind.bits, IntKind.signed]; omega
   by_cases hkb : k < y.length
   ·have q2 := decide_eq_true (p := (k : Int) < (y.length : Int)) (by omega)
    have gb := lv_get hkb
    generalize x.getD k 0 = s at *
    generalize y.getD k 0 = t at *
    by_cases hn : (s : Int) - c - t < 0
    ·have e3 : IntKind.u64.wrap (IntKind.u64.wrap ((s : Int) - c) - t) = (s : Int) - c - t + 18446744073709551616 := by
      simp [IntKind.wrap, IntKind.bits, IntKind.signed]; omega
     (repeat (first | (with_reducible refine SC.condB sF ?_; with_reducible refine pickT ?_) | (with_reducible refine oA ?_) | ((with_reducible apply SC.region); (focus (simp (disch := omega) only [go_sem, ↓reduceIte, zn1, reduceCtorEq, zi1, if_pos, if_neg, q1, q2, fd63, e3, ga, gb, lv_len, zl5]; rfl)))))
     refine hK _ (k + 1, 1, z.set k (s + 4294967296 - c - t)) ?_ ⟨by simp only; omega, by simp only; omega, by simp [hzl], limbs_set hz _ (by omega), hst _ 1 (by omega) (by omega)⟩ (by simp only; omega)
     (refine Le.of [] hB (by exact ⟨znc _, fun _ _ => znc _⟩) ?_ ?_ <;> (repeat' (first | exact leSl_nil | exact leHp_nil | refine leSl_cons sF ?_ ?_ | refine leHp_cons sF ?_ ?_ | exact VLe.refl rfl | exact VLe.int (by first | rfl | (dsimp only; omega)) | refine HLe.same rfl ?_)))
     exact LLe.lv (lv_set (by omega))
    ·have e3 : IntKind.u64.wrap (IntKind.u64.wrap ((s : Int) - c) - t) = (s : Int) - c - t := by
      simp [IntKind.wrap, IntKind.bits, IntKind.signed]; omega
     (repeat (first | (with_reducible refine SC.condB sF ?_; with_reducible refine pickT ?_) | (with_reducible refine oA ?_) | ((with_reducible apply SC.region); (focus (simp (disch := omega) only [go_sem, ↓reduceIte, zn1, reduceCtorEq, zi1, if_pos, if_neg, q1, q2, fd63, ga, gb, lv_len, zl5]; rfl)))))
     refine hK _ (k + 1, 0, z.set k (s - c - t)) ?_ ⟨by simp only; omega, by simp only; omega, by simp [hzl], limbs_set hz _ (by omega), hst _ 0 (by omega) (by omega)⟩ (by simp only; omega)
     (refine Le.of [] hB (by exact ⟨znc _, fun _ _ => znc _⟩) ?_ ?_ <;> (repeat' (first | exact leSl_nil | exact leHp_nil | refine leSl_cons sF ?_ ?_ | refine leHp_cons sF ?_ ?_ | exact VLe.refl rfl | exact VLe.int (by first | rfl | (dsimp only; omega)) | refine HLe.same rfl ?_)))
     exact LLe.lv (lv_set (by omega))
   ·have q2 := decide_eq_false (p := (k : Int) < (y.length : Int)) (by omega)
    have hb0 := getD_ge hkb
    rw [hb0] at hst
    generalize x.getD k 0 = s at *
    by_cases hn : (s : Int) - c < 0
    ·have e3 : IntKind.u64.wrap ((s : Int) - c) = (s : Int) - c + 18446744073709551616 := wneg _ (by omega) hn
     (repeat (first | (with_reducible refine SC.condB sF ?_; first | with_reducible refine pickT ?_ | with_reducible refine pickF ?_) | (with_reducible refine oA ?_) | ((with_reducible apply SC.region); (focus (simp (disch := omega) only [go_sem, ↓reduceIte, zn1, reduceCtorEq, zi1, if_pos, if_neg, q1, q2, fd63, e3, ga, lv_len, zl5]; rfl)))))
     refine hK _ (k + 1, 1, z.set k (s + 4294967296 - c)) ?_ ⟨by simp only; omega, by simp only; omega, by simp [hzl], limbs_set hz _ (by omega), hst _ 1 (by omega) (by omega)⟩ (by simp only; omega)
     (refine Le.of [] hB (by exact ⟨znc _, fun _ _ => znc _⟩) ?_ ?_ <;> (repeat' (first | exact leSl_nil | exact leHp_nil | refine leSl_cons sF ?_ ?_ | refine leHp_cons sF ?_ ?_ | exact VLe.refl rfl | exact VLe.int (by first | rfl | (dsimp only; omega)) | refine HLe.same rfl ?_)))
     exact LLe.lv (lv_set (by omega))
    ·(repeat (first | (with_reducible refine SC.condB sF ?_; first | with_reducible refine pickT ?_ | with_reducible refine pickF ?_) | (with_reducible refine oA ?_) | ((with_reducible apply SC.region); (focus (simp (disch := omega) only [go_sem, ↓reduceIte, zn1, reduceCtorEq, zi1, if_pos, if_neg, q1, q2, fd63, ga, lv_len, zl5]; rfl)))))
     refine hK _ (k + 1, 0, z.set k (s - c)) ?_ ⟨by simp only; omega, by simp only; omega, by simp [hzl], limbs_set hz _ (by omega), hst _ 0 (by omega) (by omega)⟩ (by simp only; omega)
     (refine Le.of [] hB (by exact ⟨znc _, fun _ _ => znc _⟩) ?_ ?_ <;> (repeat' (first | exact leSl_nil | exact leHp_nil | refine leSl_cons sF ?_ ?_ | refine leHp_cons sF ?_ ?_ | exact VLe.refl rfl | exact VLe.int (by first | rfl | (dsimp only; omega)) | refine HLe.same rfl ?_)))
     exact LLe.lv (lv_set (by omega))
  ·have hkn : k = x.length := by omega
   subst hkn
   have q1 := decide_eq_false (p := ((x.length : Nat) : Int) < (x.length : Int)) (by omega)
   rw [zla (l := z) (by omega)] at hI
   have hd := hI.done hc hx hl hv
   have he := dg_eq hz
   rw [hd, hzl] at he
   have ht : z.take x.length = z := by rw [← hzl]; exact List.take_length
   (repeat (first | (with_reducible refine SC.condB sF ?_; with_reducible refine pickF ?_) | (with_reducible refine oA ?_) | ((with_reducible apply SC.region); (focus (simp (disch := omega) only [go_sem, ↓reduceIte, zn1, zn2, reduceCtorEq, q1]; rfl)))))
   refine retQ_ret Try.results70 sF (by simp (disch := omega) only [go_sem, ↓reduceIte, if_pos, lv_len, lv_take, lv_clo, ht]; rfl) ?_
   rw [he, hzl]
theorem pvalue_dg (k n : Nat) (neg : Bool) (z : Int) (hz : sgn neg n = z) (h : n < 4294967296 ^ k) (hk : k ≤ 1000000000000) : Spec Try.prog 67 [.sc (.bool neg), sv (dg k n)] (iv z) := by
 have := value_i neg (dg k n) (dg_limbs _ _) (by rw [dg_len]; exact hk)
 rwa [dg_val k n h, hz] at this
theorem padd_g (na nb : Bool) (m n K : Nat) (hm : m < 4294967296 ^ K) (hn : n < 4294967296 ^ K) (hK : K ≤ 500000000000) : Spec Try.prog 44 [.ag [.sc (.bool na), sv (limbsOf m)], .ag [.sc (.bool nb), sv (limbsOf n)]] (iv (sgn na m + sgn nb n)) := by
 have lm : (limbsOf m).length ≤ K := canon_len (limbsOf_canon _) (by rw [limbsOf_val]; exact hm)
 have ln : (limbsOf n).length ≤ K := canon_len (limbsOf_canon _) (by rw [limbsOf_val]; exact hn)
 have vm := limbsOf_val m
 have vn := limbsOf_val n
 have t1 := trim_n m (by omega)
 have t2 := trim_n n (by omega)
 by_cases hs : na = nb
 ·subst hs
  have c1 := pplus_i (limbsOf m) (limbsOf n) (limbsOf_limbs _) (limbsOf_limbs _) (by omega) (by omega)
  rw [vm, vn] at c1
  have g1 := val_lt (limbsOf_limbs m)
  have g2 := val_lt (limbsOf_limbs n)
  rw [vm] at g1
  rw [vn] at g2
  have g3 : 4294967296 ^ (limbsOf m).length ≤ 4294967296 ^ max (limbsOf m).length (limbsOf n).length := Nat.pow_le_pow_right (by omega) (by omega)
  have g4 : 4294967296 ^ (limbsOf n).length ≤ 4294967296 ^ max (limbsOf m).length (limbsOf n).length := Nat.pow_le_pow_right (by omega) (by omega)
  have c2 := pvalue_dg (max (limbsOf m).length (limbsOf n).length + 1) (m + n) na (sgn na m + sgn na n) (by cases na <;> simp [sgn]; omega) (by rw [Nat.pow_succ]; omega) (by omega)
  have q1 : (na == na) = true := by simp
  unfold iv sv at *
  refine Spec.run Try.func44 rfl Try.ntmps44 (by simp) sF fun B hB => ?_
  (repeat (first | refine DO.nil (by kernel_rfl) ?_ | (with_reducible refine oA ?_) | ((apply DO.call); (iterate 3 (focus (simp (disch := omega) only [go_sem, ↓reduceIte, zn1] <;> rfl))); (apply DCall.ofX); (focus (assumption)); (focus (simp (disch := omega) only [go_sem] <;> rfl))) | ((with_reducible first | apply SC.condB | apply SC.region | apply DO.run); (focus (simp (disch := omega) only [go_sem, ↓reduceIte, zn1, zn3, zn4, reduceCtorEq, q1] <;> rfl)); (first | refine pickT ?_ | fail_if_success with_reducible refine pickA ?_)) | ((with_reducible refine SC.draw Tab.mixed ?_ ?_); rfl)))
  exact retQ_ret Try.results44 sF sF rfl
 ·have q1 : (na == nb) = false := by simpa using hs
  have c0 := compare_n m n (by omega) (by omega)
  by_cases hl : m < n
  ·rw [Int.sign_eq_neg_one_of_neg (by omega)] at c0
   have hle : (limbsOf m).length ≤ (limbsOf n).length := canon_len (limbsOf_canon _) (by have := val_lt (limbsOf_limbs n); omega)
   have c1 := pminus_i (limbsOf n) (limbsOf m) (limbsOf_limbs _) (limbsOf_limbs _) (by omega) hle (by omega)
   rw [vm, vn] at c1
   have c2 := pvalue_dg (limbsOf n).length (n - m) nb (sgn na m + sgn nb n) (by cases na <;> cases nb <;> simp_all [sgn] <;> omega) (by have := val_lt (limbsOf_limbs n); omega) (by omega)
   have q2 : decide ((-1 : Int) < 0) = true := by decide
   unfold iv sv at *
   refine Spec.run Try.func44 rfl Try.ntmps44 (by simp) sF fun B hB => ?_
   (repeat (first | refine DO.nil (by kernel_rfl) ?_ | (with_reducible refine oA ?_) | ((first | apply SO.call | apply DO.call); (iterate 3 (focus (simp (disch := omega) only [go_sem, ↓reduceIte, zn1] <;> rfl))); (first | apply SCall.ofX | apply DCall.ofX); (focus (assumption)); (focus (simp (disch := omega) only [go_sem] <;> rfl))) | ((with_reducible first | apply wa | apply wb | apply wc | apply wd); (focus (simp (disch := omega) only [go_sem, ↓reduceIte, zn1, zn3, zn4, reduceCtorEq, q1, q2] <;> rfl)); (first | refine pT ?_ | refine pF ?_ | fail_if_success with_reducible refine pA ?_)) | ((with_reducible refine SC.draw Tab.mixed ?_ ?_); rfl) | (with_reducible apply SC.ops)))
   exact retQ_ret Try.results44 sF sF rfl
  ·have hle : (limbsOf n).length ≤ (limbsOf m).length := canon_len (limbsOf_canon _) (by have := val_lt (limbsOf_limbs m); omega)
   have c1 := pminus_i (limbsOf m) (limbsOf n) (limbsOf_limbs _) (limbsOf_limbs _) (by omega) hle (by omega)
   rw [vm, vn] at c1
   have c2 := pvalue_dg (limbsOf m).length (m - n) na (sgn na m + sgn nb n) (by cases na <;> cases nb <;> simp_all [sgn] <;> omega) (by have := val_lt (limbsOf_limbs m); omega) (by omega)
   have q2 : decide (((m : Int) - (n : Int)).sign < 0) = false := by
    rw [decide_eq_false_iff_not]
    have := sign_cases ((m : Int) - (n : Int))
    omega
   unfold iv sv at *
   refine Spec.run Try.func44 rfl Try.ntmps44 (by simp) sF fun B hB => ?_
   (repeat (first | refine DO.nil (by kernel_rfl) ?_ | (with_reducible refine oA ?_) | ((first | apply SO.call | apply DO.call); (iterate 3 (focus (simp (disch := omega) only [go_sem, ↓reduceIte, zn1, zn2] <;> rfl))); (first | apply SCall.ofX | apply DCall.ofX); (focus (assumption)); (focus (simp (disch := omega) only [go_sem] <;> rfl))) | ((with_reducible first | apply wa | apply wb | apply wc | apply wd); (focus (simp (disch := omega) only [go_sem, ↓reduceIte, zn1, zn3, zn4, reduceCtorEq, q1, q2] <;> rfl)); (first | refine pickF ?_ | fail_if_success with_reducible refine pickA ?_)) | ((with_reducible refine SC.draw Tab.mixed ?_ ?_); rfl) | (with_reducible apply SC.ops)))
   exact retQ_ret Try.results44 sF sF rfl
theorem sgn_self (x : Int) : sgn (decide (x < 0)) x.natAbs = x := by unfold sgn; split <;> simp_all <;> omega
theorem padd_i (x y : Int) (K : Nat) (hx : Fits K x) (hy : Fits K y) (hK : K ≤ 500000000000) : Spec Try.prog 44 [iv x, iv y] (iv (x + y)) := by
 have := padd_g (decide (x < 0)) (decide (y < 0)) x.natAbs y.natAbs K hx hy hK
 rwa [sgn_self, sgn_self] at this
theorem getD_app0 (z : List Nat) (j : Nat) : (z ++ [0]).getD j 0 = z.getD j 0 := by
 simp only [List.getD_eq_getElem?_getD, List.getElem?_append]
 split
 ·rfl
 ·rename_i h
  rw [List.getElem?_eq_none (l := z) (by omega)]
  cases hj : [0][j - z.length]? with
  | none => rfl
  | some v =>
   have : v = 0 := by
    have := (List.getElem?_eq_some_iff.1 hj).1
    have e : j - z.length = 0 := by simpa using this
    rw [e] at hj; simpa using hj.symm
   simp [this]
theorem set_app0 {z : List Nat} {j : Nat} (h : j < z.length) (v : Nat) : (z ++ [0]).set j v = z.set j v ++ [0] := by
 rw [List.set_append, if_pos h]
theorem val_app0 (z : List Nat) : val (z ++ [0]) = val z := by rw [val_append]; simp [val]
theorem getD_set_ne {z : List Nat} {i j v : Nat} (h : i ≠ j) : (z.set i v).getD j 0 = z.getD j 0 := by
 simp [List.getD_eq_getElem?_getD, List.getElem?_set_ne h]
set_option maxHeartbeats 1000000 in
theorem ptimes_i (a b : List Nat) (ha : limbs a) (hb : limbs b) (hma : a.length ≤ 400000000000) (hmb : b.length ≤ 400000000000) : Spec Try.prog 73 [sv a, sv b] (sv (dg (a.length + b.length) (val a * val b))) := by
 unfold sv
 have hN : ((a.length : Int) + (b.length : Int)).toNat = a.length + b.length := by omega
 refine Spec.run Try.func73 rfl Try.ntmps73 (by simp) sF fun B hB => ?_
 (repeat (first | (with_reducible refine oA ?_) | ((with_reducible apply SC.region); (focus (simp (disch := omega) only [go_sem, ↓reduceIte, zn1, reduceCtorEq, if_pos, hN]; rfl)))))
 refine SC.loop (fun u : Nat × List Nat => ⟨[(0, .im (lv a) a.length), (1, .im (lv b) b.length), (5, .sl 0 0 (a.length + b.length) 1 none), (17, .im (lv a) a.length), (18, .sc (.int .i64 a.length)), (19, .sc (.int .i64 u.1))], [(0, ⟨80, lv u.2, false⟩)], 1, 66⟩)
  (fun u => u.1 ≤ a.length ∧ u.2.length = a.length + b.length ∧ mulInv a b u.1 0 0 (u.2 ++ [0]) ∧ ∀ j, u.1 + b.length ≤ j → u.2.getD j 0 = 0) (fun u => a.length - u.1) (0, List.replicate (a.length + b.length) 0) ?_ ?_ ?_
 ·(refine Le.of [] hB (by exact ⟨znc _, fun _ _ => znc _⟩) ?_ ?_ <;> (repeat' (first | exact leSl_nil | exact leHp_nil | refine leSl_cons sF ?_ ?_ | refine leHp_cons sF ?_ ?_ | exact VLe.refl rfl | exact VLe.cap rfl (by rfl) | refine HLe.same rfl ?_)))
  exact LLe.lv (lv_rep _)
 ·refine ⟨znc _, by simp, ⟨by simp, ?_, ?_⟩, fun j hj => ?_⟩
  ·exact limbs_snoc (limbs_replicate _) (by omega)
  ·rw [val_app0]; simp [val, val_replicate]
  ·simp only [List.getD_eq_getElem?_getD, List.getElem?_replicate]; split <;> rfl
 ·rintro ⟨i, z⟩ ⟨hi, hzl, hI, hz0⟩ K hK
  simp only at hi hzl hI hz0 ⊢
  by_cases hA : i < a.length
  ·have q1 := decide_eq_true (p := (i : Int) < (a.length : Int)) (by omega)
   have ga := lv_get hA
   have la := limbs_getD ha i
   obtain ⟨s, hs⟩ : ∃ s, s = a.getD i 0 := ⟨_, rfl⟩
   rw [← hs] at ga la
   (repeat (first | (with_reducible refine SC.condB sF ?_; with_reducible refine pickT ?_) | (with_reducible refine oA ?_) | ((with_reducible apply SC.region); (focus (simp (disch := omega) only [go_sem, ↓reduceIte, zn1, reduceCtorEq, if_pos, q1, ga, lv_len, zl5]; rfl)))))
   refine SC.loop (fun u : Nat × Nat × List Nat => ⟨[(0, .im (lv a) a.length), (1, .im (lv b) b.length), (5, .sl 0 0 (a.length + b.length) 1 none), (6, .sc (.int .i64 i)), (7, .sc (.int .u32 s)), (8, .sc (.int .u64 u.2.1)), (17, .im (lv a) a.length), (18, .sc (.int .i64 a.length)), (19, .sc (.int .i64 i)), (24, .im (lv b) b.length), (25, .sc (.int .i64 b.length)), (26, .sc (.int .i64 u.1))], [(0, ⟨80, lv u.2.2, false⟩)], 1, 66⟩)
    (fun u => u.1 ≤ b.length ∧ u.2.1 < 4294967296 ∧ u.2.2.length = a.length + b.length ∧ mulInv a b i u.1 u.2.1 (u.2.2 ++ [0]) ∧ ∀ j, i + b.length ≤ j → u.2.2.getD j 0 = 0) (fun u => b.length - u.1) (0, 0, z) ?_ ?_ ?_
   ·(refine Le.of [] hB (by exact ⟨znc _, fun _ _ => znc _⟩) ?_ ?_ <;> (repeat' (first | exact leSl_nil | exact leHp_nil | refine leSl_cons sF ?_ ?_ | refine leHp_cons sF ?_ ?_ | exact VLe.refl rfl | refine HLe.same rfl ?_)))
    exact LLe.lv rfl
   ·exact ⟨znc _, by simp only; omega, hzl, hI, hz0⟩
   ·rintro ⟨k, c, z⟩ ⟨hk, hc, hzl, hI, hz0⟩ K' hK'
    simp only at hk hc hzl hI hz0 ⊢
    have lb := limbs_getD hb k
    have hz : limbs z := fun n hn => hI.2.1 n (List.mem_append.2 (.inl hn))
    have lz := limbs_getD hz (i + k)
    by_cases hB' : k < b.length
    ·have q2 := decide_eq_true (p := (k : Int) < (b.length : Int)) (by omega)
     have hidx : ((i : Int) + (k : Int)).toNat = i + k := by omega
     have hzi : i + k < z.length := by omega
     have gz := lv_get hzi
     have gb := lv_get hB'
     have hst := hI.step (by simp; omega) s (b.getD k 0) (z.getD (i + k) 0) hs.symm rfl (getD_app0 z _)
     rw [set_app0 hzi] at hst
     generalize b.getD k 0 = t at *
     generalize z.getD (i + k) 0 = r at *
     have hp : s * t ≤ 4294967295 * 4294967295 := Nat.mul_le_mul (by omega) (by omega)
     have hm : (s : Int) * (t : Int) = ((s * t : Nat) : Int) := by simp
     generalize s * t = pr at *
     (repeat (first | (with_reducible refine SC.condB sF ?_; with_reducible refine pickT ?_) | (with_reducible refine oA ?_) | ((with_reducible apply SC.region); (focus (simp (disch := omega) only [go_sem, ↓reduceIte, zn1, reduceCtorEq, zi1, if_pos, if_neg, q2, hidx, gz, gb, hm, fd32, lv_len, zl5]; rfl)))))
     refine hK' _ (k + 1, (c + r + pr) / 4294967296, z.set (i + k) ((c + r + pr) % 4294967296)) ?_ ⟨by simp only; omega, by simp only; omega, by simp [hzl], hst, fun j hj => ?_⟩ (by simp only; omega)
     ·(refine Le.of [] hB (by exact ⟨znc _, fun _ _ => znc _⟩) ?_ ?_ <;> (repeat' (first | exact leSl_nil | exact leHp_nil | refine leSl_cons sF ?_ ?_ | refine leHp_cons sF ?_ ?_ | exact VLe.refl rfl | exact VLe.int (by first | rfl | (dsimp only; omega)) | refine HLe.same rfl ?_)))
      exact LLe.lv (lv_set (by omega))
     ·simp only
      rw [getD_set_ne (by omega)]; exact hz0 j hj
    ·have hkb : k = b.length := by omega
     subst hkb
     have q2 := decide_eq_false (p := ((b.length : Nat) : Int) < (b.length : Int)) (by omega)
     have hidx : ((i : Int) + (b.length : Int)).toNat = i + b.length := by omega
     have hzi : i + b.length < z.length := by omega
     have hst := hI.step (by simp; omega) s 0 0 hs.symm (getD_ge (by omega)) (by rw [getD_app0]; exact hz0 _ (znb _))
     rw [set_app0 hzi] at hst
     have e1 : (c + 0 + s * 0) / 4294967296 = 0 := by simp; omega
     have e2 : (c + 0 + s * 0) % 4294967296 = c := by simp; omega
     rw [e1, e2] at hst
     have hrow := hst.row (by omega)
     (repeat (first | (with_reducible refine SC.condB sF ?_; with_reducible refine pickF ?_) | (with_reducible refine oA ?_) | ((with_reducible apply SC.region); (focus (simp (disch := omega) only [go_sem, ↓reduceIte, zn1, reduceCtorEq, if_pos, q2, hidx, lv_len]; rfl)))))
     refine hK _ (i + 1, z.set (i + b.length) c) ?_ ⟨by simp only; omega, by simp [hzl], hrow, fun j hj => ?_⟩ (by simp only; omega)
     ·(refine Le.of [] hB (by exact ⟨znc _, fun _ _ => znc _⟩) ?_ ?_ <;> (repeat' (first | exact leSl_nil | exact leHp_nil | refine leSl_cons sF ?_ ?_ | refine leHp_cons sF ?_ ?_ | exact VLe.refl rfl | refine HLe.same rfl ?_)))
      exact LLe.lv (lv_set (by omega))
     ·simp only at hj ⊢
      rw [getD_set_ne (by omega)]; exact hz0 j (by omega)
  ·have q1 := decide_eq_false (p := (i : Int) < (a.length : Int)) (by omega)
   have hd := hI.done (by omega)
   rw [val_app0] at hd
   have hz : limbs z := fun n hn => hI.2.1 n (List.mem_append.2 (.inl hn))
   have he := dg_eq hz
   rw [hd, hzl] at he
   have ht : z.take (a.length + b.length) = z := by rw [← hzl]; exact List.take_length
   (repeat (first | (with_reducible refine SC.condB sF ?_; with_reducible refine pickF ?_) | (with_reducible refine oA ?_) | ((with_reducible apply SC.region); (focus (simp (disch := omega) only [go_sem, ↓reduceIte, zn1, zn2, reduceCtorEq, q1]; rfl)))))
   refine retQ_ret Try.results73 sF (by simp (disch := omega) only [go_sem, ↓reduceIte, if_pos, lv_len, lv_take, lv_clo, ht]; rfl) ?_
   rw [he, hzl]
theorem pmul_i (x y : Int) (K : Nat) (hx : Fits K x) (hy : Fits K y) (hK : K ≤ 400000000000) : Spec Try.prog 53 [iv x, iv y] (iv (x * y)) := by
 have lx := fits_len hx
 have ly := fits_len hy
 have t1 := trim_n x.natAbs (by omega)
 have t2 := trim_n y.natAbs (by omega)
 have c1 := ptimes_i (limbsOf x.natAbs) (limbsOf y.natAbs) (limbsOf_limbs _) (limbsOf_limbs _) (by omega) (by omega)
 have g1 := val_lt (limbsOf_limbs x.natAbs)
 have g2 := val_lt (limbsOf_limbs y.natAbs)
 have hmul := Nat.mul_lt_mul'' g1 g2
 rw [← Nat.pow_add] at hmul
 rw [limbsOf_val, limbsOf_val] at c1 hmul
 have c2 := pvalue_dg ((limbsOf x.natAbs).length + (limbsOf y.natAbs).length) (x.natAbs * y.natAbs) (decide (x < 0) != decide (y < 0)) (x * y) (sgn_mul x y) hmul (by omega)
 unfold iv sv at *
 refine Spec.run Try.func53 rfl Try.ntmps53 (by simp) sF fun B hB => ?_
 (repeat (first | refine DO.nil (by kernel_rfl) ?_ | (with_reducible refine oA ?_) | ((apply DO.call); (iterate 3 (focus (simp (disch := omega) only [go_sem, ↓reduceIte, zn1, zn2] <;> rfl))); (apply DCall.ofX); (focus (assumption)); (focus (simp (disch := omega) only [go_sem] <;> rfl))) | ((with_reducible first | apply SC.region | apply DO.run); (focus (simp (disch := omega) only [go_sem, ↓reduceIte, zn1, zn3, zn4, reduceCtorEq] <;> rfl)); (fail_if_success with_reducible refine pickA ?_)) | ((with_reducible refine SC.draw Tab.mixed ?_ ?_); rfl)))
 exact retQ_ret Try.results53 sF sF rfl
end Go.Proofs.Ytdcbmdmlhjemmaa
namespace Go.Proofs.Ytdcbmdmlhjemmaa
theorem val_two (m : Nat) : val [m % 4294967296, m / 4294967296] = m := by
 simp only [val]; omega
theorem limbs_two (m : Nat) (hm : m < 18446744073709551616) : limbs [m % 4294967296, m / 4294967296] := by
 intro x hx; simp at hx; omega
theorem drop_cons {l : List Nat} {k : Nat} (h : k < l.length) : l.drop k = l.getD k 0 :: l.drop (k + 1) := by
 rw [List.drop_eq_getElem_cons h, List.getD_eq_getElem?_getD, zlb h]; rfl
theorem drop_set_cons {l : List Nat} {k x : Nat} (h : k < l.length) : (l.set k x).drop k = x :: l.drop (k + 1) := by
 rw [List.drop_eq_getElem_cons (by simpa using h)]
 simp [List.drop_set]
def shortInv (a : List Nat) (d k r : Nat) (z : List Nat) : Prop := z.length = a.length ∧ limbs z ∧ r < d ∧ val (a.drop k) = val (z.drop k) * d + r
theorem shortInv.step {a z : List Nat} {d k r x : Nat} (h : shortInv a d (k + 1) r z) (hk : k < a.length) (hx : a.getD k 0 = x) (hx2 : x < 4294967296) : shortInv a d k ((r * 4294967296 + x) % d) (z.set k ((r * 4294967296 + x) / d)) ∧ (r * 4294967296 + x) / d < 4294967296 := by
 obtain ⟨h1, h2, h3, h4⟩ := h
 have hq : (r * 4294967296 + x) / d < 4294967296 := by
  rw [Nat.div_lt_iff_lt_mul (by omega)]
  have : (r + 1) * 4294967296 ≤ d * 4294967296 := Nat.mul_le_mul_right _ h3
  rw [Nat.mul_comm 4294967296 d]; omega
 refine ⟨⟨by simp [h1], limbs_set h2 _ hq, Nat.mod_lt _ (by omega), ?_⟩, hq⟩
 rw [drop_cons hk, drop_set_cons (by omega), hx]
 simp only [val]
 rw [h4]
 have hd := Nat.div_add_mod (r * 4294967296 + x) d
 generalize (r * 4294967296 + x) / d = q at *
 generalize (r * 4294967296 + x) % d = m at *
 grind
theorem shortInv.done {a z : List Nat} {d r : Nat} (h : shortInv a d 0 r z) : val z = val a / d ∧ r = val a % d := by
 obtain ⟨h1, h2, h3, h4⟩ := h
 simp only [zl2] at h4
 rw [h4, Nat.mul_comm]
 exact ⟨by rw [Nat.mul_add_div (by omega), Nat.div_eq_of_lt h3]; rfl, by rw [Nat.mul_add_mod, Nat.mod_eq_of_lt h3]⟩
theorem est_zero {r d : List Nat} {n : Nat} (hd : limbs d) (hl : r.length = d.length) (hn : d.length = n + 1) (hle : val d ≤ val r) (x y : Nat) (hx : r.getD n 0 = x) (hy : d.getD n 0 = y) :
  0 < max 1 (x / (y + 1)) ∧ max 1 (x / (y + 1)) * val d ≤ val r := by
 refine ⟨by omega, ?_⟩
 rcases Nat.lt_or_ge (x / (y + 1)) 1 with h | h
 ·rw [Nat.max_eq_left (by omega)]; omega
 ·rw [Nat.max_eq_right h]
  have e1 := val_split r n (by omega)
  have e2 := val_split d n (by omega)
  rw [drop_cons (show n < r.length by omega), hx] at e1
  rw [drop_cons (show n < d.length by omega), hy] at e2
  rw [List.drop_of_length_le (by omega)] at e1 e2
  have h3 := val_lt (limbs_take hd n)
  rw [List.length_take, Nat.min_eq_left (by omega)] at h3
  simp only [val, Nat.mul_zero, Nat.add_zero] at e1 e2
  rw [e1, e2]
  have h4 := Nat.div_mul_le_self x (y + 1)
  generalize x / (y + 1) = q at *
  generalize 4294967296 ^ n = p at *
  have h5 : q * (val (d.take n) + p * y) ≤ q * (p * (y + 1)) := Nat.mul_le_mul_left _ (by rw [Nat.mul_add]; omega)
  have h6 : p * (q * (y + 1)) ≤ p * x := Nat.mul_le_mul_left _ h4
  have h7 : q * (p * (y + 1)) = p * (q * (y + 1)) := by grind
  omega
theorem est_more {r d : List Nat} {n k : Nat} (hd : limbs d) (hn : d.length = n + 2) (hk : r.length = n + 2 + k + 1) (x z y : Nat) (hx : r.getD (n + k + 2) 0 = x) (hz : r.getD (n + k + 1) 0 = z) (hy : d.getD (n + 1) 0 = y) (hx0 : x ≠ 0) (hyb : y < 4294967296) :
  0 < (x * 4294967296 + z) / (y + 1) ∧ (x * 4294967296 + z) / (y + 1) * 4294967296 ^ k * val d ≤ val r := by
 have hq : 0 < (x * 4294967296 + z) / (y + 1) := Nat.div_pos (by omega) (by omega)
 refine ⟨hq, ?_⟩
 have e1 := val_split r (n + k + 1) (by omega)
 have e2 := val_split d (n + 1) (by omega)
 rw [drop_cons (show n + k + 1 < r.length by omega), hz, drop_cons (show n + k + 1 + 1 < r.length by omega), hx] at e1
 rw [drop_cons (show n + 1 < d.length by omega), hy] at e2
 rw [List.drop_of_length_le (by omega)] at e1 e2
 have h3 := val_lt (limbs_take hd (n + 1))
 rw [List.length_take, Nat.min_eq_left (by omega)] at h3
 simp only [val, Nat.mul_zero, Nat.add_zero] at e1 e2
 rw [e1, e2]
 have h4 := Nat.div_mul_le_self (x * 4294967296 + z) (y + 1)
 generalize (x * 4294967296 + z) / (y + 1) = q at *
 rw [show n + k + 1 = k + (n + 1) by omega, Nat.pow_add 4294967296 k (n + 1)]
 generalize 4294967296 ^ (n + 1) = p at *
 generalize 4294967296 ^ k = s at *
 have h5 : q * s * (val (d.take (n + 1)) + p * y) ≤ q * s * (p * (y + 1)) := Nat.mul_le_mul_left _ (by rw [Nat.mul_add]; omega)
 have h6 : s * p * (q * (y + 1)) ≤ s * p * (x * 4294967296 + z) := Nat.mul_le_mul_left _ h4
 have h7 : q * s * (p * (y + 1)) = s * p * (q * (y + 1)) := by grind
 have h8 : s * p * (z + 4294967296 * x) = s * p * (x * 4294967296 + z) := by grind
 omega
theorem val_one (x : Nat) : val [x] = x := by simp [val]
theorem limbs_one {x : Nat} (h : x < 4294967296) : limbs [x] := by intro y hy; simp at hy; omega
def divInv (A D R q : Nat) : Prop := A = R + q * D
theorem divInv.step {A D R q e : Nat} (h : divInv A D R q) (he : e * D ≤ R) : divInv A D (R - e * D) (q + e) := by
 unfold divInv at *; rw [Nat.add_mul]; omega
theorem divInv.done {a b s R q : Nat} (h : divInv (a * s) (b * s) R q) (hs : 0 < s) (hb : 0 < b) (hR : R < b * s) : q = a / b ∧ R / s = a % b := by
 unfold divInv at h
 have h1 : a * s / (b * s) = q := by
  rw [h, Nat.add_mul_div_right _ _ (Nat.mul_pos hb hs), Nat.div_eq_of_lt hR, zn9]
 have h2 : a * s % (b * s) = R := by
  rw [h, Nat.add_mul_mod_self_right, Nat.mod_eq_of_lt hR]
 rw [Nat.mul_div_mul_right _ _ hs] at h1
 rw [Nat.mul_mod_mul_right] at h2
 refine ⟨h1.symm, ?_⟩
 rw [← h2, Nat.mul_div_cancel _ hs]
theorem divInv.le {A D R q : Nat} (h : divInv A D R q) (hD : 0 < D) : R ≤ A ∧ q ≤ A := by
 unfold divInv at h
 have : q * 1 ≤ q * D := Nat.mul_le_mul_left _ hD
 omega
theorem divmod_spec (na nb : Bool) (A B : Nat) (hB : 0 < B) :
  (if na ≠ nb then -((if na = true ∧ 0 < A % B then ((A / B : Nat) : Int) + 1 else ((A / B : Nat) : Int))) else (if na = true ∧ 0 < A % B then ((A / B : Nat) : Int) + 1 else ((A / B : Nat) : Int))) = sgn na A / sgn nb B ∧
  (if na = true ∧ 0 < A % B then (B : Int) - ((A % B : Nat) : Int) else ((A % B : Nat) : Int)) = sgn na A % sgn nb B := by
 have hd := Nat.div_add_mod A B
 have hm := Nat.mod_lt A hB
 have hB' : (0 : Int) < B := by omega
 have hd' : (B : Int) * ((A / B : Nat) : Int) + ((A % B : Nat) : Int) = A := by
  have := congrArg (fun n : Nat => (n : Int)) hd
  simpa using this
 generalize hq : A / B = q at *
 generalize hr : A % B = r at *
 have key : ∀ (x Q R : Int), R + (B : Int) * Q = x → 0 ≤ R → R < B → x / (B : Int) = Q ∧ x % (B : Int) = R := fun x Q R h1 h2 h3 => (Int.ediv_emod_unique hB').2 ⟨h1, h2, h3⟩
 cases na
 ·have h := key (A : Int) q r (by omega) (by omega) (by omega)
  cases nb
  ·simp [sgn, h.1, h.2]
  ·simp [sgn, h.1, h.2, Int.ediv_neg, Int.emod_neg]
 ·by_cases h0 : 0 < r
  ·have h := key (-(A : Int)) (-((q : Int) + 1)) ((B : Int) - r) (by rw [← hd', Int.mul_neg, Int.mul_add]; omega) (by omega) (by omega)
   cases nb
   ·simp [sgn, h.1, h.2, h0]
   ·simp [sgn, h.1, h.2, h0, Int.ediv_neg, Int.emod_neg]
  ·have hr0 : r = 0 := by omega
   subst hr0
   have h := key (-(A : Int)) (-(q : Int)) 0 (by rw [← hd', Int.mul_neg]; omega) (by omega) (by omega)
   cases nb
   ·simp [sgn, h.1, h.2]
   ·simp [sgn, h.1, h.2, Int.ediv_neg, Int.emod_neg]
theorem val_take_set {z : List Nat} {i y : Nat} (h : i < z.length) : val ((z.set i y).take (i + 1)) = val (z.take i) + 4294967296 ^ i * y := by
 rw [val_take_succ', List.take_set_of_le (znb _)]
 congr 2
 simp [List.getD_eq_getElem?_getD, h]
theorem val_take_all (z : List Nat) {n : Nat} (h : z.length ≤ n) : val (z.take n) = val z := by rw [zla h]
theorem val_snoc_set {z : List Nat} {n y : Nat} (h : z.length = n + 1) : val (z.set n y) = val (z.take n) + 4294967296 ^ n * y := by
 rw [← val_take_set (by omega), val_take_all]; simp; omega
theorem val_last {z : List Nat} {n : Nat} (h : z.length = n + 1) : val z = val (z.take n) + 4294967296 ^ n * z.getD n 0 := by
 rw [← val_take_succ', val_take_all]; omega
theorem drop_set_ge {z : List Nat} {i j y : Nat} (h : i < j) : (z.set i y).drop j = z.drop j := List.drop_set_of_lt h
theorem getD_of_drop {u z : List Nat} {i : Nat} (h : z.drop i = u.drop i) : z.getD i 0 = u.getD i 0 := by
 have h1 : (z.drop i)[0]? = (u.drop i)[0]? := by rw [h]
 simp only [zl5, Nat.add_zero] at h1
 simp [List.getD_eq_getElem?_getD, h1]
theorem drop_next {u z : List Nat} {i : Nat} (h : z.drop i = u.drop i) : z.drop (i + 1) = u.drop (i + 1) := by
 rw [← List.drop_drop, ← List.drop_drop, h]
def shiftInv (x : List Nat) (p i c : Nat) (z : List Nat) : Prop := z.length = x.length + 1 ∧ limbs z ∧ c < p ∧ val (z.take i) + 4294967296 ^ i * c = val (x.take i) * p
theorem shiftInv.step {x z : List Nat} {p i c d w : Nat} (h : shiftInv x p i c z) (hi : i < x.length) (hd : x.getD i 0 = d) (hd2 : d < 4294967296) (hw : w = c + d * p) (hp : p ≤ 4294967296) : shiftInv x p (i + 1) (w / 4294967296) (z.set i (w % 4294967296)) ∧ w < 4294967296 * p := by
 obtain ⟨h1, h2, h3, h4⟩ := h
 have hlt : w < 4294967296 * p := by
  have : d * p ≤ 4294967295 * p := Nat.mul_le_mul_right _ (by omega)
  omega
 refine ⟨⟨by simp [h1], limbs_set h2 _ (by omega), Nat.div_lt_of_lt_mul hlt, ?_⟩, hlt⟩
 rw [val_take_set (by omega), val_take_succ', hd, Nat.pow_succ, Nat.add_mul, ← h4, Nat.mul_assoc]
 have e : 4294967296 ^ i * w = 4294967296 ^ i * (w % 4294967296) + 4294967296 ^ i * (4294967296 * (w / 4294967296)) := by
  rw [← Nat.mul_add]; congr 1; omega
 have e2 : 4294967296 ^ i * w = 4294967296 ^ i * c + 4294967296 ^ i * (d * p) := by rw [hw, Nat.mul_add]
 rw [Nat.mul_assoc]
 omega
theorem shiftInv.done {x z : List Nat} {p c : Nat} (h : shiftInv x p x.length c z) : val (z.set x.length c) = val x * p := by
 obtain ⟨h1, h2, h3, h4⟩ := h
 rw [val_snoc_set h1, h4, List.take_length]
def UU (u0 u1 u2 ul M : Nat) : Nat := ((u0 * 4294967296 + u1) * 4294967296 + u2) * M + ul
def VV (v1 v2 vl M : Nat) : Nat := (v1 * 4294967296 + v2) * M + vl
theorem val_top3 {u : List Nat} {k : Nat} (h : u.length = k + 3) : val u = UU (u.getD (k + 2) 0) (u.getD (k + 1) 0) (u.getD k 0) (val (u.take k)) (4294967296 ^ k) := by
 have p1 : 4294967296 ^ (k + 2) = 4294967296 ^ k * 4294967296 * 4294967296 := by rw [Nat.pow_succ, Nat.pow_succ]
 have p2 : 4294967296 ^ (k + 1) = 4294967296 ^ k * 4294967296 := by rw [Nat.pow_succ]
 rw [val_last (n := k + 2) h, val_take_succ', val_take_succ', p1, p2]
 unfold UU
 generalize u.getD (k + 2) 0 = a
 generalize u.getD (k + 1) 0 = b
 generalize u.getD k 0 = c
 generalize val (u.take k) = d
 generalize 4294967296 ^ k = M
 have e1 : M * 4294967296 * 4294967296 * a = (M * a) * (4294967296 * 4294967296) := by ac_rfl
 have e2 : M * 4294967296 * b = (M * b) * 4294967296 := by ac_rfl
 have e3 : ((a * 4294967296 + b) * 4294967296 + c) * M = (M * a) * (4294967296 * 4294967296) + (M * b) * 4294967296 + M * c := by
  rw [Nat.add_mul, Nat.add_mul, Nat.add_mul]; ac_rfl
 omega
theorem val_top2 {v : List Nat} {k : Nat} (h : v.length = k + 2) : val v = VV (v.getD (k + 1) 0) (v.getD k 0) (val (v.take k)) (4294967296 ^ k) := by
 rw [val_last (n := k + 1) h, val_take_succ', Nat.pow_succ]
 unfold VV
 generalize v.getD (k + 1) 0 = b
 generalize v.getD k 0 = c
 generalize val (v.take k) = d
 generalize 4294967296 ^ k = M
 have e2 : M * 4294967296 * b = (M * b) * 4294967296 := by ac_rfl
 have e3 : (b * 4294967296 + c) * M = (M * b) * 4294967296 + M * c := by
  rw [Nat.add_mul]; ac_rfl
 omega
theorem top_le {u0 u1 u2 ul v1 v2 vl M : Nat} (hM : 0 < M) (hu : UU u0 u1 u2 ul M < 4294967296 * VV v1 v2 vl M) (hvl : vl < M) (h2 : v2 < 4294967296) : u0 ≤ v1 := by
 refine Nat.le_of_lt_succ ?_
 have h3 : u0 * 4294967296 * 4294967296 * M ≤ UU u0 u1 u2 ul M := by
  unfold UU
  refine Nat.le_trans ?_ (Nat.le_add_right _ _)
  refine Nat.mul_le_mul_right _ ?_
  omega
 have h4 : VV v1 v2 vl M < (v1 + 1) * 4294967296 * M := by
  unfold VV
  have : (v1 * 4294967296 + v2 + 1) * M ≤ (v1 + 1) * 4294967296 * M := Nat.mul_le_mul_right _ (by omega)
  rw [Nat.add_mul _ 1] at this
  omega
 have h5 : u0 * 4294967296 * 4294967296 * M < 4294967296 * ((v1 + 1) * 4294967296 * M) := by omega
 have h6 : u0 * (4294967296 * 4294967296 * M) < (v1 + 1) * (4294967296 * 4294967296 * M) := by
  have a1 : u0 * (4294967296 * 4294967296 * M) = u0 * 4294967296 * 4294967296 * M := by ac_rfl
  have a2 : (v1 + 1) * (4294967296 * 4294967296 * M) = 4294967296 * ((v1 + 1) * 4294967296 * M) := by ac_rfl
  rw [a1, a2]; exact h5
 exact Nat.lt_of_mul_lt_mul_right h6
theorem guess_down {u0 u1 u2 ul v1 v2 vl M q r Q : Nat} (hul : ul < M) (hq : q * v1 + r = u0 * 4294967296 + u1) (hQ : Q * VV v1 v2 vl M ≤ UU u0 u1 u2 ul M) (hQb : Q < 4294967296) (hle : Q ≤ q)
  (ht : 4294967295 < q ∨ r * 4294967296 + u2 < q * v2) : Q ≤ q - 1 ∧ 1 ≤ q := by
 rcases Nat.lt_or_ge Q q with h | h
 ·omega
 ·exfalso
  have e : Q = q := by omega
  subst e
  rcases ht with ht | ht
  ·omega
  ·have h1 : Q * ((v1 * 4294967296 + v2) * M) ≤ Q * VV v1 v2 vl M := Nat.mul_le_mul_left _ (by unfold VV; omega)
   have h2 : UU u0 u1 u2 ul M < ((u0 * 4294967296 + u1) * 4294967296 + u2 + 1) * M := by unfold UU; rw [Nat.add_mul _ 1]; omega
   have h3 : Q * (v1 * 4294967296 + v2) * M < ((u0 * 4294967296 + u1) * 4294967296 + u2 + 1) * M := by rw [Nat.mul_assoc]; omega
   have h4 := Nat.lt_of_mul_lt_mul_right h3
   rw [← hq, Nat.mul_add] at h4
   have e2 : Q * (v1 * 4294967296) = Q * v1 * 4294967296 := by ac_rfl
   omega
theorem guess_end {u0 u1 u2 ul v1 v2 vl M q r : Nat} (hM : 0 < M) (hvl : vl < M) (hv : 1 ≤ v1) (hq : q * v1 + r = u0 * 4294967296 + u1) (hqb : q < 4294967296) (ht : q * v2 ≤ r * 4294967296 + u2) : q * VV v1 v2 vl M < UU u0 u1 u2 ul M + VV v1 v2 vl M := by
 have h1 : q * (v1 * 4294967296 + v2) ≤ (u0 * 4294967296 + u1) * 4294967296 + u2 := by
  rw [← hq, Nat.mul_add]
  have e2 : q * (v1 * 4294967296) = q * v1 * 4294967296 := by ac_rfl
  omega
 have h2 := Nat.mul_le_mul_right M h1
 have h3 : q * vl ≤ 4294967295 * M := Nat.mul_le_mul (by omega) (by omega)
 have h4 : 1 * 4294967296 * M ≤ (v1 * 4294967296 + v2) * M := Nat.mul_le_mul_right _ (by omega)
 have e : q * VV v1 v2 vl M = q * (v1 * 4294967296 + v2) * M + q * vl := by unfold VV; rw [Nat.mul_add, Nat.mul_assoc]
 unfold UU
 rw [e]
 have : VV v1 v2 vl M = (v1 * 4294967296 + v2) * M + vl := rfl
 omega
theorem guess_break {u0 u1 v1 q r : Nat} (hu : u0 ≤ v1) (hu1 : u1 < 4294967296) (hv : 1 ≤ v1) (hq : q * v1 + r = u0 * 4294967296 + u1) (hr : 4294967296 ≤ r) : q < 4294967296 := by
 refine Nat.lt_of_not_le fun h => ?_
 have := Nat.mul_le_mul_right v1 h
 omega
theorem guess_first {u0 u1 v1 : Nat} (hu : u0 ≤ v1) (hu1 : u1 < 4294967296) (hv : 2147483648 ≤ v1) : (u0 * 4294967296 + u1) / v1 ≤ 4294967297 := by
 refine Nat.le_of_lt_succ (Nat.div_lt_of_lt_mul ?_)
 omega
theorem guess_over {u0 u1 u2 ul v1 v2 vl M Q : Nat} (hul : ul < M) (hM : 0 < M) (hv1 : 0 < v1) (hu1 : u1 < 4294967296) (hu2 : u2 < 4294967296) (hQ : Q * VV v1 v2 vl M ≤ UU u0 u1 u2 ul M) : Q ≤ (u0 * 4294967296 + u1) / v1 := by
 rw [Nat.le_div_iff_mul_le hv1]
 have h1 : Q * (v1 * 4294967296 * M) ≤ Q * VV v1 v2 vl M := Nat.mul_le_mul_left _ (by
  unfold VV; rw [Nat.add_mul]; omega)
 have h2 : UU u0 u1 u2 ul M < (u0 * 4294967296 + u1 + 1) * 4294967296 * M := by
  have : ((u0 * 4294967296 + u1) * 4294967296 + u2 + 1) * M ≤ (u0 * 4294967296 + u1 + 1) * 4294967296 * M := Nat.mul_le_mul_right _ (by omega)
  rw [Nat.add_mul _ 1] at this
  unfold UU; omega
 have h3 : Q * v1 * (4294967296 * M) < (u0 * 4294967296 + u1 + 1) * (4294967296 * M) := by
  have a1 : Q * v1 * (4294967296 * M) = Q * (v1 * 4294967296 * M) := by ac_rfl
  have a2 : (u0 * 4294967296 + u1 + 1) * (4294967296 * M) = (u0 * 4294967296 + u1 + 1) * 4294967296 * M := by ac_rfl
  rw [a1, a2]; omega
 have := Nat.lt_of_mul_lt_mul_right h3
 omega
def msInv (u v : List Nat) (q i br c : Nat) (z : List Nat) : Prop :=
 z.length = u.length ∧ limbs z ∧ br ≤ 1 ∧ c < 4294967296 ∧ z.drop i = u.drop i ∧ val (z.take i) + q * val (v.take i) = val (u.take i) + 4294967296 ^ i * (c + br)
theorem msInv.step {u v z : List Nat} {q i br c e y w d br' : Nat} (h : msInv u v q i br c z) (hi : i < u.length) (he : v.getD i 0 = e) (hy : u.getD i 0 = y) (he2 : e < 4294967296) (hy2 : y < 4294967296) (hq : q < 4294967296)
  (hw : w = c + q * e) (hd : d < 4294967296) (hb : br' ≤ 1) (hdd : d + w % 4294967296 + br = y + 4294967296 * br') : msInv u v q (i + 1) br' (w / 4294967296) (z.set i d) ∧ w < 18446744073709551616 := by
 obtain ⟨h1, h2, h3, h4, h5, h6⟩ := h
 have hp : q * e ≤ 4294967295 * 4294967295 := Nat.mul_le_mul (by omega) (by omega)
 refine ⟨⟨by simp [h1], limbs_set h2 _ hd, hb, by omega, ?_, ?_⟩, by omega⟩
 ·rw [drop_set_ge (by omega)]; exact drop_next h5
 ·rw [val_take_set (by omega), val_take_succ', val_take_succ', he, hy, Nat.pow_succ]
  have a1 : q * (val (v.take i) + 4294967296 ^ i * e) = q * val (v.take i) + 4294967296 ^ i * (q * e) := by rw [Nat.mul_add]; ac_rfl
  have a2 : 4294967296 ^ i * 4294967296 * (w / 4294967296 + br') = 4294967296 ^ i * (4294967296 * (w / 4294967296)) + 4294967296 ^ i * (4294967296 * br') := by rw [Nat.mul_add]; ac_rfl
  have a3 : 4294967296 ^ i * (d + w % 4294967296 + br) = 4294967296 ^ i * (y + 4294967296 * br') := by rw [hdd]
  have a4 : 4294967296 ^ i * w = 4294967296 ^ i * (w % 4294967296) + 4294967296 ^ i * (4294967296 * (w / 4294967296)) := by rw [← Nat.mul_add]; congr 1; omega
  have a5 : 4294967296 ^ i * w = 4294967296 ^ i * c + 4294967296 ^ i * (q * e) := by rw [hw, Nat.mul_add]
  rw [a1, a2]
  rw [Nat.mul_add, Nat.mul_add, Nat.mul_add] at a3
  rw [Nat.mul_add] at h6
  omega
def abInv (u v : List Nat) (i c : Nat) (z : List Nat) : Prop := z.length = u.length ∧ limbs z ∧ c < 4294967296 ∧ z.drop i = u.drop i ∧ val (z.take i) + 4294967296 ^ i * c = val (u.take i) + val (v.take i)
theorem abInv.step {u v z : List Nat} {i c e y w : Nat} (h : abInv u v i c z) (hi : i < u.length) (he : v.getD i 0 = e) (hy : u.getD i 0 = y) (he2 : e < 4294967296) (hy2 : y < 4294967296) (hw : w = c + (y + e)) :
  abInv u v (i + 1) (w / 4294967296) (z.set i (w % 4294967296)) := by
 obtain ⟨h1, h2, h3, h4, h5⟩ := h
 refine ⟨by simp [h1], limbs_set h2 _ (by omega), by omega, ?_, ?_⟩
 ·rw [drop_set_ge (by omega)]; exact drop_next h4
 ·rw [val_take_set (by omega), val_take_succ', val_take_succ', he, hy, Nat.pow_succ]
  have a2 : 4294967296 ^ i * 4294967296 * (w / 4294967296) = 4294967296 ^ i * (4294967296 * (w / 4294967296)) := by ac_rfl
  have a4 : 4294967296 ^ i * w = 4294967296 ^ i * (w % 4294967296) + 4294967296 ^ i * (4294967296 * (w / 4294967296)) := by rw [← Nat.mul_add]; congr 1; omega
  have a5 : 4294967296 ^ i * w = 4294967296 ^ i * c + (4294967296 ^ i * y + 4294967296 ^ i * e) := by rw [hw, Nat.mul_add, Nat.mul_add]
  rw [a2]
  omega
theorem digit_right {u v z : List Nat} {n q br c : Nat} (hu : u.length = n + 1) (hv : v.length = n) (h : msInv u v q n br c z) (hQ : val u / val v ≤ q) (hV : 0 < val v) (hc : c + br ≤ u.getD n 0) :
  q = val u / val v ∧ val (z.set n (u.getD n 0 - (c + br))) = val u % val v := by
 obtain ⟨h1, h2, h3, h4, h5, h6⟩ := h
 have hval : val (z.set n (u.getD n 0 - (c + br))) + q * val v = val u := by
  rw [val_snoc_set (by omega), val_last hu]
  rw [val_take_all v (by omega)] at h6
  have : 4294967296 ^ n * u.getD n 0 = 4294967296 ^ n * (u.getD n 0 - (c + br)) + 4294967296 ^ n * (c + br) := by rw [← Nat.mul_add]; congr 1; omega
  omega
 have hq : q ≤ val u / val v := (Nat.le_div_iff_mul_le hV).2 (by omega)
 have hq2 : q = val u / val v := by omega
 refine ⟨hq2, ?_⟩
 have := Nat.div_add_mod (val u) (val v)
 rw [← hq2, Nat.mul_comm] at this
 omega
theorem digit_less {u v z zz : List Nat} {n q br c ca : Nat} (hu : u.length = n + 1) (hv : v.length = n) (lu : limbs u) (lv' : limbs v) (h : msInv u v q n br c z) (hc : u.getD n 0 < c + br) (hQ : val u / val v ≤ q) (hq : q * val v < val u + val v) (hV : 0 < val v)
  (z' : List Nat) (hz' : z' = z.set n ((4294967296 + u.getD n 0 - (c + br)) % 4294967296)) (ha : abInv z' v n ca zz) : 1 ≤ q ∧ q - 1 = val u / val v ∧ ((4294967296 + u.getD n 0 - (c + br)) % 4294967296 + ca) % 4294967296 = 0 ∧ val (zz.set n 0) = val u % val v := by
 obtain ⟨h1, h2, h3, h4, h5, h6⟩ := h
 obtain ⟨g1, g2, g3, g4, g5⟩ := ha
 have ht : z'.take n = z.take n := by rw [hz', List.take_set_of_le (znb _)]
 rw [ht, val_take_all v (by omega)] at g5
 rw [val_take_all v (by omega)] at h6
 have hzl : z'.length = n + 1 := by rw [hz']; simp; omega
 have hU := val_last hu
 have lz : val (zz.take n) < 4294967296 ^ n := by
  have := val_lt (limbs_take g2 n)
  rwa [List.length_take, Nat.min_eq_left (by omega)] at this
 have lV : val v < 4294967296 ^ n := by have := val_lt lv'; rwa [hv] at this
 have lu0 := limbs_getD lu n
 generalize u.getD n 0 = t at *
 obtain ⟨s, hs⟩ : ∃ s, c + br = t + s := ⟨c + br - t, by omega⟩
 rw [hs] at h6 hc ⊢
 rw [Nat.mul_add] at h6
 have hs1 : 1 ≤ s := by omega
 have e1 : val u + 4294967296 ^ n * s = val (z.take n) + q * val v := by omega
 have hsl : 4294967296 ^ n * 1 ≤ 4294967296 ^ n * s := Nat.mul_le_mul_left _ hs1
 have lzt : val (z.take n) < 4294967296 ^ n := by
  have := val_lt (limbs_take h2 n)
  rwa [List.length_take, Nat.min_eq_left (by omega)] at this
 have e2 : val u < q * val v := by omega
 have hq1 : 1 ≤ q := by
  rcases Nat.eq_zero_or_pos q with h | h
  ·subst h; omega
  ·exact h
 have e3 : q - 1 = val u / val v := by
  have a1 : val u / val v < q := (Nat.div_lt_iff_lt_mul hV).2 e2
  have a2 : q - 1 ≤ val u / val v := by
   rw [Nat.le_div_iff_mul_le hV, Nat.sub_mul]
   omega
  omega
 have hd := Nat.div_add_mod (val u) (val v)
 have hm := Nat.mod_lt (val u) hV
 rw [← e3, Nat.mul_comm, Nat.sub_mul, zna] at hd
 have hqv : val v ≤ q * val v := Nat.le_mul_of_pos_left _ hq1
 have e4 : val (zz.take n) + 4294967296 ^ n * ca = val u % val v + 4294967296 ^ n * s := by omega
 have e5 : ca = s := by
  have hp : 0 < 4294967296 ^ n := Nat.pow_pos (by omega)
  have b1 := congrArg (· / 4294967296 ^ n) e4
  simp only [Nat.add_mul_div_left _ _ hp] at b1
  rw [Nat.div_eq_of_lt lz, Nat.div_eq_of_lt (by omega)] at b1
  omega
 subst e5
 refine ⟨hq1, e3, ?_, ?_⟩
 ·omega
 ·rw [val_snoc_set (by omega), Nat.mul_zero, Nat.add_zero]; omega
def dvInv (X V n k : Nat) (Z q : List Nat) : Prop := limbs Z ∧ limbs q ∧ Z.length = q.length + n ∧ k ≤ q.length ∧ val (Z.drop k) < V ∧ val Z + 4294967296 ^ k * val (q.drop k) * V = X
theorem dvInv.seg {X V n j : Nat} {Z q : List Nat} (h : dvInv X V n (j + 1) Z q) (hV : V < 4294967296 ^ n) :
  val (Z.drop (j + (n + 1))) = 0 ∧ val ((Z.drop j).take (n + 1)) = val (Z.drop j) ∧ val ((Z.drop j).take (n + 1)) < 4294967296 * V := by
 obtain ⟨h1, h2, h3, h4, h5, h6⟩ := h
 have hlen : (Z.drop (j + 1)).length ≥ n := by simp; omega
 have hs := val_split (Z.drop (j + 1)) n (by omega)
 rw [List.drop_drop] at hs
 have hz : val (Z.drop (j + 1 + n)) = 0 := by
  rcases Nat.eq_zero_or_pos (val (Z.drop (j + 1 + n))) with e | e
  ·exact e
  ·have := Nat.mul_le_mul_left (4294967296 ^ n) e
   omega
 have e : j + 1 + n = j + (n + 1) := by omega
 rw [e] at hz
 have hs2 := val_split (Z.drop j) (n + 1) (by simp; omega)
 rw [List.drop_drop, hz, Nat.mul_zero, Nat.add_zero] at hs2
 refine ⟨hz, hs2.symm, ?_⟩
 rw [← hs2, drop_cons (by omega : j < Z.length)]
 have := limbs_getD h1 j
 simp only [val]
 have : 4294967296 * (val (Z.drop (j + 1)) + 1) ≤ 4294967296 * V := Nat.mul_le_mul_left _ h5
 omega
theorem dvInv.step {X V n j : Nat} {Z q z : List Nat} (h : dvInv X V n (j + 1) Z q) (hV : V < 4294967296 ^ n) (h0 : 0 < V) (hz : limbs z) (hzl : z.length = n + 1) (hv : val z = val ((Z.drop j).take (n + 1)) % V) :
  dvInv X V n j (Z.take j ++ (z ++ Z.drop (j + (n + 1)))) (q.set j (val ((Z.drop j).take (n + 1)) / V)) := by
 obtain ⟨s1, s2, s3⟩ := h.seg hV
 obtain ⟨h1, h2, h3, h4, h5, h6⟩ := h
 have hq : val ((Z.drop j).take (n + 1)) / V < 4294967296 := Nat.div_lt_of_lt_mul (by rw [Nat.mul_comm]; exact s3)
 generalize hU : val ((Z.drop j).take (n + 1)) = U at *
 have hl1 : (Z.take j).length = j := by simp; omega
 have hd : (Z.take j ++ (z ++ Z.drop (j + (n + 1)))).drop j = z ++ Z.drop (j + (n + 1)) := by
  rw [List.drop_append, hl1, Nat.sub_self, List.drop_eq_nil_of_le (by omega)]; rfl
 have hvz : val (z ++ Z.drop (j + (n + 1))) = U % V := by rw [val_append, s1, hv]; omega
 refine ⟨?_, limbs_set h2 _ hq, ?_, by simp; omega, ?_, ?_⟩
 ·intro x hx
  rcases List.mem_append.1 hx with hx | hx
  ·exact limbs_take h1 _ x hx
  ·rcases List.mem_append.1 hx with hx | hx
   ·exact hz x hx
   ·exact limbs_drop h1 _ x hx
 ·simp; omega
 ·rw [hd, hvz]; exact Nat.mod_lt _ h0
 ·rw [val_append, hl1, hvz, drop_set_cons (by omega)]
  simp only [val]
  have hZ := val_split Z j (by omega)
  rw [← s2] at hZ
  rw [hZ, Nat.pow_succ] at h6
  have hdm := Nat.div_add_mod U V
  have a1 : 4294967296 ^ j * (U / V + 4294967296 * val (q.drop (j + 1))) * V = 4294967296 ^ j * (V * (U / V)) + 4294967296 ^ j * 4294967296 * val (q.drop (j + 1)) * V := by
   rw [Nat.mul_add, Nat.add_mul]; ac_rfl
  have a2 : 4294967296 ^ j * U = 4294967296 ^ j * (V * (U / V)) + 4294967296 ^ j * (U % V) := by rw [← Nat.mul_add, hdm]
  rw [a1]
  omega
theorem dvInv.done {x y p n : Nat} {Z q : List Nat} (h : dvInv (x * p) (y * p) n 0 Z q) (hp : 0 < p) (hy : 0 < y) : val q = x / y ∧ val Z / p = x % y := by
 obtain ⟨_, _, _, _, h5, h6⟩ := h
 rw [zl2] at h5 h6
 simp only [Nat.pow_zero, zna] at h6
 exact divInv.done (h6.symm : divInv (x * p) (y * p) (val Z) (val q)) hp hy h5
theorem back_limb {Z : List Nat} {i s : Nat} (hZ : limbs Z) (hs : s ≤ 32) (hi : i + 1 < Z.length) : ((Z.getD (i + 1) 0 * 4294967296 + Z.getD i 0) / 2 ^ s) % 4294967296 = (val Z / 2 ^ s / 4294967296 ^ i) % 4294967296 := by
 have hp : 0 < 4294967296 ^ i := Nat.pow_pos (by omega)
 have lt : val (Z.take i) < 4294967296 ^ i := by
  have := val_lt (limbs_take hZ i)
  rwa [List.length_take, Nat.min_eq_left (by omega)] at this
 have e0 : val Z / 4294967296 ^ i = val (Z.drop i) := by
  rw [val_split Z i (by omega), Nat.add_mul_div_left _ _ hp, Nat.div_eq_of_lt lt, zn9]
 have e : val Z / 2 ^ s / 4294967296 ^ i = val (Z.drop i) / 2 ^ s := by
  rw [Nat.div_div_eq_div_mul, Nat.mul_comm, ← Nat.div_div_eq_div_mul, e0]
 rw [e, drop_cons (by omega), drop_cons hi]
 simp only [val]
 generalize Z.getD (i + 1) 0 = a
 generalize Z.getD i 0 = c
 generalize val (Z.drop (i + 1 + 1)) = W
 obtain ⟨t, ht⟩ : ∃ t, s + t = 32 := ⟨32 - s, by omega⟩
 have hb : 4294967296 = 2 ^ s * 2 ^ t := by rw [← Nat.pow_add, ht]
 have e1 : c + 4294967296 * (a + 4294967296 * W) = (a * 4294967296 + c) + 2 ^ s * (2 ^ t * W * 4294967296) := by
  have : 4294967296 * (4294967296 * W) = 2 ^ s * (2 ^ t * W * 4294967296) := by
   have h1 : 4294967296 * (4294967296 * W) = 2 ^ s * 2 ^ t * (4294967296 * W) := by rw [← hb]
   rw [h1]
   ac_rfl
  omega
 rw [e1, Nat.add_mul_div_left _ _ (Nat.pow_pos (by omega)), Nat.add_mul_mod_self_right]
def bl (x : Nat) : Nat := if x = 0 then 0 else x.log2 + 1
theorem bl_lt (x : Nat) : x < 2 ^ bl x := by
 unfold bl; split
 ·omega
 ·exact Nat.lt_log2_self
theorem bl_le {x : Nat} (h : x ≠ 0) : 2 ^ (bl x - 1) ≤ x ∧ 1 ≤ bl x := by
 unfold bl; rw [if_neg h]
 exact ⟨Nat.log2_self_le h, by omega⟩
theorem bl_eq {x L : Nat} (h1 : x < 2 ^ L) (h2 : 2 ^ (L - 1) ≤ x) (h3 : 1 ≤ L) : bl x = L := by
 have hx : x ≠ 0 := by have := Nat.pow_pos (a := 2) (n := L - 1) (by omega); omega
 obtain ⟨a, b⟩ := bl_le hx
 have c := bl_lt x
 have e1 : bl x - 1 < L := (Nat.pow_lt_pow_iff_right (a := 2) (by omega)).1 (by omega)
 have e2 : L - 1 < bl x := (Nat.pow_lt_pow_iff_right (a := 2) (by omega)).1 (by omega)
 omega
theorem bl_div {x k : Nat} (h : x / 2 ^ k ≠ 0) : bl x = bl (x / 2 ^ k) + k := by
 obtain ⟨a, b⟩ := bl_le h
 have c := bl_lt (x / 2 ^ k)
 generalize bl (x / 2 ^ k) = L at *
 refine bl_eq ?_ ?_ (by omega)
 ·rw [Nat.pow_add]; exact (Nat.div_lt_iff_lt_mul (Nat.pow_pos (by omega))).1 c
 ·rw [show L + k - 1 = (L - 1) + k by omega, Nat.pow_add]; exact (Nat.le_div_iff_mul_le (Nat.pow_pos (by omega))).1 a
theorem bl_le_of {x k : Nat} (h : x < 2 ^ k) : bl x ≤ k := by
 by_cases hx : x = 0
 ·subst hx; unfold bl; simp
 ·obtain ⟨a, b⟩ := bl_le hx
  have : bl x - 1 < k := (Nat.pow_lt_pow_iff_right (a := 2) (by omega)).1 (by omega)
  omega
def strIx (s : ByteArray) (n : Int) : Option V := if 0 ≤ n then (s[n.toNat]?).map fun b => .sc (.int .u8 b.toNat) else none
section
variable {P : Program}
@[go_sem] theorem exIndex_str (T : Nat) (s : ByteArray) (k : IntKind) (n : Int) : exIndex P T (.sc (.string s)) (.sc (.int k n)) = if isStr P T = true then strIx s n else none := by
 simp only [exIndex, strIx]
 by_cases h1 : isStr P T = true <;> by_cases h2 : 0 ≤ n <;> simp [h1, h2]
end
def tabOk (s : ByteArray) : Bool := (List.range 256).all fun y => match s[y]? with | some b => b.toNat == bl y | none => false
theorem strIx_tab {s : ByteArray} {y : Nat} (hy : y < 256) (h : tabOk s = true) : strIx s (y : Int) = some (.sc (.int .u8 (bl y : Nat))) := by
 have := List.all_eq_true.1 h y (List.mem_range.2 hy)
 unfold strIx
 rw [if_pos (by omega), Int.toNat_natCast]
 split at this
 ·rename_i b hb
  rw [hb]
  have e : b.toNat = bl y := by simpa using this
  simp [e]
 ·cases this
theorem mi16 : min 16 32 = 16 := rfl
theorem mi8 : min 8 32 = 8 := rfl
theorem mi32 : min 32 64 = 32 := rfl
set_option maxRecDepth 100000 in
theorem len32_s (x : Nat) (hx : x < 4294967296) : Spec Try.prog 96 [.sc (.int .u32 x)] (.sc (.int .i64 (bl x : Nat))) := by
 have d1 : (x : Int).fdiv 65536 = ((x / 65536 : Nat) : Int) := by rw [Int.fdiv_eq_ediv_of_nonneg _ (by omega)]; rfl
 have d2 : (x : Int).fdiv 256 = ((x / 256 : Nat) : Int) := by rw [Int.fdiv_eq_ediv_of_nonneg _ (by omega)]; rfl
 have d3 : ((x / 65536 : Nat) : Int).fdiv 256 = ((x / 65536 / 256 : Nat) : Int) := by rw [Int.fdiv_eq_ediv_of_nonneg _ (by omega)]; rfl
 have fin : ∀ (y k : Nat), y < 256 → bl y + k = bl x → k ≤ 24 → ((k : Int) + (bl y : Nat)) = (bl x : Nat) := fun y k _ h _ => by omega
 have hb : bl x ≤ 32 := bl_le_of (by omega)
 by_cases h1 : 65536 ≤ x
 ·have q1 := decide_eq_true (p := (65536 : Int) ≤ (x : Int)) (by omega)
  by_cases h2 : 256 ≤ x / 65536
  ·have q2 := decide_eq_true (p := (256 : Int) ≤ ((x / 65536 : Nat) : Int)) (by omega)
   have e1 := bl_div (x := x) (k := 16) (by omega)
   have e2 := bl_div (x := x / 65536) (k := 8) (by omega)
   have hy : x / 65536 / 256 < 256 := by omega
   simp only [Nat.reducePow] at e1 e2
   generalize x / 65536 / 256 = y at *
   have hby : bl y ≤ 8 := by omega
   refine Spec.run Try.func96 rfl Try.ntmps96 (by simp) sF fun B hB => ?_
   (repeat (first | (with_reducible refine SC.condB sF ?_; with_reducible refine pickT ?_) | (with_reducible refine oA ?_) | ((with_reducible apply SC.region); (focus (simp (disch := omega) only [go_sem, ↓reduceIte, zn1, reduceCtorEq, zi1, zi2, if_neg, q1, q2, d1, d3, mi16, mi8]; rfl)))))
   refine SC.ops ?_
   (repeat (refine SO.run sF ?_))
   refine SO.run (by simp (disch := omega) only [go_sem, ↓reduceIte]; rw [strIx_tab hy]; rotate_left; kernel_rfl; simp (disch := omega) only [go_sem]; rfl) ?_
   (repeat (refine SO.run sF ?_))
   (repeat ((with_reducible refine oA ?_)))
   refine retQ_ret Try.results96 sF sF ?_
   rw [e1, e2]; congr 2; omega
  ·have q2 := decide_eq_false (p := (256 : Int) ≤ ((x / 65536 : Nat) : Int)) (by omega)
   have e1 := bl_div (x := x) (k := 16) (by omega)
   have hy : x / 65536 < 256 := by omega
   simp only [Nat.reducePow] at e1
   generalize x / 65536 = y at *
   refine Spec.run Try.func96 rfl Try.ntmps96 (by simp) sF fun B hB => ?_
   (repeat (first | (with_reducible refine SC.condB sF ?_; first | with_reducible refine pickT ?_ | with_reducible refine pickF ?_) | (with_reducible refine oA ?_) | ((with_reducible apply SC.region); (focus (simp (disch := omega) only [go_sem, ↓reduceIte, zn1, reduceCtorEq, zi1, zi2, if_neg, q1, q2, d1, mi16]; rfl)))))
   refine SC.ops ?_
   (repeat (refine SO.run sF ?_))
   refine SO.run (by simp (disch := omega) only [go_sem, ↓reduceIte]; rw [strIx_tab hy]; rotate_left; kernel_rfl; simp (disch := omega) only [go_sem]; rfl) ?_
   (repeat (refine SO.run sF ?_))
   (repeat ((with_reducible refine oA ?_)))
   refine retQ_ret Try.results96 sF sF ?_
   rw [e1]; congr 2; omega
 ·have q1 := decide_eq_false (p := (65536 : Int) ≤ (x : Int)) (by omega)
  by_cases h2 : 256 ≤ x
  ·have q2 := decide_eq_true (p := (256 : Int) ≤ (x : Int)) (by omega)
   have e1 := bl_div (x := x) (k := 8) (by omega)
   have hy : x / 256 < 256 := by omega
   simp only [Nat.reducePow] at e1
   generalize x / 256 = y at *
   refine Spec.run Try.func96 rfl Try.ntmps96 (by simp) sF fun B hB => ?_
   (repeat (first | (with_reducible refine SC.condB sF ?_; first | with_reducible refine pickT ?_ | with_reducible refine pickF ?_) | (with_reducible refine oA ?_) | ((with_reducible apply SC.region); (focus (simp (disch := omega) only [go_sem, ↓reduceIte, zn1, reduceCtorEq, zi1, zi2, if_neg, q1, q2, d2, mi8]; rfl)))))
   refine SC.ops ?_
   (repeat (refine SO.run sF ?_))
   refine SO.run (by simp (disch := omega) only [go_sem, ↓reduceIte]; rw [strIx_tab hy]; rotate_left; kernel_rfl; simp (disch := omega) only [go_sem]; rfl) ?_
   (repeat (refine SO.run sF ?_))
   (repeat ((with_reducible refine oA ?_)))
   refine retQ_ret Try.results96 sF sF ?_
   rw [e1]; congr 2; omega
  ·have q2 := decide_eq_false (p := (256 : Int) ≤ (x : Int)) (by omega)
   have hy : x < 256 := by omega
   refine Spec.run Try.func96 rfl Try.ntmps96 (by simp) sF fun B hB => ?_
   (repeat (first | (with_reducible refine SC.condB sF ?_; with_reducible refine pickF ?_) | (with_reducible refine oA ?_) | ((with_reducible apply SC.region); (focus (simp (disch := omega) only [go_sem, ↓reduceIte, zn1, reduceCtorEq, q1, q2]; rfl)))))
   refine SC.ops ?_
   (repeat (refine SO.run sF ?_))
   refine SO.run (by simp (disch := omega) only [go_sem, ↓reduceIte]; rw [strIx_tab hy]; rotate_left; kernel_rfl; simp (disch := omega) only [go_sem]; rfl) ?_
   (repeat (refine SO.run sF ?_))
   (repeat ((with_reducible refine oA ?_)))
   refine retQ_ret Try.results96 sF sF ?_
   congr 2; omega
theorem lz32_s (x : Nat) (hx : x < 4294967296) : Spec Try.prog 93 [.sc (.int .u32 x)] (.sc (.int .i64 ((32 - bl x : Nat) : Int))) := by
 have hb : bl x ≤ 32 := bl_le_of (by omega)
 have c1 := len32_s x hx
 refine Spec.run Try.func93 rfl Try.ntmps93 (by simp) sF fun B hB => ?_
 (repeat (first | (with_reducible refine oA ?_) | ((apply SO.call); (iterate 3 (focus (simp (disch := omega) only [go_sem, ↓reduceIte] <;> rfl))); (apply SCall.ofX); (focus (assumption)); (focus (simp (disch := omega) only [go_sem] <;> rfl))) | ((with_reducible first | apply SC.region | apply SO.run); (focus (simp (disch := omega) only [go_sem, ↓reduceIte, zn2, reduceCtorEq] <;> rfl)); (fail_if_success with_reducible refine pickA ?_)) | (with_reducible apply SC.ops)))
 refine retQ_ret Try.results93 sF sF ?_
 congr 2; omega
theorem or_shift (c d s : Nat) (hc : c < 2 ^ s) (hw : c + d * 2 ^ s < 18446744073709551616) : bits BinOp.or IntKind.u64 (c : Int) ((d * 2 ^ s : Nat) : Int) = ((c + d * 2 ^ s : Nat) : Int) := by
 have h := u64_or_nat c (d * 2 ^ s) (by omega) (by omega)
 have e : c ||| d * 2 ^ s = c + d * 2 ^ s := by
  have := Nat.shiftLeft_add_eq_or_of_lt (b := c) (i := s) hc d
  rw [Nat.shiftLeft_eq, Nat.or_comm] at this
  omega
 rw [e] at h; exact h
theorem lv_sc (l : List Nat) : ∀ y ∈ lv l, ∃ v, y = .sc v := by
 intro y hy
 unfold lv at hy
 obtain ⟨n, _, rfl⟩ := List.mem_map.1 hy
 exact ⟨_, rfl⟩
section
variable {P : Program} {B : Base}
theorem retI_r {fn : Func} {x y : V} {sl : List (Nat × V)} {hp hp' : List (Nat × Blk)} {nx nx' nt : Nat} {rs : List ResultVar} (hr : fn.results = rs.toArray) (h1 : resG P ⟨sl, hp, nx, nt⟩ rs = some y) (h2 : Le B ⟨[(0, y)], hp, nx, 1⟩ ⟨[(0, x)], hp', nx', 1⟩) : retI P fn B x hp' nx' .ret ⟨sl, hp, nx, nt⟩ := retI_ret hr h1 h2
end
theorem shift_n (x : List Nat) (s : Nat) (hx : limbs x) (hs : s ≤ 31) (hm : x.length ≤ 400000000000) : NewP Try.prog 94 [sv x, .sc (.int .i64 s)] ⟨80, lv (dg (x.length + 1) (val x * 2 ^ s)), false⟩ 0 (x.length + 1) 1 none := by
 refine NewP.of (by omega) (lv_sc _) ?_
 have hN : ((x.length : Int) + 1).toNat = x.length + 1 := by omega
 have hms : min s 64 = s := by omega
 have hp : 2 ^ s ≤ 2147483648 := by have := Nat.pow_le_pow_right (n := 2) (by omega) hs; omega
 unfold sv
 refine Inl.run Try.func94 rfl Try.ntmps94 (by simp) sF fun B hB => ?_
 (repeat (first | (with_reducible refine oA ?_) | ((with_reducible apply SC.region); (focus (simp (disch := omega) only [go_sem, ↓reduceIte, reduceCtorEq, if_pos, hN]; rfl)))))
 refine SC.loop (fun u : Nat × Nat × List Nat => ⟨[(0, .im (lv x) x.length), (1, .sc (.int .i64 s)), (5, .sl 0 0 (x.length + 1) 1 none), (6, .sc (.int .u64 u.2.1)), (13, .im (lv x) x.length), (14, .sc (.int .i64 x.length)), (15, .sc (.int .i64 u.1))], [(0, ⟨80, lv u.2.2, false⟩)], 1, 41⟩)
  (fun u => u.1 ≤ x.length ∧ shiftInv x (2 ^ s) u.1 u.2.1 u.2.2) (fun u => x.length - u.1) (0, 0, List.replicate (x.length + 1) 0) ?_ ?_ ?_
 ·(refine Le.of [] hB (by exact ⟨znc _, fun _ _ => znc _⟩) ?_ ?_ <;> (repeat' (first | exact leSl_nil | exact leHp_nil | refine leSl_cons sF ?_ ?_ | refine leHp_cons sF ?_ ?_ | exact VLe.refl rfl | exact VLe.cap rfl (by rfl) | refine HLe.same rfl ?_ | refine LLe.cons ?_ ?_)))
  exact LLe.lv (lv_rep _)
 ·exact ⟨znc _, by simp, limbs_replicate _, Nat.pow_pos (by omega), by simp [val]⟩
 ·rintro ⟨k, c, z⟩ ⟨hk, hI⟩ K hK
  simp only at hk hI ⊢
  have hI' := hI
  obtain ⟨hzl, hz, hc, _⟩ := hI'
  by_cases hlt : k < x.length
  ·have q1 := decide_eq_true (p := (k : Int) < (x.length : Int)) (by omega)
   have hg := lv_get hlt
   have hd := limbs_getD hx k
   have hst := fun w hw => hI.step (w := w) hlt rfl hd hw (by omega)
   generalize x.getD k 0 = d at *
   have hs1 := hst (c + d * 2 ^ s) rfl
   have e1 : (d : Int) * 2 ^ s = ((d * 2 ^ s : Nat) : Int) := by simp
   have e2 := or_shift c d s hc (by omega)
   have hb : d * 2 ^ s < 18446744073709551616 := by omega
   generalize c + d * 2 ^ s = w at *
   generalize d * 2 ^ s = m at *
   (repeat (first | (with_reducible refine SC.condB sF ?_; with_reducible refine pickT ?_) | (with_reducible refine oA ?_) | ((with_reducible apply SC.region); (focus (simp (disch := omega) only [go_sem, ↓reduceIte, zn1, reduceCtorEq, zi1, if_pos, if_neg, q1, hms, e1, e2, hg, fd32, lv_len, zl5]; rfl)))))
   refine hK _ (k + 1, w / 4294967296, z.set k (w % 4294967296)) ?_ ⟨by simp only; omega, hs1.1⟩ (by simp only; omega)
   (refine Le.of [] hB (by exact ⟨znc _, fun _ _ => znc _⟩) ?_ ?_ <;> (repeat' (first | exact leSl_nil | exact leHp_nil | refine leSl_cons sF ?_ ?_ | refine leHp_cons sF ?_ ?_ | exact VLe.refl rfl | refine HLe.same rfl ?_)))
   exact LLe.lv (lv_set (by omega))
  ·have hkn : k = x.length := by omega
   subst hkn
   have q1 := decide_eq_false (p := ((x.length : Nat) : Int) < (x.length : Int)) (by omega)
   have hd := hI.done
   have hc2 : c < 4294967296 := by omega
   have he := dg_eq (limbs_set hz x.length (x := c) hc2)
   rw [hd, List.length_set, hzl] at he
   have hls : (lv z).set x.length (.sc (.int .u32 (c : Int))) = lv (z.set x.length c) := lv_set rfl
   (repeat (first | (with_reducible refine SC.condB sF ?_; with_reducible refine pickF ?_) | (with_reducible refine oA ?_) | ((with_reducible apply SC.region); (focus (simp (disch := omega) only [go_sem, ↓reduceIte, zn1, zn2, reduceCtorEq, if_pos, q1, hls, lv_len]; rfl)))))
   refine retI_r Try.results94 sF ?_
   rw [he]
   (refine Le.of [] hB (by exact ⟨znc _, fun _ _ => znc _⟩) ?_ ?_ <;> (repeat' (first | exact leSl_nil | exact leHp_nil | refine leSl_cons sF ?_ ?_ | refine leHp_cons sF ?_ ?_ | exact VLe.refl rfl | refine HLe.same rfl ?_)))
   exact LLe.lv rfl
end Go.Proofs.Ytdcbmdmlhjemmaa
