/- Texts joined: Qh Jl Jo Qi Qj. -/
import Derived.Test.YtdcbmdmlhjemmaaVj
set_option linter.all false
open Nat renaming reduceEqDiff → zn1, reduceLT → zn2, reduceLeDiff → zn3, reduceAdd → zn4, reduceMul → zn5, reduceSub → zn6, reduceBEq → zn7, mul_one → zn8, zero_add → zn9, one_mul → zna, le_refl → znb, zero_le → znc, add_sub_cancel_left → znd, sub_eq_zero_of_le → zne, add_assoc → znf
open Int renaming reduceToNat → zi1, reducePow → zi2
open List renaming length_append → zl1, drop_zero → zl2, take_succ_cons → zl3, take_zero → zl4, getElem?_drop → zl5, append_assoc → zl6, nil_append → zl7, cons_append → zl8, drop_succ_cons → zl9, take_of_length_le → zla, getElem?_eq_getElem → zlb, getElem?_eq_some_iff → zlc, map_cons → zld, map_nil → zle, all_eq_true → zlf
namespace Go.Proofs.Ytdcbmdmlhjemmaa
open Go.RowKit
def seg (U : List Nat) (j : Nat) (z : List Nat) : List Nat := U.take j ++ (z ++ U.drop (j + z.length))
section
variable {U z : List Nat} {i j x : Nat}
theorem seg_len (h : j + z.length ≤ U.length) : (seg U j z).length = U.length := by unfold seg; simp; omega
theorem seg_get (h : j + z.length ≤ U.length) (hi : i < z.length) : (lv (seg U j z))[j + i]? = some (.sc (.int .u32 (z.getD i 0 : Nat))) := by
 have e : (seg U j z).getD (j + i) 0 = z.getD i 0 := by
  unfold seg
  rw [List.getD_eq_getElem?_getD, List.getD_eq_getElem?_getD, List.getElem?_append_right (by simp; omega), List.length_take, Nat.min_eq_left (by omega), znd, List.getElem?_append_left hi]
 rw [lv_get (by rw [seg_len h]; omega), e]
theorem seg_set (h : j + z.length ≤ U.length) (hi : i < z.length) {n : Int} (hn : n = (x : Int)) : (lv (seg U j z)).set (j + i) (.sc (.int .u32 n)) = lv (seg U j (z.set i x)) := by
 subst hn
 have e : (seg U j z).set (j + i) x = seg U j (z.set i x) := by
  unfold seg
  rw [List.set_append_right _ _ (by simp; omega), List.length_take, Nat.min_eq_left (by omega), znd, List.set_append_left _ _ hi, List.length_set]
 rw [← e]; exact lv_set rfl
theorem seg_self {m : Nat} (h : j + m ≤ U.length) : seg U j ((U.drop j).take m) = U := by
 unfold seg
 rw [show j + ((U.drop j).take m).length = j + m by simp; omega, ← List.drop_drop]
 rw [List.take_append_drop, List.take_append_drop]
end
theorem or_up (r u : Nat) (hr : r < 4294967296) (hu : u < 4294967296) : bits BinOp.or IntKind.u64 ((r : Int) * 4294967296) (u : Int) = ((r * 4294967296 + u : Nat) : Int) := by
 have h := u64_or_nat (r * 4294967296) u (by omega) (by omega)
 have e : r * 4294967296 ||| u = r * 4294967296 + u := by
  have := Nat.shiftLeft_add_eq_or_of_lt (b := u) (i := 32) (by omega) r
  rw [Nat.shiftLeft_eq] at this
  exact this.symm
 rw [e] at h
 rw [← h]; simp
theorem SC.meet {P : Program} {B : Base} {α : Type} (I : α → SS) (Inv : α → Prop) {id : Nat} {c0 : Code} {C cs : List Code} {Q : Exit → SS → Prop} {s : SS} (h : ∀ K : SS → Prop, (∀ s' z, Le B s' (I z) → Inv z → K s') → SC P B C (blockQ id (thenQ K Q)) s) (k : ∀ z, Inv z → SC P B (c0 :: cs) Q (I z)) : SC P B C (blockQ id (thenQ (SC P B (c0 :: cs) Q) Q)) s :=
 h (SC P B (c0 :: cs) Q) (fun _ z a b => SC.weak (by simp) a (k z b))
theorem getD_take {l : List Nat} {m i : Nat} (h : i < m) : (l.take m).getD i 0 = l.getD i 0 := by
 rw [List.getD_eq_getElem?_getD, List.getD_eq_getElem?_getD, List.getElem?_take, if_pos h]
set_option maxHeartbeats 4000000 in
theorem digit_i (U V : List Nat) (j n : Nat) (hU : limbs U) (hV : limbs V) (hn : 2 ≤ n) (hnV : n ≤ V.length) (hj : j + n + 1 ≤ U.length) (hm : U.length ≤ 800000000000)
  (htop : 2147483648 ≤ V.getD (n - 1) 0) (hlt : val ((U.drop j).take (n + 1)) < 4294967296 * val (V.take n)) :
  Inl Try.prog 95 [.sl 0 j (n + 1) 1 none, .sl 1 0 n 1 (some n)] [(0, ⟨80, lv U, false⟩), (1, ⟨80, lv V, false⟩)] 3
   (.sc (.int .u32 (val ((U.drop j).take (n + 1)) / val (V.take n) : Nat))) [(0, ⟨80, lv (seg U j (dg (n + 1) (val ((U.drop j).take (n + 1)) % val (V.take n)))), false⟩), (1, ⟨80, lv V, false⟩)] 3 := by
 obtain ⟨k, rfl⟩ : ∃ k, n = k + 2 := ⟨n - 2, by omega⟩
 rw [show k + 2 - 1 = k + 1 by omega] at htop
 have hul : ((U.drop j).take (k + 2 + 1)).length = k + 3 := by simp; omega
 have hvl : (V.take (k + 2)).length = k + 2 := by simp; omega
 have lu := limbs_take (limbs_drop hU j) (k + 2 + 1)
 have lw := limbs_take hV (k + 2)
 have hseg := seg_self (U := U) (j := j) (m := k + 2 + 1) (by omega)
 have hvg : ∀ i, i < k + 2 → (V.take (k + 2)).getD i 0 = V.getD i 0 := fun i hi => getD_take hi
 have wg : ∀ i, i < k + 2 → (lv V)[i]? = some (.sc (.int .u32 (V.getD i 0 : Nat))) := fun i hi => lv_get (by omega)
 generalize (U.drop j).take (k + 2 + 1) = u at *
 generalize V.take (k + 2) = v at *
 have g0 := seg_get (U := U) (z := u) (j := j) (i := k) (by omega) (by omega)
 have g1 := seg_get (U := U) (z := u) (j := j) (i := k + 1) (by omega) (by omega)
 have g2 := seg_get (U := U) (z := u) (j := j) (i := k + 2) (by omega) (by omega)
 rw [hseg] at g0 g1 g2
 have w0 := wg k (by omega)
 have w1 := wg (k + 1) (by omega)
 have i1 : (((k + 2 : Nat) : Int) - 1).toNat = k + 1 := by omega
 have i2 : (((k + 2 : Nat) : Int) - 2).toNat = k := by omega
 have tu := val_top3 (u := u) (k := k) hul
 have tv := val_top2 (v := v) (k := k) hvl
 rw [hvg _ (by omega), hvg _ (by omega)] at tv
 have b0 := limbs_getD lu (k + 2)
 have b1 := limbs_getD lu (k + 1)
 have b2 := limbs_getD lu k
 have c1 := limbs_getD hV (k + 1)
 have c2 := limbs_getD hV k
 have bul := val_lt (limbs_take lu k)
 have bvl := val_lt (limbs_take lw k)
 rw [List.length_take, Nat.min_eq_left (by omega)] at bul bvl
 have hM : 0 < 4294967296 ^ k := Nat.pow_pos (by omega)
 generalize hu0 : u.getD (k + 2) 0 = u0 at *
 generalize hu1 : u.getD (k + 1) 0 = u1 at *
 generalize hu2 : u.getD k 0 = u2 at *
 generalize hv1 : V.getD (k + 1) 0 = v1 at *
 generalize hv2 : V.getD k 0 = v2 at *
 generalize val (u.take k) = ul at *
 generalize val (v.take k) = vl at *
 generalize hMM : 4294967296 ^ k = M at *
 have hul' := hlt
 rw [tu, tv] at hul'
 have hu01 := top_le hM hul' bvl c2
 have hV0 : 0 < val v := by
  rw [tv]; unfold VV
  have := Nat.mul_le_mul_right M (show 1 ≤ v1 * 4294967296 + v2 by omega)
  omega
 have hQ := Nat.div_mul_le_self (val u) (val v)
 have hQlt : val u / val v < 4294967296 := Nat.div_lt_of_lt_mul (by rw [Nat.mul_comm]; exact hlt)
 generalize hQQ : val u / val v = Q at *
 rw [tu, tv] at hQ
 have hq0 := guess_over (u0 := u0) (u1 := u1) bul hM (by omega) b1 b2 hQ
 have hq1 := guess_first hu01 b1 htop
 have hqr := Nat.div_add_mod (u0 * 4294967296 + u1) v1
 have hr0 := Nat.mod_lt (u0 * 4294967296 + u1) (show 0 < v1 by omega)
 rw [Nat.mul_comm] at hqr
 generalize hA : (u0 * 4294967296 + u1) / v1 = q0 at *
 generalize hB0 : (u0 * 4294967296 + u1) % v1 = r0 at *
 have e1 := or_up u0 u1 b0 b1
 have e2 : ((u0 * 4294967296 + u1 : Nat) : Int).tdiv (v1 : Int) = (q0 : Nat) := by rw [← hA]; exact (Int.ofNat_tdiv _ _).symm
 have e3 : ((u0 * 4294967296 + u1 : Nat) : Int).tmod (v1 : Int) = (r0 : Nat) := by rw [← hB0]; exact (Int.ofNat_tmod _ _).symm
 refine Inl.run Try.func95 rfl Try.ntmps95 (by simp) sF fun B hB => ?_
 (repeat (first | (with_reducible refine oA ?_) | ((with_reducible apply SC.region); (focus (simp (disch := omega) only [go_sem, ↓reduceIte, zn1, reduceCtorEq, if_pos, i1, w1]; rfl))) | (with_reducible refine SC.draw Tab.mixed rfl ?_; (repeat (refine DO.run (by simp (disch := omega) only [go_sem, ↓reduceIte, zn1, reduceCtorEq, zi1, zi2, if_pos, if_neg, i1, g1, g2, e1, e2, e3, mi32]; rfl) ?_)); refine DO.nil (by kernel_rfl) ?_)))
 refine SC.meet (fun y : Nat => ⟨[(0, .sl 0 j (k + 2 + 1) 1 none), (1, .sl 1 0 (k + 2) 1 (some (k + 2))), (5, .sc (.int .i64 ((k + 2 : Nat) : Int))), (8, .sc (.int .u64 y))], [(0, ⟨80, lv U, false⟩), (1, ⟨80, lv V, false⟩)], 3, 162⟩)
  (fun y => y < 4294967296 ∧ Q ≤ y ∧ y * val v < val u + val v) ?_ ?_
 ·intro K0 hK0
  refine SC.loop (fun y : Nat × Nat => ⟨[(0, .sl 0 j (k + 2 + 1) 1 none), (1, .sl 1 0 (k + 2) 1 (some (k + 2))), (5, .sc (.int .i64 ((k + 2 : Nat) : Int))), (6, .sc (.int .u64 v1)), (8, .sc (.int .u64 y.1)), (9, .sc (.int .u64 y.2))], [(0, ⟨80, lv U, false⟩), (1, ⟨80, lv V, false⟩)], 3, 162⟩)
   (fun y => y.1 * v1 + y.2 = u0 * 4294967296 + u1 ∧ y.2 < 4294967296 ∧ Q ≤ y.1 ∧ y.1 ≤ 4294967297) (fun y => y.1) (q0, r0) ?_ ?_ ?_
  ·(refine Le.of [] hB (by (constructor <;> (try simp) <;> (try omega))) ?_ ?_ <;> (repeat' (first | exact leSl_nil | exact leHp_nil | refine leSl_cons sF ?_ ?_ | refine leHp_cons sF ?_ ?_ | exact VLe.refl rfl | refine HLe.same rfl ?_)))
   all_goals exact LLe.lv rfl
  ·exact ⟨hqr, by simp only; omega, hq0, hq1⟩
  ·rintro ⟨q, r⟩ ⟨h1, h2, h3, h4⟩ K hK
   simp only at h1 h2 h3 h4 ⊢
   have hgd := fun ht => guess_down (q := q) (r := r) (Q := Q) bul h1 hQ hQlt h3 ht
   have hge := fun hb ht => guess_end (q := q) (r := r) (u2 := u2) (v2 := v2) (ul := ul) hM bvl (by omega) h1 hb ht
   have hbr := fun hr => guess_break (r := r) hu01 b1 (by omega) h1 hr
   have hnx : 1 ≤ q → (q - 1) * v1 + (r + v1) = u0 * 4294967296 + u1 := fun h => by
    obtain ⟨p, rfl⟩ : ∃ p, q = p + 1 := ⟨q - 1, by omega⟩
    rw [Nat.add_sub_cancel, ← h1, Nat.add_mul]; omega
   have hend : ∀ q r : Nat, 4294967296 ≤ r → q * v1 + r = u0 * 4294967296 + u1 → Q ≤ q → q < 4294967296 ∧ Q ≤ q ∧ q * val v < val u + val v := fun q r hr h1 h3 => by
    have hb := guess_break (r := r) hu01 b1 (by omega) h1 hr
    refine ⟨hb, h3, ?_⟩
    rw [tu, tv]
    have hp : q * v2 ≤ 4294967295 * 4294967295 := Nat.mul_le_mul (by omega) (by omega)
    exact guess_end (q := q) (r := r) (u2 := u2) (v2 := v2) (ul := ul) hM bvl (by omega) h1 hb (by omega)
   by_cases hbig : 4294967295 < q
   ·have q1 := decide_eq_true (p := (4294967295 : Int) < (q : Int)) (by omega)
    obtain ⟨a1, a2⟩ := hgd (.inl hbig)
    have hn := hnx a2
    by_cases hr : 4294967295 < r + v1
    ·have q2 := decide_eq_true (p := (4294967295 : Int) < (r : Int) + (v1 : Int)) (by omega)
     (repeat (first | (with_reducible refine SC.condB sF ?_; with_reducible refine pickT ?_) | (with_reducible refine oA ?_) | ((with_reducible apply SC.region); (focus (simp (disch := omega) only [go_sem, ↓reduceIte, zn1, reduceCtorEq, q2]; rfl))) | (with_reducible refine SC.draw Tab.mixed rfl ?_; (repeat (refine DO.run (by simp (disch := omega) only [go_sem, ↓reduceIte, zn1, reduceCtorEq, q1]; rfl) ?_)); refine DO.nil (by kernel_rfl) ?_)))
     refine hK0 _ (q - 1) ?_ ?_
     ·(refine Le.of [] hB (by (constructor <;> (try simp) <;> (try omega))) ?_ ?_ <;> (repeat' (first | exact leSl_nil | exact leHp_nil | refine leSl_cons sF ?_ ?_ | refine leHp_cons sF ?_ ?_ | exact VLe.refl rfl | exact VLe.int (by first | rfl | omega) | refine HLe.same rfl ?_)))
      all_goals exact LLe.lv rfl
     ·exact hend (q - 1) (r + v1) (by omega) hn a1
    ·have q2 := decide_eq_false (p := (4294967295 : Int) < (r : Int) + (v1 : Int)) (by omega)
     (repeat (first | (with_reducible refine SC.condB sF ?_; first | with_reducible refine pickT ?_ | with_reducible refine pickF ?_) | (with_reducible refine oA ?_) | ((with_reducible apply SC.region); (focus (simp (disch := omega) only [go_sem, ↓reduceIte, zn1, reduceCtorEq, q2]; rfl))) | (with_reducible refine SC.draw Tab.mixed rfl ?_; (repeat (refine DO.run (by simp (disch := omega) only [go_sem, ↓reduceIte, zn1, reduceCtorEq, q1]; rfl) ?_)); refine DO.nil (by kernel_rfl) ?_)))
     refine hK _ (q - 1, r + v1) ?_ ⟨hn, by simp only; omega, a1, by simp only; omega⟩ (by simp only; omega)
     (refine Le.of [] hB (by (constructor <;> (try simp) <;> (try omega))) ?_ ?_ <;> (repeat' (first | exact leSl_nil | exact leHp_nil | refine leSl_cons sF ?_ ?_ | refine leHp_cons sF ?_ ?_ | exact VLe.refl rfl | exact VLe.int (by first | rfl | omega) | refine HLe.same rfl ?_)))
     all_goals exact LLe.lv rfl
   ·have q1 := decide_eq_false (p := (4294967295 : Int) < (q : Int)) (by omega)
    have hp : q * v2 ≤ 4294967295 * 4294967295 := Nat.mul_le_mul (by omega) (by omega)
    have hm' : (q : Int) * (v2 : Int) = ((q * v2 : Nat) : Int) := by simp
    have hor := or_up r u2 h2 b2
    by_cases ht : r * 4294967296 + u2 < q * v2
    ·obtain ⟨a1, a2⟩ := hgd (.inr ht)
     have hn := hnx a2
     generalize q * v2 = p at *
     have q3 := decide_eq_true (p := ((r * 4294967296 + u2 : Nat) : Int) < (p : Int)) (by omega)
     by_cases hr : 4294967295 < r + v1
     ·have q2 := decide_eq_true (p := (4294967295 : Int) < (r : Int) + (v1 : Int)) (by omega)
      (repeat (first | (with_reducible refine SC.condB sF ?_; with_reducible refine pickT ?_) | (with_reducible refine oA ?_) | ((with_reducible apply SC.region); (focus (simp (disch := omega) only [go_sem, ↓reduceIte, zn1, reduceCtorEq, q2]; rfl))) | (with_reducible refine SC.draw Tab.mixed rfl ?_; (repeat (refine DO.run (by simp (disch := omega) only [go_sem, ↓reduceIte, zn1, reduceCtorEq, zi1, zi2, if_pos, if_neg, q1, q3, hm', hor, i2, g0, w0, mi32]; rfl) ?_)); refine DO.nil (by kernel_rfl) ?_)))
      refine hK0 _ (q - 1) ?_ ?_
      ·(refine Le.of [] hB (by (constructor <;> (try simp) <;> (try omega))) ?_ ?_ <;> (repeat' (first | exact leSl_nil | exact leHp_nil | refine leSl_cons sF ?_ ?_ | refine leHp_cons sF ?_ ?_ | exact VLe.refl rfl | exact VLe.int (by first | rfl | omega) | refine HLe.same rfl ?_)))
       all_goals exact LLe.lv rfl
      ·exact hend (q - 1) (r + v1) (by omega) hn a1
     ·have q2 := decide_eq_false (p := (4294967295 : Int) < (r : Int) + (v1 : Int)) (by omega)
      (repeat (first | (with_reducible refine SC.condB sF ?_; first | with_reducible refine pickT ?_ | with_reducible refine pickF ?_) | (with_reducible refine oA ?_) | ((with_reducible apply SC.region); (focus (simp (disch := omega) only [go_sem, ↓reduceIte, zn1, reduceCtorEq, q2]; rfl))) | (with_reducible refine SC.draw Tab.mixed rfl ?_; (repeat (refine DO.run (by simp (disch := omega) only [go_sem, ↓reduceIte, zn1, reduceCtorEq, zi1, zi2, if_pos, if_neg, q1, q3, hm', hor, i2, g0, w0, mi32]; rfl) ?_)); refine DO.nil (by kernel_rfl) ?_)))
      refine hK _ (q - 1, r + v1) ?_ ⟨hn, by simp only; omega, a1, by simp only; omega⟩ (by simp only; omega)
      (refine Le.of [] hB (by (constructor <;> (try simp) <;> (try omega))) ?_ ?_ <;> (repeat' (first | exact leSl_nil | exact leHp_nil | refine leSl_cons sF ?_ ?_ | refine leHp_cons sF ?_ ?_ | exact VLe.refl rfl | exact VLe.int (by first | rfl | omega) | refine HLe.same rfl ?_)))
      all_goals exact LLe.lv rfl
    ·have hfin := hge (by omega) (by omega)
     generalize q * v2 = p at *
     have q3 := decide_eq_false (p := ((r * 4294967296 + u2 : Nat) : Int) < (p : Int)) (by omega)
     (repeat (first | (with_reducible refine SC.condB sF ?_; with_reducible refine pickF ?_) | (with_reducible refine oA ?_) | (with_reducible refine SC.draw Tab.mixed rfl ?_; (repeat (refine DO.run (by simp (disch := omega) only [go_sem, ↓reduceIte, zn1, reduceCtorEq, zi1, zi2, if_pos, if_neg, q1, q3, hm', hor, i2, g0, w0, mi32]; rfl) ?_)); refine DO.nil (by kernel_rfl) ?_)))
     refine hK0 _ q ?_ ⟨by omega, h3, by rw [tu, tv]; exact hfin⟩
     (refine Le.of [] hB (by (constructor <;> (try simp) <;> (try omega))) ?_ ?_ <;> (repeat' (first | exact leSl_nil | exact leHp_nil | refine leSl_cons sF ?_ ?_ | refine leHp_cons sF ?_ ?_ | exact VLe.refl rfl | refine HLe.same rfl ?_)))
     all_goals exact LLe.lv rfl
 ·rintro q ⟨hqb, hq2, hq3⟩
  (repeat (first | (with_reducible refine oA ?_) | ((with_reducible apply SC.region); (focus (simp (disch := omega) only [go_sem, ↓reduceIte, zn1, reduceCtorEq]; rfl)))))
  have hmask : ∀ w : Nat, w < 18446744073709551616 → bits BinOp.and IntKind.u64 (w : Int) 4294967295 = ((w % 4294967296 : Nat) : Int) := fun w hw => by
   have h := u64_and_nat w 4294967295 hw (by omega)
   have e : w &&& 4294967295 = w % 4294967296 := Nat.and_two_pow_sub_one_eq_mod w 32
   rw [e] at h; exact h
  refine SC.loop (fun y : Nat × Nat × Nat × List Nat => ⟨[(0, .sl 0 j (k + 2 + 1) 1 none), (1, .sl 1 0 (k + 2) 1 (some (k + 2))), (5, .sc (.int .i64 ((k + 2 : Nat) : Int))), (8, .sc (.int .u64 q)), (10, .sc (.int .u64 y.2.1)), (11, .sc (.int .u64 y.2.2.1)), (74, .sl 1 0 (k + 2) 1 (some (k + 2))), (75, .sc (.int .i64 ((k + 2 : Nat) : Int))), (76, .sc (.int .i64 y.1))], [(0, ⟨80, lv (seg U j y.2.2.2), false⟩), (1, ⟨80, lv V, false⟩)], 3, 162⟩)
   (fun y => y.1 ≤ k + 2 ∧ msInv u v q y.1 y.2.1 y.2.2.1 y.2.2.2) (fun y => k + 2 - y.1) (0, 0, 0, u) ?_ ?_ ?_
  ·rw [hseg]
   (refine Le.of [] hB (by (constructor <;> (try simp) <;> (try omega))) ?_ ?_ <;> (repeat' (first | exact leSl_nil | exact leHp_nil | refine leSl_cons sF ?_ ?_ | refine leHp_cons sF ?_ ?_ | exact VLe.refl rfl | refine HLe.same rfl ?_)))
   all_goals exact LLe.lv rfl
  ·exact ⟨znc _, rfl, lu, by simp only; omega, by simp only; omega, rfl, by simp [val]⟩
  ·rintro ⟨i, br, c, z⟩ ⟨hi, hI⟩ K hK
   simp only at hi hI ⊢
   have hI' := hI
   obtain ⟨hzl, hz, hbr, hc, hdr, _⟩ := hI'
   have hzu := getD_of_drop hdr
   by_cases hlti : i < k + 2
   ·have q1 := decide_eq_true (p := (i : Int) < ((k + 2 : Nat) : Int)) (by omega)
    have wi := wg i hlti
    have hei := hvg i hlti
    have lei := limbs_getD hV i
    have gi := seg_get (U := U) (z := z) (j := j) (i := i) (by omega) (by omega)
    rw [hzu] at gi
    have lui := limbs_getD lu i
    have hst := fun w d br' hw hd hb hdd => hI.step (i := i) (w := w) (d := d) (br' := br') (by omega) hei rfl lei lui hqb hw hd hb hdd
    generalize V.getD i 0 = e at *
    generalize u.getD i 0 = y at *
    have hp : q * e ≤ 4294967295 * 4294967295 := Nat.mul_le_mul (by omega) (by omega)
    have hm' : (q : Int) * (e : Int) = ((q * e : Nat) : Int) := by simp
    obtain ⟨w, hw⟩ : ∃ w, c + q * e = w := ⟨_, rfl⟩
    have hst := fun d br' => hst w d br' hw.symm
    have hwc : (c : Int) + ((q * e : Nat) : Int) = (w : Int) := by omega
    have hw2 : w < 18446744073709551616 := by omega
    generalize q * e = p at *
    have hmk := hmask w hw2
    have hwm : w % 4294967296 < 4294967296 := by omega
    generalize hmm : w % 4294967296 = m at *
    have hsl := seg_len (U := U) (z := z) (j := j) (by omega)
    by_cases hn : (y : Int) - m - br < 0
    ·have e3 : IntKind.u64.wrap (IntKind.u64.wrap ((y : Int) - m) - br) = (y : Int) - m - br + 18446744073709551616 := by
      simp [IntKind.wrap, IntKind.bits, IntKind.signed]; omega
     have hs1 := hst (y + 4294967296 - m - br) 1 (by omega) (by omega) (by omega)
     (repeat (first | (with_reducible refine SC.condB sF ?_; with_reducible refine pickT ?_) | (with_reducible refine oA ?_) | ((with_reducible apply SC.region); (focus (simp (disch := omega) only [go_sem, ↓reduceIte, zn1, reduceCtorEq, zi1, if_pos, if_neg, q1, hm', hwc, hmk, wi, gi, fd32, fd63, e3, lv_len, hsl]; rfl)))))
     refine hK _ (i + 1, 1, w / 4294967296, z.set i (y + 4294967296 - m - br)) ?_ ⟨by simp only; omega, hs1.1⟩ (by simp only; omega)
     (refine Le.of [] hB (by (constructor <;> (try simp) <;> (try omega))) ?_ ?_ <;> (repeat' (first | exact leSl_nil | exact leHp_nil | refine leSl_cons sF ?_ ?_ | refine leHp_cons sF ?_ ?_ | exact VLe.refl rfl | exact VLe.int (by first | rfl | (dsimp only; omega)) | refine HLe.same rfl ?_)))
     all_goals first | exact LLe.lv rfl | exact LLe.lv (seg_set (by omega) (by omega) (by omega))
    ·have e3 : IntKind.u64.wrap (IntKind.u64.wrap ((y : Int) - m) - br) = (y : Int) - m - br := by
      simp [IntKind.wrap, IntKind.bits, IntKind.signed]; omega
     have hs1 := hst (y - m - br) 0 (by omega) (by omega) (by omega)
     (repeat (first | (with_reducible refine SC.condB sF ?_; with_reducible refine pickT ?_) | (with_reducible refine oA ?_) | ((with_reducible apply SC.region); (focus (simp (disch := omega) only [go_sem, ↓reduceIte, zn1, reduceCtorEq, zi1, if_pos, if_neg, q1, hm', hwc, hmk, wi, gi, fd32, fd63, lv_len, hsl]; rfl)))))
     refine hK _ (i + 1, 0, w / 4294967296, z.set i (y - m - br)) ?_ ⟨by simp only; omega, hs1.1⟩ (by simp only; omega)
     (refine Le.of [] hB (by (constructor <;> (try simp) <;> (try omega))) ?_ ?_ <;> (repeat' (first | exact leSl_nil | exact leHp_nil | refine leSl_cons sF ?_ ?_ | refine leHp_cons sF ?_ ?_ | exact VLe.refl rfl | exact VLe.int (by first | rfl | (dsimp only; omega)) | refine HLe.same rfl ?_)))
     all_goals first | exact LLe.lv rfl | exact LLe.lv (seg_set (by omega) (by omega) (by omega))
   ·have hik : i = k + 2 := by omega
    subst hik
    have q1 := decide_eq_false (p := ((k + 2 : Nat) : Int) < ((k + 2 : Nat) : Int)) (by omega)
    have gi := seg_get (U := U) (z := z) (j := j) (i := k + 2) (by omega) (by omega)
    rw [hzu, hu0] at gi
    have hsl := seg_len (U := U) (z := z) (j := j) (by omega)
    by_cases hcb : c + br ≤ u0
    ·have e3 : IntKind.u64.wrap (IntKind.u64.wrap ((u0 : Int) - c) - br) = ((u0 - (c + br) : Nat) : Int) := by
      simp [IntKind.wrap, IntKind.bits, IntKind.signed]; omega
     have q2 : (((u0 : Int) - c - br) / 9223372036854775808 == 0) = true := by rw [beq_iff_eq]; omega
     obtain ⟨d1, d2⟩ := digit_right hul hvl hI (by omega) hV0 (by rw [hu0]; exact hcb)
     rw [hu0] at d2
     have hz2 := limbs_set hz (k + 2) (x := u0 - (c + br)) (by omega)
     have hd := dg_eq hz2
     rw [d2, List.length_set, hzl, hul] at hd
     have hls := seg_set (U := U) (z := z) (j := j) (i := k + 2) (x := u0 - (c + br)) (by omega) (by omega) (n := (u0 : Int) - c - br) (by omega)
     rw [← hd] at hls
     have hqQ : q = Q := d1.trans hQQ
     subst hqQ
     (repeat (first | (with_reducible refine SC.condB sF ?_; first | with_reducible refine pickT ?_ | with_reducible refine pickF ?_) | (with_reducible refine oA ?_) | ((with_reducible apply SC.region); (focus (simp (disch := omega) only [go_sem, ↓reduceIte, zn1, reduceCtorEq, zi1, if_pos, if_neg, q1, q2, gi, fd63, lv_len, hsl, hls]; rfl)))))
     refine retI_r Try.results95 sF ?_
     (refine Le.of [] hB (by (constructor <;> (try simp) <;> (try omega))) ?_ ?_ <;> (repeat' (first | exact leSl_nil | exact leHp_nil | refine leSl_cons sF ?_ ?_ | refine leHp_cons sF ?_ ?_ | exact VLe.refl rfl | refine HLe.same rfl ?_)))
     all_goals exact LLe.lv rfl
    ·have e3 : IntKind.u64.wrap (IntKind.u64.wrap ((u0 : Int) - c) - br) = (u0 : Int) - c - br + 18446744073709551616 := by
      simp [IntKind.wrap, IntKind.bits, IntKind.signed]; omega
     have q2 : ((((u0 : Int) - c - br + 18446744073709551616) / 9223372036854775808) == 0) = false := by rw [beq_eq_false_iff_ne]; omega
     (repeat (first | (with_reducible refine SC.condB sF ?_; with_reducible refine pickF ?_) | (with_reducible refine oA ?_) | ((with_reducible apply SC.region); (focus (simp (disch := omega) only [go_sem, ↓reduceIte, zn1, reduceCtorEq, zi1, if_pos, if_neg, q1, q2, gi, fd63, e3, lv_len, hsl]; rfl)))))
     have hls := seg_set (U := U) (z := z) (j := j) (i := k + 2) (x := (4294967296 + u0 - (c + br)) % 4294967296) (by omega) (by omega) (n := ((u0 : Int) - c - br + 18446744073709551616) % 4294967296) (by omega)
     have hz2 := limbs_set hz (k + 2) (x := (4294967296 + u0 - (c + br)) % 4294967296) (by omega)
     have hless := fun z' h zz ca ha => digit_less (zz := zz) (ca := ca) hul hvl lu lw hI (by rw [hu0]; omega) (by omega) hq3 hV0 z' h ha
     rw [hu0] at hless
     have hless := hless _ rfl
     have hzl2 : (z.set (k + 2) ((4294967296 + u0 - (c + br)) % 4294967296)).length = k + 3 := by simp; omega
     have hz2n : (z.set (k + 2) ((4294967296 + u0 - (c + br)) % 4294967296)).getD (k + 2) 0 = (4294967296 + u0 - (c + br)) % 4294967296 := by
      rw [List.getD_eq_getElem?_getD, List.getElem?_set_self (by omega)]; rfl
     have ht : (4294967296 + u0 - (c + br)) % 4294967296 < 4294967296 := by omega
     generalize z.set (k + 2) ((4294967296 + u0 - (c + br)) % 4294967296) = z2 at *
     generalize (4294967296 + u0 - (c + br)) % 4294967296 = t at *
     (repeat (refine DO.nil (by kernel_rfl) ?_))
     refine SC.loop (fun y : Nat × Nat × List Nat => ⟨[(0, .sl 0 j (k + 2 + 1) 1 none), (1, .sl 1 0 (k + 2) 1 (some (k + 2))), (5, .sc (.int .i64 ((k + 2 : Nat) : Int))), (8, .sc (.int .u64 q)), (11, .sc (.int .u64 y.2.1)), (126, .sl 1 0 (k + 2) 1 (some (k + 2))), (127, .sc (.int .i64 ((k + 2 : Nat) : Int))), (128, .sc (.int .i64 y.1))], [(0, ⟨80, lv (seg U j y.2.2), false⟩), (1, ⟨80, lv V, false⟩)], 3, 162⟩)
      (fun y => y.1 ≤ k + 2 ∧ abInv z2 v y.1 y.2.1 y.2.2) (fun y => k + 2 - y.1) (0, 0, z2) ?_ ?_ ?_
     ·(refine Le.of [] hB (by (constructor <;> (try simp) <;> (try omega))) ?_ ?_ <;> (repeat' (first | exact leSl_nil | exact leHp_nil | refine leSl_cons sF ?_ ?_ | refine leHp_cons sF ?_ ?_ | exact VLe.refl rfl | refine HLe.same rfl ?_)))
      all_goals first | exact LLe.lv rfl | exact LLe.lv hls
     ·exact ⟨znc _, rfl, hz2, by simp only; omega, rfl, by simp [val]⟩
     ·rintro ⟨i, ca, zz⟩ ⟨hi, hJ⟩ K' hK'
      simp only at hi hJ ⊢
      have hJ' := hJ
      obtain ⟨hzzl, hzz, hca, hzdr, _⟩ := hJ'
      have hzzu := getD_of_drop hzdr
      have hsl := seg_len (U := U) (z := zz) (j := j) (by omega)
      by_cases hlti : i < k + 2
      ·have q1 := decide_eq_true (p := (i : Int) < ((k + 2 : Nat) : Int)) (by omega)
       have wi := wg i hlti
       have hei := hvg i hlti
       have lei := limbs_getD hV i
       have gi := seg_get (U := U) (z := zz) (j := j) (i := i) (by omega) (by omega)
       rw [hzzu] at gi
       have lui := limbs_getD hz2 i
       have hst := fun w hw => hJ.step (i := i) (w := w) (by omega) hei rfl lei lui hw
       generalize V.getD i 0 = e at *
       generalize z2.getD i 0 = y at *
       have hs1 := hst _ rfl
       (repeat (first | (with_reducible refine SC.condB sF ?_; with_reducible refine pickT ?_) | (with_reducible refine oA ?_) | ((with_reducible apply SC.region); (focus (simp (disch := omega) only [go_sem, ↓reduceIte, zn1, reduceCtorEq, zi1, if_pos, if_neg, q1, wi, gi, fd32, lv_len, hsl]; rfl)))))
       refine hK' _ (i + 1, (ca + (y + e)) / 4294967296, zz.set i ((ca + (y + e)) % 4294967296)) ?_ ⟨by simp only; omega, hs1⟩ (by simp only; omega)
       (refine Le.of [] hB (by (constructor <;> (try simp) <;> (try omega))) ?_ ?_ <;> (repeat' (first | exact leSl_nil | exact leHp_nil | refine leSl_cons sF ?_ ?_ | refine leHp_cons sF ?_ ?_ | exact VLe.refl rfl | refine HLe.same rfl ?_)))
       all_goals first | exact LLe.lv rfl | exact LLe.lv (seg_set (by omega) (by omega) (by omega))
      ·have hik : i = k + 2 := by omega
       subst hik
       have q1 := decide_eq_false (p := ((k + 2 : Nat) : Int) < ((k + 2 : Nat) : Int)) (by omega)
       have gi := seg_get (U := U) (z := zz) (j := j) (i := k + 2) (by omega) (by omega)
       rw [hzzu, hz2n] at gi
       obtain ⟨d1, d2, d3, d4⟩ := hless zz ca hJ
       have hd := dg_eq (limbs_set hzz (k + 2) (x := 0) (by omega))
       rw [d4, List.length_set, hzzl, hzl2] at hd
       have e4 : ((t : Int) + ca) % 4294967296 = 0 := by omega
       have hls2 := seg_set (U := U) (z := zz) (j := j) (i := k + 2) (x := 0) (by omega) (by omega) (n := (0 : Int)) rfl
       rw [← hd] at hls2
       have hqQ : q = Q + 1 := by omega
       subst hqQ
       (repeat (first | (with_reducible refine SC.condB sF ?_; with_reducible refine pickF ?_) | (with_reducible refine oA ?_) | ((with_reducible apply SC.region); (focus (simp (disch := omega) only [go_sem, ↓reduceIte, zn1, zn2, reduceCtorEq, if_pos, q1, gi, e4, lv_len, hsl, hls2]; rfl)))))
       refine retI_r Try.results95 sF ?_
       (refine Le.of [] hB (by (constructor <;> (try simp) <;> (try omega))) ?_ ?_ <;> (repeat' (first | exact leSl_nil | exact leHp_nil | refine leSl_cons sF ?_ ?_ | refine leHp_cons sF ?_ ?_ | exact VLe.int (by first | rfl | omega) | refine HLe.same rfl ?_)))
       all_goals exact LLe.lv rfl
theorem short_i (a : List Nat) (d : Nat) (ha : limbs a) (hm : a.length ≤ 1000000000000) (hd : 0 < d) (hd2 : d < 4294967296) : Spec Try.prog 80 [sv a, .sc (.int .u32 d)] (.tu [sv (dg a.length (val a / d)), .sc (.int .u32 (val a % d : Nat))]) := by
 unfold sv
 refine Spec.run Try.func80 rfl Try.ntmps80 (by simp) sF fun B hB => ?_
 (repeat (first | (with_reducible refine oA ?_) | ((with_reducible apply SC.region); (focus (simp (disch := omega) only [go_sem, ↓reduceIte, reduceCtorEq, if_pos]; rfl)))))
 refine SC.loop (fun x : Nat × Nat × List Nat => ⟨[(0, .im (lv a) a.length), (1, .sc (.int .u32 d)), (6, .sl 0 0 a.length 1 none), (7, .sc (.int .u64 x.2.1)), (8, .sc (.int .i64 ((x.1 : Int) - 1)))], [(0, ⟨80, lv x.2.2, false⟩)], 1, 42⟩)
  (fun x => x.1 ≤ a.length ∧ shortInv a d x.1 x.2.1 x.2.2) (fun x => x.1) (a.length, 0, List.replicate a.length 0) ?_ ?_ ?_
 ·(refine Le.of [] hB (by exact ⟨znc _, fun _ _ => znc _⟩) ?_ ?_ <;> (repeat' (first | exact leSl_nil | exact leHp_nil | refine leSl_cons sF ?_ ?_ | refine leHp_cons sF ?_ ?_ | exact VLe.refl rfl | exact VLe.cap rfl (by rfl) | refine HLe.same rfl ?_)))
  exact LLe.lv (lv_rep _)
 ·exact ⟨znb _, by simp, limbs_replicate _, hd, by simp [val]⟩
 ·rintro ⟨k, r, z⟩ ⟨hk, hI⟩ K hK
  simp only at hk hI ⊢
  have hz : z.length = a.length := hI.1
  by_cases h0 : k = 0
  ·subst h0
   have q1 : decide ((0 : Int) ≤ ((0 : Nat) : Int) - 1) = false := by simp
   have hdn := hI.done
   have he := dg_eq hI.2.1
   rw [hdn.1, hz] at he
   have ht : z.take a.length = z := by rw [← hz]; exact List.take_length
   (repeat (first | (with_reducible refine SC.condB sF ?_; with_reducible refine pickF ?_) | (with_reducible refine oA ?_) | ((with_reducible apply SC.region); (focus (simp (disch := omega) only [go_sem, ↓reduceIte, zn1, zn2, reduceCtorEq, q1]; rfl)))))
   refine retQ_ret Try.results80 sF (by simp (disch := omega) only [go_sem, ↓reduceIte, if_pos, lv_len, lv_take, lv_clo, ht]; rfl) ?_
   have h3 := hI.2.2.1
   rw [he, hz, ← hdn.2]
   have : (r : Int) % 4294967296 = r := by omega
   rw [this]
  ·obtain ⟨j, rfl⟩ : ∃ j, k = j + 1 := ⟨k - 1, by omega⟩
   have q1 : decide ((0 : Int) ≤ ((j + 1 : Nat) : Int) - 1) = true := by simp
   have hi : (((j + 1 : Nat) : Int) - 1).toNat = j := by omega
   have hj : j < a.length := by omega
   have la := limbs_getD ha j
   have ga := lv_get hj
   obtain ⟨hst, hq⟩ := hI.step hj rfl la
   have h3 := hI.2.2.1
   generalize a.getD j 0 = x at *
   have h4 : (((r : Int) * 4294967296 + (x : Int)) / (d : Int)) = (((r * 4294967296 + x) / d : Nat) : Int) := by simp
   have h5 : (((r : Int) * 4294967296 + (x : Int)) % (d : Int)) = (((r * 4294967296 + x) % d : Nat) : Int) := by simp
   have h6 : (r * 4294967296 + x) % d < d := Nat.mod_lt _ hd
   generalize (r * 4294967296 + x) / d = Q at *
   generalize (r * 4294967296 + x) % d = M at *
   (repeat (first | (with_reducible refine SC.condB sF ?_; with_reducible refine pickT ?_) | (with_reducible refine oA ?_) | ((with_reducible apply SC.region); (focus (simp (disch := omega) only [go_sem, ↓reduceIte, zn1, reduceCtorEq, if_pos, if_neg, q1, hi, ga, h4, h5, lv_len, zl5]; rfl)))))
   refine hK _ (j, M, z.set j Q) ?_ ⟨by simp only; omega, hst⟩ (by simp only; omega)
   (refine Le.of [] hB (by exact ⟨znc _, fun _ _ => znc _⟩) ?_ ?_ <;> (repeat' (first | exact leSl_nil | exact leHp_nil | refine leSl_cons sF ?_ ?_ | refine leHp_cons sF ?_ ?_ | exact VLe.refl rfl | exact VLe.int (by first | rfl | omega) | refine HLe.same rfl ?_)))
   exact LLe.lv (lv_set (by omega))
set_option maxHeartbeats 2000000 in
theorem est_i (r d : List Nat) (hr : limbs r) (hcr : canon r) (hd : limbs d) (hm : r.length ≤ 1000000000000) (hd2 : 2 ≤ d.length) (hrd : d.length ≤ r.length) (hle : val d ≤ val r) :
  ∃ q : Nat, 0 < q ∧ q * val d ≤ val r ∧ Spec Try.prog 81 [sv r, sv d] (iv q) := by
 obtain ⟨m, hdm⟩ : ∃ m, d.length = m + 1 := ⟨d.length - 1, by omega⟩
 obtain ⟨n, hrn⟩ : ∃ n, r.length = n + 1 := ⟨r.length - 1, by omega⟩
 obtain ⟨k, rfl⟩ : ∃ k, n = m + k := ⟨n - m, by omega⟩
 have gd := lv_get (l := d) (i := m) (by omega)
 have gr := lv_get (l := r) (i := m + k) (by omega)
 have yl := limbs_getD hd m
 have xl := limbs_getD hr (m + k)
 have i1 : ((d.length : Int) - 1).toNat = m := by omega
 have i2 : ((r.length : Int) - 1).toNat = m + k := by omega
 have hxz : r.getD (m + k) 0 ≠ 0 := by
  have h := hcr (by intro e; subst e; simp at hrn)
  rw [List.getLast_eq_getElem] at h
  rw [List.getD_eq_getElem?_getD, zlb (by omega)]
  simpa [hrn] using h
 rcases Nat.eq_zero_or_pos k with hk | hk
 ·subst hk
  have hest := est_zero (n := m) hd (by omega) hdm hle _ _ rfl rfl
  refine ⟨_, hest.1, hest.2, ?_⟩
  rw [Nat.add_zero] at gr xl i2 hxz
  generalize r.getD m 0 = x at *
  generalize d.getD m 0 = y at *
  obtain ⟨q, hq⟩ : ∃ q : Nat, q = x / (y + 1) := ⟨_, rfl⟩
  have hqx : q ≤ x := by rw [hq]; exact Nat.div_le_self _ _
  have hqi : (x : Int) / ((y : Int) + 1) = (q : Int) := by rw [hq]; simp
  rw [← hq] at hest ⊢
  have q1 : (((r.length : Int) - (d.length : Int)) == 0) = true := by simp only [beq_iff_eq]; omega
  by_cases h1 : 1 < q
  ·have c1 := of_i (q : Int) (by omega) (by omega)
   rw [Nat.max_eq_right (by omega)]
   unfold iv sv at c1 ⊢
   refine Spec.run Try.func81 rfl Try.ntmps81 (by simp) sF fun B hB => ?_
   (repeat (first | refine DO.nil (by kernel_rfl) ?_ | (with_reducible refine oA ?_) | ((apply SO.call); (iterate 3 (focus (simp (disch := omega) only [go_sem, ↓reduceIte] <;> rfl))); (apply SCall.ofX); (focus (assumption)); (focus (simp (disch := omega) only [go_sem] <;> rfl))) | ((with_reducible first | apply wa | apply wb | apply wc | apply wd); (focus (simp (disch := omega) only [go_sem, ↓reduceIte, zn1, zn3, zn4, reduceCtorEq, if_pos, if_neg, lv_len, i1, i2, q1, gd, gr, hqi, zl5] <;> rfl)); (first | refine pickT ?_ | fail_if_success with_reducible refine pickA ?_)) | ((with_reducible refine SC.draw Tab.mixed ?_ ?_); rfl) | (with_reducible apply SC.ops)))
   exact retQ_ret Try.results81 sF sF rfl
  ·have c1 := of_i 1 (by omega) (by omega)
   rw [Nat.max_eq_left (by omega)]
   unfold iv sv at c1 ⊢
   refine Spec.run Try.func81 rfl Try.ntmps81 (by simp) sF fun B hB => ?_
   (repeat (first | refine DO.nil (by kernel_rfl) ?_ | (with_reducible refine oA ?_) | ((apply SO.call); (iterate 3 (focus (simp (disch := omega) only [go_sem, ↓reduceIte] <;> rfl))); (apply SCall.ofX); (focus (assumption)); (focus (simp (disch := omega) only [go_sem] <;> rfl))) | ((with_reducible first | apply wa | apply wb | apply wc | apply wd); (focus (simp (disch := omega) only [go_sem, ↓reduceIte, zn1, zn3, zn4, reduceCtorEq, if_pos, if_neg, lv_len, i1, i2, q1, gd, gr, hqi, zl5] <;> rfl)); (first | refine pickT ?_ | fail_if_success with_reducible refine pickA ?_)) | ((with_reducible refine SC.draw Tab.mixed ?_ ?_); rfl) | (with_reducible apply SC.ops)))
   exact retQ_ret Try.results81 sF sF rfl
 ·obtain ⟨j, rfl⟩ : ∃ j, k = j + 1 := ⟨k - 1, by omega⟩
  obtain ⟨m', rfl⟩ : ∃ m', m = m' + 1 := ⟨m - 1, by omega⟩
  have gz := lv_get (l := r) (i := m' + j + 1) (by omega)
  have zl := limbs_getD hr (m' + j + 1)
  have hest := est_more (r := r) (d := d) (n := m') (k := j) hd (by omega) (by omega) _ _ _ (by rw [show m' + j + 2 = m' + 1 + (j + 1) by omega]) rfl rfl hxz yl
  refine ⟨_, ?_, hest.2, ?_⟩
  ·exact Nat.mul_pos hest.1 (Nat.pow_pos (by omega))
  have i3 : ((r.length : Int) - 2).toNat = m' + j + 1 := by omega
  generalize r.getD (m' + 1 + (j + 1)) 0 = x at *
  generalize d.getD (m' + 1) 0 = y at *
  generalize r.getD (m' + j + 1) 0 = z at *
  have hqi : ((x : Int) * 4294967296 + (z : Int)) / ((y : Int) + 1) = (((x * 4294967296 + z) / (y + 1) : Nat) : Int) := by simp
  have hq0 : (x * 4294967296 + z) / (y + 1) ≤ x * 4294967296 + z := Nat.div_le_self _ _
  generalize (x * 4294967296 + z) / (y + 1) = q at *
  have q1 : (((r.length : Int) - (d.length : Int)) == 0) = false := by simp only [beq_eq_false_iff_ne, ne_eq]; omega
  have i4 : ((r.length : Int) - (d.length : Int) - 1).toNat = j := by omega
  have hql : limbs [q % 4294967296, q / 4294967296] := limbs_two q (by omega)
  have c1 := made_i (List.replicate j 0 ++ [q % 4294967296, q / 4294967296]) false (by
   intro t ht
   rcases List.mem_append.1 ht with ht | ht
   ·exact limbs_replicate j t ht
   ·exact hql t ht) (by simp; omega)
  rw [val_append, val_replicate, val_two, List.length_replicate, zn9, Nat.mul_comm] at c1
  rw [show ∀ n : Nat, sgn false n = (n : Int) from fun _ => rfl] at c1
  have w1 : (q : Int) % 4294967296 = ((q % 4294967296 : Nat) : Int) := by simp
  have w2 : (q : Int) / 2 ^ min 32 64 % 4294967296 = ((q / 4294967296 : Nat) : Int) := by
   have : (2 : Int) ^ min 32 64 = 4294967296 := by decide
   rw [this]; omega
  have hlst : List.replicate j (V.sc (.int .u32 0)) ++ [V.sc (.int .u32 ((q % 4294967296 : Nat) : Int)), V.sc (.int .u32 ((q / 4294967296 : Nat) : Int))] = lv (List.replicate j 0 ++ [q % 4294967296, q / 4294967296]) := by simp [lv]
  have hll : (List.replicate j 0 ++ [q % 4294967296, q / 4294967296]).length = j + 2 := by simp
  generalize List.replicate j 0 ++ [q % 4294967296, q / 4294967296] = L at *
  have ht : L.take (j + 2) = L := by rw [← hll]; exact List.take_length
  unfold iv sv at c1 ⊢
  rw [hll] at c1
  refine Spec.run Try.func81 rfl Try.ntmps81 (by simp) sF fun B hB => ?_
  (repeat (first | refine DO.nil (by kernel_rfl) ?_ | (with_reducible refine oA ?_) | ((apply SO.call); (iterate 3 (focus (simp (disch := omega) only [go_sem, ↓reduceIte, zn2, if_pos, lv_len, ht, lv_take, lv_clo] <;> rfl))); (apply SCall.ofX); (focus (assumption)); (focus (simp (disch := omega) only [go_sem, ↓reduceIte, zn7] <;> rfl))) | ((with_reducible first | apply wa | apply wb | apply wc | apply wd); (focus (simp (disch := omega) only [go_sem, ↓reduceIte, zn1, zn2, zn3, zn4, reduceCtorEq, zi1, if_pos, if_neg, lv_len, i1, i2, i3, i4, q1, gd, gr, gz, hqi, zl5, w1, w2, hlst, List.take_replicate, Nat.min_self, List.length_replicate] <;> rfl)); (first | refine pickF ?_ | fail_if_success with_reducible refine pickA ?_)) | ((with_reducible refine SC.draw Tab.mixed ?_ ?_); rfl) | (with_reducible apply SC.ops)))
  exact retQ_ret Try.results81 sF sF rfl
theorem fits_nat {K n : Nat} (h : n < 4294967296 ^ K) : Fits K (n : Int) := by unfold Fits; simpa using h
theorem fits_len' {K n : Nat} (h : n < 4294967296 ^ K) : (limbsOf n).length ≤ K := canon_len (limbsOf_canon _) (by rw [limbsOf_val]; exact h)
theorem made_nat (n : Nat) (h : (limbsOf n).length ≤ 1000000000000) : Spec Try.prog 62 [sv (limbsOf n), .sc (.bool false)] (iv n) := by
 have := made_i (limbsOf n) false (limbsOf_limbs _) h
 rwa [limbsOf_val] at this
theorem limbsOf_ge {n : Nat} (h : 4294967296 ≤ n) : 2 ≤ (limbsOf n).length := by
 have h1 := val_lt (limbsOf_limbs n)
 rw [limbsOf_val] at h1
 rcases Nat.lt_or_ge (limbsOf n).length 2 with h2 | h2
 ·have : 4294967296 ^ (limbsOf n).length ≤ 4294967296 ^ 1 := Nat.pow_le_pow_right (by omega) (by omega)
  omega
 ·exact h2
theorem limbsOf_one {n : Nat} (h0 : 0 < n) (h : n < 4294967296) : limbsOf n = [n] := by
 have := limbsOf_eq (l := [n]) (limbs_one h) (by intro _; simp; omega)
 rwa [val_one] at this
theorem lv_one (n : Nat) : lv [n] = [.sc (.int .u32 (n : Int))] := rfl
theorem divide_one (A B : Nat) (K : Nat) (hA : A < 4294967296 ^ K) (hK : K ≤ 300000000000) (hB : 0 < B) (hB2 : B < 4294967296) : Spec Try.prog 63 [sv (limbsOf A), sv (limbsOf B)] (.tu [iv ((A / B : Nat) : Int), iv ((A % B : Nat) : Int)]) := by
 have la := fits_len' hA
 have ga := val_lt (limbsOf_limbs A)
 rw [limbsOf_val] at ga
 have hm := Nat.mod_lt A hB
 have c1 := short_i (limbsOf A) B (limbsOf_limbs A) (by omega) hB hB2
 rw [limbsOf_val] at c1
 have c2 := dg_made (limbsOf A).length (A / B) false (Nat.lt_of_le_of_lt (Nat.div_le_self _ _) ga) (by omega)
 have c3 := made_i [A % B] false (limbs_one (by omega)) (by simp)
 rw [val_one] at c3
 rw [limbsOf_one hB hB2]
 unfold sv at c1 c2 c3 ⊢
 rw [lv_one] at c3 ⊢
 unfold iv sv at c2 c3 ⊢
 simp only [List.length_singleton] at c3 ⊢
 have q1 : (((1 : Nat) : Int) == 1) = true := by decide
 refine Spec.run Try.func63 rfl Try.ntmps63 (by simp) sF fun B hB => ?_
 (repeat (first | (with_reducible refine oA ?_) | ((apply SO.call); (iterate 3 (focus (simp (disch := omega) only [go_sem, ↓reduceIte, zn1, zn3] <;> rfl))); (apply SCall.ofX); (focus (assumption)); (focus (simp (disch := omega) only [go_sem, ↓reduceIte, zn7] <;> rfl))) | ((with_reducible first | apply SC.condB | apply SC.region | apply SO.run); (focus (simp (disch := omega) only [go_sem, ↓reduceIte, zn1, zn2, zn3, zn4, reduceCtorEq, zi1, if_pos, q1] <;> rfl)); (first | refine pickT ?_ | fail_if_success with_reducible refine pickA ?_)) | (with_reducible apply SC.ops)))
 exact retQ_ret Try.results63 sF sF rfl
set_option maxHeartbeats 2000000 in
theorem divide_long (X Y : Nat) (K : Nat) (hA : X < 4294967296 ^ K) (hBK : Y < 4294967296 ^ K) (hK : K ≤ 300000000000) (hB2 : 4294967296 ≤ Y) : Spec Try.prog 63 [sv (limbsOf X), sv (limbsOf Y)] (.tu [iv ((X / Y : Nat) : Int), iv ((X % Y : Nat) : Int)]) := by
 have la := fits_len' hA
 have lb := fits_len' hBK
 have cA := made_nat X (by omega)
 have cB := made_nat Y (by omega)
 have hb2 := limbsOf_ge hB2
 have bb := limbsOf_limbs Y
 have hbc := limbsOf_canon Y
 obtain ⟨m, hm⟩ : ∃ m, (limbsOf Y).length = m + 1 := ⟨(limbsOf Y).length - 1, by omega⟩
 have gb := lv_get (l := limbsOf Y) (i := m) (by omega)
 have yl := limbs_getD bb m
 have y0 : (limbsOf Y).getD m 0 ≠ 0 := by
  have h := hbc (by intro e; rw [e] at hm; simp at hm)
  rw [List.getLast_eq_getElem] at h
  rw [List.getD_eq_getElem?_getD, zlb (by omega)]
  simpa [hm] using h
 generalize (limbsOf Y).getD m 0 = y at *
 have i1 : (((limbsOf Y).length : Int) - 1).toNat = m := by omega
 have q1 : (((limbsOf Y).length : Int) == 1) = false := by simp only [beq_eq_false_iff_ne, ne_eq]; omega
 unfold sv at cA cB ⊢
 refine Spec.run Try.func63 rfl Try.ntmps63 (by simp) sF fun B hB => ?_
 (repeat (first | (with_reducible refine SC.condB sF ?_; with_reducible refine pickF ?_) | (with_reducible refine oA ?_) | ((with_reducible apply SC.region); (focus (simp (disch := omega) only [go_sem, ↓reduceIte, zn1, zn4, reduceCtorEq, q1]; rfl)))))
 refine SC.loop (fun s : Nat => ⟨[(0, .im (lv (limbsOf X)) (limbsOf X).length), (1, .im (lv (limbsOf Y)) (limbsOf Y).length), (4, .pt 0 0), (5, .pt 1 0), (8, .sc (.int .u32 s))], [(1, ⟨43, [.sc (.bool false), .sc (.slice none 0 0)], false⟩), (0, ⟨43, [.sc (.bool false), .sc (.slice none 0 0)], false⟩)], 2, 86⟩)
  (fun s => 0 < s ∧ s < 4294967296) (fun s => 4294967296 - s) 1 ?_ ?_ ?_
 ·(refine Le.of [] hB (by exact ⟨znc _, fun _ _ => znc _⟩) ?_ ?_ <;> (repeat' (first | exact leSl_nil | exact leHp_nil | refine leSl_cons sF ?_ ?_ | refine leHp_cons sF ?_ ?_ | exact VLe.refl rfl | exact HLe.same rfl (LLe.refl rfl))))
 ·omega
 ·intro s ⟨hs0, hs⟩ K' hK'
  have hys : y * s ≤ 4294967295 * 4294967295 := Nat.mul_le_mul (by omega) (by omega)
  have hysi : (y : Int) * (s : Int) = ((y * s : Nat) : Int) := by simp
  have hss : s ≤ y * s := Nat.le_mul_of_pos_left _ (by omega)
  generalize y * s = ys at *
  by_cases hlt : ys < 2147483648
  ·have q2 := decide_eq_true (p := (ys : Int) < 2147483648) (by omega)
   (repeat (first | (with_reducible refine SC.condB sF ?_; with_reducible refine pickT ?_) | (with_reducible refine oA ?_) | ((with_reducible apply SC.region); (focus (simp (disch := omega) only [go_sem, ↓reduceIte, zn1, reduceCtorEq, if_pos, q2, i1, gb, hysi, lv_len, zl5]; rfl)))))
   refine hK' _ (2 * s) ?_ (by omega) (by omega)
   (refine Le.of [] hB (by exact ⟨znc _, fun _ _ => znc _⟩) ?_ ?_ <;> (repeat' (first | exact leSl_nil | exact leHp_nil | refine leSl_cons sF ?_ ?_ | refine leHp_cons sF ?_ ?_ | exact VLe.refl rfl | exact HLe.same rfl (LLe.refl rfl))))
  ·have q2 := decide_eq_false (p := (ys : Int) < 2147483648) (by omega)
   have cs := made_i [s] false (limbs_one (by omega)) (by simp)
   rw [val_one, show sgn false s = (s : Int) from rfl] at cs
   have hsf : Fits 1 (s : Int) := fits_one (by omega)
   have cR := mul_i (X : Int) (s : Int) (K + 1) ((fits_nat hA).mono (by omega)) (hsf.mono (by omega)) (by omega)
   have cD := mul_i (Y : Int) (s : Int) (K + 1) ((fits_nat hBK).mono (by omega)) (hsf.mono (by omega)) (by omega)
   rw [← Int.natCast_mul] at cR cD
   have fR := (fits_nat hA).mul hsf
   have fD := (fits_nat hBK).mul hsf
   rw [← Int.natCast_mul] at fR fD
   have hD2 : 4294967296 ≤ Y * s := Nat.le_trans hB2 (Nat.le_mul_of_pos_right _ hs0)
   have hfin : ∀ R q : Nat, divInv (X * s) (Y * s) R q → R < Y * s → q = X / Y ∧ R / s = X % Y := fun R q h1 h2 => h1.done hs0 (by omega) h2
   have hle : ∀ R q : Nat, divInv (X * s) (Y * s) R q → R ≤ X * s ∧ q ≤ X * s := fun R q h => h.le (by omega)
   unfold sv at cs
   rw [lv_one] at cs
   simp only [List.length_singleton] at cs
   have hdi : divInv (X * s) (Y * s) (X * s) 0 := by simp [divInv]
   generalize X * s = AS at *
   generalize Y * s = D at *
   unfold iv sv at cA cB cs cR cD ⊢
   (repeat (first | refine DO.nil (by kernel_rfl) ?_ | (with_reducible refine oA ?_) | ((first | apply SO.call | apply DO.call); (iterate 3 (focus (simp (disch := omega) only [go_sem, ↓reduceIte, zn1, zn3] <;> rfl))); (first | apply SCall.ofX | apply DCall.ofX); (focus (assumption)); (focus (simp (disch := omega) only [go_sem, ↓reduceIte, zn7] <;> rfl))) | ((with_reducible first | apply wa | apply wb | apply wc | apply wd); (focus (simp (disch := omega) only [go_sem, ↓reduceIte, zn1, zn3, zn4, reduceCtorEq, if_pos, q2, i1, gb, hysi, lv_len, zl5] <;> rfl)); (first | refine pickF ?_ | fail_if_success with_reducible refine pickA ?_)) | ((with_reducible refine SC.draw Tab.mixed ?_ ?_); rfl) | (with_reducible apply SC.ops)))
   refine SC.loop (fun z : Nat × Nat => ⟨[(0, .im (lv (limbsOf X)) (limbsOf X).length), (1, .im (lv (limbsOf Y)) (limbsOf Y).length), (4, .pt 0 0), (5, .pt 1 0), (8, .sc (.int .u32 s)), (9, .pt 3 0), (10, .pt 4 0), (11, .pt 5 0), (12, .pt 6 0)], [(6, ⟨43, [.sc (.bool (decide ((z.2 : Int) < 0))), .im (lv (limbsOf (z.2 : Int).natAbs)) (limbsOf (z.2 : Int).natAbs).length], false⟩), (5, ⟨43, [.sc (.bool (decide ((D : Int) < 0))), .im (lv (limbsOf (D : Int).natAbs)) (limbsOf (D : Int).natAbs).length], false⟩), (4, ⟨43, [.sc (.bool (decide ((z.1 : Int) < 0))), .im (lv (limbsOf (z.1 : Int).natAbs)) (limbsOf (z.1 : Int).natAbs).length], false⟩), (1, ⟨43, [.sc (.bool false), .sc (.slice none 0 0)], false⟩), (0, ⟨43, [.sc (.bool false), .sc (.slice none 0 0)], false⟩)], 7, 86⟩)
    (fun z => divInv AS D z.1 z.2) (fun z => z.1) (AS, 0) ?_ hdi ?_
   ·(refine Le.of [] hB (by exact ⟨znc _, fun _ _ => znc _⟩) ?_ ?_ <;> (repeat' (first | exact leSl_nil | exact leHp_nil | refine leSl_cons sF ?_ ?_ | refine leHp_cons sF ?_ ?_ | exact VLe.refl rfl | exact HLe.same rfl (LLe.refl rfl) | refine HLe.same rfl ?_ | exact LLe.nil _ | refine LLe.cons ?_ ?_)))
    exact VLe.nil_im
   ·rintro ⟨R, q⟩ hI K' hK'
    simp only at hI ⊢
    obtain ⟨hR, hq⟩ := hle R q hI
    have fRR : Fits (K + 1) (R : Int) := fits_nat (Nat.lt_of_le_of_lt hR (by unfold Fits at fR; simpa using fR))
    have fq : Fits (K + 1) (q : Int) := fits_nat (Nat.lt_of_le_of_lt hq (by unfold Fits at fR; simpa using fR))
    have lR := fits_len fRR
    have lD := fits_len fD
    have cl := less_n (R : Int).natAbs (D : Int).natAbs (by omega) (by omega)
    have vR := limbsOf_val (R : Int).natAbs
    have vD := limbsOf_val (D : Int).natAbs
    by_cases hlt : R < D
    ·rw [decide_eq_true (by omega)] at cl
     have gR := val_lt (limbsOf_limbs (R : Int).natAbs)
     have c1 := short_i (limbsOf (R : Int).natAbs) s (limbsOf_limbs _) (by omega) hs0 hs
     have c2 := dg_made (limbsOf (R : Int).natAbs).length (val (limbsOf (R : Int).natAbs) / s) false (Nat.lt_of_le_of_lt (Nat.div_le_self _ _) gR) (by omega)
     obtain ⟨e1, e2⟩ := hfin R q hI hlt
     rw [vR] at c1 c2
     rw [show (R : Int).natAbs = R by omega, show sgn false (R / s) = ((R / s : Nat) : Int) from rfl] at c2
     rw [show (R : Int).natAbs / s = R / s by rw [show (R : Int).natAbs = R by omega]] at c1
     rw [← e1, ← e2]
     rw [show (R : Int).natAbs = R by omega] at c1 cl ⊢
     unfold iv sv at *
     (repeat (first | refine DO.nil (by kernel_rfl) ?_ | (with_reducible refine oA ?_) | ((first | apply SO.call | apply DO.call); (iterate 3 (focus (simp (disch := omega) only [go_sem, ↓reduceIte, zn1, zn2] <;> rfl))); (first | apply SCall.ofX | apply DCall.ofX); (focus (assumption)); (focus (simp (disch := omega) only [go_sem] <;> rfl))) | ((with_reducible first | apply wa | apply wb | apply wc | apply wd); (focus (simp (disch := omega) only [go_sem, ↓reduceIte, zn1, zn3, zn4, reduceCtorEq] <;> rfl)); (first | refine pickF ?_ | fail_if_success with_reducible refine pickA ?_)) | ((with_reducible refine SC.draw Tab.mixed ?_ ?_); rfl) | (with_reducible apply SC.ops)))
     exact retQ_ret Try.results63 sF sF rfl
    ·rw [decide_eq_false (by omega)] at cl
     obtain ⟨e, he0, hed, ce⟩ := est_i (limbsOf (R : Int).natAbs) (limbsOf (D : Int).natAbs) (limbsOf_limbs _) (limbsOf_canon _) (limbsOf_limbs _) (by omega) (limbsOf_ge (by omega)) (canon_len (limbsOf_canon _) (by have := val_lt (limbsOf_limbs (R : Int).natAbs); omega)) (by omega)
     rw [vR, vD, show (R : Int).natAbs = R by omega, show (D : Int).natAbs = D by omega] at hed
     have hee : e ≤ e * D := Nat.le_mul_of_pos_right _ (by omega)
     have fe : Fits (K + 1) (e : Int) := fRR.of_natAbs_le (by omega)
     have fed : Fits (K + 1) ((e * D : Nat) : Int) := fRR.of_natAbs_le (by omega)
     have c1 := add_i q e (K + 1) fq fe (by omega)
     have c2 := mul_i e D (K + 1) fe fD (by omega)
     have c3 := sub_i R ((e * D : Nat) : Int) (K + 1) fRR fed (by omega)
     have hst := hI.step hed
     rw [← Int.natCast_add] at c1
     rw [← Int.natCast_mul] at c2
     rw [← Int.ofNat_sub hed] at c3
     generalize e * D = eD at *
     unfold iv sv at ce c1 c2 c3
     unfold sv at cl
     (repeat (first | refine DO.nil (by kernel_rfl) ?_ | (with_reducible refine oA ?_) | ((first | apply SO.call | apply DO.call); (iterate 3 (focus (simp (disch := omega) only [go_sem, ↓reduceIte, zn1] <;> rfl))); (first | apply SCall.ofX | apply DCall.ofX); (focus (assumption)); (focus (simp (disch := omega) only [go_sem] <;> rfl))) | ((with_reducible first | apply wa | apply wb | apply wc | apply wd); (focus (simp (disch := omega) only [go_sem, ↓reduceIte, zn1, zn3, zn4, reduceCtorEq] <;> rfl)); (first | refine pickT ?_ | fail_if_success with_reducible refine pickA ?_)) | ((with_reducible refine SC.draw Tab.mixed ?_ ?_); rfl) | (with_reducible apply SC.ops)))
     refine hK' _ (R - eD, q + e) ?_ hst (by simp only; omega)
     (refine Le.of [] hB (by exact ⟨znc _, fun _ _ => znc _⟩) ?_ ?_ <;> (repeat' (first | exact leSl_nil | exact leHp_nil | refine leSl_cons sF ?_ ?_ | refine leHp_cons sF ?_ ?_ | exact VLe.refl rfl | exact HLe.same rfl (LLe.refl rfl))))
theorem divide_i (X Y : Nat) (K : Nat) (hX : X < 4294967296 ^ K) (hY : Y < 4294967296 ^ K) (hK : K ≤ 300000000000) (h0 : 0 < Y) : Spec Try.prog 63 [sv (limbsOf X), sv (limbsOf Y)] (.tu [iv ((X / Y : Nat) : Int), iv ((X % Y : Nat) : Int)]) := by
 rcases Nat.lt_or_ge Y 4294967296 with h | h
 ·exact divide_one X Y K hX hK h0 h
 ·exact divide_long X Y K hX hY hK h
theorem Spec.le {P : Program} {f : Nat} {args : List V} {x y : V} (h : Spec P f args y) (hv : VLe (fun _ => true) y x) : Spec P f args x := by
 intro S w vs hS hT ha
 refine (h S w vs hS hT ha).mono ?_
 rintro e w' ⟨v, h1, h2, h3⟩
 exact ⟨v, h1, h2, (hv _ _ _ _ _ h3).mono (fun _ h => ⟨h, rfl⟩) (fun _ h => h.1.elim)⟩
theorem VLe.tu {ok : Nat → Bool} {cs ds : List V} (h : LLe ok cs ds) (hl : cs.length = ds.length) : VLe ok (.tu cs) (.tu ds) := by
 intro S rho A w v hr
 cases hr with
 | tu h1 h2 =>
  refine .tu (by omega) fun i x u hx hu => ?_
  have hi := (List.getElem?_eq_some_iff.1 hx).1
  have hy : cs[i]? = some cs[i] := zlb (by omega)
  exact h.2 i _ x hy hx _ _ _ _ _ (h2 i _ u hy hu)
theorem pshort_i (a : List Nat) (d : Nat) (ha : limbs a) (hm : a.length ≤ 1000000000000) (hd : 0 < d) (hd2 : d < 4294967296) : Spec Try.prog 92 [sv a, .sc (.int .u32 d)] (.tu [sv (dg a.length (val a / d)), .sc (.int .u32 (val a % d : Nat))]) := by
 unfold sv
 refine Spec.run Try.func92 rfl Try.ntmps92 (by simp) sF fun B hB => ?_
 (repeat (first | (with_reducible refine oA ?_) | ((with_reducible apply SC.region); (focus (simp (disch := omega) only [go_sem, ↓reduceIte, reduceCtorEq, if_pos]; rfl)))))
 refine SC.loop (fun x : Nat × Nat × List Nat => ⟨[(0, .im (lv a) a.length), (1, .sc (.int .u32 d)), (6, .sl 0 0 a.length 1 none), (7, .sc (.int .u64 x.2.1)), (8, .sc (.int .i64 ((x.1 : Int) - 1)))], [(0, ⟨80, lv x.2.2, false⟩)], 1, 42⟩)
  (fun x => x.1 ≤ a.length ∧ shortInv a d x.1 x.2.1 x.2.2) (fun x => x.1) (a.length, 0, List.replicate a.length 0) ?_ ?_ ?_
 ·(refine Le.of [] hB (by exact ⟨znc _, fun _ _ => znc _⟩) ?_ ?_ <;> (repeat' (first | exact leSl_nil | exact leHp_nil | refine leSl_cons sF ?_ ?_ | refine leHp_cons sF ?_ ?_ | exact VLe.refl rfl | exact VLe.cap rfl (by rfl) | refine HLe.same rfl ?_)))
  exact LLe.lv (lv_rep _)
 ·exact ⟨znb _, by simp, limbs_replicate _, hd, by simp [val]⟩
 ·rintro ⟨k, r, z⟩ ⟨hk, hI⟩ K hK
  simp only at hk hI ⊢
  have hz : z.length = a.length := hI.1
  by_cases h0 : k = 0
  ·subst h0
   have q1 : decide ((0 : Int) ≤ ((0 : Nat) : Int) - 1) = false := by simp
   have hdn := hI.done
   have he := dg_eq hI.2.1
   rw [hdn.1, hz] at he
   have ht : z.take a.length = z := by rw [← hz]; exact List.take_length
   (repeat (first | (with_reducible refine SC.condB sF ?_; with_reducible refine pickF ?_) | (with_reducible refine oA ?_) | ((with_reducible apply SC.region); (focus (simp (disch := omega) only [go_sem, ↓reduceIte, zn1, zn2, reduceCtorEq, q1]; rfl)))))
   refine retQ_ret Try.results92 sF (by simp (disch := omega) only [go_sem, ↓reduceIte, if_pos, lv_len, lv_take, lv_clo, ht]; rfl) ?_
   have h3 := hI.2.2.1
   rw [he, hz, ← hdn.2]
   have : (r : Int) % 4294967296 = r := by omega
   rw [this]
  ·obtain ⟨j, rfl⟩ : ∃ j, k = j + 1 := ⟨k - 1, by omega⟩
   have q1 : decide ((0 : Int) ≤ ((j + 1 : Nat) : Int) - 1) = true := by simp
   have hi : (((j + 1 : Nat) : Int) - 1).toNat = j := by omega
   have hj : j < a.length := by omega
   have la := limbs_getD ha j
   have ga := lv_get hj
   obtain ⟨hst, hq⟩ := hI.step hj rfl la
   have h3 := hI.2.2.1
   generalize a.getD j 0 = x at *
   have hor := or_up r x (by omega) la
   have h4 : ((r * 4294967296 + x : Nat) : Int).tdiv (d : Int) = (((r * 4294967296 + x) / d : Nat) : Int) := (Int.ofNat_tdiv _ _).symm
   have h5 : ((r * 4294967296 + x : Nat) : Int).tmod (d : Int) = (((r * 4294967296 + x) % d : Nat) : Int) := (Int.ofNat_tmod _ _).symm
   have h4' : ((r * 4294967296 + x : Nat) : Int) / (d : Int) = (((r * 4294967296 + x) / d : Nat) : Int) := by simp
   have h5' : ((r * 4294967296 + x : Nat) : Int) % (d : Int) = (((r * 4294967296 + x) % d : Nat) : Int) := by simp
   have h6 : (r * 4294967296 + x) % d < d := Nat.mod_lt _ hd
   generalize (r * 4294967296 + x) / d = Q at *
   generalize (r * 4294967296 + x) % d = M at *
   (repeat (first | (with_reducible refine SC.condB sF ?_; with_reducible refine pickT ?_) | (with_reducible refine oA ?_) | ((with_reducible apply SC.region); (focus (simp (disch := omega) only [go_sem, ↓reduceIte, zn1, reduceCtorEq, zi1, zi2, if_pos, if_neg, q1, hi, ga, hor, h4, h5, mi32, lv_len, zl5]; rfl)))))
   refine hK _ (j, M, z.set j Q) ?_ ⟨by simp only; omega, hst⟩ (by simp only; omega)
   (refine Le.of [] hB (by exact ⟨znc _, fun _ _ => znc _⟩) ?_ ?_ <;> (repeat' (first | exact leSl_nil | exact leHp_nil | refine leSl_cons sF ?_ ?_ | refine leHp_cons sF ?_ ?_ | exact VLe.refl rfl | exact VLe.int (by first | rfl | omega) | refine HLe.same rfl ?_)))
   exact LLe.lv (lv_set (by omega))
def DivTo (X Y : Nat) (x : V) : Prop := ∃ q r : List Nat, x = .tu [sv q, sv r] ∧ limbs q ∧ limbs r ∧ val q = X / Y ∧ val r = X % Y ∧ q.length ≤ (limbsOf X).length + 2 ∧ r.length ≤ (limbsOf X).length + (limbsOf Y).length + 2
theorem nat_lt_of_len {m n : Nat} (h : (limbsOf m).length < (limbsOf n).length) : m < n := by
 have h1 := val_lt (limbsOf_limbs m)
 have h2 := canon_ge (limbsOf_canon n) (by intro e; rw [e] at h; simp at h)
 rw [limbsOf_val] at h1 h2
 have h3 : 4294967296 ^ (limbsOf m).length ≤ 4294967296 ^ ((limbsOf n).length - 1) := Nat.pow_le_pow_right (by omega) (by omega)
 omega
theorem len_le_of {m n : Nat} (h : m ≤ n) : (limbsOf m).length ≤ (limbsOf n).length := by
 refine Nat.le_of_not_lt fun hlt => ?_
 have := nat_lt_of_len hlt
 omega
theorem div_less (X Y : Nat) (hX : (limbsOf X).length ≤ 300000000000) (hY : (limbsOf Y).length ≤ 300000000000) (h : X < Y) : ∃ x, DivTo X Y x ∧ Spec Try.prog 88 [sv (limbsOf X), sv (limbsOf Y)] x := by
 refine ⟨_, ⟨[], limbsOf X, rfl, fun x h => (by simp at h), limbsOf_limbs _, (Nat.div_eq_of_lt h).symm, by rw [limbsOf_val, Nat.mod_eq_of_lt h], by simp, by omega⟩, ?_⟩
 have c1 := compare_n X Y (by omega) (by omega)
 rw [Int.sign_eq_neg_one_of_neg (by omega)] at c1
 have c2 := clone_l (limbsOf X) (by omega)
 have q1 : decide ((-1 : Int) < 0) = true := by decide
 unfold sv at *
 refine Spec.run Try.func88 rfl Try.ntmps88 (by simp) sF fun B hB => ?_
 (repeat (first | (with_reducible refine oA ?_) | ((apply SO.call); (iterate 3 (focus (simp (disch := omega) only [go_sem, ↓reduceIte, zn1] <;> rfl))); (apply SCall.ofX); (focus (assumption)); (focus (simp (disch := omega) only [go_sem] <;> rfl))) | ((with_reducible first | apply SC.condB | apply SC.region | apply SO.run); (focus (simp (disch := omega) only [go_sem, ↓reduceIte, zn1, reduceCtorEq, q1] <;> rfl)); (first | refine pickT ?_ | fail_if_success with_reducible refine pickA ?_)) | (with_reducible apply SC.ops)))
 exact retQ_ret Try.results88 sF sF rfl
theorem div_two (X Y : Nat) (hX : (limbsOf X).length ≤ 2) (h0 : 0 < Y) (h : Y ≤ X) : ∃ x, DivTo X Y x ∧ Spec Try.prog 88 [sv (limbsOf X), sv (limbsOf Y)] x := by
 have hlY := len_le_of h
 have bX : X < 18446744073709551616 := by
  have h1 := val_lt (limbsOf_limbs X)
  rw [limbsOf_val] at h1
  have : 4294967296 ^ (limbsOf X).length ≤ 4294967296 ^ 2 := Nat.pow_le_pow_right (by omega) hX
  omega
 have bq : X / Y < 18446744073709551616 := Nat.lt_of_le_of_lt (Nat.div_le_self _ _) bX
 have br : X % Y < 18446744073709551616 := Nat.lt_of_le_of_lt (Nat.mod_le _ _) bX
 have hlX : 1 ≤ (limbsOf X).length := by
  rcases Nat.eq_zero_or_pos (limbsOf X).length with e | e
  ·have := limbsOf_nil.1 (List.eq_nil_of_length_eq_zero e); omega
  ·exact e
 refine ⟨_, ⟨[X / Y % 4294967296, X / Y / 4294967296], [X % Y % 4294967296, X % Y / 4294967296], rfl, limbs_two _ bq, limbs_two _ br, val_two _, val_two _, by simp, by simp⟩, ?_⟩
 have c1 := compare_n X Y (by omega) (by omega)
 have hs : 0 ≤ ((X : Int) - Y).sign := by rcases Nat.lt_or_ge Y X with e | e; rw [Int.sign_eq_one_of_pos (by omega)]; omega; rw [show (X : Int) - Y = 0 by omega]; decide
 have q1 := decide_eq_false (p := ((X : Int) - Y).sign < 0) (by omega)
 have q2 := decide_eq_true (p := ((limbsOf X).length : Int) ≤ 2) (by omega)
 have c2 := word_i (limbsOf X) (limbsOf_limbs _) hX
 have c3 := word_i (limbsOf Y) (limbsOf_limbs _) (by omega)
 rw [limbsOf_val] at c2 c3
 have c4 := limbs_s (X / Y) bq
 have c5 := limbs_s (X % Y) br
 have e4 : (X : Int).tdiv (Y : Int) = ((X / Y : Nat) : Int) := (Int.ofNat_tdiv _ _).symm
 have e5 : (X : Int).tmod (Y : Int) = ((X % Y : Nat) : Int) := (Int.ofNat_tmod _ _).symm
 generalize ((X : Int) - Y).sign = s at *
 unfold sv at *
 generalize X / Y = Q at *
 generalize X % Y = R at *
 refine Spec.run Try.func88 rfl Try.ntmps88 (by simp) sF fun B hB => ?_
 (repeat (first | refine DO.nil (by kernel_rfl) ?_ | (with_reducible refine oA ?_) | ((first | apply SO.call | apply DO.call); (iterate 3 (focus (simp (disch := omega) only [go_sem, ↓reduceIte, zn1] <;> rfl))); (first | apply SCall.ofX | apply DCall.ofX); (focus (assumption)); (focus (simp (disch := omega) only [go_sem] <;> rfl))) | ((with_reducible first | apply wa | apply wb | apply wc | apply wd); (focus (simp (disch := omega) only [go_sem, ↓reduceIte, zn1, reduceCtorEq, if_neg, q1, q2, e4, e5] <;> rfl)); (first | refine pT ?_ | refine pF ?_ | fail_if_success with_reducible refine pA ?_)) | ((with_reducible refine SC.draw Tab.mixed ?_ ?_); rfl) | (with_reducible apply SC.ops)))
 exact retQ_ret Try.results88 sF sF rfl
theorem div_one (X Y : Nat) (hX : (limbsOf X).length ≤ 300000000000) (hX2 : 2 < (limbsOf X).length) (h0 : 0 < Y) (h : Y < 4294967296) : ∃ x, DivTo X Y x ∧ Spec Try.prog 88 [sv (limbsOf X), sv (limbsOf Y)] x := by
 have gX := val_lt (limbsOf_limbs X)
 rw [limbsOf_val] at gX
 have hm := Nat.mod_lt X h0
 refine ⟨_, ⟨dg (limbsOf X).length (X / Y), [X % Y], rfl, dg_limbs _ _, limbs_one (by omega), dg_val _ _ (Nat.lt_of_le_of_lt (Nat.div_le_self _ _) gX), val_one _, by rw [dg_len]; omega, by simp⟩, ?_⟩
 have hl1 : (limbsOf Y).length = 1 := by rw [limbsOf_one h0 h]; rfl
 have hlt : Y < X := nat_lt_of_len (by omega)
 have c1 := compare_n X Y (by omega) (by omega)
 rw [Int.sign_eq_one_of_pos (by omega)] at c1
 have c2 := pshort_i (limbsOf X) Y (limbsOf_limbs _) (by omega) h0 h
 rw [limbsOf_val] at c2
 rw [limbsOf_one h0 h] at c1 ⊢
 have q1 : decide ((1 : Int) < 0) = false := by decide
 have q2 := decide_eq_false (p := ((limbsOf X).length : Int) ≤ 2) (by omega)
 have q3 : (((1 : Nat) : Int) == 1) = true := by decide
 unfold sv at *
 rw [lv_one] at *
 simp only [List.length_singleton] at *
 refine Spec.run Try.func88 rfl Try.ntmps88 (by simp) sF fun B hB => ?_
 (repeat (first | (with_reducible refine oA ?_) | ((apply SO.call); (iterate 3 (focus (simp (disch := omega) only [go_sem, ↓reduceIte, zn1] <;> rfl))); (apply SCall.ofX); (focus (assumption)); (focus (simp (disch := omega) only [go_sem] <;> rfl))) | ((with_reducible first | apply SC.condB | apply SC.region | apply SO.run); (focus (simp (disch := omega) only [go_sem, ↓reduceIte, zn1, zn2, zn3, reduceCtorEq, zi1, if_pos, q1, q2, q3] <;> rfl)); (first | refine pT ?_ | refine pF ?_ | fail_if_success with_reducible refine pA ?_)) | (with_reducible apply SC.ops)))
 exact retQ_ret Try.results88 sF sF rfl
theorem dg_take : ∀ (k j m : Nat), (dg (k + j) m).take k = dg k m
 | 0, j, m => by simp [dg]
 | k + 1, j, m => by
  rw [show k + 1 + j = (k + j) + 1 by omega]
  simp only [dg, zl3]
  rw [dg_take k j]
theorem dg_drop : ∀ (k j m : Nat), (dg (k + j) m).drop k = dg j (m / 4294967296 ^ k)
 | 0, j, m => by simp
 | k + 1, j, m => by
  rw [show k + 1 + j = (k + j) + 1 by omega]
  simp only [dg, zl9]
  rw [dg_drop k j, Nat.div_div_eq_div_mul, Nat.pow_succ, Nat.mul_comm]
theorem dg_getD : ∀ (k i m : Nat), i < k → (dg k m).getD i 0 = m / 4294967296 ^ i % 4294967296
 | k + 1, 0, m, _ => by simp [dg]
 | k + 1, i + 1, m, h => by
  have := dg_getD k i (m / 4294967296) (by omega)
  simp only [dg]
  rw [show (m % 4294967296 :: dg k (m / 4294967296)).getD (i + 1) 0 = (dg k (m / 4294967296)).getD i 0 from rfl, this, Nat.div_div_eq_div_mul, Nat.pow_succ, Nat.mul_comm]
theorem take_succ_getD {l : List Nat} {i : Nat} (h : i < l.length) : l.take (i + 1) = l.take i ++ [l.getD i 0] := by
 rw [List.take_succ_eq_append_getElem h, List.getD_eq_getElem?_getD, zlb h]; rfl
theorem only_lv (p : Nat → Prop) (l : List Nat) : ∀ y ∈ lv l, Only p y := fun y hy => by
 obtain ⟨v, rfl⟩ := lv_sc l y hy
 exact .sc _
structure Shifted (Y s n m : Nat) : Prop where
 lt : Y * m < 4294967296 ^ n
 top : 2147483648 ≤ (dg (n + 1) (Y * m)).getD (n - 1) 0
theorem shifted {Y n t : Nat} (hn : (limbsOf Y).length = n) (h1 : 1 ≤ n) (ht : (limbsOf Y).getD (n - 1) 0 = t) : Shifted Y (32 - bl t) n (2 ^ (32 - bl t)) ∧ t ≠ 0 ∧ bl t ≤ 32 ∧ t < 4294967296 := by
 have tl := limbs_getD (limbsOf_limbs Y) (n - 1)
 rw [ht] at tl
 have hb := bl_le_of (x := t) (k := 32) (by omega)
 have t0 : t ≠ 0 := by
  have hc := limbsOf_canon Y (by intro e; rw [e] at hn; simp at hn; omega)
  rw [List.getLast_eq_getElem] at hc
  rw [List.getD_eq_getElem?_getD, zlb (by omega)] at ht
  simp only [hn] at hc
  intro e; exact hc (by simpa [e] using ht)
 have hv := val_last (z := limbsOf Y) (n := n - 1) (by omega)
 rw [limbsOf_val, ht] at hv
 have hlt := val_lt (limbs_take (limbsOf_limbs Y) (n - 1))
 rw [List.length_take, Nat.min_eq_left (by omega)] at hlt
 obtain ⟨a1, a2⟩ := bl_le t0
 have a3 := bl_lt t
 have p1 : 2 ^ bl t * 2 ^ (32 - bl t) = 4294967296 := by rw [← Nat.pow_add, show bl t + (32 - bl t) = 32 by omega]
 have p2 : 2 ^ (bl t - 1) * 2 ^ (32 - bl t) = 2147483648 := by rw [← Nat.pow_add, show bl t - 1 + (32 - bl t) = 31 by omega]
 have p3 : 4294967296 ^ n = 4294967296 ^ (n - 1) * 4294967296 := by rw [← Nat.pow_succ, show (n - 1).succ = n by omega]
 generalize hMM : 4294967296 ^ (n - 1) = M at *
 have hM : 0 < M := by omega
 generalize 2 ^ (32 - bl t) = p at *
 have u1 : Y * p < M * 4294967296 := by
  have b1 : Y < M * (t + 1) := by rw [Nat.mul_add]; omega
  have b2 : M * (t + 1) ≤ M * 2 ^ bl t := Nat.mul_le_mul_left _ (by omega)
  have hp : 0 < p := by rcases Nat.eq_zero_or_pos p with e | e; subst e; omega; exact e
  have b3 := Nat.mul_lt_mul_of_pos_right (Nat.lt_of_lt_of_le b1 b2) hp
  rw [Nat.mul_assoc, p1] at b3; exact b3
 refine ⟨⟨by rw [p3]; exact u1, ?_⟩, t0, hb, tl⟩
 rw [dg_getD _ _ _ (by omega)]
 rw [hMM]
 have u2 : 2147483648 * M ≤ Y * p := by
  have c1 : 2 ^ (bl t - 1) * p ≤ t * p := Nat.mul_le_mul_right _ a1
  have c2 : M * t ≤ Y := by omega
  have c3 := Nat.mul_le_mul_right p c2
  have c4 : M * 2147483648 ≤ M * (t * p) := Nat.mul_le_mul_left _ (by omega)
  rw [← Nat.mul_assoc] at c4
  omega
 have d1 := (Nat.le_div_iff_mul_le hM).2 u2
 have d2 := Nat.div_lt_of_lt_mul u1
 rw [Nat.mod_eq_of_lt d2]; exact d1
set_option maxHeartbeats 4000000 in
theorem div_long (X Y : Nat) (hX : (limbsOf X).length ≤ 300000000000) (hX2 : 2 < (limbsOf X).length) (h0 : 2 ≤ (limbsOf Y).length) (h : Y ≤ X) : ∃ x, DivTo X Y x ∧ Spec Try.prog 88 [sv (limbsOf X), sv (limbsOf Y)] x := by
 have hlY := len_le_of h
 have c1 := compare_n X Y (by omega) (by omega)
 have hs0 : 0 ≤ ((X : Int) - Y).sign := by rcases Nat.lt_or_ge Y X with e | e; rw [Int.sign_eq_one_of_pos (by omega)]; omega; rw [show (X : Int) - Y = 0 by omega]; decide
 have gX := val_lt (limbsOf_limbs X)
 rw [limbsOf_val] at gX
 obtain ⟨hSh, ht0, htb, htl⟩ := shifted (Y := Y) rfl (by omega) rfl
 have hY0 : 0 < Y := by
  rcases Nat.eq_zero_or_pos Y with e | e
  ·rw [e] at h0; simp [limbsOf_zero] at h0
  ·exact e
 have gY := canon_ge (limbsOf_canon Y) (by intro e; rw [e] at h0; simp at h0)
 rw [limbsOf_val] at gY
 have c3 := shift_n (limbsOf X) (32 - bl ((limbsOf Y).getD ((limbsOf Y).length - 1) 0)) (limbsOf_limbs _) (by have := (bl_le ht0).2; omega) (by omega)
 have c4 := shift_n (limbsOf Y) (32 - bl ((limbsOf Y).getD ((limbsOf Y).length - 1) 0)) (limbsOf_limbs _) (by have := (bl_le ht0).2; omega) (by omega)
 have c2 := lz32_s _ htl
 have gt := lv_get (l := limbsOf Y) (i := (limbsOf Y).length - 1) (by omega)
 rw [limbsOf_val] at c3 c4
 have hRlt : X % Y < 4294967296 ^ (limbsOf Y).length := by
  have h1 := val_lt (limbsOf_limbs Y)
  rw [limbsOf_val] at h1
  have := Nat.mod_lt X hY0
  omega
 have hQlt : X / Y < 4294967296 ^ ((limbsOf X).length - (limbsOf Y).length + 1) := by
  refine Nat.div_lt_of_lt_mul (Nat.lt_of_lt_of_le gX ?_)
  refine Nat.le_trans ?_ (Nat.mul_le_mul_right _ gY)
  rw [← Nat.pow_add]
  exact Nat.pow_le_pow_right (by omega) (by omega)
 refine ⟨_, ⟨dg ((limbsOf X).length - (limbsOf Y).length + 1) (X / Y), dg (limbsOf Y).length (X % Y), rfl, dg_limbs _ _, dg_limbs _ _, dg_val _ _ hQlt, dg_val _ _ hRlt, by rw [dg_len]; omega, by rw [dg_len]; omega⟩, ?_⟩
 have q1 := decide_eq_false (p := ((X : Int) - Y).sign < 0) (by omega)
 have q2 := decide_eq_false (p := ((limbsOf X).length : Int) ≤ 2) (by omega)
 have q3 : (((limbsOf Y).length : Int) == 1) = false := by rw [beq_eq_false_iff_ne]; omega
 unfold sv at *
 rw [dg_len, dg_len]
 generalize ((X : Int) - Y).sign = sg at *
 generalize hlx : (limbsOf X).length = lx at *
 generalize hn : (limbsOf Y).length = n at *
 generalize (limbsOf Y).getD (n - 1) 0 = t at *
 generalize hs : 32 - bl t = s at *
 have i1 : ((n : Int) - 1).toNat = n - 1 := by omega
 have hN : ((lx : Int) - n + 1).toNat = lx - n + 1 := by omega
 refine Spec.run Try.func88 rfl Try.ntmps88 (by simp) sF fun B hB => ?_
 (repeat (first | (with_reducible refine oA ?_) | ((first | apply SO.call | apply DO.call); (iterate 3 (focus (simp (disch := omega) only [go_sem, ↓reduceIte, zn1] <;> rfl))); (first | apply SCall.ofX | apply DCall.ofX); (focus (assumption)); (focus (simp (disch := omega) only [go_sem] <;> rfl))) | ((with_reducible first | apply wa | apply wb | apply wc | apply wd); (focus (simp (disch := omega) only [go_sem, ↓reduceIte, zn1, reduceCtorEq, if_pos, q1, q2, q3, i1, gt, lv_len, hn, zl5] <;> rfl)); (first | refine pickF ?_ | fail_if_success with_reducible refine pickA ?_)) | ((with_reducible refine SC.draw Tab.mixed ?_ ?_); rfl) | (with_reducible apply SC.ops)))
 (refine DO.callN Tab.go94 sF sG ?_; refine DNew.of (c3) rfl sF ?_)
 (repeat (refine DO.run sF ?_))
 (refine DO.callN Tab.go94 sF sG ?_; refine DNew.of (c4) rfl sF ?_)
 (repeat (refine DO.run sF ?_))
 (refine DO.nil (by kernel_rfl) ?_)
 (repeat (first | (with_reducible refine oA ?_) | ((with_reducible apply SC.region); (focus (simp (disch := omega) only [go_sem, ↓reduceIte, zn1, zn4, reduceCtorEq, if_pos, hN]; rfl)))))
 have hp0 : 0 < 2 ^ s := Nat.pow_pos (by omega)
 have hsl : s ≤ 31 := by have := (bl_le ht0).2; omega
 obtain ⟨hYlt, htop⟩ := hSh
 have hVt : (dg (n + 1) (Y * 2 ^ s)).take n = dg n (Y * 2 ^ s) := dg_take n 1 _
 have hVv := dg_val n (Y * 2 ^ s) hYlt
 have hVl := dg_len (n + 1) (Y * 2 ^ s)
 have hVb := dg_limbs (n + 1) (Y * 2 ^ s)
 have hinit : dvInv (X * 2 ^ s) (Y * 2 ^ s) n (lx - n + 1) (dg (lx + 1) (X * 2 ^ s)) (List.replicate (lx - n + 1) 0) := by
  have hXX : X * 2 ^ s < 4294967296 ^ (lx + 1) := by
   rw [Nat.pow_succ]
   have := Nat.pow_le_pow_right (n := 2) (by omega) (show s ≤ 32 by omega)
   exact Nat.mul_lt_mul_of_lt_of_le gX this (by omega)
  have hlt : X * 2 ^ s < 4294967296 ^ (lx - n + 1) * (Y * 2 ^ s) := by
   rw [← Nat.mul_assoc]
   refine Nat.mul_lt_mul_of_pos_right (Nat.lt_of_lt_of_le gX ?_) hp0
   refine Nat.le_trans ?_ (Nat.mul_le_mul_left _ gY)
   rw [← Nat.pow_add]
   exact Nat.pow_le_pow_right (by omega) (by omega)
  have hdv := Nat.div_lt_of_lt_mul hlt
  refine ⟨dg_limbs _ _, limbs_replicate _, by rw [dg_len, List.length_replicate]; omega, by simp, ?_, ?_⟩
  ·rw [show lx + 1 = (lx - n + 1) + n by omega, dg_drop, dg_val _ _ (Nat.lt_trans hdv hYlt)]
   exact hdv
  ·rw [dg_val _ _ hXX]; simp [val]
 generalize dg (n + 1) (Y * 2 ^ s) = V at *
 refine SC.loop (fun y : Nat × List Nat × List Nat => ⟨[(0, .im (lv (limbsOf X)) lx), (1, .im (lv (limbsOf Y)) n), (10, .sc (.int .i64 s)), (11, .sc (.int .i64 n)), (12, .sl 0 0 (lx + 1) 1 none), (13, .sl 1 0 n 1 (some n)), (14, .sl 2 0 (lx - n + 1) 1 none), (15, .sc (.int .i64 ((y.1 : Int) - 1)))], [(0, ⟨80, lv y.2.1, false⟩), (1, ⟨80, lv V, false⟩), (2, ⟨80, lv y.2.2, false⟩)], 3, 128⟩)
  (fun y => y.2.2.length = lx - n + 1 ∧ dvInv (X * 2 ^ s) (Y * 2 ^ s) n y.1 y.2.1 y.2.2) (fun y => y.1) (lx - n + 1, dg (lx + 1) (X * 2 ^ s), List.replicate (lx - n + 1) 0) ?_ ?_ ?_
 ·(refine Le.of [] hB (by exact ⟨znc _, fun _ _ => znc _⟩) ?_ ?_ <;> (repeat' (first | exact leSl_nil | exact leHp_nil | refine leSl_cons sF ?_ ?_ | refine leHp_cons sF ?_ ?_ | exact VLe.refl rfl | exact VLe.int (by first | rfl | omega) | exact VLe.cap rfl (by rfl) | refine HLe.same rfl ?_ | refine LLe.cons ?_ ?_)))
  all_goals first | exact LLe.lv rfl | exact LLe.lv (lv_rep _)
 ·exact ⟨by simp, hinit⟩
 ·rintro ⟨k, Z, q⟩ ⟨hql, hI⟩ K hK
  simp only at hql hI ⊢
  have hI' := hI
  obtain ⟨hZb, hqb, hZl, hkq, _, _⟩ := hI'
  by_cases hk0 : k = 0
  ·subst hk0
   have q4 : decide ((0 : Int) ≤ ((0 : Nat) : Int) - 1) = false := by simp
   obtain ⟨f1, f2⟩ := hI.done hp0 hY0
   have hqe := dg_eq hqb
   rw [f1, hql] at hqe
   have hqt : q.take (lx - n + 1) = q := by rw [← hql]; exact List.take_length
   (repeat (first | (with_reducible refine SC.condB sF ?_; with_reducible refine pickF ?_) | (with_reducible refine oA ?_) | ((with_reducible apply SC.region); (focus (simp (disch := omega) only [go_sem, ↓reduceIte, zn1, zn4, reduceCtorEq, if_pos, q4]; rfl)))))
   have hDg : ∀ i, i < n → (dg n (X % Y)).getD i 0 = ((Z.getD (i + 1) 0 * 4294967296 + Z.getD i 0) / 2 ^ s) % 4294967296 := fun i hi => by
    rw [dg_getD _ _ _ hi, ← f2]; exact (back_limb hZb (by omega) (by omega)).symm
   have hDl := dg_len n (X % Y)
   have hDb := dg_limbs n (X % Y)
   generalize dg n (X % Y) = D at *
   refine SC.loop (fun y : Nat × List Nat => ⟨[(10, .sc (.int .i64 s)), (12, .sl 0 0 (lx + 1) 1 none), (14, .sl 2 0 (lx - n + 1) 1 none), (16, .sl 3 0 n 1 none), (102, .sc (.int .i64 n)), (103, .sc (.int .i64 y.1))], [(0, ⟨80, lv Z, false⟩), (2, ⟨80, lv q, false⟩), (3, ⟨80, lv y.2, false⟩)], 4, 128⟩)
    (fun y => y.1 ≤ n ∧ y.2.length = n ∧ y.2.take y.1 = D.take y.1) (fun y => n - y.1) (0, List.replicate n 0) ?_ ?_ ?_
   ·(refine Le.of [] hB (by exact ⟨znc _, fun _ _ => znc _⟩) ?_ ?_ <;> (repeat' (first | exact leSl_nil | exact leHp_nil | refine leSl_cons sF ?_ ?_ | refine leHp_cons sF ?_ ?_ | exact VLe.refl rfl | exact VLe.cap rfl (by rfl) | refine HLe.same rfl ?_)))
    all_goals first | exact LLe.lv rfl | exact LLe.lv (lv_rep _)
   ·exact ⟨znc _, by simp, rfl⟩
   ·rintro ⟨i, r⟩ ⟨hin, hrl, hrt⟩ K' hK'
    simp only at hin hrl hrt ⊢
    by_cases hlti : i < n
    ·have q5 := decide_eq_true (p := (i : Int) < (n : Int)) (by omega)
     have hi1 : ((i : Int) + 1).toNat = i + 1 := by omega
     have ga := lv_get (l := Z) (i := i + 1) (by omega)
     have gb := lv_get (l := Z) (i := i) (by omega)
     have la := limbs_getD hZb (i + 1)
     have lb := limbs_getD hZb i
     have hD := hDg i hlti
     have hts := take_succ_getD (l := D) (i := i) (by omega)
     rw [hD] at hts
     have htr : (r.set i ((Z.getD (i + 1) 0 * 4294967296 + Z.getD i 0) / 2 ^ s % 4294967296)).take (i + 1) = D.take (i + 1) := by
      rw [take_set_succ (by omega), hts, hrt]
     generalize Z.getD (i + 1) 0 = a at *
     generalize Z.getD i 0 = b at *
     have hor := or_up a b la lb
     have hms : min s 64 = s := by omega
     have hfd : ((a * 4294967296 + b : Nat) : Int).fdiv (2 ^ s) = (((a * 4294967296 + b) / 2 ^ s : Nat) : Int) := by
      rw [Int.fdiv_eq_ediv_of_nonneg _ (Int.le_of_lt (Int.pow_pos (by omega)))]; simp
     have hwb : (a * 4294967296 + b) / 2 ^ s < 18446744073709551616 := Nat.lt_of_le_of_lt (Nat.div_le_self _ _) (by omega)
     generalize (a * 4294967296 + b) / 2 ^ s = w at *
     (repeat (first | (with_reducible refine SC.condB sF ?_; with_reducible refine pickT ?_) | (with_reducible refine oA ?_) | ((with_reducible apply SC.region); (focus (simp (disch := omega) only [go_sem, ↓reduceIte, zn1, q5]; rfl))) | (with_reducible refine SC.draw Tab.mixed rfl ?_; (repeat (refine DO.run (by simp (disch := omega) only [go_sem, ↓reduceIte, zn1, reduceCtorEq, zi1, zi2, if_pos, if_neg, lv_len, hi1, ga, gb, hor, hms, hfd, mi32, lv_len, hrl]; rfl) ?_)); refine DO.nil (by kernel_rfl) ?_)))
     refine hK' _ (i + 1, r.set i (w % 4294967296)) ?_ ⟨by simp only; omega, by simp [hrl], htr⟩ (by simp only; omega)
     (refine Le.of [] hB (by exact ⟨znc _, fun _ _ => znc _⟩) ?_ ?_ <;> (repeat' (first | exact leSl_nil | exact leHp_nil | refine leSl_cons sF ?_ ?_ | refine leHp_cons sF ?_ ?_ | exact VLe.refl rfl | refine HLe.same rfl ?_)))
     all_goals first | exact LLe.lv rfl | exact LLe.lv (lv_set (by omega))
    ·have hie : i = n := by omega
     subst hie
     have q5 := decide_eq_false (p := (i : Int) < (i : Int)) (by omega)
     have hrD : r = D := by
      rw [zla (by omega), zla (by omega)] at hrt; exact hrt
     subst hrD
     have hrt2 : r.take i = r := by rw [← hrl]; exact List.take_length
     (repeat (first | (with_reducible refine SC.condB sF ?_; with_reducible refine pickF ?_) | (with_reducible refine oA ?_) | ((with_reducible apply SC.region); (focus (simp (disch := omega) only [go_sem, ↓reduceIte, zn1, zn2, q5]; rfl)))))
     refine retQ_ret Try.results88 sF (by simp (disch := omega) only [go_sem, ↓reduceIte, zn1, reduceCtorEq, if_pos, lv_len, lv_take, lv_clo, hqt, hrt2]; rfl) ?_
     rw [hqe]
  ·obtain ⟨j, rfl⟩ : ∃ j, k = j + 1 := ⟨k - 1, by omega⟩
   have q4 : decide ((0 : Int) ≤ ((j + 1 : Nat) : Int) - 1) = true := by simp
   have hi : (((j + 1 : Nat) : Int) - 1).toNat = j := by omega
   obtain ⟨g1, g2, g3⟩ := hI.seg hYlt
   have hdig := digit_i Z V j n hZb hVb (by omega) (by omega) (by omega) (by omega) htop (by rw [hVt, hVv]; exact g3)
   rw [hVt, hVv] at hdig
   (repeat (first | (with_reducible refine SC.condB sF ?_; with_reducible refine pickT ?_) | (with_reducible refine oA ?_) | ((with_reducible apply SC.region); (focus (simp (disch := omega) only [go_sem, ↓reduceIte, zn1, reduceCtorEq, if_pos, q4]; rfl)))))
   refine SC.ops ?_
   (repeat (refine SO.run (by simp (disch := omega) only [go_sem, ↓reduceIte, zn1, reduceCtorEq, if_pos, hi]; rfl) ?_))
   have hi2 : (((j + 1 : Nat) : Int) - 1 + (n : Int) + 1).toNat - j = n + 1 := by omega
   refine SO.inl sF Tab.go95 (by simp (disch := omega) only [go_sem, ↓reduceIte, zn1, hi2]; rfl) sG ?_
   refine SInl.of hdig (by simp (disch := omega) only [go_sem, ↓reduceIte, reduceCtorEq]; try exact ⟨rfl, rfl, trivial⟩) (.sc _) ⟨only_lv _ _, only_lv _ _, trivial⟩ sF (by simp (disch := omega) only [go_sem, ↓reduceIte, zn1, reduceCtorEq, decide_true, decide_false, Bool.or_true, Bool.or_false, Bool.or_self, zl8, zl7]; rfl) ?_
   have hst := hI.step hYlt (Nat.mul_pos hY0 hp0) (dg_limbs (n + 1) _) (dg_len _ _) (dg_val _ _ (Nat.lt_of_lt_of_le (Nat.mod_lt _ (Nat.mul_pos hY0 hp0)) (Nat.le_trans (Nat.le_of_lt hYlt) (Nat.pow_le_pow_right (by omega) (by omega)))))
   have hseg : seg Z j (dg (n + 1) (val ((Z.drop j).take (n + 1)) % (Y * 2 ^ s))) = Z.take j ++ (dg (n + 1) (val ((Z.drop j).take (n + 1)) % (Y * 2 ^ s)) ++ Z.drop (j + (n + 1))) := by
    unfold seg; rw [dg_len]
   rw [← hseg] at hst
   generalize val ((Z.drop j).take (n + 1)) / (Y * 2 ^ s) = d at *
   generalize seg Z j (dg (n + 1) (val ((Z.drop j).take (n + 1)) % (Y * 2 ^ s))) = Z' at *
   (repeat (refine SO.run (by simp (disch := omega) only [go_sem, ↓reduceIte, zn1, zn3, reduceCtorEq, if_pos, lv_len, hi, lv_len, hql]; rfl) ?_))
   (repeat (first | (with_reducible refine oA ?_) | ((with_reducible apply SC.region); (focus (simp (disch := omega) only [go_sem, ↓reduceIte, zn1, reduceCtorEq]; rfl)))))
   refine hK _ (j, Z', q.set j d) ?_ ⟨by simp [hql], hst⟩ (by simp only; omega)
   (refine Le.of [] hB (by exact ⟨znc _, fun _ _ => znc _⟩) ?_ ?_ <;> (repeat' (first | exact leSl_nil | exact leHp_nil | refine leSl_cons sF ?_ ?_ | refine leHp_cons sF ?_ ?_ | exact VLe.refl rfl | exact VLe.int (by first | rfl | omega) | refine HLe.same rfl ?_)))
   all_goals first | exact LLe.lv rfl | exact LLe.lv (lv_set rfl)
end Go.Proofs.Ytdcbmdmlhjemmaa
