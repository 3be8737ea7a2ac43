/- Texts joined: Qh Qi Qj Qk Ql Qm. -/
import Derived.Test.YtfhcmibgpddggaaZg
import Derived.Test.YtfhcmibgpddggaaZh
set_option linter.all false
open Nat renaming reduceEqDiff → zn1, reduceLT → zn2, reduceLeDiff → zn3, reduceAdd → zn4, reduceMul → zn5, reduceSub → zn6, reduceBEq → zn7
open Int renaming reduceToNat → zi1, reducePow → zi2
namespace Go.Proofs.Ytfhcmibgpddggaa
open Go.RowKit
def seg (U : List Nat) (j : Nat) (z : List Nat) : List Nat := U.take j ++ (z ++ U.drop (j + z.length))
section
variable {U z : List Nat} {i j x : Nat}
end
theorem SC.meet {P : Program} {B : Base} {α : Type} (I : α → SS) (Inv : α → Prop) {id : Nat} {c0 : Code} {C cs : List Code} {Q : Exit → SS → Prop} {s : SS} (h : ∀ K : SS → Prop, (∀ s' z, Le B s' (I z) → Inv z → K s') → SC P B C (blockQ id (thenQ K Q)) s) (k : ∀ z, Inv z → SC P B (c0 :: cs) Q (I z)) : SC P B C (blockQ id (thenQ (SC P B (c0 :: cs) Q) Q)) s :=
  h (SC P B (c0 :: cs) Q) (fun _ z a b => SC.weak (by simp) a (k z b))
end Go.Proofs.Ytfhcmibgpddggaa
namespace Go.Proofs.Ytfhcmibgpddggaa
open Go.RowKit
theorem VLe.tu {ok : Nat → Bool} {cs ds : List V} (h : LLe ok cs ds) (hl : cs.length = ds.length) : VLe ok (.tu cs) (.tu ds) := by
  intro S rho A w v hr
  cases hr with
  | tu h1 h2 =>
    refine .tu (by omega) fun i x u hx hu => ?_
    have hi := (List.getElem?_eq_some_iff.1 hx).1
    have hy : cs[i]? = some cs[i] := List.getElem?_eq_getElem (by omega)
    exact h.2 i _ x hy hx _ _ _ _ _ (h2 i _ u hy hu)
end Go.Proofs.Ytfhcmibgpddggaa
namespace Go.Proofs.Ytfhcmibgpddggaa
open Go.RowKit
theorem dg_getD : ∀ (k i m : Nat), i < k → (dg k m).getD i 0 = m / 4294967296 ^ i % 4294967296
  | k + 1, 0, m, _ => by simp [dg]
  | k + 1, i + 1, m, h => by
    have := dg_getD k i (m / 4294967296) (by omega)
    simp only [dg]
    rw [show (m % 4294967296 :: dg k (m / 4294967296)).getD (i + 1) 0 = (dg k (m / 4294967296)).getD i 0 from rfl, this, Nat.div_div_eq_div_mul, Nat.pow_succ, Nat.mul_comm]
structure Shifted (Y s n m : Nat) : Prop where
  lt : Y * m < 4294967296 ^ n
  top : 2147483648 ≤ (dg (n + 1) (Y * m)).getD (n - 1) 0
theorem shifted {Y n t : Nat} (hn : (limbsOf Y).length = n) (h1 : 1 ≤ n) (ht : (limbsOf Y).getD (n - 1) 0 = t) : Shifted Y (32 - bl t) n (2 ^ (32 - bl t)) ∧ t ≠ 0 ∧ bl t ≤ 32 ∧ t < 4294967296 := by
  have tl := limbs_getD (limbsOf_limbs Y) (n - 1)
  rw [ht] at tl
  have hb := bl_le_of (x := t) (k := 32) (by omega)
  have t0 : t ≠ 0 := by
    have hc := limbsOf_canon Y (by intro e; rw [e] at hn; simp at hn; omega)
    rw [List.getLast_eq_getElem] at hc
    rw [List.getD_eq_getElem?_getD, List.getElem?_eq_getElem (by omega)] at ht
    simp only [hn] at hc
    intro e; exact hc (by simpa [e] using ht)
  have hv := val_last (z := limbsOf Y) (n := n - 1) (by omega)
  rw [limbsOf_val, ht] at hv
  have hlt := val_lt (limbs_take (limbsOf_limbs Y) (n - 1))
  rw [List.length_take, Nat.min_eq_left (by omega)] at hlt
  obtain ⟨a1, a2⟩ := bl_le t0
  have a3 := bl_lt t
  have p1 : 2 ^ bl t * 2 ^ (32 - bl t) = 4294967296 := by rw [← Nat.pow_add, show bl t + (32 - bl t) = 32 by omega]
  have p2 : 2 ^ (bl t - 1) * 2 ^ (32 - bl t) = 2147483648 := by rw [← Nat.pow_add, show bl t - 1 + (32 - bl t) = 31 by omega]
  have p3 : 4294967296 ^ n = 4294967296 ^ (n - 1) * 4294967296 := by rw [← Nat.pow_succ, show (n - 1).succ = n by omega]
  generalize hMM : 4294967296 ^ (n - 1) = M at *
  have hM : 0 < M := by omega
  generalize 2 ^ (32 - bl t) = p at *
  have u1 : Y * p < M * 4294967296 := by
    have b1 : Y < M * (t + 1) := by rw [Nat.mul_add]; omega
    have b2 : M * (t + 1) ≤ M * 2 ^ bl t := Nat.mul_le_mul_left _ (by omega)
    have hp : 0 < p := by rcases Nat.eq_zero_or_pos p with e | e; subst e; omega; exact e
    have b3 := Nat.mul_lt_mul_of_pos_right (Nat.lt_of_lt_of_le b1 b2) hp
    rw [Nat.mul_assoc, p1] at b3; exact b3
  refine ⟨⟨by rw [p3]; exact u1, ?_⟩, t0, hb, tl⟩
  rw [dg_getD _ _ _ (by omega)]
  rw [hMM]
  have u2 : 2147483648 * M ≤ Y * p := by
    have c1 : 2 ^ (bl t - 1) * p ≤ t * p := Nat.mul_le_mul_right _ a1
    have c2 : M * t ≤ Y := by omega
    have c3 := Nat.mul_le_mul_right p c2
    have c4 : M * 2147483648 ≤ M * (t * p) := Nat.mul_le_mul_left _ (by omega)
    rw [← Nat.mul_assoc] at c4
    omega
  have d1 := (Nat.le_div_iff_mul_le hM).2 u2
  have d2 := Nat.div_lt_of_lt_mul u1
  rw [Nat.mod_eq_of_lt d2]; exact d1
end Go.Proofs.Ytfhcmibgpddggaa
namespace Go.Proofs.Ytfhcmibgpddggaa
open Go.RowKit
end Go.Proofs.Ytfhcmibgpddggaa
namespace Go.Proofs.Ytfhcmibgpddggaa
open Go.RowKit
theorem rvalid_i (z : Int) (K : Nat) (hz : Fits K z) (hK : K ≤ 1000000000) : Spec Try.prog 75 [iv z] (.sc (.bool true)) := by
  have lz := fits_len hz
  unfold iv sv
  by_cases h0 : z = 0
  · subst h0
    have q1 : (((limbsOf (0 : Int).natAbs).length : Int) == 0) = true := by simp [limbsOf_zero]
    refine Spec.run Try.func75 rfl Try.ntmps75 (by simp) (by simp (disch := omega) only [go_sem]; rfl) fun B hB => ?_
    (repeat (first | refine DO.nil (by kernel_rfl) ?_ | (with_reducible refine SC.condB (by simp (disch := omega) only [go_sem, ↓reduceIte]; rfl) ?_; first | with_reducible refine pickT ?_ | with_reducible refine pickF ?_) | (with_reducible first | apply oz1 | apply oz2 | apply oz3 | apply oz4 | apply oz5 | apply oz6 | apply oz7 | apply oz8 | apply oz9 | apply ozb | apply ozc | apply oze | apply ozf | apply ozg | apply ozh | apply ozi | apply ozj | apply ozk | refine ozd (by decide) ?_) | ((with_reducible apply SC.region); (focus (simp (disch := omega) only [go_sem, ↓reduceIte, zn1, reduceCtorEq, q1]; rfl))) | (with_reducible refine SC.draw Tab.mixed rfl ?_; (repeat (refine DO.run (by simp (disch := omega) only [go_sem, ↓reduceIte, zn1, zn2, zn3, zn4, zn5, zn6, reduceCtorEq, zn7, zi1, zi2, if_pos, if_neg, q1, lv_len]; rfl) ?_)); refine DO.nil (by kernel_rfl) ?_)))
    exact retQ_ret Try.results75 (by simp (disch := omega) only [go_sem, ↓reduceIte]; rfl) (by simp (disch := omega) only [go_sem]; rfl) rfl
  · have hne : limbsOf z.natAbs ≠ [] := fun h => h0 (by have := limbsOf_nil.1 h; omega)
    have hpos := List.length_pos_iff.2 hne
    have q1 : (((limbsOf z.natAbs).length : Int) == 0) = false := by rw [beq_eq_false_iff_ne]; omega
    have hi : (((limbsOf z.natAbs).length : Int) - 1).toNat = (limbsOf z.natAbs).length - 1 := by omega
    have hg := lv_get (l := limbsOf z.natAbs) (i := (limbsOf z.natAbs).length - 1) (by omega)
    have hc := limbsOf_canon z.natAbs hne
    rw [List.getLast_eq_getElem] at hc
    have hx : (limbsOf z.natAbs).getD ((limbsOf z.natAbs).length - 1) 0 ≠ 0 := by
      rw [List.getD_eq_getElem?_getD, List.getElem?_eq_getElem (by omega)]; exact hc
    have q2 : (((limbsOf z.natAbs).getD ((limbsOf z.natAbs).length - 1) 0 : Int) != 0) = true := by rw [bne_iff_ne]; omega
    refine Spec.run Try.func75 rfl Try.ntmps75 (by simp) (by simp (disch := omega) only [go_sem]; rfl) fun B hB => ?_
    (repeat (first | refine DO.nil (by kernel_rfl) ?_ | (with_reducible refine SC.condB (by simp (disch := omega) only [go_sem, ↓reduceIte]; rfl) ?_; first | with_reducible refine pickT ?_ | with_reducible refine pickF ?_) | (with_reducible first | apply oz1 | apply oz2 | apply oz3 | apply oz4 | apply oz5 | apply oz6 | apply oz7 | apply oz8 | apply oz9 | apply ozb | apply ozc | apply oze | apply ozf | apply ozg | apply ozh | apply ozi | apply ozj | apply ozk | refine ozd (by decide) ?_) | ((with_reducible apply SC.region); (focus (simp (disch := omega) only [go_sem, ↓reduceIte, zn1, zn2, reduceCtorEq, if_pos, q1, q2, hi, hg, lv_len, List.getElem?_drop]; rfl))) | (with_reducible refine SC.draw Tab.mixed rfl ?_; (repeat (refine DO.run (by simp (disch := omega) only [go_sem, ↓reduceIte, zn1, zn2, zn3, zn4, zn5, zn6, reduceCtorEq, zn7, zi1, zi2, if_pos, if_neg, q1, q2, hi, hg, lv_len, List.getElem?_drop]; rfl) ?_)); refine DO.nil (by kernel_rfl) ?_)))
    exact retQ_ret Try.results75 (by simp (disch := omega) only [go_sem, ↓reduceIte]; rfl) (by simp (disch := omega) only [go_sem]; rfl) rfl
end Go.Proofs.Ytfhcmibgpddggaa
namespace Go.Proofs.Ytfhcmibgpddggaa
open Go.RowKit
theorem Fits.one {K : Nat} (h : 1 ≤ K) : Fits K 1 := by
  have := Nat.pow_le_pow_right (n := 4294967296) (by omega) h
  unfold Fits; simp at *; omega
theorem Fits.zero (K : Nat) : Fits K 0 := by unfold Fits; exact Nat.pow_pos (by omega)
def z0 : List V := [.sc (.bool false), .sc (.slice none 0 0)]
end Go.Proofs.Ytfhcmibgpddggaa
