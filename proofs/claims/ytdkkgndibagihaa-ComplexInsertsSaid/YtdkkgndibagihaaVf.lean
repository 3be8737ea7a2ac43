/- Texts joined: Je Jg Jh Ji Qb T1 T2 Nt Lm La Lb Lc Sy Sz Sm Sw Ln Ld Lo Lp Qc Jk. -/
import Derived.WalkSmall
import Derived.KernelRfl
import Derived.Defers
import Derived.Recover
import Derived.Tactics
import Derived.Test.YtdkkgndibagihaaVe
set_option linter.all false
open Nat renaming reduceEqDiff → zn1, reduceLT → zn2, reduceLeDiff → zn3, reduceAdd → zn4, reduceMul → zn5, reduceSub → zn6, reduceBEq → zn7, mul_one → zn8, zero_add → zn9, one_mul → zna, le_refl → znb, zero_le → znc, add_sub_cancel_left → znd, sub_eq_zero_of_le → zne, add_assoc → znf
open Int renaming reduceToNat → zi1, reducePow → zi2
open List renaming length_append → zl1, drop_zero → zl2, take_succ_cons → zl3, take_zero → zl4, getElem?_drop → zl5, append_assoc → zl6, nil_append → zl7, cons_append → zl8, drop_succ_cons → zl9, take_of_length_le → zla, getElem?_eq_getElem → zlb, getElem?_eq_some_iff → zlc, map_cons → zld, map_nil → zle, all_eq_true → zlf
namespace Go.Proofs.Ytdkkgndibagihaa
open Go.RowKit
theorem trim_i (l : List Nat) (hl : limbs l) (hm : l.length ≤ 1000000000000) : Spec Try.prog 84 [sv l] (sv (limbsOf (val l))) := by
 unfold sv
 refine qF Try.func84 Try.ntmps84 fun B hB => ?_
 refine qG ?_
 refine SC.loop (fun k : Nat => ⟨[(0, .im (lv l) l.length), (3, .sc (.int .i64 k))], [], 0, 21⟩)
  (fun k => k ≤ l.length ∧ ∀ i, k ≤ i → l.getD i 0 = 0) (fun k => k) l.length ?_ ?_ ?_
 ·exact qL
 ·exact ⟨znb _, fun i hi => by simp [hi]⟩
 ·rintro k ⟨hk, hz⟩ K hK
  have hlen : (l.take k).length = k := by simp; omega
  by_cases h0 : k = 0
  ·subst h0
   refine qG ?_
   refine SC.cond qT ?_ ?_
   ·intro h; cases h
   intro _
   refine qG ?_
   have e1 := (made_tree (neg := false) hl hz hk (fun h => absurd rfl h)).1
   have e2 : (sgn false (val l)).natAbs = val l := by simp [sgn]
   rw [e2] at e1
   refine retQ_ret Try.results84 qT qT ?_
   rw [e1]; simp [lv]
  ·have hi : ((k : Int) - 1).toNat = k - 1 := by omega
   have hg := lv_get (l := l) (i := k - 1) (by omega)
   have hd : decide ((k : Int) > 0) = true := by simp; omega
   by_cases hx : l.getD (k - 1) 0 = 0
   ·have hb : (((l.getD (k - 1) 0 : Nat) : Int) == 0) = true := by simp only [beq_iff_eq]; omega
    refine qG ?_
    refine SC.cond (qTf @hd) ?_ ?_
    rotate_left
    ·intro h; cases h
    intro _
    refine qGf (Q6 @hi @hg @hd @hb @lv_len @gD) ?_
    refine SC.cond qT ?_ ?_
    rotate_left
    ·intro h; cases h
    intro _
    refine qG ?_
    refine hK _ (k - 1) ?_ ⟨by omega, fun i hi => ?_⟩ (by omega)
    ·exact qL
    ·rcases Nat.lt_or_ge i k with h | h
     ·rw [show i = k - 1 by omega]; exact hx
     ·exact hz i h
   ·have hb : (((l.getD (k - 1) 0 : Nat) : Int) == 0) = false := by simp only [beq_eq_false_iff_ne, ne_eq]; omega
    have e1 := (made_tree (neg := false) hl hz hk (fun _ => hx)).1
    have e2 : (sgn false (val l)).natAbs = val l := by simp [sgn]
    rw [e2] at e1
    refine qG ?_
    refine SC.cond (qTf @hd) ?_ ?_
    rotate_left
    ·intro h; cases h
    intro _
    refine qGf (Q6 @hi @hg @hd @hb @lv_len @gD) ?_
    refine SC.cond qT ?_ ?_
    ·intro h; cases h
    intro _
    refine qGf (Q7 @hi @hg @hd @hb @lv_len @lv_take @hlen) ?_
    refine retQ_ret Try.results84 qT qT ?_
    rw [e1, hlen]
theorem value_i (neg : Bool) (l : List Nat) (hl : limbs l) (hm : l.length ≤ 1000000000000) : Spec Try.prog 85 [.sc (.bool neg), sv l] (iv (sgn neg (val l))) := by
 have ht := trim_i l hl hm
 obtain ⟨L, eL⟩ : ∃ L, L = limbsOf (val l) := ⟨_, rfl⟩
 have hn : (sgn neg (val l)).natAbs = val l := by unfold sgn; cases neg <;> simp
 rw [← eL] at ht
 unfold iv
 rw [hn, ← eL]
 unfold sv at ht ⊢
 refine qF Try.func85 Try.ntmps85 fun B hB => ?_
 refine qG ?_
 refine SC.ops ?_
 refine qR ?_
 (refine SO.call Tab.go84 qT qS ?_)
 (refine SCall.ofF (ht) qT ?_)
 by_cases h0 : L.length = 0
 ·have hL : L = [] := List.eq_nil_of_length_eq_zero h0
  have hv : val l = 0 := limbsOf_nil.1 (eL ▸ hL)
  subst hL
  have hd : decide (sgn neg (val l) < 0) = false := by rw [hv]; unfold sgn; cases neg <;> simp
  rw [hd]
  refine qR ?_
  refine qG ?_
  refine SC.cond qT ?_ ?_
  rotate_left
  ·intro h; simp at h
  intro _
  refine qG ?_
  exact qE Try.results85
 ·have hv : val l ≠ 0 := fun h => h0 (by rw [eL, h]; rfl)
  have hd : decide (sgn neg (val l) < 0) = neg := by unfold sgn; cases neg <;> simp; omega
  have hb : ((L.length : Int) == 0) = false := by simp only [beq_eq_false_iff_ne, ne_eq]; omega
  rw [hd]
  refine qR ?_
  refine qG ?_
  refine SC.cond (qTf @hb) ?_ ?_
  ·intro h; cases h
  intro _
  refine qG ?_
  exact qE Try.results85
end Go.Proofs.Ytdkkgndibagihaa
namespace Go.Proofs.Ytdkkgndibagihaa
open Go.RowKit
theorem lv_snoc {l : List Nat} {x : Nat} {e : Int} (h : e = (x : Int)) : lv l ++ [.sc (.int .u32 e)] = lv (l ++ [x]) := by subst h; simp [lv]
theorem lv_ok (ok : Nat → Bool) (l : List Nat) : (lv l).all (okL ok) = true := by simp [lv, okL]
theorem LLe.lv {ok : Nat → Bool} {cs : List V} {l : List Nat} (h : cs = Go.Proofs.Ytdkkgndibagihaa.lv l) : LLe ok cs (Go.Proofs.Ytdkkgndibagihaa.lv l) := by subst h; exact LLe.refl (lv_ok _ _)
theorem lv_ren (f : Nat → Nat) (l : List Nat) : V.renL f (lv l) = lv l := by unfold lv; rw [show (l.map fun (n : Nat) => V.sc (.int .u32 (n : Int))) = (l.map fun (n : Nat) => Value.int .u32 (n : Int)).map .sc by simp]; exact renL_map_sc f _
theorem lv_snoc' {f : Nat → Nat} {l : List Nat} {x : Nat} {e : Int} (h : e = (x : Int)) : V.renL f (lv l ++ [.sc (.int .u32 e)]) = lv (l ++ [x]) := by rw [renL_app, lv_ren, ← lv_snoc h]; simp [V.renL, V.ren]
def dg : Nat → Nat → List Nat
 | 0, _ => []
 | k + 1, n => n % 4294967296 :: dg k (n / 4294967296)
theorem dg_len : ∀ (k n : Nat), (dg k n).length = k
 | 0, _ => rfl
 | k + 1, n => by simp [dg, dg_len k]
theorem dg_limbs : ∀ (k n : Nat), limbs (dg k n)
 | 0, _ => fun x hx => by simp [dg] at hx
 | k + 1, n => fun x hx => by
  rcases List.mem_cons.1 hx with rfl | hx
  ·omega
  ·exact dg_limbs k _ x hx
theorem dg_val : ∀ (k n : Nat), n < 4294967296 ^ k → val (dg k n) = n
 | 0, n, h => by simp at h; subst h; rfl
 | k + 1, n, h => by
  rw [Nat.pow_succ] at h
  simp only [dg, val]
  rw [dg_val k _ (by omega)]
  omega
theorem dg_eq {l : List Nat} (h : limbs l) : dg l.length (val l) = l :=
 val_inj (dg_limbs _ _) h (dg_len _ _) (dg_val _ _ (val_lt h))
def sumLen (a b : List Nat) : Nat := max a.length b.length + (if 4294967296 ^ max a.length b.length ≤ val a + val b then 1 else 0)
theorem sum_fits {a b : List Nat} (ha : limbs a) (hb : limbs b) : val a + val b < 4294967296 ^ sumLen a b := by
 have h1 := val_lt ha
 have h2 := val_lt hb
 have h3 : 4294967296 ^ a.length ≤ 4294967296 ^ max a.length b.length := Nat.pow_le_pow_right (by omega) (by omega)
 have h4 : 4294967296 ^ b.length ≤ 4294967296 ^ max a.length b.length := Nat.pow_le_pow_right (by omega) (by omega)
 unfold sumLen
 split
 ·rw [Nat.pow_succ]; omega
 ·simp only [Nat.add_zero]; omega
theorem plus_i (a b : List Nat) (ha : limbs a) (hb : limbs b) (hma : a.length ≤ 1000000000000) (hmb : b.length ≤ 1000000000000) : Spec Try.prog 94 [sv a, sv b] (sv (dg (sumLen a b) (val a + val b))) := by
 unfold sv
 refine qF Try.func94 Try.ntmps94 fun B hB => ?_
 refine qG ?_
 refine SC.loop (fun x : Nat × Nat × List Nat => ⟨[(0, .im (lv a) a.length), (1, .im (lv b) b.length), (5, .sl 0 0 x.2.2.length 1 none), (6, .sc (.int .u64 x.2.1)), (7, .sc (.int .i64 x.1))], [(0, ⟨115, lv x.2.2, false⟩)], 1, 55⟩)
  (fun x => x.2.1 ≤ 1 ∧ (x.1 ≤ max a.length b.length ∨ x.1 = max a.length b.length + 1 ∧ x.2.1 = 0 ∧ 4294967296 ^ max a.length b.length ≤ val a + val b) ∧ plusInv a b x.1 x.2.1 x.2.2) (fun x => max a.length b.length + 1 - x.1) (0, 0, []) ?_ ?_ ?_
 ·exact qL
 ·exact ⟨znc _, .inl (znc _), rfl, fun x hx => by simp at hx, by simp [val]⟩
 ·rintro ⟨k, c, l⟩ ⟨hc, hk, hI⟩ K hK
  simp only at hc hk hI ⊢
  have hlk : l.length = k := hI.1
  have hst := hI.step _ _ rfl rfl
  have xa := limbs_getD ha k
  have xb := limbs_getD hb k
  have hgo : ∀ (c' : Nat), c' = c + a.getD k 0 + b.getD k 0 → c' / 4294967296 ≤ 1 ∧ c' / 4294967296 < 2 ∧ c' ≤ 18446744073709551615 := fun c' e => by omega
  by_cases hend : k < a.length ∨ k < b.length ∨ 0 < c
  ·have hk' : k ≤ max a.length b.length := by omega
   have dC := decide_eq_true (p := (0 : Int) < c)
   have dA := decide_eq_true (p := (k : Int) < a.length)
   have dB := decide_eq_true (p := (k : Int) < b.length)
   have dA' := decide_eq_false (p := (k : Int) < a.length)
   have dB' := decide_eq_false (p := (k : Int) < b.length)
   have fin : ∀ s', Le B s' ⟨[(0, .im (lv a) a.length), (1, .im (lv b) b.length), (5, .sl 0 0 (l.length + 1) 1 none), (6, .sc (.int .u64 ((c + a.getD k 0 + b.getD k 0) / 4294967296 : Nat))), (7, .sc (.int .i64 (k + 1 : Nat)))], [(0, ⟨115, lv (l ++ [(c + a.getD k 0 + b.getD k 0) % 4294967296]), false⟩)], 1, 55⟩ → K s' := by
    intro s' hs'
    refine hK _ (k + 1, (c + a.getD k 0 + b.getD k 0) / 4294967296, l ++ [(c + a.getD k 0 + b.getD k 0) % 4294967296]) ?_ ⟨by simp only; omega, ?_, hst⟩ (by simp only; omega)
    ·simpa using hs'
    ·simp only
     rcases Nat.lt_or_ge k (max a.length b.length) with h | h
     ·exact .inl h
     ·have h1 : k = max a.length b.length := by omega
      have hxa := getD_ge (l := a) (k := k) (by omega)
      have hxb := getD_ge (l := b) (k := k) (by omega)
      rw [hxa, hxb] at hst ⊢
      have hc1 : c = 1 := by omega
      refine .inr ⟨by omega, by omega, ?_⟩
      have h3 := hI.2.2
      rw [zla (by omega), zla (by omega), hc1, h1] at h3
      omega
   rcases Nat.lt_or_ge k a.length with hA | hA <;> rcases Nat.lt_or_ge k b.length with hB' | hB'
   ·(repeat (first | refine DO.nil (by kernel_rfl) ?_ | (with_reducible refine SC.condB (by simp (disch := omega) only [go_sem, ↓reduceIte, zn1, zn2, zn3, zn4, zn5, zn6, reduceCtorEq, zn7, zi1, zi2, if_pos, if_neg, Int.reduceAdd, zn8, zna, Nat.zero_mul, Nat.add_zero, zn9, Nat.sub_zero, zl2, zl4, zl3, zl9, zl7, zl8, List.append_nil, List.take_length, List.take_nil, List.drop_nil, List.length_nil, List.length_set, List.length_replicate, List.flatten_nil, List.flatten_cons, Bool.not_true, Bool.not_false, Bool.false_eq_true, Bool.or_true, Bool.true_or, Bool.or_false, Bool.or_self, bne_self_eq_false, beq_self_eq_true, dA (by omega), dB (by omega), lv_get hA, lv_get hB', lv_len, zl5, lv_all, lv_take]; rfl) ?_; first | with_reducible refine pickT ?_ | with_reducible refine pickF ?_) | (with_reducible refine qO ?_) | ((with_reducible apply SC.region); (focus (simp (disch := omega) only [go_sem, ↓reduceIte, zn1, zn2, zn3, zn4, zn5, zn6, reduceCtorEq, zn7, zi1, zi2, if_pos, if_neg, Int.reduceAdd, zn8, zna, Nat.zero_mul, Nat.add_zero, zn9, Nat.sub_zero, zl2, zl4, zl3, zl9, zl7, zl8, List.append_nil, List.take_length, List.take_nil, List.drop_nil, List.length_nil, List.length_set, List.length_replicate, List.flatten_nil, List.flatten_cons, Bool.not_true, Bool.not_false, Bool.false_eq_true, Bool.or_true, Bool.true_or, Bool.or_false, Bool.or_self, bne_self_eq_false, beq_self_eq_true, dA (by omega), dB (by omega), lv_get hA, lv_get hB', lv_len, zl5, lv_all, lv_take]; rfl))) | (with_reducible refine SC.draw Tab.mixed rfl ?_; (repeat (refine DO.run (by simp (disch := omega) only [go_sem, ↓reduceIte, zn1, zn2, zn3, zn4, zn5, zn6, reduceCtorEq, zn7, zi1, zi2, if_pos, if_neg, Int.reduceAdd, zn8, zna, Nat.zero_mul, Nat.add_zero, zn9, Nat.sub_zero, zl2, zl4, zl3, zl9, zl7, zl8, List.append_nil, List.take_length, List.take_nil, List.drop_nil, List.length_nil, List.length_set, List.length_replicate, List.flatten_nil, List.flatten_cons, Bool.not_true, Bool.not_false, Bool.false_eq_true, Bool.or_true, Bool.true_or, Bool.or_false, Bool.or_self, bne_self_eq_false, beq_self_eq_true, dA (by omega), dB (by omega), lv_get hA, lv_get hB', lv_len, zl5, lv_all, lv_take]; rfl) ?_)); refine DO.nil (by kernel_rfl) ?_)))
    refine fin _ (Le.swap 0 2 hB (by omega) (by omega) ?_)
    (refine Le.of [] hB (by first | exact ⟨znc _, fun _ _ => znc _⟩ | (constructor <;> (try simp) <;> (try omega))) ?_ ?_ <;> (repeat' (first | exact leSl_nil | exact leHp_nil | refine leSl_cons qT ?_ ?_ | refine leHp_cons qT ?_ ?_ | exact VLe.junk _ | exact VLe.refl rfl | exact VLe.nil_sl _ _ _ | exact VLe.int (by first | rfl | omega | (dsimp only; omega)) | exact VLe.bool rfl | exact VLe.sl rfl (by first | rfl | omega | (dsimp only; omega) | (simp; done)) | exact VLe.cap rfl (by first | rfl | omega | (dsimp only; omega) | (simp; done)) | exact VLe.im rfl rfl | exact HLe.new rfl | exact HLe.same rfl (LLe.refl rfl) | refine HLe.same rfl ?_ | exact LLe.nil _ | exact LLe.refl rfl | exact LLe.cl rfl qS | exact LLe.clR rfl qS | refine LLe.cons ?_ ?_)))
    exact LLe.lv (lv_snoc' (by omega))
   ·have hz := getD_ge (l := b) (k := k) (by omega)
    have q1 := dA (by omega)
    have q2 := dB' (by omega)
    refine qYf (Q7 @q1 @q2 (lv_get hA) @lv_len @gD @lv_all @lv_take) ?_
    refine fin _ (Le.swap 0 2 hB (by omega) (by omega) ?_)
    (refine Le.of [] hB (by first | exact ⟨znc _, fun _ _ => znc _⟩ | (constructor <;> (try simp) <;> (try omega))) ?_ ?_ <;> (repeat' (first | exact leSl_nil | exact leHp_nil | refine leSl_cons qT ?_ ?_ | refine leHp_cons qT ?_ ?_ | exact VLe.junk _ | exact VLe.refl rfl | exact VLe.nil_sl _ _ _ | exact VLe.int (by first | rfl | omega | (dsimp only; omega)) | exact VLe.bool rfl | exact VLe.sl rfl (by first | rfl | omega | (dsimp only; omega) | (simp; done)) | exact VLe.cap rfl (by first | rfl | omega | (dsimp only; omega) | (simp; done)) | exact VLe.im rfl rfl | exact HLe.new rfl | exact HLe.same rfl (LLe.refl rfl) | refine HLe.same rfl ?_ | exact LLe.nil _ | exact LLe.refl rfl | exact LLe.cl rfl qS | exact LLe.clR rfl qS | refine LLe.cons ?_ ?_)))
    exact LLe.lv (lv_snoc' (by omega))
   ·have hz := getD_ge (l := a) (k := k) (by omega)
    have q1 := dA' (by omega)
    have q2 := dB (by omega)
    refine qYf (Q7 @q1 @q2 (lv_get hB') @lv_len @gD @lv_all @lv_take) ?_
    refine fin _ (Le.swap 0 2 hB (by omega) (by omega) ?_)
    (refine Le.of [] hB (by first | exact ⟨znc _, fun _ _ => znc _⟩ | (constructor <;> (try simp) <;> (try omega))) ?_ ?_ <;> (repeat' (first | exact leSl_nil | exact leHp_nil | refine leSl_cons qT ?_ ?_ | refine leHp_cons qT ?_ ?_ | exact VLe.junk _ | exact VLe.refl rfl | exact VLe.nil_sl _ _ _ | exact VLe.int (by first | rfl | omega | (dsimp only; omega)) | exact VLe.bool rfl | exact VLe.sl rfl (by first | rfl | omega | (dsimp only; omega) | (simp; done)) | exact VLe.cap rfl (by first | rfl | omega | (dsimp only; omega) | (simp; done)) | exact VLe.im rfl rfl | exact HLe.new rfl | exact HLe.same rfl (LLe.refl rfl) | refine HLe.same rfl ?_ | exact LLe.nil _ | exact LLe.refl rfl | exact LLe.cl rfl qS | exact LLe.clR rfl qS | refine LLe.cons ?_ ?_)))
    exact LLe.lv (lv_snoc' (by omega))
   ·have hz := getD_ge (l := a) (k := k) (by omega)
    have hz := getD_ge (l := b) (k := k) (by omega)
    have q1 := dA' (by omega)
    have q2 := dB' (by omega)
    have q3 := dC (by omega)
    refine qYf (Q7 @q1 @q2 @q3 @lv_len @gD @lv_all @lv_take) ?_
    refine fin _ (Le.swap 0 2 hB (by omega) (by omega) ?_)
    (refine Le.of [] hB (by first | exact ⟨znc _, fun _ _ => znc _⟩ | (constructor <;> (try simp) <;> (try omega))) ?_ ?_ <;> (repeat' (first | exact leSl_nil | exact leHp_nil | refine leSl_cons qT ?_ ?_ | refine leHp_cons qT ?_ ?_ | exact VLe.junk _ | exact VLe.refl rfl | exact VLe.nil_sl _ _ _ | exact VLe.int (by first | rfl | omega | (dsimp only; omega)) | exact VLe.bool rfl | exact VLe.sl rfl (by first | rfl | omega | (dsimp only; omega) | (simp; done)) | exact VLe.cap rfl (by first | rfl | omega | (dsimp only; omega) | (simp; done)) | exact VLe.im rfl rfl | exact HLe.new rfl | exact HLe.same rfl (LLe.refl rfl) | refine HLe.same rfl ?_ | exact LLe.nil _ | exact LLe.refl rfl | exact LLe.cl rfl qS | exact LLe.clR rfl qS | refine LLe.cons ?_ ?_)))
    exact LLe.lv (lv_snoc' (by omega))
  ·have hc0 : c = 0 := by omega
   subst hc0
   have dA := decide_eq_false (p := (k : Int) < a.length) (by omega)
   have dB := decide_eq_false (p := (k : Int) < b.length) (by omega)
   have hd := hI.done (by omega) (by omega)
   have hl : l.length = sumLen a b := by
    unfold sumLen
    have hv := val_lt hI.2.1
    rcases hk with hk | ⟨h1, h2, h3⟩
    ·have h1 : k = max a.length b.length := by omega
     rw [hlk, h1] at hv
     rw [if_neg (by omega), hlk, h1]; rfl
    ·rw [if_pos h3]; omega
   have he := dg_eq hI.2.1
   rw [hd, hl] at he
   have dC : decide ((0 : Int) < ((0 : Nat) : Int)) = false := by simp
   refine qYf (Q5 @dA @dB @dC @lv_len @lv_take) ?_
   refine retQ_ret Try.results94 qT (qTf (Q3 @lv_len @lv_take @lv_clo)) ?_
   rw [he, hl]
end Go.Proofs.Ytdkkgndibagihaa
namespace Go.Proofs.Ytdkkgndibagihaa
open Go.RowKit
theorem minus_i (a b : List Nat) (ha : limbs a) (hb : limbs b) (hma : a.length ≤ 1000000000000) (hbl : b.length ≤ a.length) (hba : val b ≤ val a) : Spec Try.prog 95 [sv a, sv b] (sv (dg a.length (val a - val b))) := by
 unfold sv
 refine qF Try.func95 Try.ntmps95 fun B hB => ?_
 refine qG ?_
 refine SC.loop (fun x : Nat × Nat × List Nat => ⟨[(0, .im (lv a) a.length), (1, .im (lv b) b.length), (5, .sl 0 0 x.2.2.length 1 none), (6, .sc (.int .i64 x.2.1)), (7, .sc (.int .i64 x.1))], [(0, ⟨115, lv x.2.2, false⟩)], 1, 44⟩)
  (fun x => x.2.1 ≤ 1 ∧ x.1 ≤ a.length ∧ minusInv a b x.1 x.2.1 x.2.2) (fun x => a.length - x.1) (0, 0, []) ?_ ?_ ?_
 ·exact qL
 ·exact ⟨znc _, znc _, rfl, fun x hx => by simp at hx, by simp [val]⟩
 ·rintro ⟨k, c, l⟩ ⟨hc, hk, hI⟩ K hK
  simp only at hc hk hI ⊢
  have hlk : l.length = k := hI.1
  have xa := limbs_getD ha k
  have xb := limbs_getD hb k
  by_cases hA : k < a.length
  ·have q1 := decide_eq_true (p := (k : Int) < a.length) (by omega)
   have fin : ∀ (s' : SS) (d c' : Nat), d < 4294967296 → c' ≤ 1 → (d : Int) = (a.getD k 0 : Nat) - c - (b.getD k 0 : Nat) + 4294967296 * c' → Le B s' ⟨[(0, .im (lv a) a.length), (1, .im (lv b) b.length), (5, .sl 0 0 (l.length + 1) 1 none), (6, .sc (.int .i64 c')), (7, .sc (.int .i64 (k + 1 : Nat)))], [(0, ⟨115, lv (l ++ [d]), false⟩)], 1, 44⟩ → K s' := by
    intro s' d c' hd hc' he hs'
    refine hK _ (k + 1, c', l ++ [d]) (by simpa using hs') ⟨by simpa using hc', by simp only; omega, hI.step _ _ d c' rfl rfl hd he⟩ (by simp only; omega)
   by_cases hB' : k < b.length
   ·have q2 := decide_eq_true (p := (k : Int) < b.length) (by omega)
    by_cases hn : ((a.getD k 0 : Nat) : Int) - c - (b.getD k 0 : Nat) < 0
    ·have q3 := decide_eq_true hn
     refine qYf (Q9 @q1 @q2 @q3 (lv_get hA) (lv_get hB') @lv_len @gD @lv_all @lv_take) ?_
     refine fin _ (a.getD k 0 + 4294967296 - c - b.getD k 0) 1 (by omega) (by omega) (by omega) (Le.swap 0 2 hB (by omega) (by omega) ?_)
     (refine Le.of [] hB (by first | exact ⟨znc _, fun _ _ => znc _⟩ | (constructor <;> (try simp) <;> (try omega))) ?_ ?_ <;> (repeat' (first | exact leSl_nil | exact leHp_nil | refine leSl_cons qT ?_ ?_ | refine leHp_cons qT ?_ ?_ | exact VLe.junk _ | exact VLe.refl rfl | exact VLe.nil_sl _ _ _ | exact VLe.int (by first | rfl | omega | (dsimp only; omega)) | exact VLe.bool rfl | exact VLe.sl rfl (by first | rfl | omega | (dsimp only; omega) | (simp; done)) | exact VLe.cap rfl (by first | rfl | omega | (dsimp only; omega) | (simp; done)) | exact VLe.im rfl rfl | exact HLe.new rfl | exact HLe.same rfl (LLe.refl rfl) | refine HLe.same rfl ?_ | exact LLe.nil _ | exact LLe.refl rfl | exact LLe.cl rfl qS | exact LLe.clR rfl qS | refine LLe.cons ?_ ?_)))
     exact LLe.lv (lv_snoc' (by omega))
    ·have q3 := decide_eq_false hn
     refine qYf (Q9 @q1 @q2 @q3 (lv_get hA) (lv_get hB') @lv_len @gD @lv_all @lv_take) ?_
     refine fin _ (a.getD k 0 - c - b.getD k 0) 0 (by omega) (by omega) (by omega) (Le.swap 0 2 hB (by omega) (by omega) ?_)
     (refine Le.of [] hB (by first | exact ⟨znc _, fun _ _ => znc _⟩ | (constructor <;> (try simp) <;> (try omega))) ?_ ?_ <;> (repeat' (first | exact leSl_nil | exact leHp_nil | refine leSl_cons qT ?_ ?_ | refine leHp_cons qT ?_ ?_ | exact VLe.junk _ | exact VLe.refl rfl | exact VLe.nil_sl _ _ _ | exact VLe.int (by first | rfl | omega | (dsimp only; omega)) | exact VLe.bool rfl | exact VLe.sl rfl (by first | rfl | omega | (dsimp only; omega) | (simp; done)) | exact VLe.cap rfl (by first | rfl | omega | (dsimp only; omega) | (simp; done)) | exact VLe.im rfl rfl | exact HLe.new rfl | exact HLe.same rfl (LLe.refl rfl) | refine HLe.same rfl ?_ | exact LLe.nil _ | exact LLe.refl rfl | exact LLe.cl rfl qS | exact LLe.clR rfl qS | refine LLe.cons ?_ ?_)))
     exact LLe.lv (lv_snoc' (by omega))
   ·have q2 := decide_eq_false (p := (k : Int) < b.length) (by omega)
    have hz := getD_ge (l := b) (k := k) hB'
    by_cases hn : ((a.getD k 0 : Nat) : Int) - c < 0
    ·have q3 := decide_eq_true hn
     refine qYf (Q8 @q1 @q2 @q3 (lv_get hA) @lv_len @gD @lv_all @lv_take) ?_
     refine fin _ (a.getD k 0 + 4294967296 - c) 1 (by omega) (by omega) (by omega) (Le.swap 0 2 hB (by omega) (by omega) ?_)
     (refine Le.of [] hB (by first | exact ⟨znc _, fun _ _ => znc _⟩ | (constructor <;> (try simp) <;> (try omega))) ?_ ?_ <;> (repeat' (first | exact leSl_nil | exact leHp_nil | refine leSl_cons qT ?_ ?_ | refine leHp_cons qT ?_ ?_ | exact VLe.junk _ | exact VLe.refl rfl | exact VLe.nil_sl _ _ _ | exact VLe.int (by first | rfl | omega | (dsimp only; omega)) | exact VLe.bool rfl | exact VLe.sl rfl (by first | rfl | omega | (dsimp only; omega) | (simp; done)) | exact VLe.cap rfl (by first | rfl | omega | (dsimp only; omega) | (simp; done)) | exact VLe.im rfl rfl | exact HLe.new rfl | exact HLe.same rfl (LLe.refl rfl) | refine HLe.same rfl ?_ | exact LLe.nil _ | exact LLe.refl rfl | exact LLe.cl rfl qS | exact LLe.clR rfl qS | refine LLe.cons ?_ ?_)))
     exact LLe.lv (lv_snoc' (by omega))
    ·have q3 := decide_eq_false hn
     refine qYf (Q8 @q1 @q2 @q3 (lv_get hA) @lv_len @gD @lv_all @lv_take) ?_
     refine fin _ (a.getD k 0 - c) 0 (by omega) (by omega) (by omega) (Le.swap 0 2 hB (by omega) (by omega) ?_)
     (refine Le.of [] hB (by first | exact ⟨znc _, fun _ _ => znc _⟩ | (constructor <;> (try simp) <;> (try omega))) ?_ ?_ <;> (repeat' (first | exact leSl_nil | exact leHp_nil | refine leSl_cons qT ?_ ?_ | refine leHp_cons qT ?_ ?_ | exact VLe.junk _ | exact VLe.refl rfl | exact VLe.nil_sl _ _ _ | exact VLe.int (by first | rfl | omega | (dsimp only; omega)) | exact VLe.bool rfl | exact VLe.sl rfl (by first | rfl | omega | (dsimp only; omega) | (simp; done)) | exact VLe.cap rfl (by first | rfl | omega | (dsimp only; omega) | (simp; done)) | exact VLe.im rfl rfl | exact HLe.new rfl | exact HLe.same rfl (LLe.refl rfl) | refine HLe.same rfl ?_ | exact LLe.nil _ | exact LLe.refl rfl | exact LLe.cl rfl qS | exact LLe.clR rfl qS | refine LLe.cons ?_ ?_)))
     exact LLe.lv (lv_snoc' (by omega))
  ·have hka : k = a.length := by omega
   subst hka
   have q1 := decide_eq_false (p := ((a.length : Nat) : Int) < a.length) (by omega)
   have hd := hI.done hc ha hbl hba
   have he := dg_eq hI.2.1
   rw [hd, hlk] at he
   refine qYf (Q3 @q1 @lv_len @lv_take) ?_
   refine retQ_ret Try.results95 qT (qTf (Q3 @lv_len @lv_take @lv_clo)) ?_
   rw [he, hlk]
end Go.Proofs.Ytdkkgndibagihaa
namespace Go.Proofs.Ytdkkgndibagihaa
open Go.RowKit
theorem fits_len {K : Nat} {x : Int} (h : Fits K x) : (limbsOf x.natAbs).length ≤ K := canon_len (limbsOf_canon _) (by rw [limbsOf_val]; exact h)
theorem fits_short {K : Nat} {x : Int} (h : Fits K x) (hK : K ≤ 1000000000000) : Short x := Nat.le_trans (fits_len h) hK
theorem dg_made (k n : Nat) (neg : Bool) (h : n < 4294967296 ^ k) (hk : k ≤ 1000000000000) : Spec Try.prog 70 [sv (dg k n), .sc (.bool neg)] (iv (sgn neg n)) := by
 have := made_i (dg k n) neg (dg_limbs _ _) (by rw [dg_len]; exact hk)
 rwa [dg_val k n h] at this
theorem sumLen_le (a b : List Nat) : sumLen a b ≤ max a.length b.length + 1 := by
 unfold sumLen; split <;> omega
theorem add_i (x y : Int) (K : Nat) (hx : Fits K x) (hy : Fits K y) (hK : K ≤ 500000000000) : Spec Try.prog 77 [iv x, iv y] (iv (x + y)) := by
 have lx := fits_len hx
 have ly := fits_len hy
 have vx := limbsOf_val x.natAbs
 have vy := limbsOf_val y.natAbs
 have bx := limbsOf_limbs x.natAbs
 have bY := limbsOf_limbs y.natAbs
 by_cases hs : (decide (x < 0) == decide (y < 0)) = true
 ·have hs' : (x < 0 ↔ y < 0) := by simpa using hs
  have c1 := plus_i _ _ bx bY (by omega) (by omega)
  have hf := sum_fits bx bY
  have c2 := dg_made _ _ (decide (x < 0)) hf (by have := sumLen_le (limbsOf x.natAbs) (limbsOf y.natAbs); omega)
  rw [vx, vy] at c1 c2
  rw [show sgn (decide (x < 0)) (x.natAbs + y.natAbs) = x + y by unfold sgn; split <;> simp_all <;> omega] at c2
  unfold sv at c1 c2
  unfold iv sv at c2 ⊢
  refine qF Try.func77 Try.ntmps77 fun B hB => ?_
  refine qWf @hs ?_
  exact qE Try.results77
 ·have hs' : ¬ (x < 0 ↔ y < 0) := by simpa using hs
  rw [Bool.not_eq_true] at hs
  have c0 := less_n x.natAbs y.natAbs (by omega) (by omega)
  by_cases hl : x.natAbs < y.natAbs
  ·rw [decide_eq_true hl] at c0
   have hle : (limbsOf x.natAbs).length ≤ (limbsOf y.natAbs).length := canon_len (limbsOf_canon _) (by have := val_lt bY; omega)
   have c1 := minus_i _ _ bY bx (by omega) hle (by omega)
   have c2 := dg_made (limbsOf y.natAbs).length (y.natAbs - x.natAbs) (decide (y < 0)) (by have := val_lt bY; omega) (by omega)
   rw [vx, vy] at c1
   rw [show sgn (decide (y < 0)) (y.natAbs - x.natAbs) = x + y by unfold sgn; split <;> simp_all <;> omega] at c2
   unfold sv at c0 c1 c2
   unfold iv sv at c2 ⊢
   refine qF Try.func77 Try.ntmps77 fun B hB => ?_
   refine qWf @hs ?_
   exact qE Try.results77
  ·rw [decide_eq_false hl] at c0
   have hle : (limbsOf y.natAbs).length ≤ (limbsOf x.natAbs).length := canon_len (limbsOf_canon _) (by have := val_lt bx; omega)
   have c1 := minus_i _ _ bx bY (by omega) hle (by omega)
   have c2 := dg_made (limbsOf x.natAbs).length (x.natAbs - y.natAbs) (decide (x < 0)) (by have := val_lt bx; omega) (by omega)
   rw [vx, vy] at c1
   rw [show sgn (decide (x < 0)) (x.natAbs - y.natAbs) = x + y by unfold sgn; split <;> simp_all <;> omega] at c2
   unfold sv at c0 c1 c2
   unfold iv sv at c2 ⊢
   refine qF Try.func77 Try.ntmps77 fun B hB => ?_
   refine qWf @hs ?_
   exact qE Try.results77
theorem neg_i (x : Int) (K : Nat) (hx : Fits K x) (hK : K ≤ 1000000000000) : Spec Try.prog 101 [iv x] (iv (-x)) := by
 have lx := fits_len hx
 have c1 := made_i (limbsOf x.natAbs) (!decide (x < 0)) (limbsOf_limbs _) (by omega)
 rw [limbsOf_val, show sgn (!decide (x < 0)) x.natAbs = -x by unfold sgn; split <;> simp_all <;> omega] at c1
 unfold sv at c1
 unfold iv sv at c1 ⊢
 refine qF Try.func101 Try.ntmps101 fun B hB => ?_
 refine qW ?_
 exact qE Try.results101
theorem sub_i (x y : Int) (K : Nat) (hx : Fits K x) (hy : Fits K y) (hK : K ≤ 500000000000) : Spec Try.prog 112 [iv x, iv y] (iv (x - y)) := by
 have c1 := neg_i y K hy (by omega)
 have c2 := add_i x (-y) K hx hy.neg hK
 rw [← Int.sub_eq_add_neg] at c2
 unfold iv sv at c1 c2 ⊢
 refine qF Try.func112 Try.ntmps112 fun B hB => ?_
 refine qW ?_
 exact qE Try.results112
theorem sign_i (x : Int) (K : Nat) (hx : Fits K x) (hK : K ≤ 1000000000000) : Spec Try.prog 72 [iv x] (.sc (.int .i64 x.sign)) := by
 unfold iv sv
 refine qF Try.func72 Try.ntmps72 fun B hB => ?_
 by_cases h0 : x = 0
 ·subst h0
  have q1 : (((limbsOf (0 : Int).natAbs).length : Int) == 0) = true := by simp [limbsOf_zero]
  refine qYf (Q2 @q1 @lv_len) ?_
  exact qE Try.results72
 ·have q1 : (((limbsOf x.natAbs).length : Int) == 0) = false := by
   have : limbsOf x.natAbs ≠ [] := fun h => h0 (by have := limbsOf_nil.1 h; omega)
   have := List.length_pos_iff.2 this
   simp only [beq_eq_false_iff_ne, ne_eq]; omega
  by_cases h1 : x < 0
  ·have q2 := decide_eq_true h1
   refine qYf (Q3 @q1 @q2 @lv_len) ?_
   refine retQ_ret Try.results72 qT qT ?_
   rw [Int.sign_eq_neg_one_of_neg h1]
  ·have q2 := decide_eq_false h1
   refine qYf (Q3 @q1 @q2 @lv_len) ?_
   refine retQ_ret Try.results72 qT qT ?_
   rw [Int.sign_eq_one_of_pos (by omega)]
end Go.Proofs.Ytdkkgndibagihaa
namespace Go.Proofs.Ytdkkgndibagihaa
open Go.RowKit
def validB (l : List Nat) (neg : Bool) : Bool := if l.length = 0 then !neg else l.getD (l.length - 1) 0 != 0
theorem valid_g (l : List Nat) (n : Nat) (neg : Bool) (hn : n = l.length) (hm : n ≤ 9223372036854775807) : Spec Try.prog 66 [.ag [.sc (.bool neg), .im (lv l) n]] (.sc (.bool (validB l neg))) := by
 subst hn
 refine qF Try.func66 Try.ntmps66 fun B hB => ?_
 by_cases h0 : l.length = 0
 ·have q1 : decide ((0 : Int) < (l.length : Int)) = false := by simp; exact List.eq_nil_of_length_eq_zero h0
  refine qYf (Q2 @q1 @lv_len) ?_
  refine retQ_ret Try.results66 qT qT ?_
  unfold validB; rw [if_pos h0]
 ·have q1 : decide ((0 : Int) < (l.length : Int)) = true := by rw [decide_eq_true_eq]; omega
  have hi : ((l.length : Int) - 1).toNat = l.length - 1 := by omega
  have hg := lv_get (l := l) (i := l.length - 1) (by omega)
  refine qYf (Q5 @q1 @hi @hg @lv_len @gD) ?_
  refine retQ_ret Try.results66 qT qT ?_
  unfold validB
  rw [if_neg h0]
  generalize l.getD (l.length - 1) 0 = x
  have : (((x : Int) != 0) : Bool) = (x != 0) := by
   by_cases hx : x = 0
   ·subst hx; rfl
   ·have h1 : ((x : Int) != 0) = true := by simp only [bne_iff_ne, ne_eq]; omega
    have h2 : (x != 0) = true := by simp only [bne_iff_ne, ne_eq]; omega
    rw [h1, h2]
  rw [this]
theorem trim_n (n : Nat) (h : (limbsOf n).length ≤ 1000000000000) : Spec Try.prog 84 [sv (limbsOf n)] (sv (limbsOf n)) := by
 have := trim_i (limbsOf n) (limbsOf_limbs n) h
 rwa [limbsOf_val] at this
theorem psign_i (x : Int) (K : Nat) (hx : Fits K x) (hK : K ≤ 1000000000000) : Spec Try.prog 67 [iv x] (.sc (.int .i64 x.sign)) := by
 have lx := fits_len hx
 have c1 := trim_n x.natAbs (by omega)
 unfold iv
 unfold sv at c1 ⊢
 by_cases h0 : x = 0
 ·subst h0
  have q1 : (((limbsOf (0 : Int).natAbs).length : Int) == 0) = true := by simp [limbsOf_zero]
  refine qF Try.func67 Try.ntmps67 fun B hB => ?_
  refine qWf (Q2 @q1 @lv_len) ?_
  exact qE Try.results67
 ·have q1 : (((limbsOf x.natAbs).length : Int) == 0) = false := by
   have : limbsOf x.natAbs ≠ [] := fun h => h0 (by have := limbsOf_nil.1 h; omega)
   have := List.length_pos_iff.2 this
   simp only [beq_eq_false_iff_ne, ne_eq]; omega
  by_cases h1 : x < 0
  ·have q2 := decide_eq_true h1
   refine qF Try.func67 Try.ntmps67 fun B hB => ?_
   refine qWf (Q3 @q1 @q2 @lv_len) ?_
   refine retQ_ret Try.results67 qT qT ?_
   rw [Int.sign_eq_neg_one_of_neg h1]
  ·have q2 := decide_eq_false h1
   refine qF Try.func67 Try.ntmps67 fun B hB => ?_
   refine qWf (Q3 @q1 @q2 @lv_len) ?_
   refine retQ_ret Try.results67 qT qT ?_
   rw [Int.sign_eq_one_of_pos (by omega)]
end Go.Proofs.Ytdkkgndibagihaa
namespace Go.Proofs.Ytdkkgndibagihaa
end Go.Proofs.Ytdkkgndibagihaa
namespace Go.Proofs.Ytdkkgndibagihaa
open Go.RowKit
def pm (p a e : Nat) : Nat := a ^ e % p
end Go.Proofs.Ytdkkgndibagihaa
namespace Go.Proofs.Ytdkkgndibagihaa
def sm (f : Nat → Nat) : Nat → Nat
 | 0 => 0
 | n + 1 => sm f n + f n
end Go.Proofs.Ytdkkgndibagihaa
namespace Go.Proofs.Ytdkkgndibagihaa
open Go.RowKit
end Go.Proofs.Ytdkkgndibagihaa
namespace Go.Proofs.Ytdkkgndibagihaa
section lin
variable {K : Type} [Lean.Grind.CommRing K]
def sg (f : Nat → K) : Nat → K
 | 0 => 0
 | n + 1 => sg f n + f n
theorem sg_congr {f g : Nat → K} : ∀ {n : Nat}, (∀ i, i < n → f i = g i) → sg f n = sg g n
 | 0, _ => rfl
 | n + 1, h => by rw [sg, sg, sg_congr fun i hi => h i (by omega), h n (by omega)]
theorem sg_add (f g : Nat → K) : ∀ n : Nat, sg (fun i => f i + g i) n = sg f n + sg g n
 | 0 => by simp only [sg]; grind
 | n + 1 => by rw [sg, sg, sg, sg_add f g n]; grind
theorem sg_mul (a : K) (f : Nat → K) : ∀ n : Nat, sg (fun i => a * f i) n = a * sg f n
 | 0 => by simp only [sg]; grind
 | n + 1 => by rw [sg, sg, sg_mul a f n]; grind
theorem sg_zero : ∀ {n : Nat} {f : Nat → K}, (∀ i, i < n → f i = 0) → sg f n = 0
 | 0, _, _ => rfl
 | n + 1, f, h => by rw [sg, sg_zero fun i hi => h i (by omega), h n (by omega)]; grind
theorem sg_one : ∀ {n k : Nat} {f : Nat → K}, k < n → (∀ i, i < n → i ≠ k → f i = 0) → sg f n = f k
 | 0, k, f, hk, _ => by omega
 | n + 1, k, f, hk, h => by
  rw [sg]
  by_cases e : k = n
  ·subst e; rw [sg_zero fun i hi => h i (by omega) (by omega)]; grind
  ·rw [sg_one (k := k) (by omega) fun i hi hn => h i (by omega) hn, h n (by omega) (by omega)]; grind
def Sp (n m : Nat) (A : Nat → Nat → K) (v : Nat → K) : Prop := ∃ x : Nat → K, ∀ j, j < m → v j = sg (fun i => x i * A i j) n
variable {n m n' : Nat} {A B : Nat → Nat → K} {u v : Nat → K}
theorem Sp.row {i : Nat} (hi : i < n) : Sp n m A (A i) := ⟨fun k => if k = i then 1 else 0, fun j _ => by
 rw [sg_one (k := i) hi fun k _ hk => by dsimp only; rw [if_neg hk]; grind]
 dsimp only
 rw [if_pos rfl]; grind⟩
theorem Sp.zero (h : ∀ j, j < m → v j = 0) : Sp n m A v := ⟨fun _ => 0, fun j hj => by
 rw [h j hj, sg_zero]; intro i _; grind⟩
theorem Sp.add (h : Sp n m A u) (k : Sp n m A v) : Sp n m A (fun j => u j + v j) := by
 obtain ⟨x, hx⟩ := h
 obtain ⟨y, hy⟩ := k
 refine ⟨fun i => x i + y i, fun j hj => ?_⟩
 dsimp only
 rw [hx j hj, hy j hj, ← sg_add]
 exact sg_congr fun i _ => by grind
theorem Sp.smul (a : K) (h : Sp n m A u) : Sp n m A (fun j => a * u j) := by
 obtain ⟨x, hx⟩ := h
 refine ⟨fun i => a * x i, fun j hj => ?_⟩
 dsimp only
 rw [hx j hj, ← sg_mul]
 exact sg_congr fun i _ => by grind
theorem Sp.congr (h : Sp n m A u) (e : ∀ j, j < m → v j = u j) : Sp n m A v := by
 obtain ⟨x, hx⟩ := h
 exact ⟨x, fun j hj => (e j hj).trans (hx j hj)⟩
theorem Sp.sum {f : Nat → Nat → K} : ∀ {k : Nat}, (∀ i, i < k → Sp n m A (f i)) → Sp n m A (fun j => sg (fun i => f i j) k)
 | 0, _ => Sp.zero fun _ _ => rfl
 | k + 1, h => (Sp.add (Sp.sum fun i hi => h i (by omega)) (h k (by omega))).congr fun _ _ => rfl
theorem Sp.trans (h : ∀ i, i < n' → Sp n m A (B i)) (hv : Sp n' m B v) : Sp n m A v := by
 obtain ⟨y, hy⟩ := hv
 exact (Sp.sum (f := fun i j => y i * B i j) fun i hi => (h i hi).smul (y i)).congr hy
variable {r r' : Nat} {R R' : Nat → Nat → K} {c c' : Nat → Nat}
end lin
end Go.Proofs.Ytdkkgndibagihaa
namespace Go.Proofs.Ytdkkgndibagihaa
section lin
variable {K : Type} [Lean.Grind.CommRing K]
variable {n w c k : Nat} {A0 A : Nat → Nat → K} {pv : Nat → Nat}
variable {cols : Nat}
variable {M : Nat → Nat → K}
end lin
end Go.Proofs.Ytdkkgndibagihaa
namespace Go.Proofs.Ytdkkgndibagihaa
section fz
variable {p : Nat} [NeZero p]
def fz (p : Nat) [NeZero p] (x : Nat) : Fin p := Fin.ofNat p x
end fz
def ent (M : List (List Nat)) (i j : Nat) : Nat := (M.getD i []).getD j 0
section mv
variable {p n w : Nat} {M : List (List Nat)}
theorem getD_mem {α : Type} {l : List α} {i : Nat} {d : α} (h : i < l.length) : l.getD i d ∈ l := by
 rw [List.getD_eq_getElem?_getD, zlb h]; exact List.getElem_mem h
theorem getD_set {α : Type} {l : List α} {i k : Nat} {x d : α} (hk : k < l.length) : (l.set k x).getD i d = if i = k then x else l.getD i d := by
 rw [List.getD_eq_getElem?_getD, List.getElem?_set, List.getD_eq_getElem?_getD]
 by_cases e : k = i
 ·subst e; rw [if_pos rfl, if_pos rfl, if_pos hk]; rfl
 ·rw [if_neg e, if_neg fun e' => e e'.symm]
end mv
section rows
variable {p w : Nat} {a b : List Nat}
end rows
section step
variable {p n w k q c h : Nat} {M : List (List Nat)} {rk : List Nat}
variable [NeZero p]
def fM (p : Nat) [NeZero p] (M : List (List Nat)) (i j : Nat) : Fin p := fz p (ent M i j)
end step
def Same (p w : Nat) [NeZero p] (M R : List (List Nat)) : Prop := (∀ i, i < M.length → Sp R.length w (fM p R) (fM p M i)) ∧ ∀ i, i < R.length → Sp M.length w (fM p M) (fM p R i)
section form
variable {p n w : Nat} {M R R' : List (List Nat)} {pv pv' : List Nat} [NeZero p]
theorem Same.refl : Same p w M M := ⟨fun _ hi => Sp.row hi, fun _ hi => Sp.row hi⟩
theorem Same.symm (h : Same p w M R) : Same p w R M := ⟨h.2, h.1⟩
theorem Same.trans (h : Same p w M R) (h' : Same p w R R') : Same p w M R' := ⟨fun i hi => Sp.trans h'.1 (h.1 i hi), fun i hi => Sp.trans h.2 (h'.2 i hi)⟩
end form
end Go.Proofs.Ytdkkgndibagihaa
namespace Go.Proofs.Ytdkkgndibagihaa
open Go.RowKit
section
variable {P : Program} {w : World} {B : Base} {S : Nat → Prop} {rho : Nat → Nat} {A : Nat → Prop} {s : SS}
theorem Le.less {sl : List (Nat × V)} {hp hp' : List (Nat × Blk)} {nx nx' nt : Nat} (h : ∀ id k, hget hp' id = some k → hget hp id = some k) (hn : nx ≤ nx') : Le B ⟨sl, hp, nx, nt⟩ ⟨sl, hp', nx', nt⟩ :=
 fun S rho A _ _ hr => ⟨S, rho, A, hr.slots, hr.mem.less h, fun id hid => Nat.lt_of_lt_of_le (hr.alt id hid) hn, hr.nt, hr.defs⟩
def okAll : Nat → Bool := fun _ => true
theorem Le.slots {sl sl' : List (Nat × V)} {hp hp' : List (Nat × Blk)} {nx nx' nt : Nat} (h1 : leSl okAll sl sl') (h : ∀ id k, hget hp' id = some k → hget hp id = some k) (hn : nx ≤ nx') : Le B ⟨sl, hp, nx, nt⟩ ⟨sl', hp', nx', nt⟩ :=
 fun S rho A a w hr => ⟨S, rho, A, fun t => (leSl_get h1 t S rho A w _ (hr.slots t)).mono (fun _ h => ⟨h, rfl⟩) (fun _ h => ⟨h.1, rfl, fun _ h => h⟩), hr.mem.less h, fun id hid => Nat.lt_of_lt_of_le (hr.alt id hid) hn, hr.nt, hr.defs⟩
theorem Le.frz {sl : List (Nat × V)} {hp : List (Nat × Blk)} {nx nt : Nat} {y : V} {ids : List Nat} (t : Nat) (ht : t < nt) (h : frz 8 hp (get sl t) = some (y, ids)) : Le B ⟨sl, hp, nx, nt⟩ ⟨(t, y) :: sl, fzHp hp ids, nx, nt⟩ := by
 intro S rho A a w hr
 have hf := frz_sound hr.mem 8 _ _ _ _ h (hr.slots t)
 have hm := hr.mem.freeze ids hf.live
 refine ⟨addS S rho A ids, rho, A, fun t' => ?_, hm, hr.alt, hr.nt, hr.defs⟩
 simp only [get]
 by_cases e : t' = t
 ·subst e; rw [if_pos rfl]; exact hf.rep.open
 ·rw [if_neg e]; exact (hr.slots t').wide fun b hb => .inl hb
theorem SC.frz {cs : List Code} {Q : Exit → SS → Prop} {sl : List (Nat × V)} {hp hp' : List (Nat × Blk)} {nx nt : Nat} {y : V} {ids : List Nat} (t : Nat) (hcs : cs ≠ []) (h : frz 8 hp (get sl t) = some (y, ids)) (ht : t < nt) (he : fzHp hp ids = hp') (k : SC P B cs Q ⟨(t, y) :: sl, hp', nx, nt⟩) : SC P B cs Q ⟨sl, hp, nx, nt⟩ :=
 SC.weak hcs (Le.frz t ht h) (he ▸ k)
theorem SC.less {cs : List Code} {Q : Exit → SS → Prop} {sl : List (Nat × V)} {hp hp' : List (Nat × Blk)} {nx nt : Nat} (hcs : cs ≠ []) (h : ∀ id k, hget hp' id = some k → hget hp id = some k) (k : SC P B cs Q ⟨sl, hp', nx, nt⟩) : SC P B cs Q ⟨sl, hp, nx, nt⟩ :=
 SC.weak hcs (Le.less h (znb _)) k
def rowsH (ty : TypeId) : List Nat → List (List V) → List (Nat × Blk)
 | i :: ids, r :: rs => (i, ⟨ty, r, false⟩) :: rowsH ty ids rs
 | _, _ => []
theorem rows_none {ty : TypeId} : ∀ {ids : List Nat} {rs : List (List V)} {i : Nat}, i ∉ ids → hget (rowsH ty ids rs) i = none
 | [], _, _, _ => by simp [rowsH, hget]
 | _ :: _, [], _, _ => by simp [rowsH, hget]
 | j :: ids, r :: rs, i, h => by
  simp only [List.mem_cons, not_or] at h
  rw [rowsH, hget, if_neg h.1]; exact rows_none h.2
theorem rows_get {ty : TypeId} : ∀ {ids : List Nat} {rs : List (List V)} {k : Nat}, ids.Nodup → k < ids.length → ids.length = rs.length → hget (rowsH ty ids rs) (ids.getD k 0) = some ⟨ty, rs.getD k [], false⟩
 | [], _, k, _, h, _ => by simp at h
 | _ :: _, [], k, _, _, h => by simp at h
 | j :: ids, r :: rs, 0, _, _, _ => by simp [rowsH, hget]
 | j :: ids, r :: rs, k + 1, hn, hk, hl => by
  have hk' : k < ids.length := by simpa using hk
  have hn' := List.nodup_cons.1 hn
  have hne : ids.getD k 0 ≠ j := by
   intro e
   have : ids.getD k 0 ∈ ids := by rw [List.getD_eq_getElem?_getD, zlb hk']; exact List.getElem_mem hk'
   exact hn'.1 (e ▸ this)
  rw [List.getD_cons_succ, List.getD_cons_succ, rowsH, hget, if_neg hne]
  exact rows_get hn'.2 hk' (by simpa using hl)
theorem rows_set {ty : TypeId} : ∀ {ids : List Nat} {rs : List (List V)} {k : Nat} {r : List V}, ids.Nodup → k < ids.length → ids.length = rs.length → hset (rowsH ty ids rs) (ids.getD k 0) ⟨ty, r, false⟩ = rowsH ty ids (rs.set k r)
 | [], _, k, _, _, h, _ => by simp at h
 | _ :: _, [], k, _, _, _, h => by simp at h
 | j :: ids, q :: rs, 0, _, _, _, _ => by simp [rowsH, hset]
 | j :: ids, q :: rs, k + 1, r, hn, hk, hl => by
  have hk' : k < ids.length := by simpa using hk
  have hn' := List.nodup_cons.1 hn
  have hne : ids.getD k 0 ≠ j := by
   intro e
   have : ids.getD k 0 ∈ ids := by rw [List.getD_eq_getElem?_getD, zlb hk']; exact List.getElem_mem hk'
   exact hn'.1 (e ▸ this)
  rw [List.getD_cons_succ, List.set_cons_succ, rowsH, rowsH, hset, if_neg hne, rows_set hn'.2 hk' (by simpa using hl)]
theorem rows_del {ty : TypeId} : ∀ {ids : List Nat} {rs : List (List V)} {i : Nat}, i ∉ ids → hdel (rowsH ty ids rs) i = rowsH ty ids rs
 | [], _, _, _ => by simp [rowsH, hdel]
 | _ :: _, [], _, _ => by simp [rowsH, hdel]
 | j :: ids, r :: rs, i, h => by
  simp only [List.mem_cons, not_or] at h
  rw [rowsH, hdel_cons, if_neg (fun e => h.1 e.symm), rows_del h.2]
theorem rows_inv {ty : TypeId} : ∀ {ids : List Nat} {rs : List (List V)} {i : Nat} {b : Blk}, hget (rowsH ty ids rs) i = some b → ∃ k, k < ids.length ∧ k < rs.length ∧ ids.getD k 0 = i ∧ b = ⟨ty, rs.getD k [], false⟩
 | [], rs, i, b, h => by simp [rowsH, hget] at h
 | _ :: _, [], i, b, h => by simp [rowsH, hget] at h
 | j :: ids, r :: rs, i, b, h => by
  rw [rowsH, hget] at h
  by_cases e : i = j
  ·rw [if_pos e] at h; cases h
   exact ⟨0, by simp, by simp, by simp [e], by simp⟩
  ·rw [if_neg e] at h
   obtain ⟨k, h1, h2, h3, h4⟩ := rows_inv h
   exact ⟨k + 1, by simpa using h1, by simpa using h2, by simpa using h3, by simpa using h4⟩
theorem getD_mem' {ids : List Nat} {k : Nat} (h : k < ids.length) : ids.getD k 0 ∈ ids := by
 rw [List.getD_eq_getElem?_getD, zlb h]; exact List.getElem_mem h
theorem getD_get' {α : Type} {l : List α} {k : Nat} {d : α} (h : k < l.length) : l[k]? = some (l.getD k d) := by
 rw [List.getD_eq_getElem?_getD, zlb h]; rfl
theorem nodup_getD {ids : List Nat} (h : ids.Nodup) {i j : Nat} (hi : i < ids.length) (hj : j < ids.length) (e : ids.getD i 0 = ids.getD j 0) : i = j := by
 rw [List.getD_eq_getElem?_getD, zlb hi, List.getD_eq_getElem?_getD, zlb hj] at e
 have e' : ids[i] = ids[j] := by simpa using e
 have hp := List.pairwise_iff_getElem.1 h
 rcases Nat.lt_trichotomy i j with g | g | g
 ·exact absurd e' (hp i j hi hj g)
 ·exact g
 ·exact absurd e'.symm (hp j i hj hi g)
theorem rows_perm {ty : TypeId} {ids ids' : List Nat} {rs rs' : List (List V)} (hn : ids.Nodup) (hl : ids.length = rs.length)
  (h : ∀ k, k < ids'.length → k < rs'.length → ∃ j, j < ids.length ∧ ids'.getD k 0 = ids.getD j 0 ∧ rs'.getD k [] = rs.getD j []) : ∀ id k, hget (rowsH ty ids' rs') id = some k → hget (rowsH ty ids rs) id = some k := by
 intro id b hb
 obtain ⟨k, h1, h2, h3, rfl⟩ := rows_inv hb
 obtain ⟨j, g1, g2, g3⟩ := h k h1 h2
 rw [← h3, g2, g3]; exact rows_get hn g1 hl
theorem frzAll_ix {g : V → Option (V × List Nat)} : ∀ {cs ys : List V} {is : List (List Nat)}, cs.length = ys.length → cs.length = is.length → (∀ k, k < cs.length → g (cs.getD k .junk) = some (ys.getD k .junk, is.getD k [])) → frzAll g cs = some (ys, is.flatten)
 | [], [], [], _, _, _ => rfl
 | c :: cs, y :: ys, i :: is, h1, h2, h => by
  have h0 := h 0 (by simp)
  simp at h0
  rw [frzAll_cons, h0, fzC_some, frzAll_ix (by simpa using h1) (by simpa using h2) (fun k hk => by have := h (k + 1) (by simpa using hk); simpa using this)]
  rfl
 | [], _ :: _, _, h, _, _ => by simp at h
 | _ :: _, [], _, h, _, _ => by simp at h
 | _ :: _, _ :: _, [], _, h, _ => by simp at h
 | [], [], _ :: _, _, h, _ => by simp at h
theorem frzL_ix {g : V → Option (V × List Nat)} {cs ys : List V} {is : List (List Nat)} (h1 : cs.length = ys.length) (h2 : cs.length = is.length) (hc : ∀ c ∈ cs, clo c = false) (h : ∀ k, k < cs.length → g (cs.getD k .junk) = some (ys.getD k .junk, is.getD k [])) : frzL g cs = some (ys, is.flatten) := by
 unfold frzL
 split
 ·rename_i hall
  have : cs = [] := by
   cases cs with
   | nil => rfl
   | cons c r => have := hc c (by simp); simp at hall; rw [this] at hall; exact absurd hall.1 (by simp)
  subst this
  have e1 : ys = [] := List.eq_nil_of_length_eq_zero h1.symm
  have e2 : is = [] := List.eq_nil_of_length_eq_zero h2.symm
  subst e1; subst e2; rfl
 ·exact frzAll_ix h1 h2 h
def slR (z m : Nat) (ids : List Nat) : List V := ids.map fun i => V.sl i 0 m z none
theorem slR_len (z m : Nat) (ids : List Nat) : (slR z m ids).length = ids.length := by simp [slR]
theorem slR_get {z m k : Nat} {ids : List Nat} (h : k < ids.length) : (slR z m ids)[k]? = some (V.sl (ids.getD k 0) 0 m z none) := by
 unfold slR; rw [List.getElem?_map, getD_get' (d := 0) h]; rfl
theorem slR_set {z m k i : Nat} {ids : List Nat} : (slR z m ids).set k (V.sl i 0 m z none) = slR z m (ids.set k i) := by simp [slR, List.map_set]
def imR (m : Nat) (rs : List (List V)) : List V := rs.map fun r => V.im r m
theorem frz_rows {hp : List (Nat × Blk)} {ty : TypeId} {ids : List Nat} {rs : List (List V)} {n m z : Nat} (hl : ids.length = rs.length) (hg : ∀ k, k < ids.length → hget hp (ids.getD k 0) = some ⟨ty, rs.getD k [], false⟩)
  (hr : ∀ r ∈ rs, r.length = m * z ∧ r.all clo = true) : frzL (frz (n + 1) hp) (slR z m ids) = some (imR m rs, ids) := by
 have h := frzL_ix (g := frz (n + 1) hp) (cs := slR z m ids) (ys := imR m rs) (is := ids.map fun i => [i]) (by simp [slR, imR, hl]) (by simp [slR]) (by intro c hc; obtain ⟨i, _, rfl⟩ := List.mem_map.1 hc; rfl) (fun k hk => by
  have hk' : k < ids.length := by simpa [slR] using hk
  have hk2 : k < rs.length := by omega
  have e1 : (slR z m ids).getD k .junk = V.sl (ids.getD k 0) 0 m z none := by rw [List.getD_eq_getElem?_getD, slR_get hk']; rfl
  have hrow := hr (rs.getD k []) (by rw [List.getD_eq_getElem?_getD, zlb hk2]; exact List.getElem_mem hk2)
  have e2 : (imR m rs).getD k .junk = V.im (rs.getD k []) m := by
   unfold imR; rw [List.getD_eq_getElem?_getD, List.getElem?_map, getD_get' (d := []) hk2]; rfl
  have e3 : (ids.map fun i => [i]).getD k [] = [ids.getD k 0] := by
   rw [List.getD_eq_getElem?_getD, List.getElem?_map, getD_get' (d := 0) hk']; rfl
  rw [e1, e2, e3, frz_sl, hg k hk', srcG_some, if_pos (by omega), zl2, zla (by omega), fzQ_some, frzL_eq, if_pos hrow.2]
  rfl)
 have e : ∀ l : List Nat, (l.map fun i => [i]).flatten = l := by
  intro l
  induction l with
  | nil => rfl
  | cons i r ih => rw [zld, List.flatten_cons, ih]; rfl
 rw [h, e]
theorem slR_some {z m : Nat} {ids : List Nat} (h : 0 < ids.length) : (slR z m ids).all clo = false := by
 cases ids with
 | nil => simp at h
 | cons i r => rfl
theorem frz_rowsA {hp : List (Nat × Blk)} {ty : TypeId} {ids : List Nat} {rs : List (List V)} {n m z : Nat} (h0 : 0 < ids.length) (hl : ids.length = rs.length) (hg : ∀ k, k < ids.length → hget hp (ids.getD k 0) = some ⟨ty, rs.getD k [], false⟩)
  (hr : ∀ r ∈ rs, r.length = m * z ∧ r.all clo = true) : frzAll (frz (n + 1) hp) (slR z m ids) = some (imR m rs, ids) := by
 have h := frz_rows (n := n) hl hg hr
 rwa [frzL_eq, slR_some h0, if_neg (by simp)] at h
def retIQ (P : Program) (fn : Func) (B : Base) (Q : V → List (Nat × Blk) → Nat → Prop) : Exit → SS → Prop
 | .normal, s | .ret, s => ∃ y x hp nx, resV P fn s = some y ∧ Q x hp nx ∧ Le B (vst y s.hp s.nx) (vst x hp nx)
 | _, _ => False
def Idle (P : Program) (g : Nat) : Prop := ∀ w : World, (callFunc g #[]).run P w = .ok (.enter g #[]) w ∧ CallsD P g #[] .returning w fun e u w' => (∃ v, e = .returned v) ∧ u = .returning ∧ w' = w
theorem Idle.of {g id t : Nat} {fn : Func} {o : Oper} {n : Nat} (hgo : isGo P g = true) (hf : P.funcs[g]? = some fn) (hb : fn.body = some (.region id #[o] false)) (ho : o.op = .call { callee := .builtin .recover, args := #[], argTypes := #[] }) (hd : o.dst = some t) (hg : o.guard = none) (hn : fn.ntmps = n) (hr : fn.results = #[]) : Idle P g := by
 intro w
 refine ⟨callFunc_go hgo _ _, callsD_of_wpS hf hb fun c₀ cs hu => ?_⟩
 apply wpS_region
 have hw : ∀ ts, Region.wanted o (yielded #[o] ts) = true := by intro ts; unfold Region.wanted; rw [hg]
 have hx : ∀ (ρ : Operand → Value), (execOp ρ o).run P w = .ok .recover w := by
  intro ρ
  obtain ⟨d, op, g, ty, pos, aft⟩ := o
  simp only at ho
  subst ho
  simp only [execOp, resolve, List.map_toArray, zle, Sem.run_bind, Sem.run_pure]
  rfl
 show wpOpsS P #[o] _ [0] _ _ _
 simp only [wpOpsS, List.getElem?_toArray, List.getElem?_cons_zero]
 rw [if_pos (hw _), hx]
 simp only [recoverD, hu, hd, Act.put]
 refine ⟨rfl, c₀.mode, ?_, .tuple #[], ?_, ⟨_, rfl⟩, hu, rfl⟩
 ·cases c₀; rfl
 ·rw [results, hr]; simp [go_sem]
def Base.dfr (B : Base) (D : List Deferred) : Base := ⟨B.w0, B.S0, B.K, B.rho0, B.L, D⟩
theorem Mem.dfr {hp : List (Nat × Blk)} (D : List Deferred) (h : Mem B S rho A hp w) : Mem (B.dfr D) S rho A hp w where
 cells := h.cells
 fz := h.fz
 own := h.own
 inj := h.inj
 slt := h.slt
 sub := h.sub
 base := h.base
 frame := ⟨h.frame.os, h.frame.tape, h.frame.output, h.frame.size, h.frame.block, h.frame.stay, h.frame.sz, h.frame.lt, h.frame.tab⟩
 keep := h.keep
theorem Mem.undfr {hp : List (Nat × Blk)} {D : List Deferred} (h : Mem (B.dfr D) S rho A hp w) : Mem B S rho A hp w := h.dfr B.D
theorem Rel.dfr {a : Act} (D : List Deferred) (h : Rel B S rho A s a w) : Rel (B.dfr D) S rho A s ⟨a.tmps, D⟩ w := ⟨h.slots, h.mem.dfr D, h.alt, h.nt, rfl⟩
def Dfr (P : Program) (c : Code) (s0 s1 : SS) (rest : Code) : Prop :=
 ∃ i0 r0 i1 o g, c = .seq (.region i0 (List.toArray r0) false) (.seq (.region i1 #[o] false) rest) ∧ o.op = .defer { callee := .value (.func g), args := #[], argTypes := #[] } ∧ o.dst = none ∧ o.guard = none ∧ Idle P g ∧ runL P r0.toArray s0 r0 = some s1
def InlQ (P : Program) (f : Nat) (args : List V) (hp : List (Nat × Blk)) (nx : Nat) (Q : V → List (Nat × Blk) → Nat → Prop) : Prop :=
 ∃ fn c, P.funcs[f]? = some fn ∧ fn.body = some c ∧ args.length ≤ fn.ntmps ∧ ((∀ B : Base, B.Old nx → SWp P B c (retIQ P fn B Q) ⟨stSl 0 args, hp, nx, fn.ntmps⟩) ∨ ∃ s1 rest, Dfr P c ⟨stSl 0 args, hp, nx, fn.ntmps⟩ s1 rest ∧ ∀ B : Base, B.Old nx → SWp P B rest (retIQ P fn B Q) s1)
theorem Inl.toQ {f : Nat} {args : List V} {hp hp' : List (Nat × Blk)} {nx nx' : Nat} {x : V} (h : Inl P f args hp nx x hp' nx') : InlQ P f args hp nx fun y q m => y = x ∧ q = hp' ∧ m = nx' := by
 obtain ⟨fn, c, h1, h2, h3, h4⟩ := h
 refine ⟨fn, c, h1, h2, h3, .inl fun B hB => SWp.mono (h4 B hB) fun e s h => ?_⟩
 cases e <;> first | exact h.elim | exact (let ⟨y, a, b⟩ := h; ⟨y, x, hp', nx', a, ⟨rfl, rfl, rfl⟩, b⟩)
theorem InlQ.run {f : Nat} {fn : Func} {c : Code} {args : List V} {n nx : Nat} {s0 : SS} {hp : List (Nat × Blk)} {Q : V → List (Nat × Blk) → Nat → Prop} (hf : P.funcs[f]? = some fn) (hb : fn.body = some c) (hnt : fn.ntmps = n) (hn : args.length ≤ n) (h0 : (⟨stSl 0 args, hp, nx, n⟩ : SS) = s0) (h : ∀ B : Base, B.Old nx → SC P B [c] (retIQ P fn B Q) s0) : InlQ P f args hp nx Q := by
 subst hnt; subst h0
 exact ⟨fn, c, hf, hb, hn, .inl fun B hB => SC.of (h B hB)⟩
theorem retIQ_ret {s : SS} {fn : Func} {y : V} (x : V) (hp : List (Nat × Blk)) (nx : Nat) {Q : V → List (Nat × Blk) → Nat → Prop} {rs : List ResultVar} (hr : fn.results = rs.toArray) (h1 : resG P s rs = some y) (hq : Q x hp nx) (h2 : Le B (vst y s.hp s.nx) (vst x hp nx)) : retIQ P fn B Q .ret s := ⟨y, x, hp, nx, by rw [resV_eq, hr]; exact h1, hq, h2⟩
theorem retIQ_normal {s : SS} {fn : Func} {y : V} (x : V) (hp : List (Nat × Blk)) (nx : Nat) {Q : V → List (Nat × Blk) → Nat → Prop} {rs : List ResultVar} (hr : fn.results = rs.toArray) (h1 : resG P s rs = some y) (hq : Q x hp nx) (h2 : Le B (vst y s.hp s.nx) (vst x hp nx)) : retIQ P fn B Q .normal s := ⟨y, x, hp, nx, by rw [resV_eq, hr]; exact h1, hq, h2⟩
theorem InlQ.callsI {f : Nat} {args : List V} {hp : List (Nat × Blk)} {nx : Nat} {Q : V → List (Nat × Blk) → Nat → Prop} {vs : Array Value} (h : InlQ P f args hp nx Q) (hm : Mem B S rho A hp w) (ha : ∀ id, A id → id < nx) (hv : All S rho A w args vs.toList) :
  Calls P f vs w fun e w' => ∃ v, e = .returned v ∧ ∃ x hp' nx' S' rho' A', Q x hp' nx' ∧ (∀ b, S b → S' b ∧ w'.heap[b]? = w.heap[b]?) ∧ (∀ id, A id → A' id ∧ rho' id = rho id ∧ ∀ n, szAt w (rho id) n → szAt w' (rho id) n) ∧
   Mem (Base.inner S rho A hp w) S' rho' A' hp' w' ∧ (∀ id, A' id → id < nx') ∧ R S' rho' w' A' x v := by
 obtain ⟨fn, c, hf, hb, hn, hI⟩ := h
 have hlen : vs.size = args.length := by have := hv.1; simpa using this.symm
 have fin : ∀ a1 w' S' rho' A' s', Rel (Base.inner S rho A hp w) S' rho' A' s' a1 w' → (∃ y x hp' nx', resV P fn s' = some y ∧ Q x hp' nx' ∧ Le (Base.inner S rho A hp w) (vst y s'.hp s'.nx) (vst x hp' nx')) → ∃ v, (results fn a1.tmps).run P w' = .ok v w' ∧ ∃ v', Ending.returned v = .returned v' ∧
   ∃ x hp' nx' S' rho' A', Q x hp' nx' ∧ (∀ b, S b → S' b ∧ w'.heap[b]? = w.heap[b]?) ∧ (∀ id, A id → A' id ∧ rho' id = rho id ∧ ∀ n, szAt w (rho id) n → szAt w' (rho id) n) ∧ Mem (Base.inner S rho A hp w) S' rho' A' hp' w' ∧ (∀ id, A' id → id < nx') ∧ R S' rho' w' A' x v' := by
  rintro a1 w' S' rho' A' s' hr ⟨y, x, hp', nx', h1, hQ, h2⟩
  obtain ⟨v, h3, h4⟩ := res_sound (P := P) hr h1
  obtain ⟨S2, rho2, A2, h5⟩ := h2 S' rho' A' ⟨#[v], []⟩ w' ⟨fun t => by
   simp only [vst, get]
   by_cases e : t = 0
   ·subst e; rw [if_pos rfl]; exact h4
   ·rw [if_neg e]; exact .junk _, hr.mem, hr.alt, rfl, rfl⟩
  have h6 := h5.slots 0
  refine ⟨v, h3, v, rfl, x, hp', nx', S2, rho2, A2, hQ, fun b hb => ⟨h5.mem.sub b hb, h5.mem.frame.stay b hb⟩, fun id hid => ?_, h5.mem, h5.alt, h6⟩
  obtain ⟨k1, k2⟩ := h5.mem.keep id hid
  exact ⟨k1, k2, fun n hn => hm.innerSz h5.mem.frame _ n hn⟩
 have hst : Rel (Base.inner S rho A hp w) S rho A ⟨stSl 0 args, hp, nx, fn.ntmps⟩ ⟨vs ++ Array.replicate (fn.ntmps - vs.size) undef, []⟩ w := ⟨start_slots hv, hm.inner, ha, by simp; omega, rfl⟩
 rcases hI with hI | ⟨s1, rest, ⟨i0, r0, i1, o, g, rfl, ho, hd, hg, hi, h1⟩, hI⟩
 ·refine calls_of_wp hf hb (wp_mono (hI (Base.inner S rho A hp w) ha S rho A _ w hst) ?_)
  rintro e a1 w' ⟨S', rho', A', s', hq, hr⟩
  cases e with
  | normal => exact ⟨hr.defs, fin _ _ _ _ _ _ hr hq⟩
  | ret => exact ⟨hr.defs, fin _ _ _ _ _ _ hr hq⟩
  | _ => exact hq.elim
 ·refine calls_of_wp_defers hf hb ?_
  refine wp_seq (wp_mono (SWp.region (Q := fun e s => e = .normal ∧ s = s1) (SOps.all h1 ⟨rfl, rfl⟩) S rho A _ w hst) ?_)
  rintro e a w1 ⟨S1, rho1, A1, s, ⟨rfl, rfl⟩, hr⟩
  have had : a.defers = [] := hr.defs
  refine wp_seq (wp_region_lit (l := [o]) (wpList_step fun K hK => ?_))
  have hw : Region.wanted o (yielded [o].toArray a.tmps) = true := by unfold Region.wanted; rw [hg]
  rw [hw, if_pos rfl]
  have hx : (execOp a.eval o).run P w1 = .ok (.defer ⟨.fn (.func g) #[], #[]⟩) w1 := by
   obtain ⟨d, op, gd, ty, pos, aft⟩ := o
   simp only at ho
   subst ho
   simp only [execOp, resolve, List.map_toArray, zle, Act.eval, Deferred.ofValue, Sem.run_bind, Sem.run_pure]
   rfl
  unfold Oper.wp
  rw [hx, Oper.upon_defer]
  refine hK _ _ (wpList_nil ?_)
  rw [hd, had]
  refine wp_mono (hI ((Base.inner S rho A hp w).dfr [⟨.fn (.func g) #[], #[]⟩]) ha S1 rho1 A1 _ w1 (hr.dfr _)) ?_
  rintro e a1 w' ⟨S', rho', A', s', hq, hr⟩
  have hdf : a1.defers = [⟨.fn (.func g) #[], #[]⟩] := hr.defs
  have lv : (∃ y x hp' nx', resV P fn s' = some y ∧ Q x hp' nx' ∧ Le ((Base.inner S rho A hp w).dfr [⟨.fn (.func g) #[], #[]⟩]) (vst y s'.hp s'.nx) (vst x hp' nx')) → Leaves P fn a1.tmps (fun e w' => ∃ v, e = .returned v ∧ ∃ x hp' nx' S' rho' A', Q x hp' nx' ∧ (∀ b, S b → S' b ∧ w'.heap[b]? = w.heap[b]?) ∧ (∀ id, A id → A' id ∧ rho' id = rho id ∧ ∀ n, szAt w (rho id) n → szAt w' (rho id) n) ∧
    Mem (Base.inner S rho A hp w) S' rho' A' hp' w' ∧ (∀ id, A' id → id < nx') ∧ R S' rho' w' A' x v) a1.defers .returning w' := by
   rintro ⟨y, x, hp', nx', g1, gQ, g2⟩
   rw [hdf]
   refine leaves_cons (f := g) (args := #[]) (by simp) (by simpa [go_sem] using (hi w').1) ((hi w').2.mono ?_)
   rintro e u w2 ⟨⟨v2, rfl⟩, rfl, rfl⟩
   refine fin ⟨a1.tmps, []⟩ _ _ _ _ _ (hr.dfr []) ⟨y, x, hp', nx', g1, gQ, fun S2 rho2 A2 a2 w2 h2 => ?_⟩
   obtain ⟨S3, rho3, A3, h3⟩ := g2 S2 rho2 A2 _ w2 (h2.dfr _)
   exact ⟨S3, rho3, A3, ⟨h3.slots, h3.mem.undfr, h3.alt, h3.nt, h2.defs⟩⟩
  cases e with
  | normal => exact lv hq
  | ret => exact lv hq
  | _ => exact hq.elim
def inOf (hp hpS : List (Nat × Blk)) (id : Nat) : Prop := hasId hpS id = true ∨ hasId hp id = false
theorem hasId_rest (hp l : List (Nat × Blk)) (i : Nat) : hasId (restH hp l) i = (hasId hp i && !hasId l i) := by
 induction hp with
 | nil => simp [restH, hasId]
 | cons p r ih =>
  simp only [restH]
  by_cases h : hasId l p.1 = true
  ·rw [if_pos h, ih]
   by_cases e : i = p.1
   ·subst e; simp [hasId, h]
   ·simp [hasId, e]
  ·rw [if_neg h]
   simp only [hasId, ih]
   by_cases e : i = p.1
   ·subst e; simp [h]
   ·simp [e]
theorem inOf_rest {hp hpS : List (Nat × Blk)} {id : Nat} (h : inOf hp hpS id) : hasId (restH hp hpS) id = false := by
 rw [hasId_rest]
 rcases h with h | h <;> simp [h]
theorem Only.mono {p q : Nat → Prop} {x : V} (h : Only p x) (hpq : ∀ i, p i → q i) : Only q x := by
 induction h with
 | sc v => exact .sc v
 | junk => exact .junk
 | ag _ ih => exact .ag ih
 | tu _ ih => exact .tu ih
 | pt h => exact .pt (hpq _ h)
 | sl h => exact .sl (hpq _ h)
 | im cs n => exact .im cs n
 | pi cs => exact .pi cs
 | fn _ _ i1 i2 => exact .fn i1 i2
 | mp h => exact .mp (hpq _ h)
theorem OnlyH.mono {p q : Nat → Prop} (hpq : ∀ i, p i → q i) : ∀ {l : List (Nat × Blk)}, OnlyH p l → OnlyH q l
 | [], _ => trivial
 | _ :: _, h => ⟨fun y hy => (h.1 y hy).mono hpq, h.2.mono hpq⟩
theorem OnlyH.app {p : Nat → Prop} : ∀ {a b : List (Nat × Blk)}, OnlyH p a → OnlyH p b → OnlyH p (a ++ b)
 | [], _, _, h => h
 | _ :: _, _, h, k => ⟨h.1, h.2.app k⟩
theorem Only.clo {p : Nat → Prop} {x : V} (h : clo x = true) : Only p x := by
 cases x <;> simp [Go.Proofs.Ytdkkgndibagihaa.clo] at h
 ·exact .sc _
 ·exact .im _ _
 ·exact .pi _
theorem OnlyH.rows {p : Nat → Prop} {ty : TypeId} : ∀ {ids : List Nat} {rs : List (List V)}, (∀ r ∈ rs, r.all clo = true) → OnlyH p (rowsH ty ids rs)
 | [], _, _ => by simp [rowsH, OnlyH]
 | _ :: _, [], _ => by simp [rowsH, OnlyH]
 | i :: ids, r :: rs, h => by
  rw [rowsH]
  refine ⟨fun y hy => Only.clo (List.all_eq_true.1 (h r (by simp)) y hy), OnlyH.rows fun r hr => h r (by simp [hr])⟩
theorem SO.weak {ops : Array Oper} {l : List Oper} {cs : List Code} {Q : Exit → SS → Prop} {s s' : SS} (h : Le B s s') (k : SO P B ops l cs Q s') : SO P B ops l cs Q s :=
 fun S rho A a w hr => let ⟨S', rho', A', hr'⟩ := h S rho A a w hr; k S' rho' A' a w hr'
def SInlQ (P : Program) (B : Base) (f : Nat) (ys : List V) (d : Option Nat) (ops : Array Oper) (l : List Oper) (cs : List Code) (Q : Exit → SS → Prop) (s : SS) : Prop :=
 ∃ hpS C, (∀ id k, hget hpS id = some k → hget s.hp id = some k) ∧ InlQ P f ys hpS s.nx C ∧ ∀ x hp' nx', C x hp' nx' → Only (fun id => hasId (restH s.hp hpS) id = false) x ∧ OnlyH (fun id => hasId (restH s.hp hpS) id = false) hp' ∧ SO P B ops l cs Q ⟨putS s.sl d x, hp' ++ restH s.hp hpS, nx', s.nt⟩
theorem SO.inlQ {s : SS} {ops : Array Oper} {l : List Oper} {cs : List Code} {Q : Exit → SS → Prop} {g : Operand} {f : Nat} {p q ys : List V} {args : List Operand} {ts : Array TypeId} {d : Option Tmp} {ty : TypeId} {pos : String} {after : Array Edge} {gd : Option (Nat × Bool)}
  (hfn : fnOf (evS s.sl g) = some (f, p, q)) (hgo : isGo P f = true) (hy : p ++ args.map (evS s.sl) ++ q = ys) (hg : guardV ops s.sl gd = some true ∧ dstOk d s.nt = true) (k : SInlQ P B f ys d ops l cs Q s) : SO P B ops (⟨d, .call ⟨.value g, args.toArray, ts⟩, ty, pos, after, gd⟩ :: l) cs Q s := by
 obtain ⟨hpS, C, hsub, hI, k⟩ := k
 intro S rho A a w hr
 have hw := guard_sound (o := (⟨d, .call ⟨.value g, args.toArray, ts⟩, ty, pos, after, gd⟩ : Oper)) hr.slots hg.1
 refine wpList_step fun K hK => ?_
 rw [if_pos hw]
 obtain ⟨ps, qs, he, hps, hqs⟩ := fn_sound hfn (ev_sound hr.mem.tab hr.slots g)
 have hrun : (execOp a.eval ⟨d, .call ⟨.value g, args.toArray, ts⟩, ty, pos, after, gd⟩).run P w = .ok (.enter f (ps ++ args.toArray.map a.eval ++ qs)) w := by
  simp only [execOp, resolve, he, Deferred.ofValue, Sem.run_bind, Sem.run_pure, Result.andThen_ok, invoke]
  have := callFunc_go hgo (ps ++ args.toArray.map a.eval ++ qs) w
  simpa using this
 unfold Oper.wp
 rw [hrun]
 refine (hI.callsI (hr.mem.less hsub) hr.alt (vs := ps ++ args.toArray.map a.eval ++ qs) ?_).mono ?_
 ·have := (hps.append (All.ev hr.mem.tab hr.slots args)).append hqs
  rw [hy] at this
  simpa using this
 ·rintro e w' ⟨v, rfl, x, hp', nx', S', rho', A', hC, h1, h2, h3, h4, h5⟩
  obtain ⟨hx, hc, k⟩ := k x hp' nx' hC
  have h6 := hr.mem.backS hsub h3 hc
  refine hK _ _ (k S' rho' (fun id => A' id ∧ (hasId (restH s.hp hpS) id = true → A id)) _ _ ⟨slots_put hr.slots (by rw [hr.nt]; exact hg.2) h1 (fun id hid => ⟨⟨(h2 id hid).1, fun _ => hid⟩, (h2 id hid).2⟩) (h5.only hx fun id hid hai => ⟨hai, fun e => by rw [hid] at e; cases e⟩), h6, fun id hid => h4 id hid.1, by rw [put_size]; exact hr.nt, by rw [put_defers]; exact hr.defs⟩)
theorem SInlQ.of {ops : Array Oper} {l : List Oper} {cs : List Code} {Q : Exit → SS → Prop} {f : Nat} {ys : List V} {d : Option Nat} {hpS hp : List (Nat × Blk)} {nx nt : Nat} {sl : List (Nat × V)} {C : V → List (Nat × Blk) → Nat → Prop} (hI : InlQ P f ys hpS nx C) (hs : ∀ id k, hget hpS id = some k → hget hp id = some k)
  (k : ∀ x hp' nx', C x hp' nx' → Only (inOf hp hpS) x ∧ OnlyH (inOf hp hpS) hp' ∧ ∃ hp'', (∀ id k, hget hp'' id = some k → hget (hp' ++ restH hp hpS) id = some k) ∧ SO P B ops l cs Q ⟨putS sl d x, hp'', nx', nt⟩) : SInlQ P B f ys d ops l cs Q ⟨sl, hp, nx, nt⟩ := by
 refine ⟨hpS, C, hs, hI, fun x hp' nx' hC => ?_⟩
 obtain ⟨h1, h2, hp'', h3, h4⟩ := k x hp' nx' hC
 exact ⟨h1.mono fun _ => inOf_rest, h2.mono fun _ => inOf_rest, SO.weak (Le.less h3 (znb _)) h4⟩
def hsets (hp : List (Nat × Blk)) : List (Nat × Blk) → List (Nat × Blk)
 | [] => hp
 | p :: r => hset (hsets hp r) p.1 p.2
end
end Go.Proofs.Ytdkkgndibagihaa
namespace Go.Proofs.Ytdkkgndibagihaa
open Go.RowKit
section
variable {P : Program} {B : Base} {l : List Oper} {st : Nat → SS} {en : Nat → En} {S : Nat → Prop} {rho : Nat → Nat} {A : Nat → Prop} {a : Act} {w : World} {L : Nat → Bool}
theorem DInv.ends (h : DRun P l st en) (hI : DInv B l st en L S rho A a w) (hall : ∀ i, i < l.length → L i = true) : Rel B S rho A (st l.length) a w := by
 refine ⟨?_, hI.mem.turn fun id k' hk' _ => ?_, fun id hid => ?_, hI.size.trans (h.nt l.length (znb _)).symm, hI.defs⟩
 ·intro t
  by_cases hex : ∃ (j : Nat) (o : Oper), l[j]? = some o ∧ o.dst = some t
  ·obtain ⟨j, o, hj, hd⟩ := hex
   have hjl := (List.getElem?_eq_some_iff.1 hj).1
   rw [h.slotx hj hd l.length hjl (znb _)]
   exact hI.done t j o hj hd (hall j hjl)
  ·have hno : ∀ (j : Nat) (o : Oper), l[j]? = some o → o.dst ≠ some t := fun j o hj hd => hex ⟨j, o, hj, hd⟩
   rw [h.slot0 l.length (znb _) fun j o _ hj => hno j o hj]
   exact hI.open' t fun j o hj hd => absurd hd (hno j o hj)
 ·have hq : nextC l.length en L id = l.length := by
   have hle := nextC_le (en := en) l.length L id
   rcases Nat.lt_or_eq_of_le hle with hlt | heq
   ·obtain ⟨_, a2⟩ := nextC_at hlt
    rw [hall _ hlt] at a2; cases a2
   ·exact heq
  refine ⟨k', ?_, rfl, rfl, fun h => h⟩
  rw [hget_hpD h, hq]; exact hk'
 ·rcases hI.num id hid with h1 | ⟨j, hj, _, rfl, h2⟩
  ·exact Nat.lt_of_lt_of_le h1 (h.nx 0 _ (znc _) (znb _))
  ·exact Nat.lt_of_lt_of_le h2 (h.nx (j + 1) _ (by omega) (znb _))
theorem DInv.begin (h : DRun P l st en) (hr : Rel B S rho A (st 0) a w) (hf : ∀ j, L j = false) : DInv B l st en L S rho A a { w with drawn := w.drawn + 1 } := by
 have g := Grow.drawn w (w.drawn + 1)
 exact {
  mem := (hr.mem.grow g).turn fun id k' hk' hA => by
   rw [hget_hpD h] at hk'
   obtain ⟨k, hk⟩ := h.born (hr.alt id hA) _ (nextC_le _ _ _) k' hk'
   obtain ⟨k2, c1, c2, c3, c4⟩ := h.chain hk _ (znc _) (nextC_le _ _ _) (fun m _ hm hmt => by
    have := nextC_lt (L := L) hm hmt
    rw [hf m] at this; cases this)
   rw [hk'] at c1; cases c1
   exact ⟨k, hk, c2, c3, c4⟩
  done := fun t j o _ _ hL => by rw [hf j] at hL; cases hL
  open' := fun t _ => (hr.slots t).mono (fun b hb => ⟨hb, rfl⟩) (fun id h => ⟨h, rfl, fun _ => g.szAt⟩)
  num := fun id hA => .inl (hr.alt id hA)
  size := hr.nt
  defs := hr.defs
  closed := fun i j hi => by rw [hf i] at hi; cases hi }
@[irreducible] def dR : Nat := 12
def lastOk (l tl : List Oper) : Bool :=
 (l.all fun p => match p.guard with | some (j, _) => decide (j < l.length) | none => true) &&
 (List.range tl.length).all fun k => (match tl[k]? with | some o => o.after.all fun e => !Region.binds .any e || decide (e.on < l.length + k) | none => true) &&
  (List.range (l.length + k)).all fun j => reachB (l ++ tl).toArray dR (l.length + k) j
theorem app_get {tl : List Oper} {i : Nat} (hi : i < l.length) : (l ++ tl).toArray[i]? = l[i]? := by
 rw [List.getElem?_toArray, List.getElem?_append_left hi]
theorem app_tail {tl : List Oper} {i : Nat} : (l ++ tl).toArray[l.length + i]? = tl[i]? := by
 rw [List.getElem?_toArray, List.getElem?_append_right (Nat.le_add_right _ _), znd]
theorem app_dep {tl : List Oper} {i j : Nat} (hi : i < l.length) : depB (l ++ tl).toArray i j = depB l.toArray i j := by
 unfold depB
 rw [app_get hi, List.getElem?_toArray]
theorem any_drawT {Q : Exit → SS → Prop} {s : SS} {tl : List Oper} (h : DRun P l st en) (hs : st 0 = s) (hT : lastOk l tl = true) (hQ : SOps P B (l ++ tl).toArray tl Q (st l.length)) : ∀ S rho A a w, Rel B S rho A s a w → wpAny P .any (l ++ tl).toArray (Post B Q) (l ++ tl).toArray.size (Array.replicate (l ++ tl).toArray.size false) a { w with drawn := w.drawn + 1 } := by
 subst hs
 intro S rho A a w hr
 unfold lastOk at hT
 rw [Bool.and_eq_true] at hT
 obtain ⟨hg, hT⟩ := hT
 have hT' : ∀ k, k < tl.length → (∀ o, tl[k]? = some o → ∀ e ∈ o.after.toList, Region.binds .any e = true → e.on < l.length + k) ∧ ∀ j, j < l.length + k → reachB (l ++ tl).toArray dR (l.length + k) j = true := by
  intro k hk
  have := List.all_eq_true.1 hT k (List.mem_range.2 hk)
  rw [Bool.and_eq_true] at this
  refine ⟨fun o ho e he hb => ?_, fun j hj => List.all_eq_true.1 this.2 j (List.mem_range.2 hj)⟩
  have h1 := this.1
  rw [ho] at h1
  simp only at h1
  rw [Array.all_eq_true'] at h1
  have := h1 e (by simpa using he)
  rw [hb] at this
  simpa using this
 have dep : ∀ (L : Nat → Bool) (i : Nat) (q : Oper), (l ++ tl).toArray[i]? = some q → (∀ e ∈ q.after.toList, Region.binds .any e = true → L e.on = true) → ∀ m, depB (l ++ tl).toArray i m = true → L m = true := by
  intro L i q hq hd m hm
  unfold depB at hm
  rw [hq] at hm
  simp only [Array.any_eq_true'] at hm
  obtain ⟨e, he, hb⟩ := hm
  rw [Bool.and_eq_true, beq_iff_eq] at hb
  rw [← hb.2]; exact hd e (by simpa using he) hb.1
 have idx : ∀ {i : Nat} {q : Oper}, (l ++ tl).toArray[i]? = some q → i < l.length ∨ ∃ k, i = l.length + k ∧ k < tl.length ∧ tl[k]? = some q := by
  intro i q hq
  have := (Array.getElem?_eq_some_iff.1 hq).1
  simp at this
  rcases Nat.lt_or_ge i l.length with g | g
  ·exact .inl g
  ·refine .inr ⟨i - l.length, by omega, by omega, ?_⟩
   rw [show i = l.length + (i - l.length) by omega, app_tail] at hq
   exact hq
 refine (wpAny_act (fun L a w => (∀ i j, L i = true → depB (l ++ tl).toArray i j = true → L j = true) ∧ (((∀ k, k < tl.length → L (l.length + k) = false) ∧ ∃ S rho A, DInv B l st en L S rho A a w) ∨ ∃ t, t ≤ tl.length ∧ (∀ i, i < l.length + t → L i = true) ∧ (∀ k, t ≤ k → k < tl.length → L (l.length + k) = false) ∧ wpList P (l ++ tl).toArray (Post B Q) (tl.drop t) a w)) ?_ ?_ ?_ _ _ a _ (by simp) ?_ ?_)
 ·intro i q hq e he hb
  rcases idx hq with hi | ⟨k, rfl, hk, hq'⟩
  ·rw [app_get hi] at hq
   exact h.ord i q hq e he hb
  ·exact (hT' k hk).1 q hq' e he hb
 ·rintro L a w i q hq hi hd ⟨hcl, hinv⟩
  have hdep := dep L i q hq hd
  have hcl' : ∀ m j, (if m = i then true else L m) = true → depB (l ++ tl).toArray m j = true → (if j = i then true else L j) = true := by
   intro m j hm hj
   by_cases e : j = i
   ·rw [if_pos e]
   ·rw [if_neg e]
    by_cases e2 : m = i
    ·subst e2; exact hdep j hj
    ·rw [if_neg e2] at hm; exact hcl m j hm hj
  have hbefore : ∀ k, i = l.length + k → k < tl.length → ∀ j, j < l.length + k → L j = true := fun k hk hkl j hj => by
   subst hk
   exact reachB_spec hcl dR _ j ((hT' k hkl).2 j hj) hdep
  have hrun : ∀ k o', i = l.length + k → tl[k]? = some o' → wpList P (l ++ tl).toArray (Post B Q) (tl.drop k) a w → (∀ m, m < l.length + k → L m = true) → (∀ k', k < k' → k' < tl.length → L (l.length + k') = false) →
    wpOp P (l ++ tl).toArray (Post B Q) i (fun a' w' => (∀ i_1 j, (if i_1 = i then true else L i_1) = true → depB (l ++ tl).toArray i_1 j = true → (if j = i then true else L j) = true) ∧ (((∀ k, k < tl.length → (if l.length + k = i then true else L (l.length + k)) = false) ∧ ∃ S rho A, DInv B l st en (fun j => if j = i then true else L j) S rho A a' w') ∨ ∃ t, t ≤ tl.length ∧ (∀ i_1, i_1 < l.length + t → (if i_1 = i then true else L i_1) = true) ∧ (∀ k, t ≤ k → k < tl.length → (if l.length + k = i then true else L (l.length + k)) = false) ∧ wpList P (l ++ tl).toArray (Post B Q) (tl.drop t) a' w')) a w := by
   intro k o' hk ho' hx hall hno
   subst hk
   have hkl := (List.getElem?_eq_some_iff.1 ho').1
   have hdr : tl.drop k = o' :: tl.drop (k + 1) := by
    rw [List.drop_eq_getElem_cons hkl]
    congr 1
    exact (List.getElem?_eq_some_iff.1 ho').2
   rw [hdr] at hx
   have hend : ∀ a' w', wpList P (l ++ tl).toArray (Post B Q) (tl.drop (k + 1)) a' w' → (∀ i_1 j, (if i_1 = l.length + k then true else L i_1) = true → depB (l ++ tl).toArray i_1 j = true → (if j = l.length + k then true else L j) = true) ∧ (((∀ k', k' < tl.length → (if l.length + k' = l.length + k then true else L (l.length + k')) = false) ∧ ∃ S rho A, DInv B l st en (fun j => if j = l.length + k then true else L j) S rho A a' w') ∨ ∃ t, t ≤ tl.length ∧ (∀ i_1, i_1 < l.length + t → (if i_1 = l.length + k then true else L i_1) = true) ∧ (∀ k', t ≤ k' → k' < tl.length → (if l.length + k' = l.length + k then true else L (l.length + k')) = false) ∧ wpList P (l ++ tl).toArray (Post B Q) (tl.drop t) a' w') := by
    intro a' w' hp
    refine ⟨hcl', .inr ⟨k + 1, by omega, fun m hm => ?_, fun k' h1 h2 => ?_, hp⟩⟩
    ·by_cases e : m = l.length + k
     ·rw [if_pos e]
     ·rw [if_neg e]; exact hall m (by omega)
    ·rw [if_neg (by omega)]; exact hno k' (by omega) h2
   unfold wpOp
   rw [app_tail, ho']
   simp only [wpList] at hx ⊢
   split
   ·rename_i hw
    rw [if_pos hw] at hx
    rcases hx with hx | hx
    ·exact .inl (Oper.wp_mono hend hx)
    ·exact .inr hx
   ·rename_i hw
    rw [if_neg hw] at hx
    exact hend _ _ hx
  rcases hinv with ⟨hlast, S, rho, A, hI⟩ | ⟨t, ht, hall, hno, hwl⟩
  ·rcases idx hq with hil | ⟨k, hk, hkl, hq'⟩
   ·have hq' := hq
    rw [app_get hil] at hq'
    have hstep := region_step (Q := Post B Q) h hI hq' hi (fun m hm => hdep m (by rw [app_dep hil]; exact hm))
    have hgq : Region.wanted q (yielded (l ++ tl).toArray a.tmps) = Region.wanted q (yielded l.toArray a.tmps) := by
     unfold Region.wanted
     have := List.all_eq_true.1 hg q (List.mem_of_getElem? hq')
     cases hgd : q.guard with
     | none => rfl
     | some p =>
      obtain ⟨j, want⟩ := p
      rw [hgd] at this
      have hj : j < l.length := by simpa using this
      simp only
      have e : yielded (l ++ tl).toArray a.tmps j = yielded l.toArray a.tmps j := by
       unfold yielded
       rw [app_get hj, List.getElem?_toArray]
      rw [e]
    have hm2 : wpOp P (l ++ tl).toArray (Post B Q) i (fun a' w' => ∃ S rho A, DInv B l st en (addL L i) S rho A a' w') a w := by
     unfold wpOp at hstep ⊢
     rw [List.getElem?_toArray, hq'] at hstep
     rw [app_get hil, hq']
     simp only at hstep ⊢
     rw [hgq]; exact hstep
    exact wpOp_mono (fun a' w' hx => ⟨hcl', .inl ⟨fun k hk => by dsimp only; rw [if_neg (by omega)]; exact hlast k hk, hx⟩⟩) hm2
   ·have hb := hbefore k hk hkl
    have hk0 : k = 0 := by
     rcases Nat.eq_zero_or_pos k with g | g
     ·exact g
     ·have h1 := hb (l.length + 0) (by omega)
      rw [hlast 0 (by omega)] at h1; cases h1
    subst hk0
    have hrel := hI.ends h (fun m hm => hb m (by omega))
    have hx := hQ S rho A a w hrel
    exact hrun 0 q hk hq' hx hb (fun k' _ h2 => hlast k' h2)
  ·rcases idx hq with hil | ⟨k, hk, hkl, hq'⟩
   ·rw [hall i (by omega)] at hi; cases hi
   ·have hb := hbefore k hk hkl
    have hkt : k = t := by
     rcases Nat.lt_trichotomy k t with g | g | g
     ·rw [hk, hall _ (by omega)] at hi; cases hi
     ·exact g
     ·have h1 := hb (l.length + t) (by omega)
      rw [hno t (znb _) (by omega)] at h1; cases h1
    subst hkt
    exact hrun k q hk hq' hwl hb (fun k' h1 h2 => hno k' (by omega) h2)
 ·rintro L a w hL ⟨_, ⟨hlast, S, rho, A, hI⟩ | ⟨t, ht, hall, hno, hwl⟩⟩
  ·cases htl : tl with
   | nil =>
    have hrel := hI.ends h (fun m hm => hL m (by simp; omega))
    have hx := hQ S rho A a w hrel
    rw [htl] at hx
    exact hx
   | cons o r =>
    have := hlast 0 (by rw [htl]; simp)
    rw [hL _ (by rw [htl]; simp)] at this; cases this
  ·have : t = tl.length := by
    rcases Nat.lt_or_ge t tl.length with g | g
    ·have := hno t (znb _) g
     rw [hL _ (by simp; omega)] at this; cases this
    ·omega
   rw [this, List.drop_length] at hwl
   exact hwl
 ·unfold unl
  refine Nat.le_trans (List.length_filter_le _ _) (by simp)
 ·have hf : ∀ j, (Array.replicate (l ++ tl).toArray.size false).getD j false = false := by
   intro j
   rw [Array.getD_eq_getD_getElem?, Array.getElem?_replicate]
   split <;> rfl
  exact ⟨(fun i j hi => by simp only [hf] at hi; cases hi), .inl ⟨fun k _ => hf _, S, rho, A, DInv.begin h hr hf⟩⟩
theorem region_drawT {id : Nat} {Q : Exit → SS → Prop} {s : SS} {tl : List Oper} (h : DRun P l st en) (hs : st 0 = s) (hm : P.follows .mixedOrders = true) (hT : lastOk l tl = true) (hQ : SOps P B (l ++ tl).toArray tl Q (st l.length)) : SWp P B (.region id (l ++ tl).toArray true) Q s :=
 fun S rho A a w hr => wp_region_any hm (any_drawT h hs hT hQ S rho A a w hr)
def lastQ (P : Program) (B : Base) (ops : Array Oper) (tl : List Oper) (cs : List Code) (Q : Exit → SS → Prop) : Exit → SS → Prop
 | .normal, s => SO P B ops tl cs Q s
 | _, _ => False
theorem SC.drawT {cs : List Code} {Q : Exit → SS → Prop} {s : SS} {id : Nat} {l1 tl : List Oper} (n : Nat) (h1 : l.take n = l1) (h2 : l.drop n = tl) (hm : P.follows .mixedOrders = true) (hk : ∀ id k, hget s.hp id = some k → id < s.nx) (hT : lastOk l1 tl = true) (h : DO P B l1 l1 [] (lastQ P B l.toArray tl cs Q) [] s) : SC P B (.region id l.toArray true :: cs) Q s := by
 have e : l = l1 ++ tl := by rw [← h1, ← h2, List.take_append_drop]
 subst e
 obtain ⟨es, s', h3, h4, h5⟩ := h
 obtain ⟨st, en, h6, h7, h8⟩ := chk_run hk h3 (by simpa using h4)
 exact region_drawT h6 h7 hm hT (by rw [h8]; exact h5)
def colF (f : Nat → Nat) (e : Option Nat × List Nat) : Option Nat × List Nat := (e.1.map f, e.2.map f)
@[go_sem] theorem colF_mk (f : Nat → Nat) (a : Option Nat) (l : List Nat) : colF f (a, l) = (a.map f, l.map f) := rfl
def col (e : Option Nat × List Nat) : Option Nat × List Nat := (e.1.map fun _ => 0, e.2.map fun _ => 0)
theorem chkD_colF (f : Nat → Nat) {en : List (Option Nat × List Nat)} (h : chkD l (en.map (colF f)) = true) : chkD l en = true := by
 unfold chkD at h ⊢
 rw [Bool.and_eq_true] at h ⊢
 refine ⟨h.1, List.all_eq_true.2 fun p hp => List.all_eq_true.2 fun q hq => ?_⟩
 have := List.all_eq_true.1 (List.all_eq_true.1 h.2 p hp) q hq
 rw [Bool.or_eq_true] at this ⊢
 refine this.imp id fun h1 => ?_
 unfold pairOk at h1 ⊢
 rw [Bool.and_eq_true] at h1 ⊢
 refine ⟨h1.1, ?_⟩
 have h2 := h1.2
 rw [List.getElem?_map, List.getD_eq_getElem?_getD, List.getElem?_map] at h2
 rw [List.getD_eq_getElem?_getD]
 cases e1 : en[q.2]? with
 | none => rfl
 | some eq =>
  rw [e1] at h2
  simp only [Option.map_some, Option.bind_some] at h2 ⊢
  cases e2 : eq.1 with
  | none => rfl
  | some id =>
   simp only [colF, e2, Option.map_some] at h2
   simp only [Bool.or_eq_true, Bool.and_eq_true, Bool.not_eq_true', bne_iff_ne, ne_eq] at h2 ⊢
   refine h2.imp (fun ⟨g1, g2⟩ => ?_) fun h => h
   cases e3 : en[p.2]? with
   | none => exact ⟨by simp, by simp⟩
   | some ep =>
    rw [e3] at g1 g2
    simp only [Option.map_some, Option.getD_some, colF] at g1 g2 ⊢
    constructor
    ·cases hb : ep.2.contains id with
     | false => rfl
     | true =>
      have hm : id ∈ ep.2 := by simpa using hb
      have : (ep.2.map f).contains (f id) = true := by
       simp only [List.contains_iff_mem]; exact List.mem_map_of_mem hm
      rw [this] at g1; cases g1
    ·cases h3 : ep.1 with
     | none => simp
     | some x =>
      rw [h3] at g2
      intro e
      simp only [Option.some.injEq] at e
      subst e
      exact g2 rfl
theorem DO.nilF {full : List Oper} {cs : List Code} {Q : Exit → SS → Prop} {tr tr' : List (Option Nat × List Nat)} {s : SS} (f : Nat → Nat) (ht : tr.map (colF f) = tr') (hc : chkD full tr'.reverse = true) (h : SC P B cs Q s) : DO P B full [] cs Q tr s :=
 DO.nil (chkD_colF f (by rw [List.map_reverse, ht]; exact hc)) h
@[go_sem] theorem klB_cons (i n : Nat) (k : Blk) (r : List (Nat × Blk)) : klB ((i, k) :: r) n = if i < n then klB r n else false := by
 unfold klB
 rw [List.all_cons]
 by_cases h : i < n <;> simp [h]
theorem klB_rows {n : Nat} {ty : TypeId} : ∀ {ids : List Nat} {rs : List (List V)}, (∀ i ∈ ids, i < n) → klB (rowsH ty ids rs) n = true
 | [], _, _ => by simp [rowsH, klB]
 | _ :: _, [], _ => by simp [rowsH, klB]
 | i :: ids, r :: rs, h => by
  have := klB_rows (ty := ty) (rs := rs) (fun j hj => h j (List.mem_cons_of_mem _ hj))
  rw [rowsH, klB_cons, if_pos (h i (by simp)), this]
end
end Go.Proofs.Ytdkkgndibagihaa
namespace Go.Proofs.Ytdkkgndibagihaa
open Go.RowKit
section
variable {P : Program} {w : World} {B : Base} {S : Nat → Prop} {rho : Nat → Nat} {A : Nat → Prop}
def VMap (f : Nat → Nat) (D : Nat → Prop) (x y : V) : Prop := ∀ (S : Nat → Prop) (rho : Nat → Nat) (A : Nat → Prop) (w : World) (v : Value), R S rho w A x v → R S (fun i => rho (f i)) w (fun i => D i ∧ A (f i)) y v
variable {f : Nat → Nat} {D : Nat → Prop}
theorem VMap.clo {x : V} (h : clo x = true) : VMap f D x x := fun _ _ _ _ _ hx => (clo_sound h hx).mono (fun _ h => ⟨h, rfl⟩) (fun _ h => h.elim)
theorem VMap.nil : VMap f D (.sc (.slice none 0 0)) (.sc (.slice none 0 0)) := fun _ _ _ _ _ hx => by cases hx; exact .sc _
theorem VMap.sc (v : Value) : VMap f D (.sc v) (.sc v) := fun _ _ _ _ _ hx => by cases hx; exact .sc _
theorem VMap.junk (x : V) : VMap f D x .junk := fun _ _ _ _ v _ => .junk v
theorem VMap.nil_sl (id off z : Nat) : VMap f D (.sc (.slice none 0 0)) (.sl id off 0 z none) := fun _ _ _ _ _ h => by cases h; exact .sln (by simp)
theorem VMap.nil_im : VMap f D (.sc (.slice none 0 0)) (.im [] 0) := fun _ _ _ _ _ h => by cases h; exact .im0 (znb _) (by unfold maxLen; omega) (fun _ => rfl)
theorem VMap.sl {id id' off len z : Nat} {cap : Option Nat} (h : f id' = id) (hD : D id') : VMap f D (.sl id off len z cap) (.sl id' off len z cap) := by
 intro S rho A w v hx
 subst h
 cases hx with
 | sl a b c d e => exact .sl ⟨hD, a⟩ b c d e
 | sln a => exact .sln a
theorem VMap.cap {id id' off len z : Nat} {cap : Option Nat} (h : f id' = id) (hD : D id') : VMap f D (.sl id off len z cap) (.sl id' off len z none) := by
 intro S rho A w v hx
 subst h
 cases hx with
 | sl a b c d e => exact .sl ⟨hD, a⟩ b c (by simp) e
 | sln a => exact .sln (by simp)
theorem VMap.pt {id id' off : Nat} (h : f id' = id) (hD : D id') : VMap f D (.pt id off) (.pt id' off) := by
 intro S rho A w v hx
 subst h
 cases hx with
 | pt a => exact .pt ⟨hD, a⟩
theorem VMap.ag {cs ds : List V} (hl : cs.length = ds.length) (h : ∀ (i : Nat) (x y : V), cs[i]? = some x → ds[i]? = some y → VMap f D x y) : VMap f D (.ag cs) (.ag ds) := by
 intro S rho A w v hx
 cases hx with
 | ag h1 h2 =>
  refine .ag (hl.symm.trans h1) fun i y u hy hu => ?_
  have hlt : i < cs.length := by rw [hl]; exact (List.getElem?_eq_some_iff.1 hy).1
  exact h i _ y (zlb hlt) hy _ _ _ _ _ (h2 i _ u (zlb hlt) hu)
theorem VMap.fn {g : Fn} {p q p' q' : List V} (h1 : p.length = p'.length) (h2 : q.length = q'.length) (h3 : ∀ (i : Nat) (x y : V), p[i]? = some x → p'[i]? = some y → VMap f D x y) (h4 : ∀ (i : Nat) (x y : V), q[i]? = some x → q'[i]? = some y → VMap f D x y) : VMap f D (.fn g p q) (.fn g p' q') := by
 intro S rho A w v hx
 cases hx with
 | fn a b c d =>
  refine .fn (h1.symm.trans a) (h2.symm.trans b) (fun i y u hy hu => ?_) (fun i y u hy hu => ?_)
  ·have hlt : i < p.length := by rw [h1]; exact (List.getElem?_eq_some_iff.1 hy).1
   exact h3 i _ y (zlb hlt) hy _ _ _ _ _ (c i _ u (zlb hlt) hu)
  ·have hlt : i < q.length := by rw [h2]; exact (List.getElem?_eq_some_iff.1 hy).1
   exact h4 i _ y (zlb hlt) hy _ _ _ _ _ (d i _ u (zlb hlt) hu)
def mapSl (f : Nat → Nat) (D : Nat → Prop) (sl : List (Nat × V)) : List (Nat × V) → Prop
 | [] => True
 | (t, y) :: r => VMap f D (get sl t) y ∧ mapSl f D sl r
theorem mapSl_get {sl : List (Nat × V)} : ∀ {sl' : List (Nat × V)}, mapSl f D sl sl' → ∀ t, VMap f D (get sl t) (get sl' t)
 | [], _, t => VMap.junk _
 | (t', y) :: r, h, t => by
  simp only [get]
  by_cases e : t = t'
  ·subst e; rw [if_pos rfl]; exact h.1
  ·rw [if_neg e]; exact mapSl_get h.2 t
theorem mapSl_cons {sl r : List (Nat × V)} {t : Nat} {x y : V} (hg : get sl t = x) (h : VMap f D x y) (k : mapSl f D sl r) : mapSl f D sl ((t, y) :: r) := ⟨hg ▸ h, k⟩
theorem VMap.int {k : IntKind} {a b : Int} (h : a = b) : VMap f D (.sc (.int k a)) (.sc (.int k b)) := h ▸ VMap.sc _
def BMap (f : Nat → Nat) (D : Nat → Prop) (o : Option Blk) (k' : Blk) : Prop := ∃ k, o = some k ∧ k.ty = k'.ty ∧ k.fz = k'.fz ∧ ∀ (i : Nat) (y : V), k'.cs[i]? = some y → ∃ x, k.cs[i]? = some x ∧ VMap f D x y
theorem BMap.clo {k : Blk} (h : k.cs.all clo = true) : BMap f D (some k) k := ⟨k, rfl, rfl, rfl, fun i y hy => ⟨y, hy, VMap.clo (List.all_eq_true.1 h y (List.mem_of_getElem? hy))⟩⟩
theorem Le.map {sl sl' : List (Nat × V)} {hp hp' : List (Nat × Blk)} {nx nx' nt m : Nat} (f : Nat → Nat) (D : Nat → Prop) (hB : B.Old m) (hK : ∀ i, i < m → D i ∧ f i = i) (hD : ∀ i, D i → i < nx') (hi : ∀ i j, D i → D j → f i = f j → i = j)
  (h1 : mapSl f D sl sl') (h2 : ∀ i k', hget hp' i = some k' → D i → BMap f D (hget hp (f i)) k') : Le B ⟨sl, hp, nx, nt⟩ ⟨sl', hp', nx', nt⟩ := by
 intro S rho A a w hr
 have hm := hr.mem
 refine ⟨S, fun i => rho (f i), fun i => D i ∧ A (f i), fun t => mapSl_get h1 t S rho A w _ (hr.slots t), ?_, fun id h => hD id h.1, hr.nt, hr.defs⟩
 exact {
  cells := fun id k' hk' ha => by
   obtain ⟨k, e1, e2, e3, e4⟩ := h2 id k' hk' ha.1
   obtain ⟨cells, c1, c2⟩ := hm.cells _ k e1 ha.2
   refine ⟨cells, by rw [← e2]; exact c1, fun i y hy => ?_⟩
   obtain ⟨x, hx, hv⟩ := e4 i y hy
   obtain ⟨u, hu, hr⟩ := c2 i x hx
   exact ⟨u, hu, hv _ _ _ _ _ hr⟩
  fz := fun id k' hk' ha hf => by
   obtain ⟨k, e1, e2, e3, e4⟩ := h2 id k' hk' ha.1
   exact hm.fz _ k e1 ha.2 (e3.trans hf)
  own := fun id k' hk' ha => by
   obtain ⟨k, e1, e2, e3, e4⟩ := h2 id k' hk' ha.1
   exact hm.own _ k e1 ha.2
  inj := fun i j k k' hk hk' ha ha' he => by
   obtain ⟨q, e1, _⟩ := h2 i k hk ha.1
   obtain ⟨q', e1', _⟩ := h2 j k' hk' ha'.1
   exact hi i j ha.1 ha'.1 (hm.inj _ _ q q' e1 e1' ha.2 ha'.2 he)
  slt := hm.slt
  sub := hm.sub
  base := hm.base
  frame := hm.frame
  keep := fun id h => by
   obtain ⟨g1, g2⟩ := hK id (hB id h)
   obtain ⟨g3, g4⟩ := hm.keep id h
   exact ⟨⟨g1, by rw [g2]; exact g3⟩, by rw [g2]; exact g4⟩ }
theorem Le.sub {sl : List (Nat × V)} {hp hp' : List (Nat × Blk)} {nx nx' nt : Nat} (h : ∀ id k', hget hp' id = some k' → ∃ k, hget hp id = some k ∧ k.ty = k'.ty ∧ k.fz = k'.fz ∧ ∀ (i : Nat) (y : V), k'.cs[i]? = some y → k.cs[i]? = some y) (hn : nx ≤ nx') : Le B ⟨sl, hp, nx, nt⟩ ⟨sl, hp', nx', nt⟩ := by
 intro S rho A a w hr
 have hm := hr.mem
 refine ⟨S, rho, A, hr.slots, ?_, fun id hid => Nat.lt_of_lt_of_le (hr.alt id hid) hn, hr.nt, hr.defs⟩
 exact {
  cells := fun id k' hk' ha => by
   obtain ⟨k, e1, e2, e3, e4⟩ := h id k' hk'
   obtain ⟨cells, c1, c2⟩ := hm.cells id k e1 ha
   exact ⟨cells, by rw [← e2]; exact c1, fun i y hy => c2 i y (e4 i y hy)⟩
  fz := fun id k' hk' ha hf => by
   obtain ⟨k, e1, e2, e3, e4⟩ := h id k' hk'
   exact hm.fz id k e1 ha (e3.trans hf)
  own := fun id k' hk' ha => by
   obtain ⟨k, e1, _⟩ := h id k' hk'
   exact hm.own id k e1 ha
  inj := fun i j k k' hk hk' ha ha' he => by
   obtain ⟨q, e1, _⟩ := h i k hk
   obtain ⟨q', e1', _⟩ := h j k' hk'
   exact hm.inj i j q q' e1 e1' ha ha' he
  slt := hm.slt
  sub := hm.sub
  base := hm.base
  frame := hm.frame
  keep := hm.keep }
def ren1 (a b : Nat) (i : Nat) : Nat := if i = a then b else i
theorem hasId_lt {hp : List (Nat × Blk)} {n i : Nat} (h : ∀ id k, hget hp id = some k → id < n) (hi : n ≤ i) : hasId hp i = false := by
 cases hc : hasId hp i with
 | false => rfl
 | true =>
  have : ∀ {l : List (Nat × Blk)}, hasId l i = true → ∃ k, hget l i = some k := by
   intro l
   induction l with
   | nil => intro h; cases h
   | cons p r ih =>
    intro h
    simp only [hasId, Bool.or_eq_true, decide_eq_true_eq] at h
    by_cases e : i = p.1
    ·exact ⟨p.2, by simp [hget, e]⟩
    ·obtain ⟨k, hk⟩ := ih (h.resolve_left e)
     exact ⟨k, by simp [hget, e, hk]⟩
  obtain ⟨k, hk⟩ := this hc
  have := h i k hk
  omega
theorem restH_none (hp : List (Nat × Blk)) : restH hp [] = hp := by
 induction hp with
 | nil => rfl
 | cons p r ih => simp [restH, hasId, ih]
theorem SInlQ.new {ops : Array Oper} {l : List Oper} {cs : List Code} {Q : Exit → SS → Prop} {f : Nat} {ys : List V} {d : Option Nat} {hp : List (Nat × Blk)} {nx nt : Nat} {sl : List (Nat × V)} {C : V → List (Nat × Blk) → Nat → Prop} (hI : InlQ P f ys [] nx C) (hkl : ∀ id k, hget hp id = some k → id < nx)
  (hge : ∀ x hp' nx', C x hp' nx' → Only (fun i => nx ≤ i) x ∧ OnlyH (fun i => nx ≤ i) hp') (k : ∀ x hp' nx', C x hp' nx' → SO P B ops l cs Q ⟨putS sl d x, hp' ++ hp, nx', nt⟩) : SInlQ P B f ys d ops l cs Q ⟨sl, hp, nx, nt⟩ := by
 refine ⟨[], C, (fun id k h => by cases h), hI, fun x hp' nx' hC => ?_⟩
 obtain ⟨h1, h2⟩ := hge x hp' nx' hC
 have hm : ∀ i, nx ≤ i → hasId (restH hp []) i = false := fun i hi => by rw [restH_none]; exact hasId_lt hkl hi
 refine ⟨h1.mono hm, h2.mono hm, ?_⟩
 have := k x hp' nx' hC
 rwa [show restH (SS.mk sl hp nx nt).hp [] = hp from restH_none hp]
theorem hget_comm {a b : List (Nat × Blk)} (h : ∀ id k, hget b id = some k → hget a id = none) : ∀ id k, hget (b ++ a) id = some k → hget (a ++ b) id = some k := by
 intro id k hk
 rw [hget_app] at hk ⊢
 cases e : hget b id with
 | some q => rw [e] at hk; rw [h id q e]; exact hk
 | none =>
  rw [e] at hk
  simp only at hk
  rw [hk]
theorem SInlQ.frame {ops : Array Oper} {l : List Oper} {cs : List Code} {Q : Exit → SS → Prop} {f : Nat} {ys : List V} {d : Option Nat} {pre hpS : List (Nat × Blk)} {nx nt m : Nat} {sl : List (Nat × V)} {C : V → List (Nat × Blk) → Nat → Prop} (hI : InlQ P f ys hpS nx C) (hm : ∀ id k, hget pre id = some k → id < m) (hS : ∀ id k, hget hpS id = some k → m ≤ id)
  (hC : ∀ x hp' nx', C x hp' nx' → Only (fun i => m ≤ i) x ∧ OnlyH (fun i => m ≤ i) hp' ∧ ∀ id k, hget hp' id = some k → m ≤ id) (k : ∀ x hp' nx', C x hp' nx' → SO P B ops l cs Q ⟨putS sl d x, pre ++ hp', nx', nt⟩) : SInlQ P B f ys d ops l cs Q ⟨sl, pre ++ hpS, nx, nt⟩ := by
 have hsub : ∀ id k, hget hpS id = some k → hget (pre ++ hpS) id = some k := by
  intro id q hq
  rw [hget_app]
  cases e : hget pre id with
  | none => exact hq
  | some q' => have := hm id q' e; have := hS id q hq; omega
 have hrest : ∀ i, m ≤ i → hasId (restH (pre ++ hpS) hpS) i = false := by
  intro i hi
  rw [hasId_rest]
  cases e : hasId hpS i with
  | true => simp
  | false =>
   have h1 := hasId_lt hm hi
   have : hasId (pre ++ hpS) i = false := by
    have happ : ∀ (a b : List (Nat × Blk)) (i : Nat), hasId (a ++ b) i = (hasId a i || hasId b i) := by
     intro a b i
     induction a with
     | nil => simp [hasId]
     | cons p r ih => simp [hasId, ih, Bool.or_assoc]
    rw [happ, h1, e]; rfl
   rw [this]; rfl
 refine ⟨hpS, C, hsub, hI, fun x hp' nx' h => ?_⟩
 obtain ⟨h1, h2, h3⟩ := hC x hp' nx' h
 refine ⟨h1.mono hrest, h2.mono hrest, SO.weak (Le.less (fun id q hq => ?_) (znb _)) (k x hp' nx' h)⟩
 rw [hget_app] at hq ⊢
 cases e : hget pre id with
 | some q' =>
  rw [e] at hq
  cases hq
  have hlt := hm id _ e
  have e2 : hget hp' id = none := by
   cases e3 : hget hp' id with
   | none => rfl
   | some q' => have := h3 id q' e3; omega
  rw [e2]
  simp only
  rw [hget_rest, if_neg, hget_app, e]
  intro hh
  have : ∀ {l : List (Nat × Blk)}, hasId l id = true → ∃ k, hget l id = some k := by
   intro l
   induction l with
   | nil => intro h; cases h
   | cons p r ih =>
    intro h
    simp only [hasId, Bool.or_eq_true, decide_eq_true_eq] at h
    by_cases e : id = p.1
    ·exact ⟨p.2, by simp [hget, e]⟩
    ·obtain ⟨k, hk⟩ := ih (h.resolve_left e)
     exact ⟨k, by simp [hget, e, hk]⟩
  obtain ⟨q', hq'⟩ := this hh
  have := hS id q' hq'
  omega
 | none =>
  rw [e] at hq
  simp only at hq
  rw [hq]
theorem SInlQ.newR {ops : Array Oper} {l : List Oper} {cs : List Code} {Q : Exit → SS → Prop} {f : Nat} {ys : List V} {d : Option Nat} {hp : List (Nat × Blk)} {nx nt : Nat} {sl : List (Nat × V)} {C : V → List (Nat × Blk) → Nat → Prop} (hI : InlQ P f ys [] nx C) (hkl : ∀ id k, hget hp id = some k → id < nx)
  (hge : ∀ x hp' nx', C x hp' nx' → Only (fun i => nx ≤ i) x ∧ OnlyH (fun i => nx ≤ i) hp' ∧ ∀ id k, hget hp' id = some k → nx ≤ id) (k : ∀ x hp' nx', C x hp' nx' → SO P B ops l cs Q ⟨putS sl d x, hp ++ hp', nx', nt⟩) : SInlQ P B f ys d ops l cs Q ⟨sl, hp, nx, nt⟩ :=
 SInlQ.new hI hkl (fun x hp' nx' hC => ⟨(hge x hp' nx' hC).1, (hge x hp' nx' hC).2.1⟩) fun x hp' nx' hC => SO.weak (Le.less (hget_comm fun id q hq => by
  have h1 := hkl id q hq
  cases e : hget hp' id with
  | none => rfl
  | some q' => have := (hge x hp' nx' hC).2.2 id q' e; omega) (znb _)) (k x hp' nx' hC)
end
end Go.Proofs.Ytdkkgndibagihaa
namespace Go.Proofs.Ytdkkgndibagihaa
open Go.RowKit
section
variable {P : Program} {w : World} {B : Base} {S : Nat → Prop} {rho : Nat → Nat} {A : Nat → Prop} {s : SS} {a : Act}
theorem SOps.callVF {ops : Array Oper} {Q : Exit → SS → Prop} {o : Oper} {l : List Oper} {g : Operand} {f : Nat} {p q : List V} {args : Array Operand} {ts : Array TypeId} {ys : List V} {ids : List Nat} {x : V} (ho : o.op = .call ⟨.value g, args, ts⟩) (hg : guardV ops s.sl o.guard = some true)
  (hd : dstOk o.dst s.nt = true) (hfn : fnOf (evS s.sl g) = some (f, p, q)) (hgo : isGo P f = true) (hf : frzAll (frz 8 s.hp) (p ++ args.toList.map (evS s.sl) ++ q) = some (ys, ids)) (hs : Spec P f ys x) (k : SOps P B ops l Q (s.calledF o.dst x ids)) : SOps P B ops (o :: l) Q s := by
 intro S rho A a w hr
 have hw := guard_sound hr.slots hg
 refine wpList_step fun K hK => ?_
 rw [if_pos hw]
 obtain ⟨ps, qs, he, hps, hqs⟩ := fn_sound hfn (ev_sound hr.mem.tab hr.slots g)
 have hall := (hps.append (All.ev hr.mem.tab hr.slots args.toList)).append hqs
 obtain ⟨h1, h2⟩ := frzAll_sound (frz_sound hr.mem 8) hf hall
 have hmf := hr.mem.freeze ids h2
 have hrun : (execOp a.eval o).run P w = .ok (.enter f (ps ++ args.map a.eval ++ qs)) w := by
  simp only [execOp, ho, resolve, he, Deferred.ofValue, Sem.run_bind, Sem.run_pure, Result.andThen_ok, invoke]
  exact callFunc_go hgo _ w
 unfold Oper.wp
 rw [hrun]
 refine (hs (addS S rho A ids) w (ps ++ args.map a.eval ++ qs) hmf.slt hmf.tab ⟨by have := h1.1; simpa using this, fun i y u hy hu => (h1.2 i y u hy (by simpa using hu)).rho⟩).mono ?_
 rintro e w' ⟨v, rfl, g, hx⟩
 refine hK _ _ ?_
 have hA : ∀ id, A id → A id ∧ rho id = rho id ∧ ∀ n, szAt w (rho id) n → szAt w' (rho id) n := fun id h => ⟨h, rfl, fun _ => g.szAt⟩
 have hm' := hmf.came g
 exact k (fun b => addS S rho A ids b ∨ (w.heap.size ≤ b ∧ b < w'.heap.size)) rho A _ _ ⟨slots_put hr.slots (by rw [hr.nt]; exact hd) (fun b hb => ⟨.inl (.inl hb), g.block b (hr.mem.slt b hb)⟩) hA hx.rho.open, hm', hr.alt, by rw [put_size]; exact hr.nt, by rw [put_defers]; exact hr.defs⟩
def SCallV (P : Program) (B : Base) (f : Nat) (ys : List V) (ids : List Nat) (d : Option Nat) (ops : Array Oper) (l : List Oper) (cs : List Code) (Q : Exit → SS → Prop) (s : SS) : Prop :=
 ∃ x, Spec P f ys x ∧ SO P B ops l cs Q (s.calledF d x ids)
theorem SO.callV {ops : Array Oper} {l : List Oper} {cs : List Code} {Q : Exit → SS → Prop} {g : Operand} {f : Nat} {p q ys : List V} {ids : List Nat} {args : List Operand} {ts : Array TypeId} {d : Option Tmp} {ty : TypeId} {pos : String} {after : Array Edge} {gd : Option (Nat × Bool)}
  (hfn : fnOf (evS s.sl g) = some (f, p, q)) (hgo : isGo P f = true) (hf : frzAll (frz 8 s.hp) (p ++ args.map (evS s.sl) ++ q) = some (ys, ids)) (hg : guardV ops s.sl gd = some true ∧ dstOk d s.nt = true) (k : SCallV P B f ys ids d ops l cs Q s) : SO P B ops (⟨d, .call ⟨.value g, args.toArray, ts⟩, ty, pos, after, gd⟩ :: l) cs Q s := by
 obtain ⟨x, hs, k⟩ := k
 exact SOps.callVF rfl hg.1 hg.2 hfn hgo (by simpa using hf) hs k
theorem SCallV.of {ops : Array Oper} {l : List Oper} {cs : List Code} {Q : Exit → SS → Prop} {f : Nat} {ys : List V} {ids : List Nat} {d : Option Nat} {x : V} {s' : SS} (hs : Spec P f ys x) (hn : s.calledF d x ids = s') (k : SO P B ops l cs Q s') : SCallV P B f ys ids d ops l cs Q s := ⟨x, hs, hn ▸ k⟩
end
end Go.Proofs.Ytdkkgndibagihaa
namespace Go.Proofs.Ytdkkgndibagihaa
open Go.RowKit
def nv (r : List Nat) : List V := r.map fun (n : Nat) => .sc (.int .u64 n)
def nR (M : List (List Nat)) : List (List V) := M.map nv
def mv (w : Nat) (M : List (List Nat)) : V := .im (imR w (nR M)) M.length
theorem imR_clo (w : Nat) (rs : List (List V)) : (imR w rs).all clo = true := by
 rw [zlf]; intro x hx; obtain ⟨n, _, rfl⟩ := List.mem_map.1 hx; rfl
theorem Le.newSlice {B : Base} {sl : List (Nat × V)} {hp : List (Nat × Blk)} {nx nx' nt id len z t : Nat} {cap : Option Nat} {k : Blk} (hB : B.Old nx) (h : nx ≤ id) (hx : get sl t = .sl id 0 len z cap) (hk : hget hp id = some k) (hc : k.cs.all clo = true) : Le B ⟨sl, hp, nx', nt⟩ ⟨[(t, .sl nx 0 len z none)], [(nx, k)], nx + 1, nt⟩ := by
 refine Le.map (ren1 nx id) (fun i => i ≤ nx) hB (fun i hi => ⟨by omega, if_neg (by omega)⟩) (fun i hi => by omega) (fun i j hi hj e => ?_) ⟨?_, trivial⟩ (fun i k' hk' hi => ?_)
 ·unfold ren1 at e
  split at e <;> split at e <;> omega
 ·rw [hx]; exact VMap.cap (if_pos rfl) (znb _)
 ·simp only [hget] at hk'
  split at hk'
  ·rename_i e
   cases hk'
   subst e
   rw [show ren1 i id i = id from if_pos rfl, hk]
   exact BMap.clo hc
  ·cases hk'
theorem Le.nilSlice {B : Base} {sl : List (Nat × V)} {hp : List (Nat × Blk)} {nx nt t z ty : Nat} (hB : B.Old nx) (hx : get sl t = .sc (.slice none 0 0)) : Le B ⟨sl, hp, nx, nt⟩ ⟨[(t, .sl nx 0 0 z none)], [(nx, ⟨ty, [], false⟩)], nx + 1, nt⟩ := by
 refine Le.map (fun i => i) (fun i => i < nx) hB (fun i hi => ⟨hi, rfl⟩) (fun i hi => by omega) (fun i j hi hj e => e) ⟨?_, trivial⟩ (fun i k' hk' hi => ?_)
 ·rw [hx]; exact VMap.nil_sl _ _ _
 ·simp only [hget] at hk'
  split at hk'
  ·omega
  ·cases hk'
end Go.Proofs.Ytdkkgndibagihaa
namespace Go.Proofs.Ytdkkgndibagihaa
section widen
variable {p n w : Nat} {M : List (List Nat)}
variable [NeZero p]
end widen
section left
variable {p n w : Nat} {M L L' : List (List Nat)} [NeZero p]
end left
section left2
variable {p n w : Nat} {M : List (List Nat)} [NeZero p]
end left2
section solv
variable {p n w : Nat} {M : List (List Nat)} {b : List Nat} [NeZero p]
def fR (p : Nat) [NeZero p] (r : List Nat) (j : Nat) : Fin p := fz p (r.getD j 0)
end solv
section turn
variable {p n w : Nat} {M : List (List Nat)}
variable [NeZero p]
end turn
end Go.Proofs.Ytdkkgndibagihaa
namespace Go.Proofs.Ytdkkgndibagihaa
open Go.RowKit
theorem klc {n i : Nat} {k : Blk} {r : List (Nat × Blk)} (h : i < n) (h2 : ∀ id q, hget r id = some q → id < n) : ∀ id q, hget ((i, k) :: r) id = some q → id < n := by
 intro id q hq
 simp only [hget] at hq
 split at hq
 ·rename_i e; omega
 ·exact h2 id q hq
theorem kln {n : Nat} : ∀ id q, hget [] id = some q → id < n := fun _ _ h => by cases h
end Go.Proofs.Ytdkkgndibagihaa
namespace Go.Proofs.Ytdkkgndibagihaa
open Go.RowKit
structure RowsOk (o : Nat) (ids : List Nat) (n lo hi : Nat) : Prop where
 len : ids.length = n
 nod : ids.Nodup
 lt : ∀ i ∈ ids, lo ≤ i ∧ i < hi
 o1 : lo ≤ o ∧ o < hi
 o2 : o ∉ ids
theorem slR_app (z m : Nat) (a b : List Nat) : slR z m a ++ slR z m b = slR z m (a ++ b) := by simp [slR]
theorem setAll_all (cs xs : List V) : ∀ off, off + xs.length ≤ cs.length → setAll cs off xs = cs.take off ++ xs ++ cs.drop (off + xs.length) := by
 induction xs generalizing cs with
 | nil => intro off h; simp [setAll]
 | cons x r ih =>
  intro off h
  simp only [List.length_cons] at h
  rw [setAll, ih (cs.set off x) (off + 1) (by rw [List.length_set]; omega)]
  have e1 : (cs.set off x).take (off + 1) = cs.take off ++ [x] := by
   rw [List.take_set, List.take_add_one, List.set_append_right _ _ (by simp; omega)]
   have : off < cs.length := by omega
   simp [zlb this, Nat.min_eq_left (by omega : off ≤ cs.length)]
  have e2 : (cs.set off x).drop (off + 1 + r.length) = cs.drop (off + (r.length + 1)) := by
   rw [List.drop_set, if_pos (by omega)]
   congr 1; omega
  rw [e1, e2]; simp
end Go.Proofs.Ytdkkgndibagihaa
namespace Go.Proofs.Ytdkkgndibagihaa
open Go.RowKit
theorem nanI_s (n : Int) : Spec Try.prog 83 [.sc (.int .i64 n)] (.sc (.bool false)) := by
 have q1 : ((n : Int) != n) = false := by simp
 refine qF Try.func83 Try.ntmps83 fun B hB => ?_
 refine qYf @q1 ?_
 exact qE Try.results83
theorem nanU_s (n : Int) : Spec Try.prog 108 [.sc (.int .u32 n)] (.sc (.bool false)) := by
 have q1 : ((n : Int) != n) = false := by simp
 refine qF Try.func108 Try.ntmps108 fun B hB => ?_
 refine qYf @q1 ?_
 exact qE Try.results108
theorem cmpI_s (x y : Int) : Spec Try.prog 64 [.sc (.int .i64 x), .sc (.int .i64 y)] (.sc (.int .i64 (x - y).sign)) := by
 have c1 := nanI_s x
 have c2 := nanI_s y
 rcases Int.lt_trichotomy x y with h | h | h
 ·have q1 := decide_eq_true h
  refine qF Try.func64 Try.ntmps64 fun B hB => ?_
  refine qWf @q1 ?_
  refine retQ_ret Try.results64 qT qT ?_
  rw [Int.sign_eq_neg_one_of_neg (by omega)]
 ·subst h
  have q1 : decide (x < x) = false := by simp
  refine qF Try.func64 Try.ntmps64 fun B hB => ?_
  refine qWf @q1 ?_
  refine retQ_ret Try.results64 qT qT ?_
  rw [Int.sub_self]; rfl
 ·have q1 := decide_eq_false (p := x < y) (by omega)
  have q2 := decide_eq_true h
  refine qF Try.func64 Try.ntmps64 fun B hB => ?_
  refine qWf (Q2 @q1 @q2) ?_
  refine retQ_ret Try.results64 qT qT ?_
  rw [Int.sign_eq_one_of_pos (by omega)]
theorem cmpU_s (x y : Int) : Spec Try.prog 97 [.sc (.int .u32 x), .sc (.int .u32 y)] (.sc (.int .i64 (x - y).sign)) := by
 have c1 := nanU_s x
 have c2 := nanU_s y
 rcases Int.lt_trichotomy x y with h | h | h
 ·have q1 := decide_eq_true h
  refine qF Try.func97 Try.ntmps97 fun B hB => ?_
  refine qWf @q1 ?_
  refine retQ_ret Try.results97 qT qT ?_
  rw [Int.sign_eq_neg_one_of_neg (by omega)]
 ·subst h
  have q1 : decide (x < x) = false := by simp
  refine qF Try.func97 Try.ntmps97 fun B hB => ?_
  refine qWf @q1 ?_
  refine retQ_ret Try.results97 qT qT ?_
  rw [Int.sub_self]; rfl
 ·have q1 := decide_eq_false (p := x < y) (by omega)
  have q2 := decide_eq_true h
  refine qF Try.func97 Try.ntmps97 fun B hB => ?_
  refine qWf (Q2 @q1 @q2) ?_
  refine retQ_ret Try.results97 qT qT ?_
  rw [Int.sign_eq_one_of_pos (by omega)]
theorem compare_n (m n : Nat) (hm : (limbsOf m).length ≤ 1000000000000) (hn : (limbsOf n).length ≤ 1000000000000) : Spec Try.prog 87 [sv (limbsOf m), sv (limbsOf n)] (.sc (.int .i64 ((m : Int) - n).sign)) := by
 have bm := limbsOf_limbs m
 have bn := limbsOf_limbs n
 have cm := limbsOf_canon m
 have cn := limbsOf_canon n
 have vm := limbsOf_val m
 have vn := limbsOf_val n
 generalize limbsOf m = a at *
 generalize limbsOf n = b at *
 subst vm
 subst vn
 have c1 := cmpI_s (a.length : Int) (b.length : Int)
 have hlt : ∀ {a b : List Nat}, limbs a → canon b → a.length < b.length → val a < val b := by
  intro a b ha cb h
  have h1 := val_lt ha
  have h2 := canon_ge cb (by intro e; subst e; simp at h)
  have h3 : 4294967296 ^ a.length ≤ 4294967296 ^ (b.length - 1) := Nat.pow_le_pow_right (by omega) (by omega)
  omega
 unfold sv
 by_cases hab : a.length = b.length
 ·have e1 : ((a.length : Int) - (b.length : Int)).sign = 0 := by rw [hab, Int.sub_self]; rfl
  rw [e1] at c1
  have q0 : ((0 : Int) != 0) = false := by decide
  refine qF Try.func87 Try.ntmps87 fun B hB => ?_
  refine qWf (Q2 @q0 @lv_len) ?_
  refine SC.loop (fun k : Nat => ⟨[(0, .im (lv a) a.length), (1, .im (lv b) b.length), (6, .sc (.int .i64 ((k : Int) - 1)))], [], 0, 35⟩)
   (fun k => k ≤ a.length ∧ (val a < val b ↔ val (a.take k) < val (b.take k)) ∧ (val b < val a ↔ val (b.take k) < val (a.take k))) (fun k => k) a.length ?_ ?_ ?_
  ·exact qL
  ·exact ⟨znb _, by rw [List.take_length, hab, List.take_length], by rw [List.take_length, hab, List.take_length]⟩
  ·rintro k ⟨hk, hI, hJ⟩ K hK
   by_cases h0 : k = 0
   ·subst h0
    have q1 : decide ((0 : Int) ≤ ((0 : Nat) : Int) - 1) = false := by simp
    refine qYf (Q3 @q0 @lv_len @q1) ?_
    refine retQ_ret Try.results87 qT qT ?_
    simp [val] at hI hJ
    rw [show ((val a : Int) - (val b : Int)) = 0 by omega]; rfl
   ·obtain ⟨j, rfl⟩ : ∃ j, k = j + 1 := ⟨k - 1, by omega⟩
    have q1 : decide ((0 : Int) ≤ ((j + 1 : Nat) : Int) - 1) = true := by simp
    have hi : (((j + 1 : Nat) : Int) - 1).toNat = j := by omega
    have ga := lv_get (l := a) (i := j) (by omega)
    have gb := lv_get (l := b) (i := j) (by omega)
    have s1 := val_lt_step (a := a) (b := b) (k := j) bm bn (by omega) (by omega)
    have s2 := val_lt_step (a := b) (b := a) (k := j) bn bm (by omega) (by omega)
    rw [← hI] at s1
    rw [← hJ] at s2
    generalize a.getD j 0 = x at *
    generalize b.getD j 0 = y at *
    have c2 := cmpU_s (x : Int) (y : Int)
    rcases Nat.lt_trichotomy x y with h | h | h
    ·have e2 : ((x : Int) - (y : Int)).sign = -1 := Int.sign_eq_neg_one_of_neg (by omega)
     rw [e2] at c2
     have q2 : ((-1 : Int) != 0) = true := by decide
     refine qWf (Q8 @q0 @q1 @q2 @hi @ga @gb @lv_len @gD) ?_
     refine retQ_ret Try.results87 qT qT ?_
     have := (s1.2 (by omega)).2 h
     rw [Int.sign_eq_neg_one_of_neg (by omega)]
    ·subst h
     have e2 : ((x : Int) - (x : Int)).sign = 0 := by rw [Int.sub_self]; rfl
     rw [e2] at c2
     refine qWf (Q7 @q0 @q1 @hi @ga @gb @lv_len @gD) ?_
     refine hK _ j ?_ ⟨by omega, s1.1 rfl, s2.1 rfl⟩ (by omega)
     exact qL
    ·have e2 : ((x : Int) - (y : Int)).sign = 1 := Int.sign_eq_one_of_pos (by omega)
     rw [e2] at c2
     have q2 : ((1 : Int) != 0) = true := by decide
     refine qWf (Q8 @q0 @q1 @q2 @hi @ga @gb @lv_len @gD) ?_
     refine retQ_ret Try.results87 qT qT ?_
     have := (s2.2 (by omega)).2 h
     rw [Int.sign_eq_one_of_pos (by omega)]
 ·rcases Nat.lt_or_gt_of_ne hab with h | h
  ·have e1 : ((a.length : Int) - (b.length : Int)).sign = -1 := Int.sign_eq_neg_one_of_neg (by omega)
   rw [e1] at c1
   have q0 : ((-1 : Int) != 0) = true := by decide
   have hv := hlt bm cn h
   refine qF Try.func87 Try.ntmps87 fun B hB => ?_
   refine qWf (Q2 @q0 @lv_len) ?_
   refine retQ_ret Try.results87 qT qT ?_
   rw [Int.sign_eq_neg_one_of_neg (by omega)]
  ·have e1 : ((a.length : Int) - (b.length : Int)).sign = 1 := Int.sign_eq_one_of_pos (by omega)
   rw [e1] at c1
   have q0 : ((1 : Int) != 0) = true := by decide
   have hv := hlt bn cm h
   refine qF Try.func87 Try.ntmps87 fun B hB => ?_
   refine qWf (Q2 @q0 @lv_len) ?_
   refine retQ_ret Try.results87 qT qT ?_
   rw [Int.sign_eq_one_of_pos (by omega)]
theorem sign_cases (z : Int) : (z < 0 ∧ z.sign = -1) ∨ (z = 0 ∧ z.sign = 0) ∨ (0 < z ∧ z.sign = 1) := by
 rcases Int.lt_trichotomy z 0 with h | h | h
 ·exact .inl ⟨h, Int.sign_eq_neg_one_of_neg h⟩
 ·subst h; exact .inr (.inl ⟨rfl, rfl⟩)
 ·exact .inr (.inr ⟨h, Int.sign_eq_one_of_pos h⟩)
end Go.Proofs.Ytdkkgndibagihaa
namespace Go.Proofs.Ytdkkgndibagihaa
open Go.RowKit
theorem lv_rep (n : Nat) : List.replicate n (.sc (.int .u32 0)) = lv (List.replicate n 0) := by simp [lv]
theorem lv_set {l : List Nat} {i x : Nat} {e : Int} (h : e = (x : Int)) : (lv l).set i (.sc (.int .u32 e)) = lv (l.set i x) := by subst h; simp [lv, List.map_set]
theorem sgn_mul (x y : Int) : sgn (decide (x < 0) != decide (y < 0)) (x.natAbs * y.natAbs) = x * y := by
 rcases Int.lt_or_le x 0 with hx | hx <;> rcases Int.lt_or_le y 0 with hy | hy
 ·rw [decide_eq_true hx, decide_eq_true hy]
  obtain ⟨m, rfl⟩ : ∃ m : Nat, x = -m := ⟨x.natAbs, by omega⟩
  obtain ⟨n, rfl⟩ : ∃ n : Nat, y = -n := ⟨y.natAbs, by omega⟩
  simp [sgn, Int.neg_mul_neg]
 ·rw [decide_eq_true hx, decide_eq_false (by omega)]
  obtain ⟨m, rfl⟩ : ∃ m : Nat, x = -m := ⟨x.natAbs, by omega⟩
  obtain ⟨n, rfl⟩ : ∃ n : Nat, y = n := ⟨y.natAbs, by omega⟩
  simp [sgn, Int.neg_mul]
 ·rw [decide_eq_false (by omega), decide_eq_true hy]
  obtain ⟨m, rfl⟩ : ∃ m : Nat, x = m := ⟨x.natAbs, by omega⟩
  obtain ⟨n, rfl⟩ : ∃ n : Nat, y = -n := ⟨y.natAbs, by omega⟩
  simp [sgn, Int.mul_neg]
 ·rw [decide_eq_false (by omega), decide_eq_false (by omega)]
  obtain ⟨m, rfl⟩ : ∃ m : Nat, x = m := ⟨x.natAbs, by omega⟩
  obtain ⟨n, rfl⟩ : ∃ n : Nat, y = n := ⟨y.natAbs, by omega⟩
  simp [sgn]
theorem mul_i (x y : Int) (K : Nat) (hx : Fits K x) (hy : Fits K y) (hK : K ≤ 400000000000) : Spec Try.prog 78 [iv x, iv y] (iv (x * y)) := by
 have lx := fits_len hx
 have ly := fits_len hy
 obtain ⟨a, ea⟩ : ∃ a, a = limbsOf x.natAbs := ⟨_, rfl⟩
 obtain ⟨b, eb⟩ : ∃ b, b = limbsOf y.natAbs := ⟨_, rfl⟩
 have vx : val a = x.natAbs := by rw [ea]; exact limbsOf_val _
 have vy : val b = y.natAbs := by rw [eb]; exact limbsOf_val _
 have bx : limbs a := by rw [ea]; exact limbsOf_limbs _
 have bY : limbs b := by rw [eb]; exact limbsOf_limbs _
 rw [← ea] at lx
 rw [← eb] at ly
 unfold iv sv
 rw [← ea, ← eb]
 refine qF Try.func78 Try.ntmps78 fun B hB => ?_
 obtain ⟨ax, hax⟩ : ∃ ax : Blk, ax = ⟨84, [.sc (.bool (decide (x < 0))), .im (lv a) a.length], false⟩ := ⟨_, rfl⟩
 have hN : ((a.length : Int) + (b.length : Int) + 1).toNat = a.length + b.length + 1 := by omega
 refine qYf (Q2 @lv_len @hN) ?_
 refine SC.loop (fun x' : Nat × List Nat => ⟨[(2, .pt 0 0), (3, .pt 1 0), (4, .pt 2 0), (5, .sl 3 0 (a.length + b.length + 1) 1 none), (6, .sc (.int .i64 x'.1))], [(3, ⟨115, lv x'.2, false⟩), (2, ⟨84, [.sc (.bool false), .sc (.slice none 0 0)], false⟩), (1, ⟨84, [.sc (.bool (decide (y < 0))), .im (lv b) b.length], false⟩), (0, ⟨84, [.sc (.bool (decide (x < 0))), .im (lv a) a.length], false⟩)], 4, 81⟩)
  (fun x' => x'.1 ≤ a.length ∧ mulInv a b x'.1 0 0 x'.2) (fun x' => a.length - x'.1) (0, List.replicate (a.length + b.length + 1) 0) ?_ ?_ ?_
 ·(refine Le.of [] hB (by first | exact ⟨znc _, fun _ _ => znc _⟩ | (constructor <;> (try simp) <;> (try omega))) ?_ ?_ <;> (repeat' (first | exact leSl_nil | exact leHp_nil | refine leSl_cons qT ?_ ?_ | refine leHp_cons qT ?_ ?_ | exact VLe.junk _ | exact VLe.refl rfl | exact VLe.nil_sl _ _ _ | exact VLe.int (by first | rfl | omega | (dsimp only; omega)) | exact VLe.bool rfl | exact VLe.sl rfl (by first | rfl | omega | (dsimp only; omega) | (simp; done)) | exact VLe.cap rfl (by first | rfl | omega | (dsimp only; omega) | (simp; done)) | exact VLe.im rfl rfl | exact HLe.new rfl | exact HLe.same rfl (LLe.refl rfl) | refine HLe.same rfl ?_ | exact LLe.nil _ | exact LLe.refl rfl | exact LLe.cl rfl qS | exact LLe.clR rfl qS | refine LLe.cons ?_ ?_)))
  exact LLe.lv (lv_rep _)
 ·exact ⟨znc _, by simp, limbs_replicate _, by simp [val, val_replicate]⟩
 ·rintro ⟨i, z⟩ ⟨hi, hI⟩ K hK
  simp only at hi hI ⊢
  have hz : z.length = a.length + b.length + 1 := hI.1
  by_cases hA : i < a.length
  ·have q1 := decide_eq_true (p := (i : Int) < a.length) (by omega)
   refine qYf (Q2 @q1 @lv_len) ?_
   refine SC.loop (fun x' : Nat × Nat × List Nat => ⟨[(2, .pt 0 0), (3, .pt 1 0), (4, .pt 2 0), (5, .sl 3 0 (a.length + b.length + 1) 1 none), (6, .sc (.int .i64 i)), (7, .sc (.int .u64 x'.2.1)), (8, .sc (.int .i64 x'.1))], [(3, ⟨115, lv x'.2.2, false⟩), (2, ⟨84, [.sc (.bool false), .sc (.slice none 0 0)], false⟩), (1, ⟨84, [.sc (.bool (decide (y < 0))), .im (lv b) b.length], false⟩), (0, ⟨84, [.sc (.bool (decide (x < 0))), .im (lv a) a.length], false⟩)], 4, 81⟩)
    (fun x' => x'.1 ≤ b.length + 1 ∧ x'.2.1 < 4294967296 ∧ mulInv a b i x'.1 x'.2.1 x'.2.2) (fun x' => b.length + 1 - x'.1) (0, 0, z) ?_ ?_ ?_
   ·(refine Le.of [] hB (by first | exact ⟨znc _, fun _ _ => znc _⟩ | (constructor <;> (try simp) <;> (try omega))) ?_ ?_ <;> (repeat' (first | exact leSl_nil | exact leHp_nil | refine leSl_cons qT ?_ ?_ | refine leHp_cons qT ?_ ?_ | exact VLe.junk _ | exact VLe.refl rfl | exact VLe.nil_sl _ _ _ | exact VLe.int (by first | rfl | omega | (dsimp only; omega)) | exact VLe.bool rfl | exact VLe.sl rfl (by first | rfl | omega | (dsimp only; omega) | (simp; done)) | exact VLe.cap rfl (by first | rfl | omega | (dsimp only; omega) | (simp; done)) | exact VLe.im rfl rfl | exact HLe.new rfl | exact HLe.same rfl (LLe.refl rfl) | refine HLe.same rfl ?_ | exact LLe.nil _ | exact LLe.refl rfl | exact LLe.cl rfl qS | exact LLe.clR rfl qS | refine LLe.cons ?_ ?_)))
    exact LLe.lv rfl
   ·exact ⟨znc _, by simp only; omega, hI⟩
   ·rintro ⟨k, c, z⟩ ⟨hk, hc, hI⟩ K' hK'
    simp only at hk hc hI ⊢
    have hz : z.length = a.length + b.length + 1 := hI.1
    have la := limbs_getD bx i
    have lb := limbs_getD bY k
    have lz := limbs_getD hI.2.1 (i + k)
    by_cases hend : k < b.length ∨ 0 < c
    ·have hk1 : k ≤ b.length := by
      rcases Nat.lt_or_ge k (b.length + 1) with h | h
      ·omega
      ·have h1 : k = b.length + 1 := by omega
       subst h1
       have := hI.noCarry bx bY hA
       omega
     have hidx : ((i : Int) + (k : Int)).toNat = i + k := by omega
     have hst := hI.step (by omega) _ _ _ rfl rfl rfl
     have hzi : i + k < z.length := by omega
     have gz := lv_get hzi
     have ga := lv_get hA
     by_cases hB' : k < b.length
     ·have q2 := decide_eq_true (p := (k : Int) < b.length) (by omega)
      have gb := lv_get hB'
      generalize a.getD i 0 = xa at *
      generalize b.getD k 0 = xb at *
      generalize z.getD (i + k) 0 = xz at *
      have hp : xa * xb ≤ 4294967295 * 4294967295 := Nat.mul_le_mul (by omega) (by omega)
      have hm : (xa : Int) * (xb : Int) = ((xa * xb : Nat) : Int) := by simp
      generalize xa * xb = pr at *
      refine qYf (Q9 @q1 @q2 @hidx @gz @ga @gb @hm @lv_len @gD) ?_
      refine hK' _ (k + 1, (c + xz + pr) / 4294967296, z.set (i + k) ((c + xz + pr) % 4294967296)) ?_ ⟨by simp only; omega, by simp only; omega, hst⟩ (by simp only; omega)
      (refine Le.of [] hB (by first | exact ⟨znc _, fun _ _ => znc _⟩ | (constructor <;> (try simp) <;> (try omega))) ?_ ?_ <;> (repeat' (first | exact leSl_nil | exact leHp_nil | refine leSl_cons qT ?_ ?_ | refine leHp_cons qT ?_ ?_ | exact VLe.junk _ | exact VLe.refl rfl | exact VLe.nil_sl _ _ _ | exact VLe.int (by first | rfl | omega | (dsimp only; omega)) | exact VLe.bool rfl | exact VLe.sl rfl (by first | rfl | omega | (dsimp only; omega) | (simp; done)) | exact VLe.cap rfl (by first | rfl | omega | (dsimp only; omega) | (simp; done)) | exact VLe.im rfl rfl | exact HLe.new rfl | exact HLe.same rfl (LLe.refl rfl) | refine HLe.same rfl ?_ | exact LLe.nil _ | exact LLe.refl rfl | exact LLe.cl rfl qS | exact LLe.clR rfl qS | refine LLe.cons ?_ ?_)))
      exact LLe.lv (lv_set (by omega))
     ·have q2 := decide_eq_false (p := (k : Int) < b.length) (by omega)
      have q3 := decide_eq_true (p := (0 : Int) < c) (by omega)
      have hz0 := getD_ge (l := b) (k := k) hB'
      rw [hz0, Nat.mul_zero, Nat.add_zero] at hst
      generalize z.getD (i + k) 0 = xz at *
      refine qYf (Q7 @q1 @q2 @q3 @hidx @gz @lv_len @gD) ?_
      refine hK' _ (k + 1, (c + xz) / 4294967296, z.set (i + k) ((c + xz) % 4294967296)) ?_ ⟨by simp only; omega, by simp only; omega, hst⟩ (by simp only; omega)
      (refine Le.of [] hB (by first | exact ⟨znc _, fun _ _ => znc _⟩ | (constructor <;> (try simp) <;> (try omega))) ?_ ?_ <;> (repeat' (first | exact leSl_nil | exact leHp_nil | refine leSl_cons qT ?_ ?_ | refine leHp_cons qT ?_ ?_ | exact VLe.junk _ | exact VLe.refl rfl | exact VLe.nil_sl _ _ _ | exact VLe.int (by first | rfl | omega | (dsimp only; omega)) | exact VLe.bool rfl | exact VLe.sl rfl (by first | rfl | omega | (dsimp only; omega) | (simp; done)) | exact VLe.cap rfl (by first | rfl | omega | (dsimp only; omega) | (simp; done)) | exact VLe.im rfl rfl | exact HLe.new rfl | exact HLe.same rfl (LLe.refl rfl) | refine HLe.same rfl ?_ | exact LLe.nil _ | exact LLe.refl rfl | exact LLe.cl rfl qS | exact LLe.clR rfl qS | refine LLe.cons ?_ ?_)))
      exact LLe.lv (lv_set (by omega))
    ·have hc0 : c = 0 := by omega
     subst hc0
     have q2 := decide_eq_false (p := (k : Int) < b.length) (by omega)
     have q3 : decide ((0 : Int) < ((0 : Nat) : Int)) = false := by simp
     refine qYf (Q4 @q1 @q2 @q3 @lv_len) ?_
     refine hK _ (i + 1, z) ?_ ⟨by simp only; omega, hI.row (by omega)⟩ (by simp only; omega)
     (refine Le.of [] hB (by first | exact ⟨znc _, fun _ _ => znc _⟩ | (constructor <;> (try simp) <;> (try omega))) ?_ ?_ <;> (repeat' (first | exact leSl_nil | exact leHp_nil | refine leSl_cons qT ?_ ?_ | refine leHp_cons qT ?_ ?_ | exact VLe.junk _ | exact VLe.refl rfl | exact VLe.nil_sl _ _ _ | exact VLe.int (by first | rfl | omega | (dsimp only; omega)) | exact VLe.bool rfl | exact VLe.sl rfl (by first | rfl | omega | (dsimp only; omega) | (simp; done)) | exact VLe.cap rfl (by first | rfl | omega | (dsimp only; omega) | (simp; done)) | exact VLe.im rfl rfl | exact HLe.new rfl | exact HLe.same rfl (LLe.refl rfl) | refine HLe.same rfl ?_ | exact LLe.nil _ | exact LLe.refl rfl | exact LLe.cl rfl qS | exact LLe.clR rfl qS | refine LLe.cons ?_ ?_)))
     exact LLe.lv rfl
  ·have q1 := decide_eq_false (p := (i : Int) < a.length) (by omega)
   have hd := hI.done (by omega)
   have c2 := made_i z (decide (x < 0) != decide (y < 0)) hI.2.1 (by omega)
   have e2 : sgn (decide (x < 0) != decide (y < 0)) (val z) = x * y := by
    rw [hd, vx, vy]; exact sgn_mul x y
   rw [e2] at c2
   unfold iv sv at c2
   rw [hz] at c2
   have ht : z.take (a.length + b.length + 1) = z := by rw [← hz]; exact List.take_length
   refine qWf (Q5 @q1 @lv_len @lv_take @lv_clo @ht) ?_
   exact qE Try.results78
end Go.Proofs.Ytdkkgndibagihaa
