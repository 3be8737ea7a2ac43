/- Texts joined: Je Jg Jh Ji Qb T1 T2 Nt Lm La Lb Lc. -/
import Derived.WalkSmall
import Derived.KernelRfl
import Derived.Test.YtdcbmdmlhjemmaaVf
import Derived.Test.YtdcbmdmlhjemmaaVg
set_option linter.all false
open Nat renaming reduceEqDiff → zn1, reduceLT → zn2, reduceLeDiff → zn3, reduceAdd → zn4, reduceMul → zn5, reduceSub → zn6, reduceBEq → zn7, mul_one → zn8, zero_add → zn9, one_mul → zna, le_refl → znb, zero_le → znc, add_sub_cancel_left → znd, sub_eq_zero_of_le → zne, add_assoc → znf
open Int renaming reduceToNat → zi1, reducePow → zi2
open List renaming length_append → zl1, drop_zero → zl2, take_succ_cons → zl3, take_zero → zl4, getElem?_drop → zl5, append_assoc → zl6, nil_append → zl7, cons_append → zl8, drop_succ_cons → zl9, take_of_length_le → zla, getElem?_eq_getElem → zlb, getElem?_eq_some_iff → zlc, map_cons → zld, map_nil → zle, all_eq_true → zlf
namespace Go.Proofs.Ytdcbmdmlhjemmaa
open Go.RowKit
theorem trim_i (l : List Nat) (hl : limbs l) (hm : l.length ≤ 1000000000000) : Spec Try.prog 66 [sv l] (sv (limbsOf (val l))) := by
 unfold sv
 refine Spec.run Try.func66 rfl Try.ntmps66 (by simp) sF fun B hB => ?_
 (repeat (first | (with_reducible refine oA ?_) | ((with_reducible apply SC.region); (focus (simp (disch := omega) only [go_sem, ↓reduceIte, zn1, zn2, zn3, zn4, zn5, zn6, reduceCtorEq, zn7, zi1, zi2, if_pos, if_neg]; rfl))) | (with_reducible refine SC.draw Tab.mixed rfl ?_; (repeat (refine DO.run sF ?_)); refine DO.nil (by kernel_rfl) ?_)))
 refine SC.loop (fun k : Nat => ⟨[(0, .im (lv l) l.length), (3, .sc (.int .i64 k))], [], 0, 21⟩)
  (fun k => k ≤ l.length ∧ ∀ i, k ≤ i → l.getD i 0 = 0) (fun k => k) l.length ?_ ?_ ?_
 ·(refine Le.of [] hB (by first | exact ⟨znc _, fun _ _ => znc _⟩ | (constructor <;> (try simp) <;> (try omega))) ?_ ?_ <;> (repeat' (first | exact leSl_nil | exact leHp_nil | refine leSl_cons sF ?_ ?_ | refine leHp_cons sF ?_ ?_ | exact VLe.junk _ | exact VLe.refl rfl | exact VLe.nil_sl _ _ _ | exact VLe.int (by first | rfl | omega | (dsimp only; omega)) | exact VLe.bool rfl | exact VLe.sl rfl (by first | rfl | omega | (dsimp only; omega) | (simp; done)) | exact VLe.cap rfl (by first | rfl | omega | (dsimp only; omega) | (simp; done)) | exact VLe.im rfl rfl | exact HLe.new rfl | exact HLe.same rfl (LLe.refl rfl) | refine HLe.same rfl ?_ | exact LLe.nil _ | exact LLe.refl rfl | refine LLe.cons ?_ ?_)))
 ·exact ⟨znb _, fun i hi => by simp [hi]⟩
 ·rintro k ⟨hk, hz⟩ K hK
  have hlen : (l.take k).length = k := by simp; omega
  by_cases h0 : k = 0
  ·subst h0
   (repeat (first | (with_reducible refine oA ?_) | ((with_reducible apply SC.region); (focus (simp (disch := omega) only [go_sem, ↓reduceIte, zn1, zn2, zn3, zn4, zn5, zn6, reduceCtorEq, zn7, zi1, zi2, if_pos, if_neg]; rfl))) | (with_reducible refine SC.draw Tab.mixed rfl ?_; (repeat (refine DO.run sF ?_)); refine DO.nil (by kernel_rfl) ?_)))
   refine SC.cond sF ?_ ?_
   ·intro h; cases h
   intro _
   (repeat (first | (with_reducible refine oA ?_) | ((with_reducible apply SC.region); (focus (simp (disch := omega) only [go_sem, ↓reduceIte, zn1, zn2, zn3, zn4, zn5, zn6, reduceCtorEq, zn7, zi1, zi2, if_pos, if_neg]; rfl))) | (with_reducible refine SC.draw Tab.mixed rfl ?_; (repeat (refine DO.run sF ?_)); refine DO.nil (by kernel_rfl) ?_)))
   have e1 := (made_tree (neg := false) hl hz hk (fun h => absurd rfl h)).1
   have e2 : (sgn false (val l)).natAbs = val l := by simp [sgn]
   rw [e2] at e1
   refine retQ_ret Try.results66 sF sF ?_
   rw [e1]; simp [lv]
  ·have hi : ((k : Int) - 1).toNat = k - 1 := by omega
   have hg := lv_get (l := l) (i := k - 1) (by omega)
   have hd : decide ((k : Int) > 0) = true := by simp; omega
   by_cases hx : l.getD (k - 1) 0 = 0
   ·have hb : (((l.getD (k - 1) 0 : Nat) : Int) == 0) = true := by simp only [beq_iff_eq]; omega
    (repeat (first | (with_reducible refine oA ?_) | ((with_reducible apply SC.region); (focus (simp (disch := omega) only [go_sem, ↓reduceIte, zn1, zn2, zn3, zn4, zn5, zn6, reduceCtorEq, zn7, zi1, zi2, if_pos, if_neg]; rfl))) | (with_reducible refine SC.draw Tab.mixed rfl ?_; (repeat (refine DO.run sF ?_)); refine DO.nil (by kernel_rfl) ?_)))
    refine SC.cond (by simp (disch := omega) only [go_sem, ↓reduceIte, zn1, zn2, zn3, zn4, zn5, zn6, reduceCtorEq, zn7, zi1, zi2, if_pos, if_neg, hd]; rfl) ?_ ?_
    rotate_left
    ·intro h; cases h
    intro _
    (repeat (first | (with_reducible refine oA ?_) | ((with_reducible apply SC.region); (focus (simp (disch := omega) only [go_sem, ↓reduceIte, zn1, zn2, zn3, zn4, zn5, zn6, reduceCtorEq, zn7, zi1, zi2, if_pos, if_neg, hi, hg, hd, hb, lv_len, zl5]; rfl))) | (with_reducible refine SC.draw Tab.mixed rfl ?_; (repeat (refine DO.run (by simp (disch := omega) only [go_sem, ↓reduceIte, zn1, zn2, zn3, zn4, zn5, zn6, reduceCtorEq, zn7, zi1, zi2, if_pos, if_neg, hi, hg, hd, hb, lv_len, zl5]; rfl) ?_)); refine DO.nil (by kernel_rfl) ?_)))
    refine SC.cond sF ?_ ?_
    rotate_left
    ·intro h; cases h
    intro _
    (repeat (first | (with_reducible refine oA ?_) | ((with_reducible apply SC.region); (focus (simp (disch := omega) only [go_sem, ↓reduceIte, zn1, zn2, zn3, zn4, zn5, zn6, reduceCtorEq, zn7, zi1, zi2, if_pos, if_neg]; rfl))) | (with_reducible refine SC.draw Tab.mixed rfl ?_; (repeat (refine DO.run sF ?_)); refine DO.nil (by kernel_rfl) ?_)))
    refine hK _ (k - 1) ?_ ⟨by omega, fun i hi => ?_⟩ (by omega)
    ·(refine Le.of [] hB (by first | exact ⟨znc _, fun _ _ => znc _⟩ | (constructor <;> (try simp) <;> (try omega))) ?_ ?_ <;> (repeat' (first | exact leSl_nil | exact leHp_nil | refine leSl_cons sF ?_ ?_ | refine leHp_cons sF ?_ ?_ | exact VLe.junk _ | exact VLe.refl rfl | exact VLe.nil_sl _ _ _ | exact VLe.int (by first | rfl | omega | (dsimp only; omega)) | exact VLe.bool rfl | exact VLe.sl rfl (by first | rfl | omega | (dsimp only; omega) | (simp; done)) | exact VLe.cap rfl (by first | rfl | omega | (dsimp only; omega) | (simp; done)) | exact VLe.im rfl rfl | exact HLe.new rfl | exact HLe.same rfl (LLe.refl rfl) | refine HLe.same rfl ?_ | exact LLe.nil _ | exact LLe.refl rfl | refine LLe.cons ?_ ?_)))
    ·rcases Nat.lt_or_ge i k with h | h
     ·rw [show i = k - 1 by omega]; exact hx
     ·exact hz i h
   ·have hb : (((l.getD (k - 1) 0 : Nat) : Int) == 0) = false := by simp only [beq_eq_false_iff_ne, ne_eq]; omega
    have e1 := (made_tree (neg := false) hl hz hk (fun _ => hx)).1
    have e2 : (sgn false (val l)).natAbs = val l := by simp [sgn]
    rw [e2] at e1
    (repeat (first | (with_reducible refine oA ?_) | ((with_reducible apply SC.region); (focus (simp (disch := omega) only [go_sem, ↓reduceIte, zn1, zn2, zn3, zn4, zn5, zn6, reduceCtorEq, zn7, zi1, zi2, if_pos, if_neg]; rfl))) | (with_reducible refine SC.draw Tab.mixed rfl ?_; (repeat (refine DO.run sF ?_)); refine DO.nil (by kernel_rfl) ?_)))
    refine SC.cond (by simp (disch := omega) only [go_sem, ↓reduceIte, zn1, zn2, zn3, zn4, zn5, zn6, reduceCtorEq, zn7, zi1, zi2, if_pos, if_neg, hd]; rfl) ?_ ?_
    rotate_left
    ·intro h; cases h
    intro _
    (repeat (first | (with_reducible refine oA ?_) | ((with_reducible apply SC.region); (focus (simp (disch := omega) only [go_sem, ↓reduceIte, zn1, zn2, zn3, zn4, zn5, zn6, reduceCtorEq, zn7, zi1, zi2, if_pos, if_neg, hi, hg, hd, hb, lv_len, zl5]; rfl))) | (with_reducible refine SC.draw Tab.mixed rfl ?_; (repeat (refine DO.run (by simp (disch := omega) only [go_sem, ↓reduceIte, zn1, zn2, zn3, zn4, zn5, zn6, reduceCtorEq, zn7, zi1, zi2, if_pos, if_neg, hi, hg, hd, hb, lv_len, zl5]; rfl) ?_)); refine DO.nil (by kernel_rfl) ?_)))
    refine SC.cond sF ?_ ?_
    ·intro h; cases h
    intro _
    (repeat (first | (with_reducible refine oA ?_) | ((with_reducible apply SC.region); (focus (simp (disch := omega) only [go_sem, ↓reduceIte, zn1, zn2, zn3, zn4, zn5, zn6, reduceCtorEq, zn7, zi1, zi2, if_pos, if_neg, hi, hg, hd, hb, lv_len, lv_take, hlen]; rfl))) | (with_reducible refine SC.draw Tab.mixed rfl ?_; (repeat (refine DO.run (by simp (disch := omega) only [go_sem, ↓reduceIte, zn1, zn2, zn3, zn4, zn5, zn6, reduceCtorEq, zn7, zi1, zi2, if_pos, if_neg, hi, hg, hd, hb, lv_len, lv_take, hlen]; rfl) ?_)); refine DO.nil (by kernel_rfl) ?_)))
    refine retQ_ret Try.results66 sF sF ?_
    rw [e1, hlen]
theorem limbs_s (m : Nat) (h : m < 18446744073709551616) : Spec Try.prog 83 [.sc (.int .u64 m)] (.im [.sc (.int .u32 ((m % 4294967296 : Nat) : Int)), .sc (.int .u32 ((m / 4294967296 : Nat) : Int))] 2) := by
 have w1 : (m : Int) % 4294967296 = ((m % 4294967296 : Nat) : Int) := by simp
 have w2 : (m : Int) / 2 ^ min 32 64 % 4294967296 = ((m / 4294967296 : Nat) : Int) := by
  have : (2 : Int) ^ min 32 64 = 4294967296 := by decide
  rw [this]; omega
 refine Spec.run Try.func83 rfl Try.ntmps83 (by simp) sF fun B hB => ?_
 (repeat (first | (with_reducible refine oA ?_) | ((with_reducible apply SC.region); (focus (simp (disch := omega) only [go_sem, ↓reduceIte, zn1, zn2, zn3, zn4, zn5, zn6, reduceCtorEq, zn7, zi1, zi2, if_pos, if_neg]; rfl))) | (with_reducible refine SC.draw Tab.mixed rfl ?_; (repeat (refine DO.run sF ?_)); refine DO.nil (by kernel_rfl) ?_)))
 refine retQ_ret Try.results83 sF sF ?_
 rw [w1, w2]
theorem value_i (neg : Bool) (l : List Nat) (hl : limbs l) (hm : l.length ≤ 1000000000000) : Spec Try.prog 67 [.sc (.bool neg), sv l] (iv (sgn neg (val l))) := by
 have ht := trim_i l hl hm
 obtain ⟨L, eL⟩ : ∃ L, L = limbsOf (val l) := ⟨_, rfl⟩
 have hn : (sgn neg (val l)).natAbs = val l := by unfold sgn; cases neg <;> simp
 rw [← eL] at ht
 unfold iv
 rw [hn, ← eL]
 unfold sv at ht ⊢
 refine Spec.run Try.func67 rfl Try.ntmps67 (by simp) sF fun B hB => ?_
 (repeat (first | (with_reducible refine oA ?_) | ((with_reducible apply SC.region); (focus (simp (disch := omega) only [go_sem, ↓reduceIte, zn1, zn2, zn3, zn4, zn5, zn6, reduceCtorEq, zn7, zi1, zi2, if_pos, if_neg]; rfl))) | (with_reducible refine SC.draw Tab.mixed rfl ?_; (repeat (refine DO.run sF ?_)); refine DO.nil (by kernel_rfl) ?_)))
 refine SC.ops ?_
 (repeat (refine SO.run sF ?_))
 (refine SO.call Tab.go66 sF sG ?_)
 (refine SCall.ofF (ht) sF ?_)
 by_cases h0 : L.length = 0
 ·have hL : L = [] := List.eq_nil_of_length_eq_zero h0
  have hv : val l = 0 := limbsOf_nil.1 (eL ▸ hL)
  subst hL
  have hd : decide (sgn neg (val l) < 0) = false := by rw [hv]; unfold sgn; cases neg <;> simp
  rw [hd]
  (repeat (refine SO.run sF ?_))
  (repeat (first | (with_reducible refine oA ?_) | ((with_reducible apply SC.region); (focus (simp (disch := omega) only [go_sem, ↓reduceIte, zn1, zn2, zn3, zn4, zn5, zn6, reduceCtorEq, zn7, zi1, zi2, if_pos, if_neg]; rfl))) | (with_reducible refine SC.draw Tab.mixed rfl ?_; (repeat (refine DO.run sF ?_)); refine DO.nil (by kernel_rfl) ?_)))
  refine SC.cond sF ?_ ?_
  rotate_left
  ·intro h; simp at h
  intro _
  (repeat (first | (with_reducible refine oA ?_) | ((with_reducible apply SC.region); (focus (simp (disch := omega) only [go_sem, ↓reduceIte, zn1, zn2, zn3, zn4, zn5, zn6, reduceCtorEq, zn7, zi1, zi2, if_pos, if_neg]; rfl))) | (with_reducible refine SC.draw Tab.mixed rfl ?_; (repeat (refine DO.run sF ?_)); refine DO.nil (by kernel_rfl) ?_)))
  exact retQ_ret Try.results67 sF sF rfl
 ·have hv : val l ≠ 0 := fun h => h0 (by rw [eL, h]; rfl)
  have hd : decide (sgn neg (val l) < 0) = neg := by unfold sgn; cases neg <;> simp; omega
  have hb : ((L.length : Int) == 0) = false := by simp only [beq_eq_false_iff_ne, ne_eq]; omega
  rw [hd]
  (repeat (refine SO.run sF ?_))
  (repeat (first | (with_reducible refine oA ?_) | ((with_reducible apply SC.region); (focus (simp (disch := omega) only [go_sem, ↓reduceIte, zn1, zn2, zn3, zn4, zn5, zn6, reduceCtorEq, zn7, zi1, zi2, if_pos, if_neg]; rfl))) | (with_reducible refine SC.draw Tab.mixed rfl ?_; (repeat (refine DO.run sF ?_)); refine DO.nil (by kernel_rfl) ?_)))
  refine SC.cond (by simp (disch := omega) only [go_sem, ↓reduceIte, zn1, zn2, zn3, zn4, zn5, zn6, reduceCtorEq, zn7, zi1, zi2, if_pos, if_neg, hb]; rfl) ?_ ?_
  ·intro h; cases h
  intro _
  (repeat (first | (with_reducible refine oA ?_) | ((with_reducible apply SC.region); (focus (simp (disch := omega) only [go_sem, ↓reduceIte, zn1, zn2, zn3, zn4, zn5, zn6, reduceCtorEq, zn7, zi1, zi2, if_pos, if_neg]; rfl))) | (with_reducible refine SC.draw Tab.mixed rfl ?_; (repeat (refine DO.run sF ?_)); refine DO.nil (by kernel_rfl) ?_)))
  exact retQ_ret Try.results67 sF sF rfl
theorem pof_i (n : Int) (h1 : -9223372036854775808 ≤ n) (h2 : n < 9223372036854775808) : Spec Try.prog 65 [.sc (.int .i64 n)] (iv n) := by
 obtain ⟨hv, hl⟩ := two_limbs (m := n.natAbs) (by omega)
 have hm := value_i (decide (n < 0)) [n.natAbs % 4294967296, n.natAbs / 4294967296] hl (by simp)
 rw [hv] at hm
 have hs : sgn (decide (n < 0)) n.natAbs = n := by unfold sgn; split <;> simp_all <;> omega
 rw [hs] at hm
 unfold sv at hm
 rw [show lv [n.natAbs % 4294967296, n.natAbs / 4294967296] = [.sc (.int .u32 ((n.natAbs % 4294967296 : Nat) : Int)), .sc (.int .u32 ((n.natAbs / 4294967296 : Nat) : Int))] from rfl] at hm
 unfold iv sv at hm ⊢
 obtain ⟨m, hm0⟩ : ∃ m, m = n.natAbs := ⟨_, rfl⟩
 rw [← hm0] at hm
 have hlim := limbs_s m (by omega)
 simp only [List.length_cons, List.length_nil, zn9, zn4] at hm
 refine Spec.run Try.func65 rfl Try.ntmps65 (by simp) sF fun B hB => ?_
 by_cases h0 : n < 0
 ·have e1 : IntKind.u64.wrap n = n + 18446744073709551616 := by simp [IntKind.wrap, IntKind.bits, IntKind.signed]; omega
  have e2 : IntKind.u64.wrap (0 - (n + 18446744073709551616)) = (m : Int) := by simp [IntKind.wrap, IntKind.bits, IntKind.signed]; omega
  have hd : decide (n < 0) = true := decide_eq_true h0
  rw [hd] at hm
  (repeat (first | (with_reducible refine oA ?_) | ((with_reducible apply SC.region); (focus (simp (disch := omega) only [go_sem, ↓reduceIte, zn1, zn2, zn3, zn4, zn5, zn6, reduceCtorEq, zn7, zi1, zi2, if_pos, if_neg, e1, hd]; rfl))) | (with_reducible refine SC.draw Tab.mixed rfl ?_; (repeat (refine DO.run (by simp (disch := omega) only [go_sem, ↓reduceIte, zn1, zn2, zn3, zn4, zn5, zn6, reduceCtorEq, zn7, zi1, zi2, if_pos, if_neg, e1, hd]; rfl) ?_)); refine DO.nil (by kernel_rfl) ?_)))
  refine SC.cond sF ?_ ?_
  rotate_left
  ·intro h; cases h
  intro _
  (repeat (first | (with_reducible refine oA ?_) | ((with_reducible apply SC.region); (focus (simp (disch := omega) only [go_sem, ↓reduceIte, zn1, zn2, zn3, zn4, zn5, zn6, reduceCtorEq, zn7, zi1, zi2, if_pos, if_neg, e1, e2, hd]; rfl))) | (with_reducible refine SC.draw Tab.mixed rfl ?_; (repeat (refine DO.run (by simp (disch := omega) only [go_sem, ↓reduceIte, zn1, zn2, zn3, zn4, zn5, zn6, reduceCtorEq, zn7, zi1, zi2, if_pos, if_neg, e1, e2, hd]; rfl) ?_)); refine DO.nil (by kernel_rfl) ?_)))
  refine SC.ops ?_
  (repeat (refine SO.run (by simp (disch := omega) only [go_sem, ↓reduceIte, zn1, zn2, zn3, zn4, zn5, zn6, reduceCtorEq, zn7, zi1, zi2, if_pos, if_neg, hd]; rfl) ?_))
  (refine SO.call Tab.go83 sF sG ?_)
  (refine SCall.of (hlim) sF ?_)
  (repeat (refine SO.run (by simp (disch := omega) only [go_sem, ↓reduceIte, zn1, zn2, zn3, zn4, zn5, zn6, reduceCtorEq, zn7, zi1, zi2, if_pos, if_neg, hd]; rfl) ?_))
  (refine SO.call Tab.go67 sF sG ?_)
  (refine SCall.ofF (hm) sF ?_)
  (repeat (refine SO.run sF ?_))
  (repeat (first | (with_reducible refine oA ?_) | ((with_reducible apply SC.region); (focus (simp (disch := omega) only [go_sem, ↓reduceIte, zn1, zn2, zn3, zn4, zn5, zn6, reduceCtorEq, zn7, zi1, zi2, if_pos, if_neg]; rfl))) | (with_reducible refine SC.draw Tab.mixed rfl ?_; (repeat (refine DO.run sF ?_)); refine DO.nil (by kernel_rfl) ?_)))
  refine retQ_ret Try.results65 sF sF ?_
  rw [hd, ← hm0]
 ·have e1 : IntKind.u64.wrap n = (m : Int) := by simp [IntKind.wrap, IntKind.bits, IntKind.signed]; omega
  have hd : decide (n < 0) = false := decide_eq_false h0
  rw [hd] at hm
  (repeat (first | (with_reducible refine oA ?_) | ((with_reducible apply SC.region); (focus (simp (disch := omega) only [go_sem, ↓reduceIte, zn1, zn2, zn3, zn4, zn5, zn6, reduceCtorEq, zn7, zi1, zi2, if_pos, if_neg, e1, hd]; rfl))) | (with_reducible refine SC.draw Tab.mixed rfl ?_; (repeat (refine DO.run (by simp (disch := omega) only [go_sem, ↓reduceIte, zn1, zn2, zn3, zn4, zn5, zn6, reduceCtorEq, zn7, zi1, zi2, if_pos, if_neg, e1, hd]; rfl) ?_)); refine DO.nil (by kernel_rfl) ?_)))
  refine SC.cond sF ?_ ?_
  ·intro h; cases h
  intro _
  (repeat (first | (with_reducible refine oA ?_) | ((with_reducible apply SC.region); (focus (simp (disch := omega) only [go_sem, ↓reduceIte, zn1, zn2, zn3, zn4, zn5, zn6, reduceCtorEq, zn7, zi1, zi2, if_pos, if_neg]; rfl))) | (with_reducible refine SC.draw Tab.mixed rfl ?_; (repeat (refine DO.run sF ?_)); refine DO.nil (by kernel_rfl) ?_)))
  refine SC.ops ?_
  (repeat (refine SO.run (by simp (disch := omega) only [go_sem, ↓reduceIte, zn1, zn2, zn3, zn4, zn5, zn6, reduceCtorEq, zn7, zi1, zi2, if_pos, if_neg, hd]; rfl) ?_))
  (refine SO.call Tab.go83 sF sG ?_)
  (refine SCall.of (hlim) sF ?_)
  (repeat (refine SO.run (by simp (disch := omega) only [go_sem, ↓reduceIte, zn1, zn2, zn3, zn4, zn5, zn6, reduceCtorEq, zn7, zi1, zi2, if_pos, if_neg, hd]; rfl) ?_))
  (refine SO.call Tab.go67 sF sG ?_)
  (refine SCall.ofF (hm) sF ?_)
  (repeat (refine SO.run sF ?_))
  (repeat (first | (with_reducible refine oA ?_) | ((with_reducible apply SC.region); (focus (simp (disch := omega) only [go_sem, ↓reduceIte, zn1, zn2, zn3, zn4, zn5, zn6, reduceCtorEq, zn7, zi1, zi2, if_pos, if_neg]; rfl))) | (with_reducible refine SC.draw Tab.mixed rfl ?_; (repeat (refine DO.run sF ?_)); refine DO.nil (by kernel_rfl) ?_)))
  refine retQ_ret Try.results65 sF sF ?_
  rw [hd, ← hm0]
theorem lv_snoc {l : List Nat} {x : Nat} {e : Int} (h : e = (x : Int)) : lv l ++ [.sc (.int .u32 e)] = lv (l ++ [x]) := by subst h; simp [lv]
theorem lv_ok (ok : Nat → Bool) (l : List Nat) : (lv l).all (okL ok) = true := by simp [lv, okL]
theorem LLe.lv {ok : Nat → Bool} {cs : List V} {l : List Nat} (h : cs = Go.Proofs.Ytdcbmdmlhjemmaa.lv l) : LLe ok cs (Go.Proofs.Ytdcbmdmlhjemmaa.lv l) := by subst h; exact LLe.refl (lv_ok _ _)
theorem lv_ren (f : Nat → Nat) (l : List Nat) : V.renL f (lv l) = lv l := by unfold lv; rw [show (l.map fun (n : Nat) => V.sc (.int .u32 (n : Int))) = (l.map fun (n : Nat) => Value.int .u32 (n : Int)).map .sc by simp]; exact renL_map_sc f _
theorem lv_snoc' {f : Nat → Nat} {l : List Nat} {x : Nat} {e : Int} (h : e = (x : Int)) : V.renL f (lv l ++ [.sc (.int .u32 e)]) = lv (l ++ [x]) := by rw [renL_app, lv_ren, ← lv_snoc h]; simp [V.renL, V.ren]
def dg : Nat → Nat → List Nat
 | 0, _ => []
 | k + 1, n => n % 4294967296 :: dg k (n / 4294967296)
theorem dg_len : ∀ (k n : Nat), (dg k n).length = k
 | 0, _ => rfl
 | k + 1, n => by simp [dg, dg_len k]
theorem dg_limbs : ∀ (k n : Nat), limbs (dg k n)
 | 0, _ => fun x hx => by simp [dg] at hx
 | k + 1, n => fun x hx => by
  rcases List.mem_cons.1 hx with rfl | hx
  ·omega
  ·exact dg_limbs k _ x hx
theorem dg_val : ∀ (k n : Nat), n < 4294967296 ^ k → val (dg k n) = n
 | 0, n, h => by simp at h; subst h; rfl
 | k + 1, n, h => by
  rw [Nat.pow_succ] at h
  simp only [dg, val]
  rw [dg_val k _ (by omega)]
  omega
theorem dg_eq {l : List Nat} (h : limbs l) : dg l.length (val l) = l :=
 val_inj (dg_limbs _ _) h (dg_len _ _) (dg_val _ _ (val_lt h))
def sumLen (a b : List Nat) : Nat := max a.length b.length + (if 4294967296 ^ max a.length b.length ≤ val a + val b then 1 else 0)
theorem sum_fits {a b : List Nat} (ha : limbs a) (hb : limbs b) : val a + val b < 4294967296 ^ sumLen a b := by
 have h1 := val_lt ha
 have h2 := val_lt hb
 have h3 : 4294967296 ^ a.length ≤ 4294967296 ^ max a.length b.length := Nat.pow_le_pow_right (by omega) (by omega)
 have h4 : 4294967296 ^ b.length ≤ 4294967296 ^ max a.length b.length := Nat.pow_le_pow_right (by omega) (by omega)
 unfold sumLen
 split
 ·rw [Nat.pow_succ]; omega
 ·simp only [Nat.add_zero]; omega
theorem plus_i (a b : List Nat) (ha : limbs a) (hb : limbs b) (hma : a.length ≤ 1000000000000) (hmb : b.length ≤ 1000000000000) : Spec Try.prog 78 [sv a, sv b] (sv (dg (sumLen a b) (val a + val b))) := by
 unfold sv
 refine Spec.run Try.func78 rfl Try.ntmps78 (by simp) sF fun B hB => ?_
 (repeat (first | (with_reducible refine oA ?_) | ((with_reducible apply SC.region); (focus (simp (disch := omega) only [go_sem, ↓reduceIte, zn3]; rfl)))))
 refine SC.loop (fun x : Nat × Nat × List Nat => ⟨[(0, .im (lv a) a.length), (1, .im (lv b) b.length), (5, .sl 0 0 x.2.2.length 1 none), (6, .sc (.int .u64 x.2.1)), (7, .sc (.int .i64 x.1))], [(0, ⟨80, lv x.2.2, false⟩)], 1, 55⟩)
  (fun x => x.2.1 ≤ 1 ∧ (x.1 ≤ max a.length b.length ∨ x.1 = max a.length b.length + 1 ∧ x.2.1 = 0 ∧ 4294967296 ^ max a.length b.length ≤ val a + val b) ∧ plusInv a b x.1 x.2.1 x.2.2) (fun x => max a.length b.length + 1 - x.1) (0, 0, []) ?_ ?_ ?_
 ·(refine Le.of [] hB (by exact ⟨znc _, fun _ _ => znc _⟩) ?_ ?_ <;> (repeat' (first | exact leSl_nil | exact leHp_nil | refine leSl_cons sF ?_ ?_ | refine leHp_cons sF ?_ ?_ | exact VLe.refl rfl | exact VLe.cap rfl (by rfl) | exact HLe.same rfl (LLe.refl rfl))))
 ·exact ⟨znc _, .inl (znc _), rfl, fun x hx => by simp at hx, by simp [val]⟩
 ·rintro ⟨k, c, l⟩ ⟨hc, hk, hI⟩ K hK
  simp only at hc hk hI ⊢
  have hlk : l.length = k := hI.1
  have hst := hI.step _ _ rfl rfl
  have xa := limbs_getD ha k
  have xb := limbs_getD hb k
  have hgo : ∀ (c' : Nat), c' = c + a.getD k 0 + b.getD k 0 → c' / 4294967296 ≤ 1 ∧ c' / 4294967296 < 2 ∧ c' ≤ 18446744073709551615 := fun c' e => by omega
  by_cases hend : k < a.length ∨ k < b.length ∨ 0 < c
  ·have hk' : k ≤ max a.length b.length := by omega
   have dC := decide_eq_true (p := (0 : Int) < c)
   have dA := decide_eq_true (p := (k : Int) < a.length)
   have dB := decide_eq_true (p := (k : Int) < b.length)
   have dA' := decide_eq_false (p := (k : Int) < a.length)
   have dB' := decide_eq_false (p := (k : Int) < b.length)
   have fin : ∀ s', Le B s' ⟨[(0, .im (lv a) a.length), (1, .im (lv b) b.length), (5, .sl 0 0 (l.length + 1) 1 none), (6, .sc (.int .u64 ((c + a.getD k 0 + b.getD k 0) / 4294967296 : Nat))), (7, .sc (.int .i64 (k + 1 : Nat)))], [(0, ⟨80, lv (l ++ [(c + a.getD k 0 + b.getD k 0) % 4294967296]), false⟩)], 1, 55⟩ → K s' := by
    intro s' hs'
    refine hK _ (k + 1, (c + a.getD k 0 + b.getD k 0) / 4294967296, l ++ [(c + a.getD k 0 + b.getD k 0) % 4294967296]) ?_ ⟨by simp only; omega, ?_, hst⟩ (by simp only; omega)
    ·simpa using hs'
    ·simp only
     rcases Nat.lt_or_ge k (max a.length b.length) with h | h
     ·exact .inl h
     ·have h1 : k = max a.length b.length := by omega
      have hxa := getD_ge (l := a) (k := k) (by omega)
      have hxb := getD_ge (l := b) (k := k) (by omega)
      rw [hxa, hxb] at hst ⊢
      have hc1 : c = 1 := by omega
      refine .inr ⟨by omega, by omega, ?_⟩
      have h3 := hI.2.2
      rw [zla (by omega), zla (by omega), hc1, h1] at h3
      omega
   rcases Nat.lt_or_ge k a.length with hA | hA <;> rcases Nat.lt_or_ge k b.length with hB' | hB'
   ·(repeat (first | (with_reducible refine SC.condB sF ?_; with_reducible refine pickT ?_) | (with_reducible refine oA ?_) | ((with_reducible apply SC.region); (focus (simp (disch := omega) only [go_sem, ↓reduceIte, zn1, zn3, zn4, reduceCtorEq, if_pos, if_neg, dA (by omega), dB (by omega), lv_get hA, lv_get hB', lv_len, zl5, lv_take, List.take_length]; rfl)))))
    refine fin _ (Le.swap 0 2 hB (by omega) (by omega) ?_)
    (refine Le.of [] hB (by exact ⟨znc _, fun _ _ => znc _⟩) ?_ ?_ <;> (repeat' (first | exact leSl_nil | exact leHp_nil | refine leSl_cons sF ?_ ?_ | refine leHp_cons sF ?_ ?_ | exact VLe.refl rfl | refine HLe.same rfl ?_)))
    exact LLe.lv (lv_snoc' (by omega))
   ·have hz := getD_ge (l := b) (k := k) (by omega)
    have q1 := dA (by omega)
    have q2 := dB' (by omega)
    (repeat (first | (with_reducible refine SC.condB sF ?_; first | with_reducible refine pickT ?_ | with_reducible refine pickF ?_) | (with_reducible refine oA ?_) | ((with_reducible apply SC.region); (focus (simp (disch := omega) only [go_sem, ↓reduceIte, zn1, zn3, zn4, reduceCtorEq, if_pos, if_neg, q1, q2, lv_get hA, lv_len, zl5, lv_take, List.take_length]; rfl)))))
    refine fin _ (Le.swap 0 2 hB (by omega) (by omega) ?_)
    (refine Le.of [] hB (by exact ⟨znc _, fun _ _ => znc _⟩) ?_ ?_ <;> (repeat' (first | exact leSl_nil | exact leHp_nil | refine leSl_cons sF ?_ ?_ | refine leHp_cons sF ?_ ?_ | exact VLe.refl rfl | exact VLe.int (by first | rfl | omega) | refine HLe.same rfl ?_)))
    exact LLe.lv (lv_snoc' (by omega))
   ·have hz := getD_ge (l := a) (k := k) (by omega)
    have q1 := dA' (by omega)
    have q2 := dB (by omega)
    (repeat (first | (with_reducible refine SC.condB sF ?_; first | with_reducible refine pickT ?_ | with_reducible refine pickF ?_) | (with_reducible refine oA ?_) | ((with_reducible apply SC.region); (focus (simp (disch := omega) only [go_sem, ↓reduceIte, zn1, zn3, zn4, reduceCtorEq, if_pos, if_neg, q1, q2, lv_get hB', lv_len, zl5, lv_take, List.take_length]; rfl)))))
    refine fin _ (Le.swap 0 2 hB (by omega) (by omega) ?_)
    (refine Le.of [] hB (by exact ⟨znc _, fun _ _ => znc _⟩) ?_ ?_ <;> (repeat' (first | exact leSl_nil | exact leHp_nil | refine leSl_cons sF ?_ ?_ | refine leHp_cons sF ?_ ?_ | exact VLe.refl rfl | exact VLe.int (by first | rfl | omega) | refine HLe.same rfl ?_)))
    exact LLe.lv (lv_snoc' (by omega))
   ·have hz := getD_ge (l := a) (k := k) (by omega)
    have hz := getD_ge (l := b) (k := k) (by omega)
    have q1 := dA' (by omega)
    have q2 := dB' (by omega)
    have q3 := dC (by omega)
    (repeat (first | (with_reducible refine SC.condB sF ?_; first | with_reducible refine pickT ?_ | with_reducible refine pickF ?_) | (with_reducible refine oA ?_) | ((with_reducible apply SC.region); (focus (simp (disch := omega) only [go_sem, ↓reduceIte, zn1, zn3, zn4, reduceCtorEq, if_pos, if_neg, q1, q2, q3, lv_len, lv_take, List.take_length]; rfl)))))
    refine fin _ (Le.swap 0 2 hB (by omega) (by omega) ?_)
    (refine Le.of [] hB (by exact ⟨znc _, fun _ _ => znc _⟩) ?_ ?_ <;> (repeat' (first | exact leSl_nil | exact leHp_nil | refine leSl_cons sF ?_ ?_ | refine leHp_cons sF ?_ ?_ | exact VLe.refl rfl | exact VLe.int (by first | rfl | omega) | refine HLe.same rfl ?_)))
    exact LLe.lv (lv_snoc' (by omega))
  ·have hc0 : c = 0 := by omega
   subst hc0
   have dA := decide_eq_false (p := (k : Int) < a.length) (by omega)
   have dB := decide_eq_false (p := (k : Int) < b.length) (by omega)
   have hd := hI.done (by omega) (by omega)
   have hl : l.length = sumLen a b := by
    unfold sumLen
    have hv := val_lt hI.2.1
    rcases hk with hk | ⟨h1, h2, h3⟩
    ·have h1 : k = max a.length b.length := by omega
     rw [hlk, h1] at hv
     rw [if_neg (by omega), hlk, h1]; rfl
    ·rw [if_pos h3]; omega
   have he := dg_eq hI.2.1
   rw [hd, hl] at he
   have dC : decide ((0 : Int) < ((0 : Nat) : Int)) = false := by simp
   (repeat (first | (with_reducible refine SC.condB sF ?_; with_reducible refine pickF ?_) | (with_reducible refine oA ?_) | ((with_reducible apply SC.region); (focus (simp (disch := omega) only [go_sem, ↓reduceIte, zn1, zn2, reduceCtorEq, dA, dB, dC]; rfl)))))
   refine retQ_ret Try.results78 sF (by simp (disch := omega) only [go_sem, ↓reduceIte, if_pos, lv_len, lv_take, lv_clo, List.take_length]; rfl) ?_
   rw [he, hl]
theorem minus_i (a b : List Nat) (ha : limbs a) (hb : limbs b) (hma : a.length ≤ 1000000000000) (hbl : b.length ≤ a.length) (hba : val b ≤ val a) : Spec Try.prog 79 [sv a, sv b] (sv (dg a.length (val a - val b))) := by
 unfold sv
 refine Spec.run Try.func79 rfl Try.ntmps79 (by simp) sF fun B hB => ?_
 (repeat (first | (with_reducible refine oA ?_) | ((with_reducible apply SC.region); (focus (simp (disch := omega) only [go_sem, ↓reduceIte, zn3]; rfl)))))
 refine SC.loop (fun x : Nat × Nat × List Nat => ⟨[(0, .im (lv a) a.length), (1, .im (lv b) b.length), (5, .sl 0 0 x.2.2.length 1 none), (6, .sc (.int .i64 x.2.1)), (7, .sc (.int .i64 x.1))], [(0, ⟨80, lv x.2.2, false⟩)], 1, 44⟩)
  (fun x => x.2.1 ≤ 1 ∧ x.1 ≤ a.length ∧ minusInv a b x.1 x.2.1 x.2.2) (fun x => a.length - x.1) (0, 0, []) ?_ ?_ ?_
 ·(refine Le.of [] hB (by exact ⟨znc _, fun _ _ => znc _⟩) ?_ ?_ <;> (repeat' (first | exact leSl_nil | exact leHp_nil | refine leSl_cons sF ?_ ?_ | refine leHp_cons sF ?_ ?_ | exact VLe.refl rfl | exact VLe.cap rfl (by rfl) | exact HLe.same rfl (LLe.refl rfl))))
 ·exact ⟨znc _, znc _, rfl, fun x hx => by simp at hx, by simp [val]⟩
 ·rintro ⟨k, c, l⟩ ⟨hc, hk, hI⟩ K hK
  simp only at hc hk hI ⊢
  have hlk : l.length = k := hI.1
  have xa := limbs_getD ha k
  have xb := limbs_getD hb k
  by_cases hA : k < a.length
  ·have q1 := decide_eq_true (p := (k : Int) < a.length) (by omega)
   have fin : ∀ (s' : SS) (d c' : Nat), d < 4294967296 → c' ≤ 1 → (d : Int) = (a.getD k 0 : Nat) - c - (b.getD k 0 : Nat) + 4294967296 * c' → Le B s' ⟨[(0, .im (lv a) a.length), (1, .im (lv b) b.length), (5, .sl 0 0 (l.length + 1) 1 none), (6, .sc (.int .i64 c')), (7, .sc (.int .i64 (k + 1 : Nat)))], [(0, ⟨80, lv (l ++ [d]), false⟩)], 1, 44⟩ → K s' := by
    intro s' d c' hd hc' he hs'
    refine hK _ (k + 1, c', l ++ [d]) (by simpa using hs') ⟨by simpa using hc', by simp only; omega, hI.step _ _ d c' rfl rfl hd he⟩ (by simp only; omega)
   by_cases hB' : k < b.length
   ·have q2 := decide_eq_true (p := (k : Int) < b.length) (by omega)
    by_cases hn : ((a.getD k 0 : Nat) : Int) - c - (b.getD k 0 : Nat) < 0
    ·have q3 := decide_eq_true hn
     (repeat (first | (with_reducible refine SC.condB sF ?_; with_reducible refine pickT ?_) | (with_reducible refine oA ?_) | ((with_reducible apply SC.region); (focus (simp (disch := omega) only [go_sem, ↓reduceIte, zn1, zn3, zn4, reduceCtorEq, if_pos, q1, q2, q3, lv_get hA, lv_get hB', lv_len, zl5, lv_take, List.take_length]; rfl)))))
     refine fin _ (a.getD k 0 + 4294967296 - c - b.getD k 0) 1 (by omega) (by omega) (by omega) (Le.swap 0 2 hB (by omega) (by omega) ?_)
     (refine Le.of [] hB (by exact ⟨znc _, fun _ _ => znc _⟩) ?_ ?_ <;> (repeat' (first | exact leSl_nil | exact leHp_nil | refine leSl_cons sF ?_ ?_ | refine leHp_cons sF ?_ ?_ | exact VLe.refl rfl | refine HLe.same rfl ?_)))
     exact LLe.lv (lv_snoc' (by omega))
    ·have q3 := decide_eq_false hn
     (repeat (first | (with_reducible refine SC.condB sF ?_; first | with_reducible refine pickT ?_ | with_reducible refine pickF ?_) | (with_reducible refine oA ?_) | ((with_reducible apply SC.region); (focus (simp (disch := omega) only [go_sem, ↓reduceIte, zn1, zn3, zn4, reduceCtorEq, if_pos, q1, q2, q3, lv_get hA, lv_get hB', lv_len, zl5, lv_take, List.take_length]; rfl)))))
     refine fin _ (a.getD k 0 - c - b.getD k 0) 0 (by omega) (by omega) (by omega) (Le.swap 0 2 hB (by omega) (by omega) ?_)
     (refine Le.of [] hB (by exact ⟨znc _, fun _ _ => znc _⟩) ?_ ?_ <;> (repeat' (first | exact leSl_nil | exact leHp_nil | refine leSl_cons sF ?_ ?_ | refine leHp_cons sF ?_ ?_ | exact VLe.refl rfl | refine HLe.same rfl ?_)))
     exact LLe.lv (lv_snoc' (by omega))
   ·have q2 := decide_eq_false (p := (k : Int) < b.length) (by omega)
    have hz := getD_ge (l := b) (k := k) hB'
    by_cases hn : ((a.getD k 0 : Nat) : Int) - c < 0
    ·have q3 := decide_eq_true hn
     (repeat (first | (with_reducible refine SC.condB sF ?_; first | with_reducible refine pickT ?_ | with_reducible refine pickF ?_) | (with_reducible refine oA ?_) | ((with_reducible apply SC.region); (focus (simp (disch := omega) only [go_sem, ↓reduceIte, zn1, zn3, zn4, reduceCtorEq, if_pos, q1, q2, q3, lv_get hA, lv_len, zl5, lv_take, List.take_length]; rfl)))))
     refine fin _ (a.getD k 0 + 4294967296 - c) 1 (by omega) (by omega) (by omega) (Le.swap 0 2 hB (by omega) (by omega) ?_)
     (refine Le.of [] hB (by exact ⟨znc _, fun _ _ => znc _⟩) ?_ ?_ <;> (repeat' (first | exact leSl_nil | exact leHp_nil | refine leSl_cons sF ?_ ?_ | refine leHp_cons sF ?_ ?_ | exact VLe.refl rfl | refine HLe.same rfl ?_)))
     exact LLe.lv (lv_snoc' (by omega))
    ·have q3 := decide_eq_false hn
     (repeat (first | (with_reducible refine SC.condB sF ?_; first | with_reducible refine pickT ?_ | with_reducible refine pickF ?_) | (with_reducible refine oA ?_) | ((with_reducible apply SC.region); (focus (simp (disch := omega) only [go_sem, ↓reduceIte, zn1, zn3, zn4, reduceCtorEq, if_pos, q1, q2, q3, lv_get hA, lv_len, zl5, lv_take, List.take_length]; rfl)))))
     refine fin _ (a.getD k 0 - c) 0 (by omega) (by omega) (by omega) (Le.swap 0 2 hB (by omega) (by omega) ?_)
     (refine Le.of [] hB (by exact ⟨znc _, fun _ _ => znc _⟩) ?_ ?_ <;> (repeat' (first | exact leSl_nil | exact leHp_nil | refine leSl_cons sF ?_ ?_ | refine leHp_cons sF ?_ ?_ | exact VLe.refl rfl | refine HLe.same rfl ?_)))
     exact LLe.lv (lv_snoc' (by omega))
  ·have hka : k = a.length := by omega
   subst hka
   have q1 := decide_eq_false (p := ((a.length : Nat) : Int) < a.length) (by omega)
   have hd := hI.done hc ha hbl hba
   have he := dg_eq hI.2.1
   rw [hd, hlk] at he
   (repeat (first | (with_reducible refine SC.condB sF ?_; with_reducible refine pickF ?_) | (with_reducible refine oA ?_) | ((with_reducible apply SC.region); (focus (simp (disch := omega) only [go_sem, ↓reduceIte, zn1, zn2, reduceCtorEq, q1]; rfl)))))
   refine retQ_ret Try.results79 sF (by simp (disch := omega) only [go_sem, ↓reduceIte, if_pos, lv_len, lv_take, lv_clo, List.take_length]; rfl) ?_
   rw [he, hlk]
theorem fits_len {K : Nat} {x : Int} (h : Fits K x) : (limbsOf x.natAbs).length ≤ K := canon_len (limbsOf_canon _) (by rw [limbsOf_val]; exact h)
theorem dg_made (k n : Nat) (neg : Bool) (h : n < 4294967296 ^ k) (hk : k ≤ 1000000000000) : Spec Try.prog 62 [sv (dg k n), .sc (.bool neg)] (iv (sgn neg n)) := by
 have := made_i (dg k n) neg (dg_limbs _ _) (by rw [dg_len]; exact hk)
 rwa [dg_val k n h] at this
theorem sumLen_le (a b : List Nat) : sumLen a b ≤ max a.length b.length + 1 := by
 unfold sumLen; split <;> omega
theorem add_i (x y : Int) (K : Nat) (hx : Fits K x) (hy : Fits K y) (hK : K ≤ 500000000000) : Spec Try.prog 59 [iv x, iv y] (iv (x + y)) := by
 have lx := fits_len hx
 have ly := fits_len hy
 have vx := limbsOf_val x.natAbs
 have vy := limbsOf_val y.natAbs
 have bx := limbsOf_limbs x.natAbs
 have bY := limbsOf_limbs y.natAbs
 by_cases hs : (decide (x < 0) == decide (y < 0)) = true
 ·have hs' : (x < 0 ↔ y < 0) := by simpa using hs
  have c1 := plus_i _ _ bx bY (by omega) (by omega)
  have hf := sum_fits bx bY
  have c2 := dg_made _ _ (decide (x < 0)) hf (by have := sumLen_le (limbsOf x.natAbs) (limbsOf y.natAbs); omega)
  rw [vx, vy] at c1 c2
  rw [show sgn (decide (x < 0)) (x.natAbs + y.natAbs) = x + y by unfold sgn; split <;> simp_all <;> omega] at c2
  unfold sv at c1 c2
  unfold iv sv at c2 ⊢
  refine Spec.run Try.func59 rfl Try.ntmps59 (by simp) sF fun B hB => ?_
  (repeat (first | refine DO.nil (by kernel_rfl) ?_ | (with_reducible refine oA ?_) | ((apply DO.call); (iterate 3 (focus (simp (disch := omega) only [go_sem, ↓reduceIte, zn1] <;> rfl))); (apply DCall.ofX); (focus (assumption)); (focus (simp (disch := omega) only [go_sem] <;> rfl))) | ((with_reducible first | apply SC.condB | apply SC.region | apply DO.run); (focus (simp (disch := omega) only [go_sem, ↓reduceIte, zn1, zn3, zn4, reduceCtorEq, hs] <;> rfl)); (first | refine pickT ?_ | fail_if_success with_reducible refine pickA ?_)) | ((with_reducible refine SC.draw Tab.mixed ?_ ?_); rfl)))
  exact retQ_ret Try.results59 sF sF rfl
 ·have hs' : ¬ (x < 0 ↔ y < 0) := by simpa using hs
  rw [Bool.not_eq_true] at hs
  have c0 := less_n x.natAbs y.natAbs (by omega) (by omega)
  by_cases hl : x.natAbs < y.natAbs
  ·rw [decide_eq_true hl] at c0
   have hle : (limbsOf x.natAbs).length ≤ (limbsOf y.natAbs).length := canon_len (limbsOf_canon _) (by have := val_lt bY; omega)
   have c1 := minus_i _ _ bY bx (by omega) hle (by omega)
   have c2 := dg_made (limbsOf y.natAbs).length (y.natAbs - x.natAbs) (decide (y < 0)) (by have := val_lt bY; omega) (by omega)
   rw [vx, vy] at c1
   rw [show sgn (decide (y < 0)) (y.natAbs - x.natAbs) = x + y by unfold sgn; split <;> simp_all <;> omega] at c2
   unfold sv at c0 c1 c2
   unfold iv sv at c2 ⊢
   refine Spec.run Try.func59 rfl Try.ntmps59 (by simp) sF fun B hB => ?_
   (repeat (first | refine DO.nil (by kernel_rfl) ?_ | (with_reducible refine oA ?_) | ((first | apply SO.call | apply DO.call); (iterate 3 (focus (simp (disch := omega) only [go_sem, ↓reduceIte, zn1] <;> rfl))); (first | apply SCall.ofX | apply DCall.ofX); (focus (assumption)); (focus (simp (disch := omega) only [go_sem] <;> rfl))) | ((with_reducible first | apply wa | apply wb | apply wc | apply wd); (focus (simp (disch := omega) only [go_sem, ↓reduceIte, zn1, zn3, zn4, reduceCtorEq, hs] <;> rfl)); (first | refine pT ?_ | refine pF ?_ | fail_if_success with_reducible refine pA ?_)) | ((with_reducible refine SC.draw Tab.mixed ?_ ?_); rfl) | (with_reducible apply SC.ops)))
   exact retQ_ret Try.results59 sF sF rfl
  ·rw [decide_eq_false hl] at c0
   have hle : (limbsOf y.natAbs).length ≤ (limbsOf x.natAbs).length := canon_len (limbsOf_canon _) (by have := val_lt bx; omega)
   have c1 := minus_i _ _ bx bY (by omega) hle (by omega)
   have c2 := dg_made (limbsOf x.natAbs).length (x.natAbs - y.natAbs) (decide (x < 0)) (by have := val_lt bx; omega) (by omega)
   rw [vx, vy] at c1
   rw [show sgn (decide (x < 0)) (x.natAbs - y.natAbs) = x + y by unfold sgn; split <;> simp_all <;> omega] at c2
   unfold sv at c0 c1 c2
   unfold iv sv at c2 ⊢
   refine Spec.run Try.func59 rfl Try.ntmps59 (by simp) sF fun B hB => ?_
   (repeat (first | refine DO.nil (by kernel_rfl) ?_ | (with_reducible refine oA ?_) | ((first | apply SO.call | apply DO.call); (iterate 3 (focus (simp (disch := omega) only [go_sem, ↓reduceIte, zn1, zn2] <;> rfl))); (first | apply SCall.ofX | apply DCall.ofX); (focus (assumption)); (focus (simp (disch := omega) only [go_sem] <;> rfl))) | ((with_reducible first | apply wa | apply wb | apply wc | apply wd); (focus (simp (disch := omega) only [go_sem, ↓reduceIte, zn1, zn3, zn4, reduceCtorEq, hs] <;> rfl)); (first | refine pickF ?_ | fail_if_success with_reducible refine pickA ?_)) | ((with_reducible refine SC.draw Tab.mixed ?_ ?_); rfl) | (with_reducible apply SC.ops)))
   exact retQ_ret Try.results59 sF sF rfl
theorem neg_i (x : Int) (K : Nat) (hx : Fits K x) (hK : K ≤ 1000000000000) : Spec Try.prog 36 [iv x] (iv (-x)) := by
 have lx := fits_len hx
 have c1 := made_i (limbsOf x.natAbs) (!decide (x < 0)) (limbsOf_limbs _) (by omega)
 rw [limbsOf_val, show sgn (!decide (x < 0)) x.natAbs = -x by unfold sgn; split <;> simp_all <;> omega] at c1
 unfold sv at c1
 unfold iv sv at c1 ⊢
 refine Spec.run Try.func36 rfl Try.ntmps36 (by simp) sF fun B hB => ?_
 (repeat (first | (with_reducible refine oA ?_) | ((apply SO.call); (iterate 3 (focus (simp (disch := omega) only [go_sem, ↓reduceIte, zn1, zn2] <;> rfl))); (apply SCall.ofX); (focus (assumption)); (focus (simp (disch := omega) only [go_sem] <;> rfl))) | ((with_reducible first | apply SC.region | apply SO.run); (focus (simp (disch := omega) only [go_sem, ↓reduceIte, zn1, zn2, zn3, zn4, reduceCtorEq] <;> rfl)); (fail_if_success with_reducible refine pickA ?_)) | (with_reducible apply SC.ops)))
 exact retQ_ret Try.results36 sF sF rfl
theorem sub_i (x y : Int) (K : Nat) (hx : Fits K x) (hy : Fits K y) (hK : K ≤ 500000000000) : Spec Try.prog 61 [iv x, iv y] (iv (x - y)) := by
 have c1 := neg_i y K hy (by omega)
 have c2 := add_i x (-y) K hx hy.neg hK
 rw [← Int.sub_eq_add_neg] at c2
 unfold iv sv at c1 c2 ⊢
 refine Spec.run Try.func61 rfl Try.ntmps61 (by simp) sF fun B hB => ?_
 (repeat (first | refine DO.nil (by kernel_rfl) ?_ | (with_reducible refine oA ?_) | ((apply DO.call); (iterate 3 (focus (simp (disch := omega) only [go_sem, ↓reduceIte, zn1, zn2] <;> rfl))); (apply DCall.ofX); (focus (assumption)); (focus (simp (disch := omega) only [go_sem] <;> rfl))) | ((with_reducible first | apply SC.region | apply DO.run); (focus (simp (disch := omega) only [go_sem, ↓reduceIte, zn1, zn3, zn4, reduceCtorEq] <;> rfl)); (fail_if_success with_reducible refine pickA ?_)) | ((with_reducible refine SC.draw Tab.mixed ?_ ?_); rfl)))
 exact retQ_ret Try.results61 sF sF rfl
theorem sign_i (x : Int) (K : Nat) (hx : Fits K x) (hK : K ≤ 1000000000000) : Spec Try.prog 34 [iv x] (.sc (.int .i64 x.sign)) := by
 unfold iv sv
 refine Spec.run Try.func34 rfl Try.ntmps34 (by simp) sF fun B hB => ?_
 by_cases h0 : x = 0
 ·subst h0
  have q1 : (((limbsOf (0 : Int).natAbs).length : Int) == 0) = true := by simp [limbsOf_zero]
  (repeat (first | (with_reducible refine SC.condB sF ?_; with_reducible refine pickT ?_) | (with_reducible refine oA ?_) | ((with_reducible apply SC.region); (focus (simp (disch := omega) only [go_sem, ↓reduceIte, zn1, reduceCtorEq, q1]; rfl)))))
  exact retQ_ret Try.results34 sF sF rfl
 ·have q1 : (((limbsOf x.natAbs).length : Int) == 0) = false := by
   have : limbsOf x.natAbs ≠ [] := fun h => h0 (by have := limbsOf_nil.1 h; omega)
   have := List.length_pos_iff.2 this
   simp only [beq_eq_false_iff_ne, ne_eq]; omega
  by_cases h1 : x < 0
  ·have q2 := decide_eq_true h1
   (repeat (first | (with_reducible refine SC.condB sF ?_; first | with_reducible refine pickT ?_ | with_reducible refine pickF ?_) | (with_reducible refine oA ?_) | ((with_reducible apply SC.region); (focus (simp (disch := omega) only [go_sem, ↓reduceIte, zn1, zn2, reduceCtorEq, q1, q2]; rfl)))))
   refine retQ_ret Try.results34 sF sF ?_
   rw [Int.sign_eq_neg_one_of_neg h1]
  ·have q2 := decide_eq_false h1
   (repeat (first | (with_reducible refine SC.condB sF ?_; with_reducible refine pickF ?_) | (with_reducible refine oA ?_) | ((with_reducible apply SC.region); (focus (simp (disch := omega) only [go_sem, ↓reduceIte, zn1, zn2, reduceCtorEq, q1, q2]; rfl)))))
   refine retQ_ret Try.results34 sF sF ?_
   rw [Int.sign_eq_one_of_pos (by omega)]
def validB (l : List Nat) (neg : Bool) : Bool := if l.length = 0 then !neg else l.getD (l.length - 1) 0 != 0
theorem valid_g (l : List Nat) (n : Nat) (neg : Bool) (hn : n = l.length) (hm : n ≤ 9223372036854775807) : Spec Try.prog 48 [.ag [.sc (.bool neg), .im (lv l) n]] (.sc (.bool (validB l neg))) := by
 subst hn
 refine Spec.run Try.func48 rfl Try.ntmps48 (by simp) sF fun B hB => ?_
 by_cases h0 : l.length = 0
 ·have q1 : decide ((0 : Int) < (l.length : Int)) = false := by simp; exact List.eq_nil_of_length_eq_zero h0
  (repeat (first | (with_reducible refine SC.condB sF ?_; with_reducible refine pickF ?_) | (with_reducible refine oA ?_) | ((with_reducible apply SC.region); (focus (simp (disch := omega) only [go_sem, ↓reduceIte, zn1, zn2, reduceCtorEq, q1]; rfl)))))
  refine retQ_ret Try.results48 sF sF ?_
  unfold validB; rw [if_pos h0]
 ·have q1 : decide ((0 : Int) < (l.length : Int)) = true := by rw [decide_eq_true_eq]; omega
  have hi : ((l.length : Int) - 1).toNat = l.length - 1 := by omega
  have hg := lv_get (l := l) (i := l.length - 1) (by omega)
  (repeat (first | (with_reducible refine SC.condB sF ?_; with_reducible refine pickT ?_) | (with_reducible refine oA ?_) | ((with_reducible apply SC.region); (focus (simp (disch := omega) only [go_sem, ↓reduceIte, zn1, reduceCtorEq, if_pos, q1, hi, hg, lv_len, zl5]; rfl)))))
  refine retQ_ret Try.results48 sF sF ?_
  unfold validB
  rw [if_neg h0]
  generalize l.getD (l.length - 1) 0 = x
  have : (((x : Int) != 0) : Bool) = (x != 0) := by
   by_cases hx : x = 0
   ·subst hx; rfl
   ·have h1 : ((x : Int) != 0) = true := by simp only [bne_iff_ne, ne_eq]; omega
    have h2 : (x != 0) = true := by simp only [bne_iff_ne, ne_eq]; omega
    rw [h1, h2]
  rw [this]
theorem or_zero (d : Nat) (h : d < 18446744073709551616) : bits BinOp.or IntKind.u64 0 (d : Int) = (d : Int) := by
 have := u64_or_nat 0 d (by omega) h
 simpa using this
theorem or_high (u d : Nat) (hu : u < 4294967296) (hd : d < 4294967296) : bits BinOp.or IntKind.u64 (u : Int) ((d : Int) * 4294967296) = ((u + 4294967296 * d : Nat) : Int) := by
 have h := u64_or_nat u (d * 4294967296) (by omega) (by omega)
 have e : u ||| d * 4294967296 = d * 4294967296 + u := by
  have := Nat.shiftLeft_add_eq_or_of_lt (b := u) (i := 32) (by omega) d
  rw [Nat.shiftLeft_eq, Nat.or_comm] at this
  exact this.symm
 rw [e] at h
 have e2 : ((d * 4294967296 + u : Nat) : Int) = ((u + 4294967296 * d : Nat) : Int) := by omega
 rw [← e2, ← h]; simp
theorem word_i (l : List Nat) (h : limbs l) (hl : l.length ≤ 2) : Spec Try.prog 91 [sv l] (.sc (.int .u64 (val l : Nat))) := by
 unfold sv
 refine Spec.run Try.func91 rfl Try.ntmps91 (by simp) sF fun B hB => ?_
 (repeat (first | (with_reducible refine oA ?_) | ((with_reducible apply SC.region); (focus (simp (disch := omega) only [go_sem, ↓reduceIte, reduceCtorEq]; rfl)))))
 refine SC.loop (fun k : Nat => ⟨[(3, .sc (.int .u64 (val (l.take k) : Nat))), (6, .im (lv l) l.length), (7, .sc (.int .i64 l.length)), (8, .sc (.int .i64 k))], [], 0, 22⟩)
  (fun k => k ≤ l.length) (fun k => l.length - k) 0 ?_ (znc _) ?_
 ·(refine Le.of [] hB (by exact ⟨znc _, fun _ _ => znc _⟩) ?_ ?_ <;> (repeat' (first | exact leSl_nil | exact leHp_nil | refine leSl_cons sF ?_ ?_ | exact VLe.refl rfl)))
 ·intro k hk K hK
  by_cases hlt : k < l.length
  ·have q1 := decide_eq_true (p := (k : Int) < (l.length : Int)) (by omega)
   have hg := lv_get hlt
   have hx := limbs_getD h k
   have hst := val_take_succ' l k
   have h3 : k = 0 ∨ k = 1 := by omega
   have hv := val_lt (limbs_take h k)
   rw [List.length_take, Nat.min_eq_left (by omega)] at hv
   generalize l.getD k 0 = x at *
   generalize val (l.take k) = u at *
   rcases h3 with rfl | rfl
   ·have hu : u = 0 := by omega
    subst hu
    have f1 : (x : Int) * 2 ^ min ((32 : Int) * ((0 : Nat) : Int)).toNat 64 = (x : Int) := by
     have : (2 : Int) ^ min ((32 : Int) * ((0 : Nat) : Int)).toNat 64 = 1 := by decide
     rw [this, Int.mul_one]
    have f2 : bits BinOp.or IntKind.u64 ((0 : Nat) : Int) (x : Int) = (x : Int) := or_zero x (by omega)
    (repeat (first | (with_reducible refine SC.condB sF ?_; with_reducible refine pickT ?_) | (with_reducible refine oA ?_) | ((with_reducible apply SC.region); (focus (simp (disch := omega) only [go_sem, ↓reduceIte, zn1, if_pos, if_neg, q1, f1, f2, hg, lv_len]; rfl)))))
    refine hK _ 1 ?_ (by omega) (by omega)
    (refine Le.of [] hB (by exact ⟨znc _, fun _ _ => znc _⟩) ?_ ?_ <;> (repeat' (first | exact leSl_nil | exact leHp_nil | refine leSl_cons sF ?_ ?_ | exact VLe.refl rfl)))
    simp only [Nat.pow_zero, zna, zn9] at hst
    exact VLe.int (congrArg (fun n : Nat => (n : Int)) hst.symm)
   ·have f1 : (x : Int) * 2 ^ min ((32 : Int) * ((1 : Nat) : Int)).toNat 64 = (x : Int) * 4294967296 := by
     have : (2 : Int) ^ min ((32 : Int) * ((1 : Nat) : Int)).toNat 64 = 4294967296 := by decide
     rw [this]
    have f2 := or_high u x (by omega) hx
    (repeat (first | (with_reducible refine SC.condB sF ?_; with_reducible refine pickT ?_) | (with_reducible refine oA ?_) | ((with_reducible apply SC.region); (focus (simp (disch := omega) only [go_sem, ↓reduceIte, zn1, if_pos, if_neg, q1, f1, f2, hg, lv_len, zl5]; rfl)))))
    refine hK _ 2 ?_ (by omega) (by omega)
    (refine Le.of [] hB (by exact ⟨znc _, fun _ _ => znc _⟩) ?_ ?_ <;> (repeat' (first | exact leSl_nil | exact leHp_nil | refine leSl_cons sF ?_ ?_ | exact VLe.refl rfl)))
    simp only [Nat.pow_one] at hst
    exact VLe.int (congrArg (fun n : Nat => (n : Int)) hst.symm)
  ·have hkl : k = l.length := by omega
   subst hkl
   have q1 := decide_eq_false (p := ((l.length : Nat) : Int) < (l.length : Int)) (by omega)
   (repeat (first | (with_reducible refine SC.condB sF ?_; with_reducible refine pickF ?_) | (with_reducible refine oA ?_) | ((with_reducible apply SC.region); (focus (simp (disch := omega) only [go_sem, ↓reduceIte, zn1, zn2, q1]; rfl)))))
   refine retQ_ret Try.results91 sF sF ?_
   rw [List.take_length]
theorem trim_n (n : Nat) (h : (limbsOf n).length ≤ 1000000000000) : Spec Try.prog 66 [sv (limbsOf n)] (sv (limbsOf n)) := by
 have := trim_i (limbsOf n) (limbsOf_limbs n) h
 rwa [limbsOf_val] at this
theorem psign_i (x : Int) (K : Nat) (hx : Fits K x) (hK : K ≤ 1000000000000) : Spec Try.prog 42 [iv x] (.sc (.int .i64 x.sign)) := by
 have lx := fits_len hx
 have c1 := trim_n x.natAbs (by omega)
 unfold iv
 unfold sv at c1 ⊢
 by_cases h0 : x = 0
 ·subst h0
  have q1 : (((limbsOf (0 : Int).natAbs).length : Int) == 0) = true := by simp [limbsOf_zero]
  refine Spec.run Try.func42 rfl Try.ntmps42 (by simp) sF fun B hB => ?_
  (repeat (first | (with_reducible refine oA ?_) | ((apply SO.call); (iterate 3 (focus (simp (disch := omega) only [go_sem, ↓reduceIte] <;> rfl))); (apply SCall.ofX); (focus (assumption)); (focus (simp (disch := omega) only [go_sem] <;> rfl))) | ((with_reducible first | apply SC.condB | apply SC.region | apply SO.run); (focus (simp (disch := omega) only [go_sem, ↓reduceIte, zn1, reduceCtorEq, q1] <;> rfl)); (first | refine pickT ?_ | fail_if_success with_reducible refine pickA ?_)) | (with_reducible apply SC.ops)))
  exact retQ_ret Try.results42 sF sF rfl
 ·have q1 : (((limbsOf x.natAbs).length : Int) == 0) = false := by
   have : limbsOf x.natAbs ≠ [] := fun h => h0 (by have := limbsOf_nil.1 h; omega)
   have := List.length_pos_iff.2 this
   simp only [beq_eq_false_iff_ne, ne_eq]; omega
  by_cases h1 : x < 0
  ·have q2 := decide_eq_true h1
   refine Spec.run Try.func42 rfl Try.ntmps42 (by simp) sF fun B hB => ?_
   (repeat (first | (with_reducible refine oA ?_) | ((apply SO.call); (iterate 3 (focus (simp (disch := omega) only [go_sem, ↓reduceIte] <;> rfl))); (apply SCall.ofX); (focus (assumption)); (focus (simp (disch := omega) only [go_sem] <;> rfl))) | ((with_reducible first | apply SC.condB | apply SC.region | apply SO.run); (focus (simp (disch := omega) only [go_sem, ↓reduceIte, zn1, zn2, reduceCtorEq, q1, q2] <;> rfl)); (first | refine pT ?_ | refine pF ?_ | fail_if_success with_reducible refine pA ?_)) | (with_reducible apply SC.ops)))
   refine retQ_ret Try.results42 sF sF ?_
   rw [Int.sign_eq_neg_one_of_neg h1]
  ·have q2 := decide_eq_false h1
   refine Spec.run Try.func42 rfl Try.ntmps42 (by simp) sF fun B hB => ?_
   (repeat (first | (with_reducible refine oA ?_) | ((apply SO.call); (iterate 3 (focus (simp (disch := omega) only [go_sem, ↓reduceIte] <;> rfl))); (apply SCall.ofX); (focus (assumption)); (focus (simp (disch := omega) only [go_sem] <;> rfl))) | ((with_reducible first | apply SC.condB | apply SC.region | apply SO.run); (focus (simp (disch := omega) only [go_sem, ↓reduceIte, zn1, zn2, reduceCtorEq, q1, q2] <;> rfl)); (first | refine pickF ?_ | fail_if_success with_reducible refine pickA ?_)) | (with_reducible apply SC.ops)))
   refine retQ_ret Try.results42 sF sF ?_
   rw [Int.sign_eq_one_of_pos (by omega)]
end Go.Proofs.Ytdcbmdmlhjemmaa
namespace Go.Proofs.Ytdcbmdmlhjemmaa
end Go.Proofs.Ytdcbmdmlhjemmaa
namespace Go.Proofs.Ytdcbmdmlhjemmaa
end Go.Proofs.Ytdcbmdmlhjemmaa
namespace Go.Proofs.Ytdcbmdmlhjemmaa
section lin
variable {K : Type} [Lean.Grind.CommRing K]
def sg (f : Nat → K) : Nat → K
 | 0 => 0
 | n + 1 => sg f n + f n
theorem sg_congr {f g : Nat → K} : ∀ {n : Nat}, (∀ i, i < n → f i = g i) → sg f n = sg g n
 | 0, _ => rfl
 | n + 1, h => by rw [sg, sg, sg_congr fun i hi => h i (by omega), h n (by omega)]
theorem sg_add (f g : Nat → K) : ∀ n : Nat, sg (fun i => f i + g i) n = sg f n + sg g n
 | 0 => by simp only [sg]; grind
 | n + 1 => by rw [sg, sg, sg, sg_add f g n]; grind
theorem sg_mul (a : K) (f : Nat → K) : ∀ n : Nat, sg (fun i => a * f i) n = a * sg f n
 | 0 => by simp only [sg]; grind
 | n + 1 => by rw [sg, sg, sg_mul a f n]; grind
theorem sg_zero : ∀ {n : Nat} {f : Nat → K}, (∀ i, i < n → f i = 0) → sg f n = 0
 | 0, _, _ => rfl
 | n + 1, f, h => by rw [sg, sg_zero fun i hi => h i (by omega), h n (by omega)]; grind
theorem sg_one : ∀ {n k : Nat} {f : Nat → K}, k < n → (∀ i, i < n → i ≠ k → f i = 0) → sg f n = f k
 | 0, k, f, hk, _ => by omega
 | n + 1, k, f, hk, h => by
  rw [sg]
  by_cases e : k = n
  ·subst e; rw [sg_zero fun i hi => h i (by omega) (by omega)]; grind
  ·rw [sg_one (k := k) (by omega) fun i hi hn => h i (by omega) hn, h n (by omega) (by omega)]; grind
def Sp (n m : Nat) (A : Nat → Nat → K) (v : Nat → K) : Prop := ∃ x : Nat → K, ∀ j, j < m → v j = sg (fun i => x i * A i j) n
variable {n m n' : Nat} {A B : Nat → Nat → K} {u v : Nat → K}
theorem Sp.row {i : Nat} (hi : i < n) : Sp n m A (A i) := ⟨fun k => if k = i then 1 else 0, fun j _ => by
 rw [sg_one (k := i) hi fun k _ hk => by dsimp only; rw [if_neg hk]; grind]
 dsimp only
 rw [if_pos rfl]; grind⟩
theorem Sp.zero (h : ∀ j, j < m → v j = 0) : Sp n m A v := ⟨fun _ => 0, fun j hj => by
 rw [h j hj, sg_zero]; intro i _; grind⟩
theorem Sp.add (h : Sp n m A u) (k : Sp n m A v) : Sp n m A (fun j => u j + v j) := by
 obtain ⟨x, hx⟩ := h
 obtain ⟨y, hy⟩ := k
 refine ⟨fun i => x i + y i, fun j hj => ?_⟩
 dsimp only
 rw [hx j hj, hy j hj, ← sg_add]
 exact sg_congr fun i _ => by grind
theorem Sp.smul (a : K) (h : Sp n m A u) : Sp n m A (fun j => a * u j) := by
 obtain ⟨x, hx⟩ := h
 refine ⟨fun i => a * x i, fun j hj => ?_⟩
 dsimp only
 rw [hx j hj, ← sg_mul]
 exact sg_congr fun i _ => by grind
theorem Sp.congr (h : Sp n m A u) (e : ∀ j, j < m → v j = u j) : Sp n m A v := by
 obtain ⟨x, hx⟩ := h
 exact ⟨x, fun j hj => (e j hj).trans (hx j hj)⟩
theorem Sp.sum {f : Nat → Nat → K} : ∀ {k : Nat}, (∀ i, i < k → Sp n m A (f i)) → Sp n m A (fun j => sg (fun i => f i j) k)
 | 0, _ => Sp.zero fun _ _ => rfl
 | k + 1, h => (Sp.add (Sp.sum fun i hi => h i (by omega)) (h k (by omega))).congr fun _ _ => rfl
theorem Sp.trans (h : ∀ i, i < n' → Sp n m A (B i)) (hv : Sp n' m B v) : Sp n m A v := by
 obtain ⟨y, hy⟩ := hv
 exact (Sp.sum (f := fun i j => y i * B i j) fun i hi => (h i hi).smul (y i)).congr hy
variable {r r' : Nat} {R R' : Nat → Nat → K} {c c' : Nat → Nat}
end lin
end Go.Proofs.Ytdcbmdmlhjemmaa
namespace Go.Proofs.Ytdcbmdmlhjemmaa
section lin
variable {K : Type} [Lean.Grind.CommRing K]
variable {n w c k : Nat} {A0 A : Nat → Nat → K} {pv : Nat → Nat}
variable {cols : Nat}
variable {M : Nat → Nat → K}
end lin
end Go.Proofs.Ytdcbmdmlhjemmaa
namespace Go.Proofs.Ytdcbmdmlhjemmaa
section fz
variable {p : Nat} [NeZero p]
def fz (p : Nat) [NeZero p] (x : Nat) : Fin p := Fin.ofNat p x
end fz
def ent (M : List (List Nat)) (i j : Nat) : Nat := (M.getD i []).getD j 0
section mv
variable {p n w : Nat} {M : List (List Nat)}
theorem getD_mem {α : Type} {l : List α} {i : Nat} {d : α} (h : i < l.length) : l.getD i d ∈ l := by
 rw [List.getD_eq_getElem?_getD, zlb h]; exact List.getElem_mem h
theorem getD_set {α : Type} {l : List α} {i k : Nat} {x d : α} (hk : k < l.length) : (l.set k x).getD i d = if i = k then x else l.getD i d := by
 rw [List.getD_eq_getElem?_getD, List.getElem?_set, List.getD_eq_getElem?_getD]
 by_cases e : k = i
 ·subst e; rw [if_pos rfl, if_pos rfl, if_pos hk]; rfl
 ·rw [if_neg e, if_neg fun e' => e e'.symm]
end mv
section rows
variable {p w : Nat} {a b : List Nat}
end rows
section step
variable {p n w k q c h : Nat} {M : List (List Nat)} {rk : List Nat}
variable [NeZero p]
def fM (p : Nat) [NeZero p] (M : List (List Nat)) (i j : Nat) : Fin p := fz p (ent M i j)
end step
def Same (p w : Nat) [NeZero p] (M R : List (List Nat)) : Prop := (∀ i, i < M.length → Sp R.length w (fM p R) (fM p M i)) ∧ ∀ i, i < R.length → Sp M.length w (fM p M) (fM p R i)
section form
variable {p n w : Nat} {M R R' : List (List Nat)} {pv pv' : List Nat} [NeZero p]
theorem Same.refl : Same p w M M := ⟨fun _ hi => Sp.row hi, fun _ hi => Sp.row hi⟩
theorem Same.symm (h : Same p w M R) : Same p w R M := ⟨h.2, h.1⟩
theorem Same.trans (h : Same p w M R) (h' : Same p w R R') : Same p w M R' := ⟨fun i hi => Sp.trans h'.1 (h.1 i hi), fun i hi => Sp.trans h.2 (h'.2 i hi)⟩
end form
end Go.Proofs.Ytdcbmdmlhjemmaa
