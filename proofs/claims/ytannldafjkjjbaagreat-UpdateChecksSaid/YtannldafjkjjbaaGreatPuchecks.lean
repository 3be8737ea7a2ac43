/- 'UpdateChecks' returns true for every input, and each argument reads afterwards as it read before. No conditions. -/
import Derived.Test.YtannldafjkjjbaaGreatRows
import Derived.Test.YtannldafjkjjbaaGreatVm
import Derived.Test.YtannldafjkjjbaaGreatVn
set_option linter.all false
set_option maxHeartbeats 16000000
open Nat renaming reduceEqDiff → zn1, reduceLT → zn2, reduceLeDiff → zn3, reduceAdd → zn4, reduceMul → zn5, reduceSub → zn6, reduceBEq → zn7, mul_one → zn8, zero_add → zn9, one_mul → zna, le_refl → znb, zero_le → znc, add_sub_cancel_left → znd, sub_eq_zero_of_le → zne, add_assoc → znf
open Int renaming reduceToNat → zi1, reducePow → zi2
open List renaming length_append → zl1, drop_zero → zl2, take_succ_cons → zl3, take_zero → zl4, getElem?_drop → zl5, append_assoc → zl6, nil_append → zl7, cons_append → zl8, drop_succ_cons → zl9, take_of_length_le → zla, getElem?_eq_getElem → zlb, getElem?_eq_some_iff → zlc, map_cons → zld, map_nil → zle, all_eq_true → zlf

namespace Go.Proofs.YtannldafjkjjbaaGreat
open Go.ChangeShapes Go.WideShapes Go.ChangeAt Go.RowKit
theorem four_val {x : V} (h : (Shp.arr 4 (.int .u8)).Val x) : ∃ a b c d : Nat, x = .ag [.sc (.int .u8 a), .sc (.int .u8 b), .sc (.int .u8 c), .sc (.int .u8 d)] ∧ a ≤ 255 ∧ b ≤ 255 ∧ c ≤ 255 ∧ d ≤ 255 := by
 obtain ⟨ys, rfl, yss, hl, rfl, hr⟩ := h
 obtain ⟨l, h1, h2, h3⟩ := reps_ints hr
 match l, h2 with
 | [a, b, c, d], _ =>
  obtain ⟨a, rfl, ha⟩ := wf_nat u8_wf (h3 a (by simp))
  obtain ⟨b, rfl, hb⟩ := wf_nat u8_wf (h3 b (by simp))
  obtain ⟨c, rfl, hc⟩ := wf_nat u8_wf (h3 c (by simp))
  obtain ⟨d, rfl, hd⟩ := wf_nat u8_wf (h3 d (by simp))
  exact ⟨a, b, c, d, by rw [h1]; rfl, ha, hb, hc, hd⟩
 | [], h2 => simp at h2; omega
 | [_], h2 => simp at h2; omega
 | [_, _], h2 => simp at h2; omega
 | [_, _, _], h2 => simp at h2; omega
 | _ :: _ :: _ :: _ :: _ :: _, h2 => simp at h2; omega
theorem dec_off {n a b : Nat} (h : decide (n = a) = true) (q : a ≠ b) : decide (n = b) = false := by
 have h := of_decide_eq_true h
 exact decide_eq_false om
theorem luchecks_s {h w : Nat} {A : List (List Int)} {X : V} {w0 w1 w2 w3 : Nat} {c : Int} (hh : h < 5) (hw : w < 5) (hA : Bm 9 h w A) (hX : ∃ (a b : Nat) (cs : List V) (n : Nat), X = .ag [.sc (.int .u8 a), .sc (.int .u8 b), .im cs n])
  (hw0 : w0 < 256) (hw1 : w1 < 256) (hw2 : w2 < 256) (hw3 : w3 < 256) (hc : -128 ≤ c ∧ c ≤ 127)
  (x1 : Spec Tryz.prog 13 [X] (mat w A)) :
  Spec Tryz.prog 11 [X, .ag [.sc (.int .u8 w0), .sc (.int .u8 w1), .sc (.int .u8 w2), .sc (.int .u8 w3)], .sc (.int .i8 c)] (.sc (.bool true)) := by
 have hA := hA.mono (show 9 ≤ 511 by omega)
 obtain ⟨l, hk⟩ := kp_ex hA om om
 have d := @dec_off (w0 % 6)
 exact checks5 ⟨rfl, rfl, rfl, rfl⟩ (fun e => ⟨d e om, d e om, d e om⟩) (fun e => ⟨d e om, d e om, d e om⟩) (fun e => ⟨d e om, d e om, d e om⟩) (fun e => ⟨d e om, d e om, d e om⟩) hw0 hw1 hw2 hw3 hc hk om hX x1 sanity_s (start_ok hk om)
theorem spec_all (xs : List V) (h : Shp.Vals [.st [.int .u8, .int .u8, .slc (.int .i8)], .arr 4 (.int .u8), .int .i8] xs) : Spec Tryz.prog 11 xs (.sc (.bool true)) := by
 obtain ⟨x0, ys0, rfl, h0, x1, ys1, rfl, h1, x2, ys2, rfl, h2, rfl⟩ := h
 obtain ⟨a, b, l, rfl, ha, hb, hx, hl⟩ := raw5_val h0
 obtain ⟨p, q, r, s, rfl, hp, hq, hr, hs⟩ := four_val h1
 obtain ⟨i, rfl, hi⟩ := h2
 exact luchecks_s (Nat.mod_lt _ om) (Nat.mod_lt _ om) (filL_bm hx) ⟨_, _, _, _, rfl⟩ om om om om (i8_wf i hi) (rmade_s ha hb hx hl)
theorem own : ownKnob Tryz.prog.godebug = none := by kernel_rfl
theorem laidOut : laidOutB Tryz.prog = true := by kernel_rfl
set_option maxRecDepth 100000 in
theorem law_lifted (os : Os) (started : os.Started) (H : Type) (enc : TypeId × Value → H) :
  ReturnsInHanded {} Tryz.checked os 11 .any (Rows.updateChecksSpec.pre6 enc Tryz.prog Tryz.f11 Rows.updateChecksRow.domain false) (Rows.updateChecksSpec.post enc Tryz.prog Tryz.f11 false true false false) := by
 refine returnsInHanded_of_change (C := Tryz.checked) own started (by kernel_rfl) Tryz.func11
  (ChangeSpec.witness6 (enc := enc) (C := Tryz.checked) false ⟨#[], #[.agg #[.int .u8 0, .int .u8 0, .slice none 0 0], .agg #[.int .u8 0, .int .u8 0, .int .u8 0, .int .u8 0], .int .i8 0], []⟩ 8 (by kernel_rfl) (by kernel_rfl) (by kernel_rfl) (by kernel_rfl)) ?_
 intro W base args ds gs before hval0 hW hcnd _
 have hW' := hW
 obtain ⟨p, q, hA0, hV, rfl, hfz, hnd⟩ := hW
 obtain ⟨hl, hc⟩ := law_calls (enc := enc) [.st [.int .u8, .int .u8, .slc (.int .i8)], .arr 4 (.int .u8), .int .i8] (by kernel_rfl) hval0 hA0 (fun g cs h => by cases h) spec_all
 refine hc.mono fun e W' ⟨he, hb⟩ => ?_
 subst he
 rw [show Tryz.f11.params.size = 3 by kernel_rfl] at hl
 obtain ⟨d0, d1, d2, rfl⟩ : ∃ d0 d1 d2, ds = [d0, d1, d2] := by
  match ds, hl with
  | [a0, a1, a2], _ => exact ⟨a0, a1, a2, rfl⟩
 exact ⟨_, rfl, law_post laidOut (by kernel_rfl) (by kernel_rfl) Tryz.underlying4 rfl rfl hW' hb⟩
theorem law_holds : Rows.UpdateChecksSaid :=
 OpenClaim.holds_of_wide 11 Tryz.f11 rfl rfl rfl rfl rfl rfl rfl ⟨rfl, rfl, rfl, rfl, rfl⟩ rfl rfl rfl rfl rfl (by kernel_rfl) Tryz.func11 (by kernel_rfl)
  (of_decide_eq_true (by kernel_rfl)) (by unfold Func.isWrapper; first | (rw [if_pos (by decide +kernel)]; kernel_rfl) | (rw [if_neg (by decide +kernel)]; exact ⟨rfl, rfl⟩))
  (fun os started H enc _ => law_lifted os started H enc)
#print axioms law_holds
end Go.Proofs.YtannldafjkjjbaaGreat
