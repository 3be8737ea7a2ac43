/- 'UpdateDeletes' returns true for every input, and each argument reads afterwards as it read before. No conditions. -/
import Derived.Test.YtannldafjkjjbaaGreatRows
import Derived.Test.YtannldafjkjjbaaGreatVn
set_option linter.all false
set_option maxHeartbeats 16000000
open Nat renaming reduceEqDiff → zn1, reduceLT → zn2, reduceLeDiff → zn3, reduceAdd → zn4, reduceMul → zn5, reduceSub → zn6, reduceBEq → zn7, mul_one → zn8, zero_add → zn9, one_mul → zna, le_refl → znb, zero_le → znc, add_sub_cancel_left → znd, sub_eq_zero_of_le → zne, add_assoc → znf
open Int renaming reduceToNat → zi1, reducePow → zi2
open List renaming length_append → zl1, drop_zero → zl2, take_succ_cons → zl3, take_zero → zl4, getElem?_drop → zl5, append_assoc → zl6, nil_append → zl7, cons_append → zl8, drop_succ_cons → zl9, take_of_length_le → zla, getElem?_eq_getElem → zlb, getElem?_eq_some_iff → zlc, map_cons → zld, map_nil → zle, all_eq_true → zlf

namespace Go.Proofs.YtannldafjkjjbaaGreat
open Go.ChangeShapes Go.WideShapes Go.ChangeAt Go.RowKit
set_option maxRecDepth 20000 in
theorem ludeletes_s {h w : Nat} {A : List (List Int)} {X : V} {i : Int} (hh : h < 5) (hw : w < 5) (hA : Bm 9 h w A) (hX : ∃ (a b : Nat) (cs : List V) (n : Nat), X = .ag [.sc (.int .u8 a), .sc (.int .u8 b), .im cs n])
  (hi : -128 ≤ i ∧ i ≤ 127) (x1 : Spec Tryz.prog 13 [X] (mat w A)) :
  Spec Tryz.prog 5 [X, .sc (.int .i8 i)] (.sc (.bool true)) := by
 have cs := sanity_s
 have hA5 := hA.mono (show 9 ≤ 511 by omega)
 obtain ⟨l, hk⟩ := kp_ex hA5 om om
 have c1 := start_ok hk om
 have wi : IntKind.i64.wrap i = i := IntWalk.i64_in _ om
 have c2 := rdeleted_s (hA.mi om) om i
 obtain ⟨xa, xb, xs, xn, rfl⟩ := hX
 by_cases h0 : i < 0 ∨ (h : Int) ≤ i
 ·rw [if_pos h0, if_pos h0] at c2
  have c3 := del_no hk om h0
  obtain ⟨v0, v1, v2, v3, v4, v5, v6, v7, v8, v9, v10, v11, v12, v13, v14, v15, v16, v17, e1⟩ := kept_op h w A l
  obtain ⟨u1, u2, u3, u4, e2⟩ := mat_op w A
  simp only [e1, e2, keptZ_eq, matZ_eq] at c1 c2 c3 x1
  clear e1 e2 hk hA hA5
  refine qF Tryz.func5 Tryz.ntmps5 fun B hB => ?_
  refine qWf @wi ?_
  exact qE Tryz.results5
 ·rw [if_neg h0, if_neg h0] at c2
  obtain ⟨j, rfl⟩ : ∃ j : Nat, i = j := ⟨i.toNat, by omega⟩
  rw [Int.toNat_natCast] at c2
  have hB := (hA.del (i := j) om).mono (show 9 ≤ 511 by omega)
  obtain ⟨l1, hk1⟩ := kp_ex hB om om
  have c3 := del_ok hk hk1 om om
  have c4 := outcome_s hk1 om hB
  have c5 := hk.keeps om hA5
  obtain ⟨v0, v1, v2, v3, v4, v5, v6, v7, v8, v9, v10, v11, v12, v13, v14, v15, v16, v17, e1⟩ := kept_op h w A l
  obtain ⟨w0, w1, w2, w3, w4, w5, w6, w7, w8, w9, w10, w11, w12, w13, w14, w15, w16, w17, e3⟩ := kept_op (h - 1) w (delI A j) l1
  obtain ⟨u1, u2, u3, u4, e2⟩ := mat_op w A
  obtain ⟨t1, t2, t3, t4, e4⟩ := mat_op w (delI A j)
  simp only [e1, e2, e3, e4] at c1 c2 c3 c4 c5 x1
  clear e1 e2 e3 e4 hk hA hk1 hB hA5
  refine qF Tryz.func5 Tryz.ntmps5 fun B hB => ?_
  refine qWf @wi ?_
  exact qE Tryz.results5
theorem spec_all (xs : List V) (h : Shp.Vals [.st [.int .u8, .int .u8, .slc (.int .i8)], .int .i8] xs) : Spec Tryz.prog 5 xs (.sc (.bool true)) := by
 obtain ⟨x0, ys0, rfl, h0, x1, ys1, rfl, h1, rfl⟩ := h
 obtain ⟨a, b, l, rfl, ha, hb, hx, hl⟩ := raw5_val h0
 obtain ⟨i, rfl, hi⟩ := h1
 exact ludeletes_s (Nat.mod_lt _ om) (Nat.mod_lt _ om) (filL_bm hx) ⟨_, _, _, _, rfl⟩ (i8_wf i hi) (rmade_s ha hb hx hl)
theorem own : ownKnob Tryz.prog.godebug = none := by kernel_rfl
theorem laidOut : laidOutB Tryz.prog = true := by kernel_rfl
set_option maxRecDepth 100000 in
theorem law_lifted (os : Os) (started : os.Started) (H : Type) (enc : TypeId × Value → H) :
  ReturnsInHanded {} Tryz.checked os 5 .any (Rows.updateDeletesSpec.pre6 enc Tryz.prog Tryz.f5 Rows.updateDeletesRow.domain false) (Rows.updateDeletesSpec.post enc Tryz.prog Tryz.f5 false true false false) := by
 refine returnsInHanded_of_change (C := Tryz.checked) own started (by kernel_rfl) Tryz.func5
  (ChangeSpec.witness6 (enc := enc) (C := Tryz.checked) false ⟨#[], #[.agg #[.int .u8 0, .int .u8 0, .slice none 0 0], .int .i8 0], []⟩ 8 (by kernel_rfl) (by kernel_rfl) (by kernel_rfl) (by kernel_rfl)) ?_
 intro W base args ds gs before hval0 hW hcnd _
 have hW' := hW
 obtain ⟨p, q, hA0, hV, rfl, hfz, hnd⟩ := hW
 obtain ⟨hl, hc⟩ := law_calls (enc := enc) [.st [.int .u8, .int .u8, .slc (.int .i8)], .int .i8] (by kernel_rfl) hval0 hA0 (fun g cs h => by cases h) spec_all
 refine hc.mono fun e W' ⟨he, hb⟩ => ?_
 subst he
 rw [show Tryz.f5.params.size = 2 by kernel_rfl] at hl
 obtain ⟨d0, d1, rfl⟩ : ∃ d0 d1, ds = [d0, d1] := by
  match ds, hl with
  | [a0, a1], _ => exact ⟨a0, a1, rfl⟩
 exact ⟨_, rfl, law_post laidOut (by kernel_rfl) (by kernel_rfl) Tryz.underlying4 rfl rfl hW' hb⟩
theorem law_holds : Rows.UpdateDeletesSaid :=
 OpenClaim.holds_of_wide 5 Tryz.f5 rfl rfl rfl rfl rfl rfl rfl ⟨rfl, rfl, rfl, rfl, rfl⟩ rfl rfl rfl rfl rfl (by kernel_rfl) Tryz.func5 (by kernel_rfl)
  (of_decide_eq_true (by kernel_rfl)) (by unfold Func.isWrapper; first | (rw [if_pos (by decide +kernel)]; kernel_rfl) | (rw [if_neg (by decide +kernel)]; exact ⟨rfl, rfl⟩))
  (fun os started H enc _ => law_lifted os started H enc)
#print axioms law_holds
end Go.Proofs.YtannldafjkjjbaaGreat
