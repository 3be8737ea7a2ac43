/- 'UpdateRankOnes' returns true for every input, and each argument reads afterwards as it read before. No conditions. -/
import Derived.Test.YtannldafjkjjbaaGreatRows
import Derived.Test.YtannldafjkjjbaaGreatVn
set_option linter.all false
set_option maxHeartbeats 16000000
open Nat renaming reduceEqDiff → zn1, reduceLT → zn2, reduceLeDiff → zn3, reduceAdd → zn4, reduceMul → zn5, reduceSub → zn6, reduceBEq → zn7, mul_one → zn8, zero_add → zn9, one_mul → zna, le_refl → znb, zero_le → znc, add_sub_cancel_left → znd, sub_eq_zero_of_le → zne, add_assoc → znf
open Int renaming reduceToNat → zi1, reducePow → zi2
open List renaming length_append → zl1, drop_zero → zl2, take_succ_cons → zl3, take_zero → zl4, getElem?_drop → zl5, append_assoc → zl6, nil_append → zl7, cons_append → zl8, drop_succ_cons → zl9, take_of_length_le → zla, getElem?_eq_getElem → zlb, getElem?_eq_some_iff → zlc, map_cons → zld, map_nil → zle, all_eq_true → zlf

namespace Go.Proofs.YtannldafjkjjbaaGreat
open Go.ChangeShapes Go.WideShapes Go.ChangeAt Go.RowKit
set_option maxRecDepth 20000 in
theorem luranks_s {h w : Nat} {A : List (List Int)} {X : V} {u v : List Int} (hh : h < 5) (hw : w < 5) (hA : Bm 9 h w A) (hX : ∃ (a b : Nat) (cs : List V) (n : Nat), X = .ag [.sc (.int .u8 a), .sc (.int .u8 b), .im cs n])
  (hbu : ∀ x ∈ u, -128 ≤ x ∧ x ≤ 127) (hu : u.length ≤ 9223372036854775807) (hb : ∀ x ∈ v, -128 ≤ x ∧ x ≤ 127) (hv : v.length ≤ 9223372036854775807) (x1 : Spec Tryz.prog 13 [X] (mat w A)) :
  Spec Tryz.prog 6 [X, .im (bv8 u) u.length, .im (bv8 v) v.length] (.sc (.bool true)) := by
 have cs := sanity_s
 have hA5 := hA.mono (show 9 ≤ 511 by omega)
 obtain ⟨l, hk⟩ := kp_ex hA5 om om
 have c1 := start_ok hk om
 have r0 := row_s (n := u.length) hbu hu
 have r1 := row_s (n := v.length) hb hv
 have gb0 := bv8_len u
 have gb := bv8_len v
 obtain ⟨k, hm0⟩ : ∃ m, min u.length 8 = m := ⟨_, rfl⟩
 obtain ⟨m, hm⟩ : ∃ m, min v.length 8 = m := ⟨_, rfl⟩
 rw [hm0] at r0
 rw [hm] at r1
 have hql := rowD_len u k
 have hqs := rowD_small (n := k) hbu
 have hrl := rowD_len v m
 have hrs := rowD_small (n := m) hb
 have hm8 : m ≤ 8 ∧ k ≤ 8 := by omega
 generalize rowD u k = q at *
 generalize rowD v m = r at *
 have hq5 : ∀ x ∈ q, x.natAbs ≤ 511 := fun x hx => Nat.le_trans (hqs x hx) om
 have hr5 : ∀ x ∈ r, x.natAbs ≤ 511 := fun x hx => Nat.le_trans (hrs x hx) om
 obtain ⟨e, he⟩ : ∃ e : Int, e = if q.length = h ∧ r.length = w then 0 else 50 := ⟨_, rfl⟩
 have c2 := rraised_s (hA.mi om) om om om (fits_small hq5) (fits_small hr5) he om om
 rw [hrl, hql] at c2
 obtain ⟨xa, xb, xs, xn, rfl⟩ := hX
 by_cases h0 : k = h ∧ m = w
 ·rw [if_pos om] at he
  subst he
  rw [if_pos rfl] at c2
  obtain ⟨rfl, rfl⟩ := h0
  have hB := (hA.rai (u := q) (v := r) hqs hrs).mono (show 9 + 81 ≤ 511 by omega)
  obtain ⟨l1, hk1⟩ := kp_ex hB om om
  have c3 := rai_ok hk hk1 om hql hrl hq5 hr5
  have c4 := outcome_s hk1 om hB
  have c5 := hk.keeps om hA5
  obtain ⟨v0, v1, v2, v3, v4, v5, v6, v7, v8, v9, v10, v11, v12, v13, v14, v15, v16, v17, e1⟩ := kept_op k m A l
  obtain ⟨w0, w1, w2, w3, w4, w5, w6, w7, w8, w9, w10, w11, w12, w13, w14, w15, w16, w17, e3⟩ := kept_op k m (raiI k m A q r) l1
  obtain ⟨u1, u2, u3, u4, e2⟩ := mat_op m A
  obtain ⟨t1, t2, t3, t4, e4⟩ := mat_op m (raiI k m A q r)
  simp only [e1, e2, e3, e4] at c1 c2 c3 c4 c5 x1
  clear e1 e2 e3 e4 hk hA hk1 hB hA5
  generalize ivR r = R at *
  generalize ivR q = Q at *
  refine qF Tryz.func6 Tryz.ntmps6 fun B hB => ?_
  refine qWf (Q2 @gb @gb0) ?_
  exact qE Tryz.results6
 ·rw [if_neg om] at he
  subst he
  rw [if_neg om] at c2
  have c3 := rai_no (u := q) (v := r) hk om om om hq5 hr5 om
  rw [hrl, hql] at c3
  obtain ⟨v0, v1, v2, v3, v4, v5, v6, v7, v8, v9, v10, v11, v12, v13, v14, v15, v16, v17, e1⟩ := kept_op h w A l
  obtain ⟨u1, u2, u3, u4, e2⟩ := mat_op w A
  simp only [e1, e2, keptZ_eq, matZ_eq] at c1 c2 c3 x1
  clear e1 e2 hk hA hA5
  generalize ivR r = R at *
  generalize ivR q = Q at *
  refine qF Tryz.func6 Tryz.ntmps6 fun B hB => ?_
  refine qWf (Q2 @gb @gb0) ?_
  exact qE Tryz.results6
theorem spec_all (xs : List V) (h : Shp.Vals [.st [.int .u8, .int .u8, .slc (.int .i8)], .slc (.int .i8), .slc (.int .i8)] xs) : Spec Tryz.prog 6 xs (.sc (.bool true)) := by
 obtain ⟨x0, ys0, rfl, h0, x1, ys1, rfl, h1, x2, ys2, rfl, h2, rfl⟩ := h
 obtain ⟨a, b, l, rfl, ha, hb, hx, hl⟩ := raw5_val h0
 obtain ⟨u, rfl, hu, hul⟩ := i8s_val h1
 obtain ⟨v, rfl, hv, hvl⟩ := i8s_val h2
 exact luranks_s (Nat.mod_lt _ om) (Nat.mod_lt _ om) (filL_bm hx) ⟨_, _, _, _, rfl⟩ hu hul hv hvl (rmade_s ha hb hx hl)
theorem own : ownKnob Tryz.prog.godebug = none := by kernel_rfl
theorem laidOut : laidOutB Tryz.prog = true := by kernel_rfl
set_option maxRecDepth 100000 in
theorem law_lifted (os : Os) (started : os.Started) (H : Type) (enc : TypeId × Value → H) :
  ReturnsInHanded {} Tryz.checked os 6 .any (Rows.updateRankOnesSpec.pre6 enc Tryz.prog Tryz.f6 Rows.updateRankOnesRow.domain false) (Rows.updateRankOnesSpec.post enc Tryz.prog Tryz.f6 false true false false) := by
 refine returnsInHanded_of_change (C := Tryz.checked) own started (by kernel_rfl) Tryz.func6
  (ChangeSpec.witness6 (enc := enc) (C := Tryz.checked) false ⟨#[], #[.agg #[.int .u8 0, .int .u8 0, .slice none 0 0], .slice none 0 0, .slice none 0 0], []⟩ 8 (by kernel_rfl) (by kernel_rfl) (by kernel_rfl) (by kernel_rfl)) ?_
 intro W base args ds gs before hval0 hW hcnd _
 have hW' := hW
 obtain ⟨p, q, hA0, hV, rfl, hfz, hnd⟩ := hW
 obtain ⟨hl, hc⟩ := law_calls (enc := enc) [.st [.int .u8, .int .u8, .slc (.int .i8)], .slc (.int .i8), .slc (.int .i8)] (by kernel_rfl) hval0 hA0 (fun g cs h => by cases h) spec_all
 refine hc.mono fun e W' ⟨he, hb⟩ => ?_
 subst he
 rw [show Tryz.f6.params.size = 3 by kernel_rfl] at hl
 obtain ⟨d0, d1, d2, rfl⟩ : ∃ d0 d1 d2, ds = [d0, d1, d2] := by
  match ds, hl with
  | [a0, a1, a2], _ => exact ⟨a0, a1, a2, rfl⟩
 exact ⟨_, rfl, law_post laidOut (by kernel_rfl) (by kernel_rfl) Tryz.underlying4 rfl rfl hW' hb⟩
theorem law_holds : Rows.UpdateRankOnesSaid :=
 OpenClaim.holds_of_wide 6 Tryz.f6 rfl rfl rfl rfl rfl rfl rfl ⟨rfl, rfl, rfl, rfl, rfl⟩ rfl rfl rfl rfl rfl (by kernel_rfl) Tryz.func6 (by kernel_rfl)
  (of_decide_eq_true (by kernel_rfl)) (by unfold Func.isWrapper; first | (rw [if_pos (by decide +kernel)]; kernel_rfl) | (rw [if_neg (by decide +kernel)]; exact ⟨rfl, rfl⟩))
  (fun os started H enc _ => law_lifted os started H enc)
#print axioms law_holds
end Go.Proofs.YtannldafjkjjbaaGreat
