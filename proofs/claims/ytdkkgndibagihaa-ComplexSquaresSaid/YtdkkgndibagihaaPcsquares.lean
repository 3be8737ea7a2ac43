/- 'ComplexSquares' returns true for every input, and each argument reads afterwards as it read before. No conditions. -/
import Derived.Test.YtdkkgndibagihaaRows
import Derived.Test.YtdkkgndibagihaaVm
set_option linter.all false
open Nat renaming reduceEqDiff → zn1, reduceLT → zn2, reduceLeDiff → zn3, reduceAdd → zn4, reduceMul → zn5, reduceSub → zn6, reduceBEq → zn7, mul_one → zn8, zero_add → zn9, one_mul → zna, le_refl → znb, zero_le → znc, add_sub_cancel_left → znd, sub_eq_zero_of_le → zne, add_assoc → znf
open Int renaming reduceToNat → zi1, reducePow → zi2
open List renaming length_append → zl1, drop_zero → zl2, take_succ_cons → zl3, take_zero → zl4, getElem?_drop → zl5, append_assoc → zl6, nil_append → zl7, cons_append → zl8, drop_succ_cons → zl9, take_of_length_le → zla, getElem?_eq_getElem → zlb, getElem?_eq_some_iff → zlc, map_cons → zld, map_nil → zle, all_eq_true → zlf

namespace Go.Proofs.Ytdkkgndibagihaa
open Go.ChangeShapes Go.WideShapes Go.ChangeAt Go.RowKit
theorem cbM_mi2 {C : List Cx} {K : Nat} (hC : CxOk K C) (hV : VAL C) (k k' : Int) : MI (idsL C k).length (idsL C k').length K (cbM C k k') where
 len := by unfold cbM; rw [List.length_map]
 row := fun r hr => by
  obtain ⟨id, hid, rfl⟩ := List.mem_map.1 hr
  obtain ⟨x, hx, hd, rfl⟩ := idsL_mem hid
  refine ⟨rowL_len _ _, fun z hz => ?_⟩
  obtain ⟨m, _, rfl⟩ := List.mem_map.1 hz
  have hb : bOf C x.id = x.b := by unfold bOf; rw [hV.find hx]; rfl
  rw [hb]
  exact cfn_fits (hV.faces x hx).vg (hC.all x hx).cf m
set_option maxHeartbeats 8000000 in
set_option maxRecDepth 8000 in
theorem lsquares_s {C : List Cx} {xs : List V} {xn : Nat} (hG : Good C) (hl : C.length ≤ 12) (cm : Spec Try.prog 12 [.im xs xn] (cxV C)) : Spec Try.prog 7 [.im xs xn] (.sc (.bool true)) := by
 have hC := hG.ok
 have hV := hG.val
 have cs := sanity_s
 have hCl := hC.len
 unfold cxV at cm
 refine qF Try.func7 Try.ntmps7 fun B hB => ?_
 refine qW ?_
 refine SC.loop (fun j : Nat => ⟨[(3, .sc (.bool true)), (4, .im (cxs C) C.length), (5, .sc (.int .i64 ((j : Nat) + 1)))], [], 0, 62⟩) (fun j => j ≤ 4) (fun j => 4 - j) 0 ?_ ?_ ?_
 ·exact qLc
 ·exact znc _
 rintro j hj K0 hK0
 by_cases hc : j < 4
 ·have q1 : decide ((j : Int) + 1 ≤ 4) = true := decide_eq_true (by omega)
  obtain ⟨k, hk⟩ : ∃ k : Int, k = (j : Int) + 1 := ⟨_, rfl⟩
  obtain ⟨k1, hk1⟩ : ∃ k1 : Int, k1 = k - 1 := ⟨_, rfl⟩
  obtain ⟨k2, hk2⟩ : ∃ k2 : Int, k2 = k - 2 := ⟨_, rfl⟩
  have m0 := cbM_mi2 hC hV k k1
  have m1 := cbM_mi2 hC hV k1 k2
  have l0 := idsL_len C k
  have l1 := idsL_len C k1
  have l2 := idsL_len C k2
  have c1 := boundary_s (k := k) (k' := k1) hC hV (by rw [hk1]; exact wi64 _ (by omega) (by omega))
  have c2 := boundary_s (k := k1) (k' := k2) hC hV (by rw [hk2, hk1]; exact (wi64 _ (by omega) (by omega)).trans (by omega))
  have c3 := rcells_s (k := k) hCl
  have c4 := rcells_s (k := k1) hCl
  have c5 := rcells_s (k := k2) hCl
  have c6 := isized_s m0 (by omega) (by omega) (by omega)
  have c7 := isized_s m1 (by omega) (by omega) (by omega)
  have c8 := rprod_s m0 m1 (by omega) (by omega) (by omega) (by omega)
  have c9 := rnewv_s (idsL C k).length (idsL C k2).length (by omega) (by omega)
  rw [mul_zero hV hk1 (by omega)] at c8
  have mz : MI (idsL C k).length (idsL C k2).length 1 (zeroL (idsL C k).length (idsL C k2).length) := by
   rw [mkM_zero]; exact mk_mi fun _ _ _ _ => by unfold Fits; decide
  have c10 := isame_s mz (by omega) (by omega) (by omega)
  have e0 := m0.len
  have e1 := m1.len
  have e2 := mz.len
  clear m0 m1 mz
  unfold nsV at c3 c4 c5
  unfold mat at c1 c2 c6 c7 c8 c9 c10
  rw [e0] at c1 c6 c8
  rw [e1] at c2 c7 c8
  rw [e2] at c8 c9 c10
  unfold cxV at c1 c2 c3 c4 c5
  generalize (idsL C k2).length = n2 at *
  generalize (idsL C k1).length = n1 at *
  generalize (idsL C k).length = n0 at *
  generalize imR n1 (rI (cbM C k k1)) = M0 at *
  generalize imR n2 (rI (cbM C k1 k2)) = M1 at *
  generalize imR n2 (rI (zeroL n0 n2)) = Z at *
  have f1 : k - 1 = k1 := hk1.symm
  have f2 : k - 2 = k2 := hk2.symm
  have h1 : -10 < k := by omega
  have h2 : k < 10 := by omega
  rw [← hk] at q1 ⊢
  clear hk1 hk2
  have f3 : k + 1 = ((j + 1 : Nat) : Int) + 1 := by omega
  refine qWf (Q3 @q1 @f1 @f2) ?_
  rw [f3]
  refine hK0 _ (j + 1) ?_ (by omega) (by omega)
  exact qLc
 ·have q1 : decide ((j : Int) + 1 ≤ 4) = false := decide_eq_false (by omega)
  refine qWf @q1 ?_
  exact qE Try.results7
theorem spec_all (xs : List V) (h : Shp.Vals [.slc (.st [.int .u8, .int .u8, .slc (.int .i8)])] xs) : Spec Try.prog 7 xs (.sc (.bool true)) := by
 obtain ⟨x0, ys0, rfl, h0, rfl⟩ := h
 obtain ⟨l, rfl, hl, hx⟩ := rws_val h0
 obtain ⟨C, cm, hG, hC⟩ := lmade_ex hl hx
 exact lsquares_s hG hC cm
theorem own : ownKnob Try.prog.godebug = none := by kernel_rfl
theorem laidOut : laidOutB Try.prog = true := by kernel_rfl
set_option maxRecDepth 100000 in
theorem law_lifted (os : Os) (started : os.Started) (H : Type) (enc : TypeId × Value → H) :
  ReturnsInHanded {} Try.checked os 7 .any (Rows.complexSquaresSpec.pre6 enc Try.prog Try.f7 Rows.complexSquaresRow.domain false) (Rows.complexSquaresSpec.post enc Try.prog Try.f7 false true false false) := by
 refine returnsInHanded_of_change (C := Try.checked) own started (by kernel_rfl) Try.func7
  (ChangeSpec.witness6 (enc := enc) (C := Try.checked) false ⟨#[], #[.slice none 0 0], []⟩ 8 (by kernel_rfl) (by kernel_rfl) (by kernel_rfl) (by kernel_rfl)) ?_
 intro W base args ds gs before hval0 hW hcnd _
 have hW' := hW
 obtain ⟨p, q, hA0, hV, rfl, hfz, hnd⟩ := hW
 obtain ⟨hl, hc⟩ := law_calls (enc := enc) [.slc (.st [.int .u8, .int .u8, .slc (.int .i8)])] (by kernel_rfl) hval0 hA0 (fun g cs h => by cases h) spec_all
 refine hc.mono fun e W' ⟨he, hb⟩ => ?_
 subst he
 rw [show Try.f7.params.size = 1 by kernel_rfl] at hl
 obtain ⟨d0, rfl⟩ : ∃ d0, ds = [d0] := by
  match ds, hl with
  | [a0], _ => exact ⟨a0, rfl⟩
 exact ⟨_, rfl, law_post laidOut (by kernel_rfl) (by kernel_rfl) Try.underlying4 rfl rfl hW' hb⟩
theorem law_holds : Rows.ComplexSquaresSaid :=
 OpenClaim.holds_of_wide 7 Try.f7 rfl rfl rfl rfl rfl rfl rfl ⟨rfl, rfl, rfl, rfl, rfl⟩ rfl rfl rfl rfl rfl (by kernel_rfl) Try.func7 (by kernel_rfl)
  (of_decide_eq_true (by kernel_rfl)) (by unfold Func.isWrapper; first | (rw [if_pos (by decide +kernel)]; kernel_rfl) | (rw [if_neg (by decide +kernel)]; exact ⟨rfl, rfl⟩))
  (fun os started H enc _ => law_lifted os started H enc)
#print axioms law_holds
end Go.Proofs.Ytdkkgndibagihaa
