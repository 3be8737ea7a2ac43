/- 'ComplexRemoves' returns true for every input, and each argument reads afterwards as it read before. No conditions. -/
import Derived.Test.YtdkkgndibagihaaRows
import Derived.Test.YtdkkgndibagihaaVm
set_option linter.all false
open Nat renaming reduceEqDiff → zn1, reduceLT → zn2, reduceLeDiff → zn3, reduceAdd → zn4, reduceMul → zn5, reduceSub → zn6, reduceBEq → zn7, mul_one → zn8, zero_add → zn9, one_mul → zna, le_refl → znb, zero_le → znc, add_sub_cancel_left → znd, sub_eq_zero_of_le → zne, add_assoc → znf
open Int renaming reduceToNat → zi1, reducePow → zi2
open List renaming length_append → zl1, drop_zero → zl2, take_succ_cons → zl3, take_zero → zl4, getElem?_drop → zl5, append_assoc → zl6, nil_append → zl7, cons_append → zl8, drop_succ_cons → zl9, take_of_length_le → zla, getElem?_eq_getElem → zlb, getElem?_eq_some_iff → zlc, map_cons → zld, map_nil → zle, all_eq_true → zlf

namespace Go.Proofs.Ytdkkgndibagihaa
open Go.ChangeShapes Go.WideShapes Go.ChangeAt Go.RowKit
theorem CxOk.rem {C : List Cx} {K : Nat} (hC : CxOk K C) (id : Int) : CxOk K (remL C id) := ⟨Nat.le_trans (List.length_filter_le _ _) hC.len, fun z hz => hC.all z (rem_mem.1 hz).1⟩
theorem same_rem {C : List Cx} (hC : CxOk 50000000001 C) (hV : VAL C) (id : Int) : Spec Try.prog 32 [cxV (if remE C id = 0 then remL C id else []), cxV (if remE C id = 0 then remL C id else [])] (.sc (.bool true)) := by
 by_cases h : remE C id = 0
 ·rw [if_pos h]
  have hu : usesL C id = false := by
   unfold remE at h
   cases hu : usesL C id with
   | false => rfl
   | true => rw [hu] at h; split at h <;> simp at h
  exact rsame25_s (hC.rem id).len (plain_of (hC.rem id) (hV.rem hu)) (by omega)
 ·rw [if_neg h]
  exact rsame25_s (znc _) (fun x hx => by cases hx) (K := 0) (by omega)
set_option maxHeartbeats 16000000 in
set_option maxRecDepth 8000 in
theorem lremoves_s {C : List Cx} {id : Int} {xs : List V} {xn : Nat} (hG : Good C) (hl : C.length ≤ 12) (hid : -128 ≤ id ∧ id ≤ 127) (cm : Spec Try.prog 12 [.im xs xn] (cxV C)) :
  Spec Try.prog 6 [.im xs xn, .sc (.int .i8 id)] (.sc (.bool true)) := by
 have hC := hG.ok
 have hV := hG.val
 have cs := sanity_s
 have hCl := hC.len
 have cS := rsame25_s hCl (plain_of hC hV) (by omega)
 have cS2 := same_rem hC hV id
 have cr := remove_s (id := id) hV.srt hC
 have crr := rremove_s (id := id) hC
 unfold cxV at cm
 refine qF Try.func6 Try.ntmps6 fun B hB => ?_
 refine qW ?_
 refine SC.loop (fun j : Nat => ⟨[(0, .im xs xn), (1, .sc (.int .i8 id)), (5, .sc (.bool true)), (6, .im (cxs C) C.length), (7, .sc (.int .i64 ((j : Nat) - 3)))], [], 0, 98⟩) (fun j => j ≤ 34) (fun j => 34 - j) 0 ?_ ?_ ?_
 ·exact qLc
 ·exact znc _
 rintro j hj K0 hK0
 by_cases hc : j < 34
 ·have q1 : decide ((j : Int) - 3 < 31) = true := decide_eq_true (by omega)
  obtain ⟨n, hn⟩ : ∃ n : Int, n = (j : Int) - 3 := ⟨_, rfl⟩
  have hnb : -3 ≤ n ∧ n ≤ 30 := by omega
  have f3 : n + 1 = ((j + 1 : Nat) : Int) - 3 := by omega
  rw [← hn] at q1 ⊢
  have c1 := remove_s (id := n) hV.srt hC
  have c2 := rcfind_s (id := n) hCl
  have c3 := ruses_s (id := n) hC
  clear cS cS2 cr crr
  unfold remV at c1
  cases hf : findL C n with
  | none =>
   have e0 : remE C n = 250 := by unfold remE; rw [hf]; rfl
   rw [e0, if_neg (by omega)] at c1
   rw [hf] at c2
   generalize usesL C n = us at *
   generalize (none : Option Cx).getD cx0 = y at c2
   obtain ⟨y1, y2, y3⟩ := y
   simp only [Option.isSome_none] at c2
   unfold cxC cxV at *
   simp only at c1 c2 c3
   refine qWf @q1 ?_
   rw [f3]
   refine hK0 _ (j + 1) ?_ (by omega) (by omega)
   exact qLc
  | some y =>
   rw [hf] at c2
   simp only [Option.getD_some, Option.isSome_some] at c2
   cases hu : usesL C n with
   | true =>
    have e0 : remE C n = 253 := by unfold remE; rw [hf, hu]; rfl
    rw [e0, if_neg (by omega)] at c1
    rw [hu] at c3
    obtain ⟨y1, y2, y3⟩ := y
    unfold cxC cxV at *
    simp only at c1 c2 c3
    refine qWf @q1 ?_
    rw [f3]
    refine hK0 _ (j + 1) ?_ (by omega) (by omega)
    exact qLc
   | false =>
    have e0 : remE C n = 0 := by unfold remE; rw [hf, hu]; rfl
    rw [e0, if_pos rfl] at c1
    rw [hu] at c3
    have c4 := rvalid_t (hC.rem n) (hV.rem hu) (by omega)
    have hrl := rem_len hV.srt hf
    have q2 : (((remL C n).length : Int) != (C.length : Int) - 1) = false := by rw [bne_eq_false_iff_eq]; omega
    generalize remL C n = L at *
    obtain ⟨y1, y2, y3⟩ := y
    unfold cxC cxV at *
    simp only at c1 c2 c3 c4
    refine qWf (Q2 @q1 @q2) ?_
    rw [f3]
    refine hK0 _ (j + 1) ?_ (by omega) (by omega)
    exact qLc
 ·have q1 : decide ((j : Int) - 3 < 31) = false := decide_eq_false (by omega)
  unfold remV at cr crr
  generalize (if remE C id = 0 then remL C id else []) = L at *
  generalize remE C id = e at *
  unfold cxV at *
  refine qWf @q1 ?_
  exact qE Try.results6
theorem spec_all (xs : List V) (h : Shp.Vals [.slc (.st [.int .u8, .int .u8, .slc (.int .i8)]), .int .i8] xs) : Spec Try.prog 6 xs (.sc (.bool true)) := by
 obtain ⟨x0, ys0, rfl, h0, x1, ys1, rfl, ⟨n, rfl, hn⟩, rfl⟩ := h
 obtain ⟨l, rfl, hl, hx⟩ := rws_val h0
 obtain ⟨C, cm, hG, hC⟩ := lmade_ex hl hx
 exact lremoves_s hG hC (i8w n hn) cm
theorem own : ownKnob Try.prog.godebug = none := by kernel_rfl
theorem laidOut : laidOutB Try.prog = true := by kernel_rfl
set_option maxRecDepth 100000 in
theorem law_lifted (os : Os) (started : os.Started) (H : Type) (enc : TypeId × Value → H) :
  ReturnsInHanded {} Try.checked os 6 .any (Rows.complexRemovesSpec.pre6 enc Try.prog Try.f6 Rows.complexRemovesRow.domain false) (Rows.complexRemovesSpec.post enc Try.prog Try.f6 false true false false) := by
 refine returnsInHanded_of_change (C := Try.checked) own started (by kernel_rfl) Try.func6
  (ChangeSpec.witness6 (enc := enc) (C := Try.checked) false ⟨#[], #[.slice none 0 0, .int .i8 0], []⟩ 8 (by kernel_rfl) (by kernel_rfl) (by kernel_rfl) (by kernel_rfl)) ?_
 intro W base args ds gs before hval0 hW hcnd _
 have hW' := hW
 obtain ⟨p, q, hA0, hV, rfl, hfz, hnd⟩ := hW
 obtain ⟨hl, hc⟩ := law_calls (enc := enc) [.slc (.st [.int .u8, .int .u8, .slc (.int .i8)]), .int .i8] (by kernel_rfl) hval0 hA0 (fun g cs h => by cases h) spec_all
 refine hc.mono fun e W' ⟨he, hb⟩ => ?_
 subst he
 rw [show Try.f6.params.size = 2 by kernel_rfl] at hl
 obtain ⟨d0, d1, rfl⟩ : ∃ d0 d1, ds = [d0, d1] := by
  match ds, hl with
  | [a0, a1], _ => exact ⟨a0, a1, rfl⟩
 exact ⟨_, rfl, law_post laidOut (by kernel_rfl) (by kernel_rfl) Try.underlying4 rfl rfl hW' hb⟩
theorem law_holds : Rows.ComplexRemovesSaid :=
 OpenClaim.holds_of_wide 6 Try.f6 rfl rfl rfl rfl rfl rfl rfl ⟨rfl, rfl, rfl, rfl, rfl⟩ rfl rfl rfl rfl rfl (by kernel_rfl) Try.func6 (by kernel_rfl)
  (of_decide_eq_true (by kernel_rfl)) (by unfold Func.isWrapper; first | (rw [if_pos (by decide +kernel)]; kernel_rfl) | (rw [if_neg (by decide +kernel)]; exact ⟨rfl, rfl⟩))
  (fun os started H enc _ => law_lifted os started H enc)
#print axioms law_holds
end Go.Proofs.Ytdkkgndibagihaa
