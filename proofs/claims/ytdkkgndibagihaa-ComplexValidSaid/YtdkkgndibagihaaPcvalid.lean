/- 'ComplexValid' returns true for every input, and each argument reads afterwards as it read before. No conditions. -/
import Derived.Test.YtdkkgndibagihaaRows
import Derived.Test.YtdkkgndibagihaaVm
set_option linter.all false
open Nat renaming reduceEqDiff → zn1, reduceLT → zn2, reduceLeDiff → zn3, reduceAdd → zn4, reduceMul → zn5, reduceSub → zn6, reduceBEq → zn7, mul_one → zn8, zero_add → zn9, one_mul → zna, le_refl → znb, zero_le → znc, add_sub_cancel_left → znd, sub_eq_zero_of_le → zne, add_assoc → znf
open Int renaming reduceToNat → zi1, reducePow → zi2
open List renaming length_append → zl1, drop_zero → zl2, take_succ_cons → zl3, take_zero → zl4, getElem?_drop → zl5, append_assoc → zl6, nil_append → zl7, cons_append → zl8, drop_succ_cons → zl9, take_of_length_le → zla, getElem?_eq_getElem → zlb, getElem?_eq_some_iff → zlc, map_cons → zld, map_nil → zle, all_eq_true → zlf

namespace Go.Proofs.Ytdkkgndibagihaa
open Go.ChangeShapes Go.WideShapes Go.ChangeAt Go.RowKit
set_option maxHeartbeats 16000000 in
set_option maxRecDepth 8000 in
theorem lcvalid_s {C : List Cx} {xs : List V} {xn w i k w' i' k' : Nat} {c c' : Int} (hG : Good C) (hl : C.length ≤ 12) (h1 : w < 256 ∧ i < 256 ∧ k < 256 ∧ -128 ≤ c ∧ c ≤ 127) (h2 : w' < 256 ∧ i' < 256 ∧ k' < 256 ∧ -128 ≤ c' ∧ c' ≤ 127)
  (cm : Spec Try.prog 12 [.im xs xn] (cxV C)) :
  Spec Try.prog 4 [.im xs xn, .ag [.sc (.int .u8 (w : Nat)), .sc (.int .u8 (i : Nat)), .sc (.int .u8 (k : Nat)), .sc (.int .i8 c)], .ag [.sc (.int .u8 (w' : Nat)), .sc (.int .u8 (i' : Nat)), .sc (.int .u8 (k' : Nat)), .sc (.int .i8 c')]] (.sc (.bool true)) := by
 have hC := hG.ok
 have cs := sanity_s
 obtain ⟨o1, b1⟩ := spoil_ok (w := w) (i := i) (k := k) hC (by omega) (val_spb hG.val (by omega)) (by omega) h1.2.2.2
 obtain ⟨o2, b2⟩ := spoil_ok (w := w') (i := i') (k := k') o1 (by omega) b1 (by omega) h2.2.2.2
 have c0 := pvalid_t hC hG.val (by omega)
 have c1 := spoilt_s hC h1.1 h1.2.1 h1.2.2.1 h1.2.2.2
 have c2 := spoilt_s o1 h2.1 h2.2.1 h2.2.2.1 h2.2.2.2
 obtain ⟨r1, c3, c4⟩ := two_valid o1 (by omega)
 obtain ⟨r2, c5, c6⟩ := two_valid o2 (by omega)
 clear o1 b1 o2 b2
 generalize spoilL (spoilL C w i k c) w' i' k' c' = C2 at *
 generalize spoilL C w i k c = C1 at *
 unfold cxV at *
 refine qF Try.func4 Try.ntmps4 fun B hB => ?_
 refine qW ?_
 exact qE Try.results4
theorem spec_all (xs : List V) (h : Shp.Vals [.slc (.st [.int .u8, .int .u8, .slc (.int .i8)]), .st [.int .u8, .int .u8, .int .u8, .int .i8], .st [.int .u8, .int .u8, .int .u8, .int .i8]] xs) : Spec Try.prog 4 xs (.sc (.bool true)) := by
 obtain ⟨x0, ys0, rfl, h0, x1, ys1, rfl, h1, x2, ys2, rfl, h2, rfl⟩ := h
 obtain ⟨l, rfl, hl, hx⟩ := rws_val h0
 obtain ⟨w, i, k, c, rfl, q1⟩ := sp_val h1
 obtain ⟨w', i', k', c', rfl, q2⟩ := sp_val h2
 obtain ⟨C, cm, hG, hC⟩ := lmade_ex hl hx
 exact lcvalid_s hG hC q1 q2 cm
theorem own : ownKnob Try.prog.godebug = none := by kernel_rfl
theorem laidOut : laidOutB Try.prog = true := by kernel_rfl
set_option maxRecDepth 100000 in
theorem law_lifted (os : Os) (started : os.Started) (H : Type) (enc : TypeId × Value → H) :
  ReturnsInHanded {} Try.checked os 4 .any (Rows.complexValidSpec.pre6 enc Try.prog Try.f4 Rows.complexValidRow.domain false) (Rows.complexValidSpec.post enc Try.prog Try.f4 false true false false) := by
 refine returnsInHanded_of_change (C := Try.checked) own started (by kernel_rfl) Try.func4
  (ChangeSpec.witness6 (enc := enc) (C := Try.checked) false ⟨#[], #[.slice none 0 0, .agg #[.int .u8 0, .int .u8 0, .int .u8 0, .int .i8 0], .agg #[.int .u8 0, .int .u8 0, .int .u8 0, .int .i8 0]], []⟩ 8 (by kernel_rfl) (by kernel_rfl) (by kernel_rfl) (by kernel_rfl)) ?_
 intro W base args ds gs before hval0 hW hcnd _
 have hW' := hW
 obtain ⟨p, q, hA0, hV, rfl, hfz, hnd⟩ := hW
 obtain ⟨hl, hc⟩ := law_calls (enc := enc) [.slc (.st [.int .u8, .int .u8, .slc (.int .i8)]), .st [.int .u8, .int .u8, .int .u8, .int .i8], .st [.int .u8, .int .u8, .int .u8, .int .i8]] (by kernel_rfl) hval0 hA0 (fun g cs h => by cases h) spec_all
 refine hc.mono fun e W' ⟨he, hb⟩ => ?_
 subst he
 rw [show Try.f4.params.size = 3 by kernel_rfl] at hl
 obtain ⟨d0, d1, d2, rfl⟩ : ∃ d0 d1 d2, ds = [d0, d1, d2] := by
  match ds, hl with
  | [a0, a1, a2], _ => exact ⟨a0, a1, a2, rfl⟩
 exact ⟨_, rfl, law_post laidOut (by kernel_rfl) (by kernel_rfl) Try.underlying4 rfl rfl hW' hb⟩
theorem law_holds : Rows.ComplexValidSaid :=
 OpenClaim.holds_of_wide 4 Try.f4 rfl rfl rfl rfl rfl rfl rfl ⟨rfl, rfl, rfl, rfl, rfl⟩ rfl rfl rfl rfl rfl (by kernel_rfl) Try.func4 (by kernel_rfl)
  (of_decide_eq_true (by kernel_rfl)) (by unfold Func.isWrapper; first | (rw [if_pos (by decide +kernel)]; kernel_rfl) | (rw [if_neg (by decide +kernel)]; exact ⟨rfl, rfl⟩))
  (fun os started H enc _ => law_lifted os started H enc)
#print axioms law_holds
end Go.Proofs.Ytdkkgndibagihaa
