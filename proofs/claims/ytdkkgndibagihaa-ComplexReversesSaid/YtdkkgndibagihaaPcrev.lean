/- 'ComplexReverses' returns true for every input, and each argument reads afterwards as it read before. No conditions. -/
import Derived.Test.YtdkkgndibagihaaRows
import Derived.Test.YtdkkgndibagihaaVm
set_option linter.all false
open Nat renaming reduceEqDiff → zn1, reduceLT → zn2, reduceLeDiff → zn3, reduceAdd → zn4, reduceMul → zn5, reduceSub → zn6, reduceBEq → zn7, mul_one → zn8, zero_add → zn9, one_mul → zna, le_refl → znb, zero_le → znc, add_sub_cancel_left → znd, sub_eq_zero_of_le → zne, add_assoc → znf
open Int renaming reduceToNat → zi1, reducePow → zi2
open List renaming length_append → zl1, drop_zero → zl2, take_succ_cons → zl3, take_zero → zl4, getElem?_drop → zl5, append_assoc → zl6, nil_append → zl7, cons_append → zl8, drop_succ_cons → zl9, take_of_length_le → zla, getElem?_eq_getElem → zlb, getElem?_eq_some_iff → zlc, map_cons → zld, map_nil → zle, all_eq_true → zlf

namespace Go.Proofs.Ytdkkgndibagihaa
open Go.ChangeShapes Go.WideShapes Go.ChangeAt Go.RowKit
set_option maxHeartbeats 16000000 in
set_option maxRecDepth 8000 in
theorem lreverses_s {C : List Cx} {x y : Rwc} {xs : List V} {xn : Nat} (hG : Good C) (hl : C.length ≤ 12) (hx : RwcOk x) (hy : RwcOk y) (cm : Spec Try.prog 12 [.im xs xn] (cxV C)) :
  Spec Try.prog 8 [.im xs xn, .ag (rwC x), .ag (rwC y)] (.sc (.bool true)) := by
 have hC := hG.ok
 have hV := hG.val
 have cs := sanity_s
 have hCl := hC.len
 obtain ⟨a, ha⟩ := madec_ex hG hl hx
 obtain ⟨b, hb⟩ := madec_ex hG hl hy
 have ca := ha.run
 have cb := hb.run
 have ea := insert_s hV.srt hC ha.k (by omega) (fitsP0 ha.fo ha.cl)
 have eb := insert_s hV.srt hC hb.k (by omega) (fitsP0 hb.fo hb.cl)
 obtain ⟨x1, x2, x3⟩ := x
 obtain ⟨y1, y2, y3⟩ := y
 unfold rwC at *
 simp only at ca cb ⊢
 have gx := bv8_len x3
 have gy := bv8_len y3
 cases hfa : findL C a.id with
 | some w =>
  rw [ins_used (by rw [hfa]; rfl)] at ea
  have fin : ∀ g D, (g = 0 ∨ g = 253) → insV C b 0 = .tu [cxV D, .sc (.int .i64 g)] → Spec Try.prog 8 [.im xs xn, .ag [.sc (.int .u8 x1), .sc (.int .u8 x2), .im (bv8 x3) x3.length], .ag [.sc (.int .u8 y1), .sc (.int .u8 y2), .im (bv8 y3) y3.length]] (.sc (.bool true)) := by
   intro g D hg e
   rw [e] at eb
   clear ha hb hfa e
   obtain ⟨a1, a2, a3⟩ := a
   obtain ⟨b1, b2, b3⟩ := b
   unfold cxC cxV at *
   simp only at ca cb ea eb
   rcases hg with rfl | rfl
   ·refine qF Try.func8 Try.ntmps8 fun B hB => ?_
    refine qWf (Q2 @gx @gy) ?_
    exact qE Try.results8
   ·refine qF Try.func8 Try.ntmps8 fun B hB => ?_
    refine qWf (Q2 @gx @gy) ?_
    exact qE Try.results8
  cases hfb : findL C b.id with
  | some w => exact fin 253 [] (.inr rfl) (ins_used (by rw [hfb]; rfl))
  | none => exact fin 0 _ (.inl rfl) (ins_ok hfb (by omega))
 | none =>
  have hCa := hC.ins ha.k (by omega)
  have hVa := hV.ins hfa ha.fo ha.cl (by omega)
  have cr := remove_s (id := a.id) hVa.srt hCa
  have cS := rsame25_s hCl (plain_of hC hV) (by omega)
  have cv := rvalid_t hCa hVa (by omega)
  rw [ins_ok hfa (by omega)] at ea
  rw [rem_back hV hfa ha.fo] at cr
  cases hfb : findL C b.id with
  | some w =>
   rw [ins_used (by rw [hfb]; rfl)] at eb
   clear ha hb hCa hVa
   generalize insL C a = Ca at *
   obtain ⟨a1, a2, a3⟩ := a
   obtain ⟨b1, b2, b3⟩ := b
   unfold cxC cxV at *
   simp only at ca cb ea eb cr
   refine qF Try.func8 Try.ntmps8 fun B hB => ?_
   refine qWf (Q2 @gx @gy) ?_
   exact qE Try.results8
  | none =>
   rw [ins_ok hfb (by omega)] at eb
   by_cases hab : a.id = b.id
   ·have qi : (a.id == b.id) = true := by rw [beq_iff_eq]; exact hab
    clear ha hb hCa hVa hab hfb hfa
    generalize insL C a = Ca at *
    generalize insL C b = Cb at *
    obtain ⟨a1, a2, a3⟩ := a
    obtain ⟨b1, b2, b3⟩ := b
    unfold cxC cxV at *
    simp only at ca cb ea eb cr qi
    refine qF Try.func8 Try.ntmps8 fun B hB => ?_
    refine qWf (Q3 @gx @gy @qi) ?_
    exact qE Try.results8
   ·have qi : (a.id == b.id) = false := by rw [beq_eq_false_iff_ne]; exact hab
    have hCb := hC.ins hb.k (by omega)
    have hVb := hV.ins hfb hb.fo hb.cl (by omega)
    have cv2 := rvalid_t hCb hVb (by omega)
    have la := ins_len C a
    have lb := ins_len C b
    have nab : findL (insL C a) b.id = none := by rw [findL_ins hfa, if_neg fun h => hab h.symm]; exact hfb
    have nba : findL (insL C b) a.id = none := by rw [findL_ins hfb, if_neg hab]; exact hfa
    have fab := hb.fo.ins (x := a) hfa
    have fba := ha.fo.ins (x := b) hfb
    have gab : ∀ n, bdn (insL C a) b.b n = 0 := fun n => by rw [bdn_ins hfa n hb.fo.there]; exact hb.cl n
    have gba : ∀ n, bdn (insL C b) a.b n = 0 := fun n => by rw [bdn_ins hfb n ha.fo.there]; exact ha.cl n
    have eab := insert_s hVa.srt hCa hb.k (by omega) (fitsP0 fab gab)
    have eba := insert_s hVb.srt hCb ha.k (by omega) (fitsP0 fba gba)
    rw [ins_ok nab (by omega)] at eab
    rw [ins_ok nba (by omega), ← ins_comm hV.srt hfa hfb hab] at eba
    have hVab := hVa.ins nab fab gab (by omega)
    have hCab := hCa.ins hb.k (by omega)
    have cS2 := rsame25_s hCab.len (plain_of hCab hVab) (by omega)
    clear ha hb hCa hVa hab hfb hfa hCb hVb la lb nab nba fab fba gab gba hVab hCab
    generalize insL (insL C a) b = Cab at *
    generalize insL C a = Ca at *
    generalize insL C b = Cb at *
    obtain ⟨a1, a2, a3⟩ := a
    obtain ⟨b1, b2, b3⟩ := b
    unfold cxC cxV at *
    simp only at ca cb ea eb cr qi eab eba
    refine qF Try.func8 Try.ntmps8 fun B hB => ?_
    refine qWf (Q3 @gx @gy @qi) ?_
    exact qE Try.results8
theorem spec_all (xs : List V) (h : Shp.Vals [.slc (.st [.int .u8, .int .u8, .slc (.int .i8)]), .st [.int .u8, .int .u8, .slc (.int .i8)], .st [.int .u8, .int .u8, .slc (.int .i8)]] xs) : Spec Try.prog 8 xs (.sc (.bool true)) := by
 obtain ⟨x0, ys0, rfl, h0, x1, ys1, rfl, h1, x2, ys2, rfl, h2, rfl⟩ := h
 obtain ⟨l, rfl, hl, hx⟩ := rws_val h0
 obtain ⟨x, rfl, hx1⟩ := rw_val h1
 obtain ⟨y, rfl, hy1⟩ := rw_val h2
 obtain ⟨C, cm, hG, hC⟩ := lmade_ex hl hx
 exact lreverses_s hG hC hx1 hy1 cm
theorem own : ownKnob Try.prog.godebug = none := by kernel_rfl
theorem laidOut : laidOutB Try.prog = true := by kernel_rfl
set_option maxRecDepth 100000 in
theorem law_lifted (os : Os) (started : os.Started) (H : Type) (enc : TypeId × Value → H) :
  ReturnsInHanded {} Try.checked os 8 .any (Rows.complexReversesSpec.pre6 enc Try.prog Try.f8 Rows.complexReversesRow.domain false) (Rows.complexReversesSpec.post enc Try.prog Try.f8 false true false false) := by
 refine returnsInHanded_of_change (C := Try.checked) own started (by kernel_rfl) Try.func8
  (ChangeSpec.witness6 (enc := enc) (C := Try.checked) false ⟨#[], #[.slice none 0 0, .agg #[.int .u8 0, .int .u8 0, .slice none 0 0], .agg #[.int .u8 0, .int .u8 0, .slice none 0 0]], []⟩ 8 (by kernel_rfl) (by kernel_rfl) (by kernel_rfl) (by kernel_rfl)) ?_
 intro W base args ds gs before hval0 hW hcnd _
 have hW' := hW
 obtain ⟨p, q, hA0, hV, rfl, hfz, hnd⟩ := hW
 obtain ⟨hl, hc⟩ := law_calls (enc := enc) [.slc (.st [.int .u8, .int .u8, .slc (.int .i8)]), .st [.int .u8, .int .u8, .slc (.int .i8)], .st [.int .u8, .int .u8, .slc (.int .i8)]] (by kernel_rfl) hval0 hA0 (fun g cs h => by cases h) spec_all
 refine hc.mono fun e W' ⟨he, hb⟩ => ?_
 subst he
 rw [show Try.f8.params.size = 3 by kernel_rfl] at hl
 obtain ⟨d0, d1, d2, rfl⟩ : ∃ d0 d1 d2, ds = [d0, d1, d2] := by
  match ds, hl with
  | [a0, a1, a2], _ => exact ⟨a0, a1, a2, rfl⟩
 exact ⟨_, rfl, law_post laidOut (by kernel_rfl) (by kernel_rfl) Try.underlying4 rfl rfl hW' hb⟩
theorem law_holds : Rows.ComplexReversesSaid :=
 OpenClaim.holds_of_wide 8 Try.f8 rfl rfl rfl rfl rfl rfl rfl ⟨rfl, rfl, rfl, rfl, rfl⟩ rfl rfl rfl rfl rfl (by kernel_rfl) Try.func8 (by kernel_rfl)
  (of_decide_eq_true (by kernel_rfl)) (by unfold Func.isWrapper; first | (rw [if_pos (by decide +kernel)]; kernel_rfl) | (rw [if_neg (by decide +kernel)]; exact ⟨rfl, rfl⟩))
  (fun os started H enc _ => law_lifted os started H enc)
#print axioms law_holds
end Go.Proofs.Ytdkkgndibagihaa
