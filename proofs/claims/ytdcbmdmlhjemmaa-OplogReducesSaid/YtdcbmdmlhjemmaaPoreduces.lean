/- 'OplogReduces' returns true for every input, and each argument reads afterwards as it read before. No conditions. -/
import Derived.Test.YtdcbmdmlhjemmaaRows
import Derived.Test.YtdcbmdmlhjemmaaVn
import Derived.Test.YtdcbmdmlhjemmaaVr
import Derived.Test.YtdcbmdmlhjemmaaVs
set_option linter.all false
open Nat renaming reduceEqDiff → zn1, reduceLT → zn2, reduceLeDiff → zn3, reduceAdd → zn4, reduceMul → zn5, reduceSub → zn6, reduceBEq → zn7, mul_one → zn8, zero_add → zn9, one_mul → zna, le_refl → znb, zero_le → znc, add_sub_cancel_left → znd, sub_eq_zero_of_le → zne, add_assoc → znf
open Int renaming reduceToNat → zi1, reducePow → zi2
open List renaming length_append → zl1, drop_zero → zl2, take_succ_cons → zl3, take_zero → zl4, getElem?_drop → zl5, append_assoc → zl6, nil_append → zl7, cons_append → zl8, drop_succ_cons → zl9, take_of_length_le → zla, getElem?_eq_getElem → zlb, getElem?_eq_some_iff → zlc, map_cons → zld, map_nil → zle, all_eq_true → zlf

namespace Go.Proofs.Ytdcbmdmlhjemmaa
open Go.ChangeShapes Go.WideShapes Go.ChangeAt Go.RowKit
theorem fact5 : ∀ h, h < 5 → (1 + 1) * fact (h + 1) ≤ 1000 := by decide
theorem filL_9 {h w : Nat} {l : List Int} (hb : ∀ x ∈ l, -128 ≤ x ∧ x ≤ 127) : ∀ q t, q < h → (ent2 (filL h w l) q t).natAbs ≤ 9 := fun q t hq => by
 unfold ent2 filL
 rw [mkM_get hq]
 by_cases ht : t < w
 ·rw [mkR_get ht]
  have := dgt_small (k := q * w + t) hb
  omega
 ·rw [List.getD_eq_getElem?_getD, List.getElem?_eq_none (by rw [mkR_len]; omega)]
  exact znc _
set_option maxRecDepth 20000 in
set_option maxHeartbeats 8000000 in
theorem loreduces_s {h w : Nat} {M : List (List Int)} {X : V} (hh : h < 5) (hw : w < 5) (hM : MI h w 1 M) (h9 : ∀ q t, q < h → (ent2 M q t).natAbs ≤ 9) (hX : ∃ (a b : Nat) (cs : List V) (n : Nat), X = .ag [.sc (.int .u8 a), .sc (.int .u8 b), .im cs n])
  (x1 : Spec Try.prog 5 [X] (mat w M)) :
  Spec Try.prog 3 [X] (.sc (.bool true)) := by
 have cs := sanity_s
 obtain ⟨l, Mf, W', hC, hL, hO, hS, hI, hW, hE, hT, hMf, hInv⟩ := red_all hM h9 hh hw
 have hfM : MI h w 2000 Mf := hI 0
 have c1 := reduce_s (K := 2000) (by omega) (by omega) (by omega) (by omega) hC hS hO
 have c2 := lvalid_s hO (by omega)
 have c3 := lapply_s (hM.mono (show 1 ≤ 2000 by omega)) hO (fun i _ => hW i) (by omega) (by omega) (by omega) (by omega)
 rw [← hMf] at c3
 have c4 := iundo_s hfM hO (fun i _ => hI i) (by omega) (by omega) (by omega) (by omega)
 rw [hInv] at c4
 have c5 := isame_s hfM (by omega) (by omega) (by omega)
 have c6 := isame_s hM (by omega) (by omega) (by omega)
 have c7 := rform_s hM (fact5 h hh) (by omega) (by omega) (by omega) hE
 have q1 : decide ((l.length : Int) > 2000) = false := decide_eq_false (by omega)
 have q2 : decide ((2000 : Int) < (l.length : Int)) = false := decide_eq_false (by omega)
 have l1 := hM.len
 have l2 := hfM.len
 obtain ⟨xa, xb, xs, xn, rfl⟩ := hX
 unfold hermC at c7
 rw [hT] at c7
 clear hC hO hS hI hW hE hT hMf hInv hfM hM h9
 unfold mat at *
 simp only [l1, l2] at c1 c2 c3 c4 c5 c6 c7 x1
 generalize rI Mf = F at *
 generalize rI M = M0 at *
 generalize imR h (rI ((W'.drop h).take h)) = U1 at *
 generalize imR h (rI (W'.drop (2 * h))) = U2 at *
 generalize imR w F = F1 at *
 generalize imR w M0 = M1 at *
 generalize opsC l = lo at *
 generalize l.length = n at *
 refine Spec.run Try.func3 rfl Try.ntmps3 (by simp) sF fun B hB => ?_
 (repeat (first | refine DO.nil (by kernel_rfl) ?_ | (with_reducible refine oA ?_) | ((first | apply SO.call | apply DO.call); (iterate 3 (focus (simp (disch := omega) only [go_sem, ↓reduceIte, zn1, beq_self_eq_true] <;> rfl))); (first | apply SCall.ofX | apply DCall.ofX); (focus (assumption)); (focus (simp (disch := omega) only [go_sem] <;> rfl))) | ((with_reducible first | apply wa | apply wb | apply wc | apply wd); (focus (simp (disch := omega) only [go_sem, ↓reduceIte, zn1, zn2, zn3, zn4, reduceCtorEq, q1, beq_self_eq_true] <;> rfl)); (first | refine pickF ?_ | fail_if_success with_reducible refine pickA ?_)) | ((with_reducible refine SC.draw Tab.mixed ?_ ?_); rfl) | (with_reducible apply SC.ops)))
 exact retQ_ret Try.results3 sF sF rfl
theorem spec_all (xs : List V) (h : Shp.Vals [.st [.int .u8, .int .u8, .slc (.int .i8)]] xs) : Spec Try.prog 3 xs (.sc (.bool true)) := by
 obtain ⟨x0, ys0, rfl, h0, rfl⟩ := h
 obtain ⟨a, b, l, rfl, ha, hb, hx, hl⟩ := raw5_val h0
 have hr : a % 5 < 5 := Nat.mod_lt _ (by omega)
 exact loreduces_s hr (Nat.mod_lt _ (by omega)) (filL_mi hx) (filL_9 hx) ⟨_, _, _, _, rfl⟩ (rmade_s ha hb hx hl)
theorem own : ownKnob Try.prog.godebug = none := by kernel_rfl
theorem laidOut : laidOutB Try.prog = true := by kernel_rfl
set_option maxRecDepth 100000 in
theorem law_lifted (os : Os) (started : os.Started) (H : Type) (enc : TypeId × Value → H) :
  ReturnsInHanded {} Try.checked os 3 .any (Rows.oplogReducesSpec.pre6 enc Try.prog Try.f3 Rows.oplogReducesRow.domain false) (Rows.oplogReducesSpec.post enc Try.prog Try.f3 false true false false) := by
 refine returnsInHanded_of_change (C := Try.checked) own started (by kernel_rfl) Try.func3
  (ChangeSpec.witness6 (enc := enc) (C := Try.checked) false ⟨#[], #[.agg #[.int .u8 0, .int .u8 0, .slice none 0 0]], []⟩ 8 (by kernel_rfl) (by kernel_rfl) (by kernel_rfl) (by kernel_rfl)) ?_
 intro W base args ds gs before hval0 hW hcnd _
 have hW' := hW
 obtain ⟨p, q, hA0, hV, rfl, hfz, hnd⟩ := hW
 obtain ⟨hl, hc⟩ := law_calls (enc := enc) [.st [.int .u8, .int .u8, .slc (.int .i8)]] (by kernel_rfl) hval0 hA0 (fun g cs h => by cases h) spec_all
 refine hc.mono fun e W' ⟨he, hb⟩ => ?_
 subst he
 rw [show Try.f3.params.size = 1 by kernel_rfl] at hl
 obtain ⟨d0, rfl⟩ : ∃ d0, ds = [d0] := by
  match ds, hl with
  | [a0], _ => exact ⟨a0, rfl⟩
 exact ⟨_, rfl, law_post laidOut (by kernel_rfl) (by kernel_rfl) Try.underlying4 rfl rfl hW' hb⟩
theorem law_holds : Rows.OplogReducesSaid :=
 OpenClaim.holds_of_wide 3 Try.f3 rfl rfl rfl rfl rfl rfl rfl ⟨rfl, rfl, rfl, rfl, rfl⟩ rfl rfl rfl rfl rfl (by kernel_rfl) Try.func3 (by kernel_rfl)
  (of_decide_eq_true (by kernel_rfl)) (by unfold Func.isWrapper; (rw [if_neg (by decide +kernel)]; exact ⟨rfl, rfl⟩))
  (fun os started H enc _ => law_lifted os started H enc)
#print axioms law_holds
end Go.Proofs.Ytdcbmdmlhjemmaa
