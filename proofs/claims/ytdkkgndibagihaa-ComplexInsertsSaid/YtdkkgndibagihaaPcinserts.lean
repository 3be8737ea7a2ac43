/- 'ComplexInserts' returns true for every input, and each argument reads afterwards as it read before. No conditions. -/
import Derived.Test.YtdkkgndibagihaaRows
import Derived.Test.YtdkkgndibagihaaVm
set_option linter.all false
open Nat renaming reduceEqDiff → zn1, reduceLT → zn2, reduceLeDiff → zn3, reduceAdd → zn4, reduceMul → zn5, reduceSub → zn6, reduceBEq → zn7, mul_one → zn8, zero_add → zn9, one_mul → zna, le_refl → znb, zero_le → znc, add_sub_cancel_left → znd, sub_eq_zero_of_le → zne, add_assoc → znf
open Int renaming reduceToNat → zi1, reducePow → zi2
open List renaming length_append → zl1, drop_zero → zl2, take_succ_cons → zl3, take_zero → zl4, getElem?_drop → zl5, append_assoc → zl6, nil_append → zl7, cons_append → zl8, drop_succ_cons → zl9, take_of_length_le → zla, getElem?_eq_getElem → zlb, getElem?_eq_some_iff → zlc, map_cons → zld, map_nil → zle, all_eq_true → zlf

namespace Go.Proofs.Ytdkkgndibagihaa
open Go.ChangeShapes Go.WideShapes Go.ChangeAt Go.RowKit
theorem ins_round {C : List Cx} {z : Cx} (hC : CxOk 50000000001 C) (hV : VAL C) (hl : C.length ≤ 12) (hz : CxK 50000000001 z) : ∃ (E : Int) (L : List Cx), Spec Try.prog 30 [cxV C, .ag (cxC z)] (.tu [cxV L, .sc (.int .i64 E)]) ∧
  Spec Try.prog 31 [cxV C, .ag (cxC z)] (.tu [cxV L, .sc (.int .i64 E)]) ∧ Spec Try.prog 32 [cxV L, cxV L] (.sc (.bool true)) ∧
  (E = 0 → Spec Try.prog 28 [cxV L] (.sc (.bool true)) ∧ Spec Try.prog 26 [cxV L] (.sc (.bool true))) := by
 obtain ⟨e, he⟩ := fits_ex C z
 have he1 : e = 0 ∨ e = 251 ∨ e = 252 ∨ e = 260 := by
  rcases he with ⟨h, _⟩ | ⟨_, ⟨h, _⟩ | ⟨_, ⟨h, _⟩ | ⟨h, _⟩⟩⟩ <;> omega
 have c1 := insert_s hV.srt hC hz (by omega) he
 have c2 := rinsert_s hC (fun z hz => (hV.faces z hz).vg) hz (by omega) he he1
 refine ⟨insE C z e, if insE C z e = 0 then insL C z else [], c1, c2, ?_⟩
 by_cases h0 : insE C z e = 0
 ·rw [if_pos h0]
  unfold insE at h0
  have hn : findL C z.id = none := by
   cases h : findL C z.id with
   | none => rfl
   | some y => rw [h] at h0; simp at h0
  have e0 : e = 0 := by
   rw [hn, if_neg (by simp)] at h0
   by_cases h3 : e = 0
   ·exact h3
   ·rw [if_pos h3] at h0; exact h0
  obtain ⟨h4, h5⟩ := he.zero.1 e0
  have hV2 := hV.ins hn h4 h5 (by omega)
  have hC2 := hC.ins hz (by omega)
  exact ⟨rsame25_s hC2.len (plain_of hC2 hV2) (by omega), fun _ => ⟨rvalid_t hC2 hV2 (by omega), pvalid_t hC2 hV2 (by omega)⟩⟩
 ·rw [if_neg h0]
  exact ⟨rsame25_s (znc _) (fun x hx => by cases hx) (K := 0) (by omega), fun h => absurd h h0⟩
set_option maxHeartbeats 16000000 in
set_option maxRecDepth 8000 in
theorem linserts_s {C : List Cx} {x : Rwc} {xs : List V} {xn w i k : Nat} {c : Int} (hG : Good C) (hl : C.length ≤ 12) (hx : RwcOk x) (h1 : w < 256 ∧ i < 256 ∧ k < 256 ∧ -128 ≤ c ∧ c ≤ 127)
  (cm : Spec Try.prog 12 [.im xs xn] (cxV C)) :
  Spec Try.prog 5 [.im xs xn, .ag (rwC x), .ag [.sc (.int .u8 (w : Nat)), .sc (.int .u8 (i : Nat)), .sc (.int .u8 (k : Nat)), .sc (.int .i8 c)]] (.sc (.bool true)) := by
 have hC := hG.ok
 have hV := hG.val
 have cs := sanity_s
 have hCl := hC.len
 have cS := rsame25_s hCl (plain_of hC hV) (by omega)
 obtain ⟨a, ha⟩ := madec_ex hG hl hx
 have ca := ha.run
 have hCa : CxOk 50000000001 (C ++ [a]) := ⟨by rw [zl1]; simp; omega, fun z hz => by
  rcases List.mem_append.1 hz with h | h
  ·exact hC.all z h
  ·rw [List.mem_singleton] at h; rw [h]; exact ha.k⟩
 have hBa : SpB 13 (C ++ [a]) := fun z hz => by
  rcases List.mem_append.1 hz with h | h
  ·exact val_spb hV (by omega) z h
  ·rw [List.mem_singleton] at h; rw [h]
   have h1 := ha.fo.dim
   have h2 := faces_len ha.fo
   exact ⟨by omega, by omega, by omega⟩
 have csp := spoilt_s (w := w) (i := C.length) (k := k) (c := c) hCa h1.1 (by omega) h1.2.2.1 h1.2.2.2
 obtain ⟨o1, _⟩ := spoil_ok (w := w) (i := C.length) (k := k) (c := c) hCa (by omega) hBa (by omega) h1.2.2.2
 obtain ⟨E0, L0, d1, d2, d3, d4⟩ := ins_round hC hV hl ha.k
 have es := cxs_snoc C a
 have el : (C ++ [a]).length = C.length + 1 := by simp
 have gl := cxs_len C
 have ol := cxs_one C
 have gt : (cxs C).take (C.length * 3) = cxs C := zla (by omega)
 have gL := cxs_len (C ++ [a])
 have gcl := cxs_clo (C ++ [a])
 rw [el] at gL
 have gT : (cxs (C ++ [a])).take ((C.length + 1) * 3) = cxs (C ++ [a]) := zla (by omega)
 have en : (C.length : Int) % 256 = (C.length : Int) := by omega
 unfold cxV at csp
 rw [el, ← es] at csp
 rw [← es] at gL gT gcl
 clear es el hCa hBa
 have gW := cxs_len (spoilL (C ++ [a]) w C.length k c)
 generalize spoilL (C ++ [a]) w C.length k c = W at *
 obtain ⟨x1, x2, x3⟩ := x
 unfold rwC at *
 simp only at ca ⊢
 have gx := bv8_len x3
 have hak := ha.k
 clear ha
 have key : ∀ (z : Cx) (E1 : Int) (L1 : List Cx), Spec Try.prog 30 [cxV C, .ag (cxC z)] (.tu [cxV L1, .sc (.int .i64 E1)]) → Spec Try.prog 31 [cxV C, .ag (cxC z)] (.tu [cxV L1, .sc (.int .i64 E1)]) →
   Spec Try.prog 32 [cxV L1, cxV L1] (.sc (.bool true)) → (E1 = 0 → Spec Try.prog 28 [cxV L1] (.sc (.bool true)) ∧ Spec Try.prog 26 [cxV L1] (.sc (.bool true))) →
   (W.length = C.length + 1 ∧ z = W.getD C.length cx0 ∨ W.length ≠ C.length + 1 ∧ z = a) → Spec Try.prog 5 [.im xs xn, .ag [.sc (.int .u8 (x1 : Nat)), .sc (.int .u8 (x2 : Nat)), .im (bv8 x3) x3.length], .ag [.sc (.int .u8 (w : Nat)), .sc (.int .u8 (i : Nat)), .sc (.int .u8 (k : Nat)), .sc (.int .i8 c)]] (.sc (.bool true)) := by
  intro z E1 L1 e1 e2 e3 e4 hz
  have hgd : W.length = C.length + 1 → (cxs W).drop (C.length * 3) = cxC z ++ (cxs W).drop ((C.length + 1) * 3) := fun h => by
   rcases hz with ⟨_, rfl⟩ | ⟨h2, _⟩
   ·exact cxs_drop (by omega)
   ·exact absurd h h2
  have hza : W.length ≠ C.length + 1 → z = a := fun h => by
   rcases hz with ⟨h2, _⟩ | ⟨_, h2⟩
   ·exact absurd h2 h
   ·exact h2
  clear hz o1
  obtain ⟨a1, a2, a3⟩ := a
  obtain ⟨z1, z2, z3⟩ := z
  unfold cxC cxV at *
  simp only at ca d1 d2 e1 e2 csp hgd gL gT gcl
  refine qF Try.func5 Try.ntmps5 fun B hB => ?_
  refine qWf (Q8 @gx @gl @ol @gt @en @gL @gT @gcl) ?_
  clear csp gL gT gcl
  by_cases hW : W.length = C.length + 1
  ·have q9 : ((W.length : Int) == (C.length : Int) + 1) = true := by rw [beq_iff_eq]; omega
   have hg := hgd hW
   clear hgd hza
   simp only [zl8, zl7] at hg
   have gW2 : C.length * 3 + 3 ≤ (cxs W).length := by omega
   refine qWf (Q3 @q9 @hg @gW) ?_
   refine SC.loop (fun j : Nat => ⟨[(0, .im xs xn), (7, .sc (.bool true)), (8, .im (cxs C) C.length), (10, .pt 3 0), (12, .sc (.int .i64 (j : Nat)))], [(3, ⟨55, [.sc (.int .i64 a1), .sc (.int .i64 a2), .im (fcs a3) a3.length, .sc (.int .i64 z1), .sc (.int .i64 z2), .im (fcs z3) z3.length], false⟩)], 4, 105⟩) (fun j => j ≤ 2) (fun j => 2 - j) 0 ?_ ?_ ?_
   ·exact qLc
   ·exact znc _
   rintro j hj K0 hK0
   by_cases hc : j < 2
   ·rcases (by omega : j = 0 ∨ j = 1) with rfl | rfl
    ·clear e1 e2 e3 e4
     by_cases hE : E0 = 0
     ·obtain ⟨g1, g2⟩ := d4 hE
      subst hE
      refine qW ?_
      refine hK0 _ 1 ?_ (by omega) (by omega)
      exact qLc
     ·have q8 : (E0 == 0) = false := by rw [beq_eq_false_iff_ne]; exact hE
      clear d4
      refine qWf @q8 ?_
      refine hK0 _ 1 ?_ (by omega) (by omega)
      exact qLc
    ·clear d1 d2 d3 d4
     by_cases hE : E1 = 0
     ·obtain ⟨g1, g2⟩ := e4 hE
      subst hE
      refine qW ?_
      refine hK0 _ 2 ?_ (by omega) (by omega)
      exact qLc
     ·have q8 : (E1 == 0) = false := by rw [beq_eq_false_iff_ne]; exact hE
      clear e4
      refine qWf @q8 ?_
      refine hK0 _ 2 ?_ (by omega) (by omega)
      exact qLc
   have hj2 : j = 2 := by omega
   subst hj2
   clear d1 d2 d3 d4 e1 e2 e3 e4
   refine qW ?_
   exact qE Try.results5
  ·have q9 : ((W.length : Int) == (C.length : Int) + 1) = false := by rw [beq_eq_false_iff_ne]; omega
   have hz := hza hW
   clear hgd hza
   injection hz with h1 h2 h3
   subst h1; subst h2; subst h3
   refine qWf @q9 ?_
   refine SC.loop (fun j : Nat => ⟨[(0, .im xs xn), (7, .sc (.bool true)), (8, .im (cxs C) C.length), (10, .pt 3 0), (12, .sc (.int .i64 (j : Nat)))], [(3, ⟨55, [.sc (.int .i64 z1), .sc (.int .i64 z2), .im (fcs z3) z3.length, .sc (.int .i64 z1), .sc (.int .i64 z2), .im (fcs z3) z3.length], false⟩)], 4, 105⟩) (fun j => j ≤ 2) (fun j => 2 - j) 0 ?_ ?_ ?_
   ·exact qLc
   ·exact znc _
   rintro j hj K0 hK0
   by_cases hc : j < 2
   ·rcases (by omega : j = 0 ∨ j = 1) with rfl | rfl
    ·clear e1 e2 e3 e4
     by_cases hE : E0 = 0
     ·obtain ⟨g1, g2⟩ := d4 hE
      subst hE
      refine qW ?_
      refine hK0 _ 1 ?_ (by omega) (by omega)
      exact qLc
     ·have q8 : (E0 == 0) = false := by rw [beq_eq_false_iff_ne]; exact hE
      clear d4
      refine qWf @q8 ?_
      refine hK0 _ 1 ?_ (by omega) (by omega)
      exact qLc
    ·clear d1 d2 d3 d4
     by_cases hE : E1 = 0
     ·obtain ⟨g1, g2⟩ := e4 hE
      subst hE
      refine qW ?_
      refine hK0 _ 2 ?_ (by omega) (by omega)
      exact qLc
     ·have q8 : (E1 == 0) = false := by rw [beq_eq_false_iff_ne]; exact hE
      clear e4
      refine qWf @q8 ?_
      refine hK0 _ 2 ?_ (by omega) (by omega)
      exact qLc
   have hj2 : j = 2 := by omega
   subst hj2
   clear d1 d2 d3 d4 e1 e2 e3 e4
   refine qW ?_
   exact qE Try.results5
 by_cases hW : W.length = C.length + 1
 ·obtain ⟨E1, L1, e1, e2, e3, e4⟩ := ins_round hC hV hl (o1.all _ (getD_mem (d := cx0) (show C.length < W.length by omega)))
  exact key _ E1 L1 e1 e2 e3 e4 (.inl ⟨hW, rfl⟩)
 ·exact key a E0 L0 d1 d2 d3 d4 (.inr ⟨hW, rfl⟩)
theorem spec_all (xs : List V) (h : Shp.Vals [.slc (.st [.int .u8, .int .u8, .slc (.int .i8)]), .st [.int .u8, .int .u8, .slc (.int .i8)], .st [.int .u8, .int .u8, .int .u8, .int .i8]] xs) : Spec Try.prog 5 xs (.sc (.bool true)) := by
 obtain ⟨x0, ys0, rfl, h0, x1, ys1, rfl, h1, x2, ys2, rfl, h2, rfl⟩ := h
 obtain ⟨l, rfl, hl, hx⟩ := rws_val h0
 obtain ⟨x, rfl, hx1⟩ := rw_val h1
 obtain ⟨w, i, k, c, rfl, q1⟩ := sp_val h2
 obtain ⟨C, cm, hG, hC⟩ := lmade_ex hl hx
 exact linserts_s hG hC hx1 q1 cm
theorem own : ownKnob Try.prog.godebug = none := by kernel_rfl
theorem laidOut : laidOutB Try.prog = true := by kernel_rfl
set_option maxRecDepth 100000 in
theorem law_lifted (os : Os) (started : os.Started) (H : Type) (enc : TypeId × Value → H) :
  ReturnsInHanded {} Try.checked os 5 .any (Rows.complexInsertsSpec.pre6 enc Try.prog Try.f5 Rows.complexInsertsRow.domain false) (Rows.complexInsertsSpec.post enc Try.prog Try.f5 false true false false) := by
 refine returnsInHanded_of_change (C := Try.checked) own started (by kernel_rfl) Try.func5
  (ChangeSpec.witness6 (enc := enc) (C := Try.checked) false ⟨#[], #[.slice none 0 0, .agg #[.int .u8 0, .int .u8 0, .slice none 0 0], .agg #[.int .u8 0, .int .u8 0, .int .u8 0, .int .i8 0]], []⟩ 8 (by kernel_rfl) (by kernel_rfl) (by kernel_rfl) (by kernel_rfl)) ?_
 intro W base args ds gs before hval0 hW hcnd _
 have hW' := hW
 obtain ⟨p, q, hA0, hV, rfl, hfz, hnd⟩ := hW
 obtain ⟨hl, hc⟩ := law_calls (enc := enc) [.slc (.st [.int .u8, .int .u8, .slc (.int .i8)]), .st [.int .u8, .int .u8, .slc (.int .i8)], .st [.int .u8, .int .u8, .int .u8, .int .i8]] (by kernel_rfl) hval0 hA0 (fun g cs h => by cases h) spec_all
 refine hc.mono fun e W' ⟨he, hb⟩ => ?_
 subst he
 rw [show Try.f5.params.size = 3 by kernel_rfl] at hl
 obtain ⟨d0, d1, d2, rfl⟩ : ∃ d0 d1 d2, ds = [d0, d1, d2] := by
  match ds, hl with
  | [a0, a1, a2], _ => exact ⟨a0, a1, a2, rfl⟩
 exact ⟨_, rfl, law_post laidOut (by kernel_rfl) (by kernel_rfl) Try.underlying4 rfl rfl hW' hb⟩
theorem law_holds : Rows.ComplexInsertsSaid :=
 OpenClaim.holds_of_wide 5 Try.f5 rfl rfl rfl rfl rfl rfl rfl ⟨rfl, rfl, rfl, rfl, rfl⟩ rfl rfl rfl rfl rfl (by kernel_rfl) Try.func5 (by kernel_rfl)
  (of_decide_eq_true (by kernel_rfl)) (by unfold Func.isWrapper; first | (rw [if_pos (by decide +kernel)]; kernel_rfl) | (rw [if_neg (by decide +kernel)]; exact ⟨rfl, rfl⟩))
  (fun os started H enc _ => law_lifted os started H enc)
#print axioms law_holds
end Go.Proofs.Ytdkkgndibagihaa
