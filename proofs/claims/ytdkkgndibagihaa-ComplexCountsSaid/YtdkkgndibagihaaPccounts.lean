/- 'ComplexCounts' returns true for every input, and each argument reads afterwards as it read before. No conditions. -/
import Derived.Test.YtdkkgndibagihaaRows
import Derived.Test.YtdkkgndibagihaaVm
set_option linter.all false
open Nat renaming reduceEqDiff → zn1, reduceLT → zn2, reduceLeDiff → zn3, reduceAdd → zn4, reduceMul → zn5, reduceSub → zn6, reduceBEq → zn7, mul_one → zn8, zero_add → zn9, one_mul → zna, le_refl → znb, zero_le → znc, add_sub_cancel_left → znd, sub_eq_zero_of_le → zne, add_assoc → znf
open Int renaming reduceToNat → zi1, reducePow → zi2
open List renaming length_append → zl1, drop_zero → zl2, take_succ_cons → zl3, take_zero → zl4, getElem?_drop → zl5, append_assoc → zl6, nil_append → zl7, cons_append → zl8, drop_succ_cons → zl9, take_of_length_le → zla, getElem?_eq_getElem → zlb, getElem?_eq_some_iff → zlc, map_cons → zld, map_nil → zle, all_eq_true → zlf

namespace Go.Proofs.Ytdkkgndibagihaa
open Go.ChangeShapes Go.WideShapes Go.ChangeAt Go.RowKit
def sgK (j : Nat) : Int := if j % 2 = 0 then 1 else -1
def sK (C : List Cx) : Nat → Int
 | 0 => 0
 | j + 1 => sK C j + sgK j * ((idsL C (j : Nat)).length : Nat)
def tK (C : List Cx) : Nat → Int
 | 0 => 0
 | j + 1 => tK C j + ((idsL C (j : Nat)).length : Nat)
theorem sgK_neg (j : Nat) : -(sgK j) = sgK (j + 1) := by unfold sgK; split <;> split <;> first | omega | rfl
theorem sgK_mul (j n : Nat) : sgK j * (n : Int) = n ∨ sgK j * (n : Int) = -n := by unfold sgK; split <;> omega
theorem sgK_one (j : Nat) : sgK j = 1 ∨ sgK j = -1 := by unfold sgK; split <;> omega
theorem sK_bd {C : List Cx} (hl : C.length ≤ 1000) : ∀ j : Nat, -1000 * (j : Int) ≤ sK C j ∧ sK C j ≤ 1000 * (j : Int) ∧ 0 ≤ tK C j ∧ tK C j ≤ 1000 * (j : Int)
 | 0 => by unfold sK tK; omega
 | j + 1 => by
  have h := sK_bd hl j
  have hn := idsL_len C (j : Nat)
  have := sgK_mul j (idsL C (j : Nat)).length
  rw [sK, tK]
  omega
theorem sK_end {C : List Cx} (h : ∀ x ∈ C, 0 ≤ x.dim ∧ x.dim ≤ 3) : sK C 4 = eulL C ∧ tK C 4 = C.length := by
 obtain ⟨h1, h2⟩ := cn_total h
 unfold cn at h1 h2
 have e : sK C 4 = 0 + sgK 0 * ((idsL C (0 : Nat)).length : Nat) + sgK 1 * ((idsL C (1 : Nat)).length : Nat) + sgK 2 * ((idsL C (2 : Nat)).length : Nat) + sgK 3 * ((idsL C (3 : Nat)).length : Nat) := rfl
 have e2 : tK C 4 = 0 + ((idsL C (0 : Nat)).length : Nat) + ((idsL C (1 : Nat)).length : Nat) + ((idsL C (2 : Nat)).length : Nat) + ((idsL C (3 : Nat)).length : Nat) := rfl
 rw [e, e2, h2, ← h1]
 simp only [sgK]
 simp
 omega
set_option maxHeartbeats 16000000 in
set_option maxRecDepth 8000 in
theorem lcounts_s {C : List Cx} {x : Rwc} {xs : List V} {xn : Nat} (hG : Good C) (hl : C.length ≤ 12) (hx : RwcOk x) (cm : Spec Try.prog 12 [.im xs xn] (cxV C)) :
  Spec Try.prog 9 [.im xs xn, .ag (rwC x)] (.sc (.bool true)) := by
 have hC := hG.ok
 have hV := hG.val
 have cs := sanity_s
 have hCl := hC.len
 have hdim : ∀ z ∈ C, 0 ≤ z.dim ∧ z.dim ≤ 3 := fun z hz => (hV.faces z hz).dim
 obtain ⟨a, ha⟩ := madec_ex hG hl hx
 have ca := ha.run
 have ea := insert_s hV.srt hC ha.k (by omega) (fitsP0 ha.fo ha.cl)
 have cE := euler_s hCl
 have cT := top_s hCl
 have cC := fun k => cells_s (C := C) (k := k) hCl
 obtain ⟨t1, t2, t3⟩ := top_law hdim
 have cTc := cC (topL C)
 have cTd := cC (topL C + 1)
 have hend := sK_end hdim
 have hbd := sK_bd hCl
 obtain ⟨x1, x2, x3⟩ := x
 unfold rwC at *
 simp only at ca ⊢
 have gx := bv8_len x3
 have htop := topL_ge C
 have htop2 : topL C ≤ 3 := by
  by_cases h0 : C = []
  ·subst h0; decide
  ·obtain ⟨z, hz, e⟩ := topL_mem h0 fun z hz => (hdim z hz).1
   have := hdim z hz; omega
 have hady := ha.fo.dim
 have key : ∀ (e : Int) (D : List Cx), (e ≠ 0 ∧ e = 253 ∧ D = [] ∨ e = 0 ∧ D = insL C a) → Spec Try.prog 30 [cxV C, .ag (cxC a)] (.tu [cxV D, .sc (.int .i64 e)]) →
   Spec Try.prog 9 [.im xs xn, .ag [.sc (.int .u8 x1), .sc (.int .u8 x2), .im (bv8 x3) x3.length]] (.sc (.bool true)) := by
  intro e D hD ei
  have hDl : D.length ≤ 1000 := by
   rcases hD with ⟨_, _, rfl⟩ | ⟨_, rfl⟩
   ·exact znc _
   ·rw [ins_len]; omega
  have cE2 := euler_s hDl
  have cT2 := top_s hDl
  have hDe : e = 0 → eulL D = eulL C + (if a.dim.tmod 2 = 0 then 1 else -1) ∧ topL D = max (topL C) a.dim := fun h0 => by
   rcases hD with ⟨h, _⟩ | ⟨_, rfl⟩
   ·exact absurd h0 h
   ·exact ⟨eulL_ins C a, topL_ins C a⟩
  have he : e = 253 ∨ e = 0 := by rcases hD with ⟨_, h, _⟩ | ⟨h, _⟩ <;> omega
  clear hD ea ha hG hC hV hdim
  obtain ⟨a1, a2, a3⟩ := a
  unfold nsV at cTc cTd cC
  unfold cxC cxV at *
  simp only at ca ei hDe hady
  refine qF Try.func9 Try.ntmps9 fun B hB => ?_
  refine qWf @gx ?_
  refine SC.loop (fun j : Nat => ⟨[(3, .pt 0 0), (5, .sc (.bool true)), (6, .im (cxs C) C.length), (7, .sc (.int .i64 (sK C j))), (8, .sc (.int .i64 (sgK j))), (9, .sc (.int .i64 (tK C j))), (10, .sc (.int .i64 (j : Nat)))], [(0, ⟨53, [.sc (.int .u8 x1), .sc (.int .u8 x2), .im (bv8 x3) x3.length], false⟩)], 1, 117⟩) (fun j => j ≤ 4) (fun j => 4 - j) 0 ?_ ?_ ?_
  ·exact qLc
  ·exact znc _
  rintro j hj K0 hK0
  have hb := hbd j
  by_cases hc : j < 4
  ·have q1 : decide ((j : Int) ≤ 3) = true := decide_eq_true (by omega)
   have cj := cC (j : Nat)
   have hn := idsL_len C (j : Nat)
   have hm := sgK_mul j (idsL C (j : Nat)).length
   have h1 := sgK_one j
   have f1 : sK C j + sgK j * ((idsL C (j : Nat)).length : Nat) = sK C (j + 1) := rfl
   have f2 : tK C j + ((idsL C (j : Nat)).length : Nat) = tK C (j + 1) := rfl
   have f3 := sgK_neg j
   clear cTc cTd cC
   generalize (idsL C (j : Nat)).length = n at *
   refine qWf (Q4 @q1 @f1 @f2 @f3) ?_
   refine hK0 _ (j + 1) ?_ (by omega) (by omega)
   exact qLc
  ·have q1 : decide ((j : Int) ≤ 3) = false := decide_eq_false (by omega)
   have hj4 : j = 4 := by omega
   subst hj4
   clear cC
   rw [hend.1, hend.2]
   clear hK0 hbd hb
   have w4 : ((((idsL C (topL C + 1)).length : Nat) : Int) == 0) = true := by rw [t3]; rfl
   have w5 : decide (topL C < 0) = false → decide (0 < ((idsL C (topL C)).length : Int)) = true := fun h => decide_eq_true (by rcases t2 with h2 | h2; exact absurd h2 (of_decide_eq_false h); omega)
   have w6 : ((C.length : Int) == 0) = decide (topL C < 0) := by
    by_cases h : topL C < 0
    ·rw [decide_eq_true h, t1.1 h]; rfl
    ·rw [decide_eq_false h, beq_eq_false_iff_ne]; intro h2; exact h (t1.2 (by omega))
   have hEb := eulL_bd C
   have hDb := eulL_bd D
   have hEl : -1000 ≤ eulL C ∧ eulL C ≤ 1000 := by omega
   have hnl := idsL_len C (topL C)
   have hnl2 := idsL_len C (topL C + 1)
   clear t1 t2 t3 hEb hDb hnl hnl2
   generalize (idsL C (topL C + 1)).length = n2 at *
   generalize (idsL C (topL C)).length = n1 at *
   obtain ⟨bT, w7⟩ : ∃ b, decide (topL C < 0) = b := ⟨_, rfl⟩
   rw [w7] at w5 w6
   obtain ⟨p, q2⟩ : ∃ p, (a2 % 2 == 1) = p := ⟨_, rfl⟩
   have hst : e = 0 → eulL D = eulL C + (if p then -1 else 1) ∧ topL D = max (topL C) a2 := fun h0 => by
    obtain ⟨h1, h2⟩ := hDe h0
    refine ⟨?_, h2⟩
    rw [h1, Int.tmod_eq_emod_of_nonneg hady.1]
    cases p with
    | true => rw [beq_iff_eq] at q2; rw [if_neg (by omega), if_pos rfl]
    | false => rw [beq_eq_false_iff_ne] at q2; rw [if_pos (by omega), if_neg (by simp)]
   clear hDe
   generalize eulL D = eD at *
   generalize topL D = tD at *
   generalize eulL C = eC at *
   generalize topL C = tC at *
   have w9 : (max tC a2 == if a2 > tC then a2 else tC) = true := by rw [beq_iff_eq]; split <;> omega
   rcases he with rfl | rfl
   ·cases p
    all_goals
     cases bT
     ·have w8 := w5 rfl
      refine qWf (Q7 @q1 @q2 @w4 @w6 @w7 @w8 @w9) ?_
      exact qE Try.results9
     ·refine qWf (Q6 @q1 @q2 @w4 @w6 @w7 @w9) ?_
      exact qE Try.results9
   ·obtain ⟨h1, h2⟩ := hst rfl
    subst h1; subst h2
    cases p
    all_goals
     cases bT
     ·have w8 := w5 rfl
      refine qWf (Q7 @q1 @q2 @w4 @w6 @w7 @w8 @w9) ?_
      exact qE Try.results9
     ·refine qWf (Q6 @q1 @q2 @w4 @w6 @w7 @w9) ?_
      exact qE Try.results9
 cases hfa : findL C a.id with
 | some w =>
  rw [ins_used (by rw [hfa]; rfl)] at ea
  exact key 253 [] (.inl ⟨by omega, rfl, rfl⟩) ea
 | none =>
  rw [ins_ok hfa (by omega)] at ea
  exact key 0 _ (.inr ⟨rfl, rfl⟩) ea
theorem spec_all (xs : List V) (h : Shp.Vals [.slc (.st [.int .u8, .int .u8, .slc (.int .i8)]), .st [.int .u8, .int .u8, .slc (.int .i8)]] xs) : Spec Try.prog 9 xs (.sc (.bool true)) := by
 obtain ⟨x0, ys0, rfl, h0, x1, ys1, rfl, h1, rfl⟩ := h
 obtain ⟨l, rfl, hl, hx⟩ := rws_val h0
 obtain ⟨x, rfl, hx1⟩ := rw_val h1
 obtain ⟨C, cm, hG, hC⟩ := lmade_ex hl hx
 exact lcounts_s hG hC hx1 cm
theorem own : ownKnob Try.prog.godebug = none := by kernel_rfl
theorem laidOut : laidOutB Try.prog = true := by kernel_rfl
set_option maxRecDepth 100000 in
theorem law_lifted (os : Os) (started : os.Started) (H : Type) (enc : TypeId × Value → H) :
  ReturnsInHanded {} Try.checked os 9 .any (Rows.complexCountsSpec.pre6 enc Try.prog Try.f9 Rows.complexCountsRow.domain false) (Rows.complexCountsSpec.post enc Try.prog Try.f9 false true false false) := by
 refine returnsInHanded_of_change (C := Try.checked) own started (by kernel_rfl) Try.func9
  (ChangeSpec.witness6 (enc := enc) (C := Try.checked) false ⟨#[], #[.slice none 0 0, .agg #[.int .u8 0, .int .u8 0, .slice none 0 0]], []⟩ 8 (by kernel_rfl) (by kernel_rfl) (by kernel_rfl) (by kernel_rfl)) ?_
 intro W base args ds gs before hval0 hW hcnd _
 have hW' := hW
 obtain ⟨p, q, hA0, hV, rfl, hfz, hnd⟩ := hW
 obtain ⟨hl, hc⟩ := law_calls (enc := enc) [.slc (.st [.int .u8, .int .u8, .slc (.int .i8)]), .st [.int .u8, .int .u8, .slc (.int .i8)]] (by kernel_rfl) hval0 hA0 (fun g cs h => by cases h) spec_all
 refine hc.mono fun e W' ⟨he, hb⟩ => ?_
 subst he
 rw [show Try.f9.params.size = 2 by kernel_rfl] at hl
 obtain ⟨d0, d1, rfl⟩ : ∃ d0 d1, ds = [d0, d1] := by
  match ds, hl with
  | [a0, a1], _ => exact ⟨a0, a1, rfl⟩
 exact ⟨_, rfl, law_post laidOut (by kernel_rfl) (by kernel_rfl) Try.underlying4 rfl rfl hW' hb⟩
theorem law_holds : Rows.ComplexCountsSaid :=
 OpenClaim.holds_of_wide 9 Try.f9 rfl rfl rfl rfl rfl rfl rfl ⟨rfl, rfl, rfl, rfl, rfl⟩ rfl rfl rfl rfl rfl (by kernel_rfl) Try.func9 (by kernel_rfl)
  (of_decide_eq_true (by kernel_rfl)) (by unfold Func.isWrapper; first | (rw [if_pos (by decide +kernel)]; kernel_rfl) | (rw [if_neg (by decide +kernel)]; exact ⟨rfl, rfl⟩))
  (fun os started H enc _ => law_lifted os started H enc)
#print axioms law_holds
end Go.Proofs.Ytdkkgndibagihaa
