/- 'ComplexLimits' returns true for every input, and each argument reads afterwards as it read before. No conditions. -/
import Derived.Test.YtdkkgndibagihaaRows
import Derived.Test.YtdkkgndibagihaaVm
set_option linter.all false
open Nat renaming reduceEqDiff → zn1, reduceLT → zn2, reduceLeDiff → zn3, reduceAdd → zn4, reduceMul → zn5, reduceSub → zn6, reduceBEq → zn7, mul_one → zn8, zero_add → zn9, one_mul → zna, le_refl → znb, zero_le → znc, add_sub_cancel_left → znd, sub_eq_zero_of_le → zne, add_assoc → znf
open Int renaming reduceToNat → zi1, reducePow → zi2
open List renaming length_append → zl1, drop_zero → zl2, take_succ_cons → zl3, take_zero → zl4, getElem?_drop → zl5, append_assoc → zl6, nil_append → zl7, cons_append → zl8, drop_succ_cons → zl9, take_of_length_le → zla, getElem?_eq_getElem → zlb, getElem?_eq_some_iff → zlc, map_cons → zld, map_nil → zle, all_eq_true → zlf

namespace Go.Proofs.Ytdkkgndibagihaa
open Go.ChangeShapes Go.WideShapes Go.ChangeAt Go.RowKit
theorem point_s (id : Int) : Spec Try.prog 39 [.sc (.int .i64 id)] (.ag [.sc (.int .i64 id), .sc (.int .i64 0), .im [] 0]) := by
 refine qF Try.func39 Try.ntmps39 fun B hB => ?_
 refine qW ?_
 exact qE Try.results39
def vL (a : Int) : Nat → List Cx
 | 0 => []
 | m + 1 => vL a m ++ [⟨a + m, 0, []⟩]
theorem vL_len (a : Int) : ∀ m, (vL a m).length = m
 | 0 => rfl
 | m + 1 => by rw [vL, zl1, vL_len a m]; rfl
theorem vL_mem {a : Int} {z : Cx} : ∀ {m : Nat}, z ∈ vL a m → ∃ i, i < m ∧ z = ⟨a + (i : Nat), 0, []⟩
 | 0, h => by cases h
 | m + 1, h => by
  rw [vL, List.mem_append] at h
  rcases h with h | h
  ·obtain ⟨i, hi, e⟩ := vL_mem h
   exact ⟨i, by omega, e⟩
  ·rw [List.mem_singleton] at h
   exact ⟨m, by omega, h⟩
theorem vL_get {a : Int} {i : Nat} : ∀ {m : Nat}, i < m → (vL a m).getD i cx0 = ⟨a + (i : Nat), 0, []⟩
 | 0, h => by omega
 | m + 1, h => by
  rw [vL, List.getD_eq_getElem?_getD]
  by_cases hi : i < m
  ·rw [List.getElem?_append_left (by rw [vL_len]; exact hi), ← List.getD_eq_getElem?_getD]; exact vL_get hi
  ·rw [List.getElem?_append_right (by rw [vL_len]; omega), vL_len, show i - m = 0 by omega, show i = m by omega]; rfl
theorem vL_srt (a : Int) (m : Nat) : Srt (vL a m) := fun i j hij hj => by
 rw [vL_len] at hj
 rw [vL_get hj, vL_get (by omega)]
 simp only; omega
theorem vL_ok {a : Int} (h1 : -40000 ≤ a) (h2 : a ≤ 40000) {m : Nat} (hm : m ≤ 500) : CxOk 1 (vL a m) := ⟨by rw [vL_len]; omega, fun z hz => by
 obtain ⟨i, hi, rfl⟩ := vL_mem hz
 exact ⟨by unfold I64; simp only; omega, by simp only; omega, znc _, (fun f h => by cases h), (fun f h => by cases h)⟩⟩
theorem vFo (C : List Cx) (n : Int) : FacesOk C ⟨n, 0, []⟩ := ⟨trivial, (fun f h => by cases h), by simp only; omega, (fun f h => by cases h)⟩
theorem vL_val {a : Int} {m : Nat} : VAL (vL a m) ↔ m ≤ 400 := by
 constructor
 ·intro h; have := h.len; rwa [vL_len] at this
 ·intro h
  exact ⟨by rw [vL_len]; exact h, vL_srt a m, fun z hz => by obtain ⟨i, hi, rfl⟩ := vL_mem hz; exact vFo _ _, fun z hz n => by obtain ⟨i, hi, rfl⟩ := vL_mem hz; rfl⟩
theorem vL_lbn (a : Int) (m : Nat) : lbn (vL a m) (a - 1) = 0 := lbn_eq (znc _) (fun j h => by omega) fun h => by
 rw [vL_len] at h
 rw [vL_get h]; simp only; omega
theorem vL_find (a : Int) (m : Nat) : findL (vL a m) (a - 1) = none := findL_none fun j h => by
 rw [vL_len] at h
 rw [vL_get h]; simp only; omega
set_option maxHeartbeats 16000000 in
set_option maxRecDepth 8000 in
theorem llimits_s {n : Nat} {a : Int} (hn : n < 256) (ha : -32768 ≤ a ∧ a ≤ 32767) : Spec Try.prog 10 [.sc (.int .u8 (n : Nat)), .sc (.int .i16 a)] (.sc (.bool true)) := by
 have cs := sanity_s
 obtain ⟨N, hN⟩ : ∃ N, N = 398 + n % 4 := ⟨_, rfl⟩
 refine qF Try.func10 Try.ntmps10 fun B hB => ?_
 refine qW ?_
 refine SC.loop (fun j : Nat => ⟨[(0, .sc (.int .u8 (n : Nat))), (1, .sc (.int .i16 a)), (5, .sc (.bool true)), (6, .sl 0 0 j 3 none), (7, .sc (.int .i64 (j : Nat)))], [(0, ⟨39, cxs (vL a j), false⟩)], 1, 83⟩) (fun j => j ≤ N) (fun j => N - j) 0 ?_ ?_ ?_
 ·show Le B _ ⟨[(0, .sc (.int .u8 (n : Nat))), (1, .sc (.int .i16 a)), (5, .sc (.bool true)), (6, .sl 0 0 0 3 none), (7, .sc (.int .i64 ((0 : Nat) : Int)))], [(0, ⟨39, [], false⟩)], 1, 83⟩
  exact qLc
 ·exact znc _
 rintro j hj K0 hK0
 have gl := cxs_len (vL a j)
 rw [vL_len] at gl
 have gt : (cxs (vL a j)).take (j * 3) = cxs (vL a j) := zla (by omega)
 by_cases hc : j < N
 ·have q1 : decide ((j : Int) < 398 + (n : Int) % 4) = true := decide_eq_true (by omega)
  have es : cxs (vL a j) ++ [V.sc (.int .i64 (a + (j : Nat))), .sc (.int .i64 0), .im [] 0] = cxs (vL a (j + 1)) := cxs_snoc (vL a j) ⟨a + (j : Nat), 0, []⟩
  have c1 := point_s (a + (j : Nat))
  refine qWf (Q3 @q1 @gl @gt) ?_
  rw [es]
  refine hK0 _ (j + 1) (Le.swap 0 2 hB (by omega) (by omega) ?_) (by omega) (by omega)
  exact qLc
 ·have q1 : decide ((j : Int) < 398 + (n : Int) % 4) = false := decide_eq_false (by omega)
  have hjN : j = N := by omega
  subst hjN
  have hcl := cxs_clo (vL a j)
  have hok := vL_ok (a := a) (m := j) (by omega) (by omega) (by omega)
  obtain ⟨r, c1, hr⟩ := cvalid_s hok (by omega)
  have c2 := point_s (a - 1)
  have c3 := insert_s (x := ⟨a - 1, 0, []⟩) (e := 0) (vL_srt a j) hok ⟨by unfold I64; simp only; omega, by simp only; omega, znc _, (fun f h => by cases h), (fun f h => by cases h)⟩ (by omega) (fitsP0 (vFo _ _) fun n => rfl)
  have eI : insE (vL a j) ⟨a - 1, 0, []⟩ 0 = if 400 ≤ j then 2 else 0 := by unfold insE; rw [vL_find, vL_len]; simp
  have eL : insL (vL a j) ⟨a - 1, 0, []⟩ = ⟨a - 1, 0, []⟩ :: vL a j := by unfold insL; rw [vL_lbn]; rfl
  have eC : cxs (⟨a - 1, 0, []⟩ :: vL a j) = [.sc (.int .i64 (a - 1)), .sc (.int .i64 0), .im [] 0] ++ cxs (vL a j) := rfl
  have lC : ((⟨a - 1, 0, []⟩ : Cx) :: vL a j).length = j + 1 := by rw [List.length_cons, vL_len]
  unfold insV at c3
  rw [eI, eL] at c3
  unfold cxV cxC at *
  rw [vL_len] at c1 c3
  clear hK0
  by_cases h400 : j ≤ 400
  ·have hrt : r = true := hr.2 (vL_val.2 h400)
   subst hrt
   have q2 : decide ((j : Int) ≤ 400) = true := decide_eq_true (by omega)
   have q3 : decide ((j : Int) > 400) = false := decide_eq_false (by omega)
   by_cases h4 : 400 ≤ j
   ·have q4 : ((j : Int) == 400) = true := by rw [beq_iff_eq]; omega
    rw [if_pos h4, if_neg (by omega)] at c3
    refine qWf (Q7 @q1 @q2 @q3 @q4 @gl @gt @hcl) ?_
    exact qE Try.results10
   ·have q4 : ((j : Int) == 400) = false := by rw [beq_eq_false_iff_ne]; omega
    rw [if_neg h4, if_pos rfl, eC, lC] at c3
    have q5 : (((j + 1 : Nat) : Int) == (j : Int) + 1) = true := by rw [beq_iff_eq]; omega
    refine qWf (Q8 @q1 @q2 @q3 @q4 @q5 @gl @gt @hcl) ?_
    exact qE Try.results10
  ·have hrf : r = false := by
    cases r with
    | false => rfl
    | true => exact absurd (vL_val.1 (hr.1 rfl)) h400
   subst hrf
   have q2 : decide ((j : Int) ≤ 400) = false := decide_eq_false (by omega)
   have q3 : decide ((j : Int) > 400) = true := decide_eq_true (by omega)
   clear c3 eI eL eC lC
   refine qWf (Q6 @q1 @q2 @q3 @gl @gt @hcl) ?_
   exact qE Try.results10
theorem spec_all (xs : List V) (h : Shp.Vals [.int .u8, .int .i16] xs) : Spec Try.prog 10 xs (.sc (.bool true)) := by
 obtain ⟨x0, ys0, rfl, ⟨n, rfl, hn⟩, x1, ys1, rfl, ⟨m, rfl, hm⟩, rfl⟩ := h
 obtain ⟨k, rfl, hk⟩ := wf_nat u8_wf hn
 exact llimits_s (by omega) (i16w m hm)
theorem own : ownKnob Try.prog.godebug = none := by kernel_rfl
theorem laidOut : laidOutB Try.prog = true := by kernel_rfl
set_option maxRecDepth 100000 in
theorem law_lifted (os : Os) (started : os.Started) (H : Type) (enc : TypeId × Value → H) :
  ReturnsInHanded {} Try.checked os 10 .any (Rows.complexLimitsSpec.pre6 enc Try.prog Try.f10 Rows.complexLimitsRow.domain false) (Rows.complexLimitsSpec.post enc Try.prog Try.f10 false true false false) := by
 refine returnsInHanded_of_change (C := Try.checked) own started (by kernel_rfl) Try.func10
  (ChangeSpec.witness6 (enc := enc) (C := Try.checked) false ⟨#[], #[.int .u8 0, .int .i16 0], []⟩ 8 (by kernel_rfl) (by kernel_rfl) (by kernel_rfl) (by kernel_rfl)) ?_
 intro W base args ds gs before hval0 hW hcnd _
 have hW' := hW
 obtain ⟨p, q, hA0, hV, rfl, hfz, hnd⟩ := hW
 obtain ⟨hl, hc⟩ := law_calls (enc := enc) [.int .u8, .int .i16] (by kernel_rfl) hval0 hA0 (fun g cs h => by cases h) spec_all
 refine hc.mono fun e W' ⟨he, hb⟩ => ?_
 subst he
 rw [show Try.f10.params.size = 2 by kernel_rfl] at hl
 obtain ⟨d0, d1, rfl⟩ : ∃ d0 d1, ds = [d0, d1] := by
  match ds, hl with
  | [a0, a1], _ => exact ⟨a0, a1, rfl⟩
 exact ⟨_, rfl, law_post laidOut (by kernel_rfl) (by kernel_rfl) Try.underlying4 rfl rfl hW' hb⟩
theorem law_holds : Rows.ComplexLimitsSaid :=
 OpenClaim.holds_of_wide 10 Try.f10 rfl rfl rfl rfl rfl rfl rfl ⟨rfl, rfl, rfl, rfl, rfl⟩ rfl rfl rfl rfl rfl (by kernel_rfl) Try.func10 (by kernel_rfl)
  (of_decide_eq_true (by kernel_rfl)) (by unfold Func.isWrapper; first | (rw [if_pos (by decide +kernel)]; kernel_rfl) | (rw [if_neg (by decide +kernel)]; exact ⟨rfl, rfl⟩))
  (fun os started H enc _ => law_lifted os started H enc)
#print axioms law_holds
end Go.Proofs.Ytdkkgndibagihaa
