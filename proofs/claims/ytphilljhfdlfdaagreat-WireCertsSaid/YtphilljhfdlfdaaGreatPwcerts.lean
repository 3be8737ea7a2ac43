/- 'WireCerts' returns true for every input, and each argument reads afterwards as it read before. No conditions. -/
import Derived.Test.YtphilljhfdlfdaaGreatRows
import Derived.Test.YtphilljhfdlfdaaGreatZj
import Derived.Test.YtphilljhfdlfdaaGreatZm
set_option linter.all false
open Nat renaming reduceEqDiff → zn1, reduceLT → zn2, reduceLeDiff → zn3, reduceAdd → zn4, reduceMul → zn5, reduceSub → zn6, reduceBEq → zn7, mul_one → zn8, zero_add → zn9, one_mul → zna, le_refl → znb, zero_le → znc, add_sub_cancel_left → znd, sub_eq_zero_of_le → zne, add_assoc → znf
open Int renaming reduceToNat → zi1, reducePow → zi2
open List renaming length_append → zl1, drop_zero → zl2, take_succ_cons → zl3, take_zero → zl4, getElem?_drop → zl5, append_assoc → zl6, nil_append → zl7, cons_append → zl8, drop_succ_cons → zl9, take_of_length_le → zla, getElem?_eq_getElem → zlb, getElem?_eq_some_iff → zlc, map_cons → zld, map_nil → zle, all_eq_true → zlf

namespace Go.Proofs.YtphilljhfdlfdaaGreat
open Go.ChangeShapes Go.WideShapes Go.ChangeAt Go.RowKit
theorem raws_val : ∀ {yss : List (List V)}, (∀ z ∈ yss, (Shp.st [.int .u8, .int .u8, .slc (.int .i8)]).Rep z) → ∃ l : List RMt, yss.flatten = rms l ∧ l.length = yss.length ∧ ∀ y ∈ l, RMtOk y
  | [], _ => ⟨[], rfl, rfl, fun y hy => by cases hy⟩
  | z :: yss, h => by
    obtain ⟨l, h1, h2, h3⟩ := raws_val (yss := yss) fun y hy => h y (by simp [hy])
    obtain ⟨a1, b1, e1, ⟨n1, rfl, w1⟩, a2, b2, rfl, ⟨n2, rfl, w2⟩, a3, b3, rfl, ⟨yss3, hl, rfl, hr⟩, rfl⟩ := h z (by simp)
    obtain ⟨a, rfl, ha⟩ := wf_nat u8_wf w1
    obtain ⟨b, rfl, hb⟩ := wf_nat u8_wf w2
    obtain ⟨m, g1, g2, g3⟩ := reps_ints hr
    unfold maxLen at hl
    refine ⟨⟨a, b, m⟩ :: l, ?_, by simp [h2], fun y hy => ?_⟩
    · rw [List.flatten_cons, h1, e1, g1, ← g2]; rfl
    · rcases List.mem_cons.1 hy with rfl | hy
      · exact ⟨by simp only; omega, by simp only; omega, fun x hx => i8_wf x (g3 x hx), by simp only; omega⟩
      · exact h3 y hy
theorem ints_val : ∀ {yss : List (List V)}, (∀ z ∈ yss, (Shp.int .i64).Rep z) → ∃ l : List Int, yss.flatten = its l ∧ l.length = yss.length ∧ ∀ y ∈ l, I64 y
  | [], _ => ⟨[], rfl, rfl, fun y hy => by cases hy⟩
  | z :: yss, h => by
    obtain ⟨l, h1, h2, h3⟩ := ints_val (yss := yss) fun y hy => h y (by simp [hy])
    obtain ⟨n, rfl, w⟩ := h z (by simp)
    refine ⟨n :: l, ?_, by simp [h2], fun y hy => ?_⟩
    · rw [List.flatten_cons, h1]; rfl
    · rcases List.mem_cons.1 hy with rfl | hy
      · exact i64_wf _ w
      · exact h3 y hy
theorem u64_wf' (n : Int) (h : (Lit.int .u64 n).wf = true) : 0 ≤ n ∧ n < 18446744073709551616 := by
  have h : (IntKind.u64.min ≤ n ∧ n ≤ IntKind.u64.max) := by simpa [Lit.wf] using h
  have h1 : IntKind.u64.min = 0 := by decide
  have h2 : IntKind.u64.max = 18446744073709551615 := by decide
  omega
theorem spec_all (xs : List V) (h : Shp.Vals [.st [.int .i64, .st [.bool, .slc (.int .u32)], .int .u64, .slc (.int .i64), .slc (.int .i64), .slc (.st [.int .i64, .int .i64, .slc (.slc (.st [.bool, .slc (.int .u32)]))]), .slc (.st [.bool, .slc (.int .u32)]), .slc (.st [.st [.bool, .slc (.int .u32)], .st [.bool, .slc (.int .u32)]]), .bool], .slc (.st [.int .u8, .int .u8, .slc (.int .i8)]), .slc (.int .i8)] xs) : Spec Tryz.prog 3 xs (.sc (.bool true)) := by
  obtain ⟨x0, ys0, rfl, h0, x1, ys1, rfl, h1, x2, ys2, rfl, h2, rfl⟩ := h
  obtain ⟨ys, rfl, a1, b1, rfl, ⟨kind, rfl, w1⟩, a2, b2, rfl, ⟨c1, d1, rfl, ⟨neg, rfl⟩, c2, d2, rfl, ⟨yss2, hl2, rfl, hr2⟩, rfl⟩, a3, b3, rfl, ⟨p0, rfl, w3⟩, a4, b4, rfl, ⟨yss4, hl4, rfl, hr4⟩, a5, b5, rfl, ⟨yss5, hl5, rfl, hr5⟩, a6, b6, rfl, ⟨yss6, hl6, rfl, hr6⟩, a7, b7, rfl, ⟨yss7, hl7, rfl, hr7⟩, a8, b8, rfl, ⟨yss8, hl8, rfl, hr8⟩, a9, b9, rfl, ⟨found, rfl⟩, rfl⟩ := h0
  obtain ⟨yssm, hlm, rfl, hrm⟩ := h1
  obtain ⟨yssx, hlx, rfl, hrx⟩ := h2
  obtain ⟨m, g1, g2, g3⟩ := reps_nats u32_wf hr2
  obtain ⟨rw_, r1, r2, r3⟩ := ints_val hr4
  obtain ⟨cl, s1, s2, s3⟩ := ints_val hr5
  obtain ⟨ms, t1, t2, t3⟩ := raws_val hrm
  obtain ⟨l, q1, q2, q3⟩ := reps_ints hrx
  have hw3 := u64_wf' p0 w3
  obtain ⟨p, rfl⟩ : ∃ p : Nat, p0 = p := ⟨p0.toNat, by omega⟩
  unfold maxLen at *
  have h := wcerts_s (x := ⟨kind, neg, m, p, rw_, cl, found⟩) ⟨i64_wf _ w1, fun x hx => by have := g3 x hx; omega, by simp only; omega, r3, s3⟩ (by simp only; omega) (by simp only; omega) (by simp only; omega) ⟨yss6.flatten, yss6.length, yss7.flatten, yss7.length, yss8.flatten, yss8.length⟩ t3 (by omega) (fun y hy => i8_wf y (q3 y hy)) (by omega)
  rw [g1, ← g2, r1, ← r2, s1, ← s2, t1, ← t2, q1, ← q2]
  exact h
theorem own : ownKnob Tryz.prog.godebug = none := by kernel_rfl
theorem laidOut : laidOutB Tryz.prog = true := by kernel_rfl
set_option maxRecDepth 100000 in
theorem law_lifted (os : Os) (started : os.Started) (H : Type) (enc : TypeId × Value → H) :
    ReturnsInHanded {} Tryz.checked os 3 .any (Rows.wireCertsSpec.pre6 enc Tryz.prog Tryz.f3 Rows.wireCertsRow.domain false) (Rows.wireCertsSpec.post enc Tryz.prog Tryz.f3 false true false false) := by
  refine returnsInHanded_of_change (C := Tryz.checked) own started (by kernel_rfl) Tryz.func3
    (ChangeSpec.witness6 (enc := enc) (C := Tryz.checked) false ⟨#[], #[.agg #[.int .i64 0, .bool false, .slice none 0 0, .int .u64 0, .slice none 0 0, .slice none 0 0, .slice none 0 0, .slice none 0 0, .slice none 0 0, .bool false], .slice none 0 0, .slice none 0 0], []⟩ 8 (by kernel_rfl) (by kernel_rfl) (by kernel_rfl) (by kernel_rfl)) ?_
  intro W base args ds gs before hval0 hW hcnd _
  have hW' := hW
  obtain ⟨p, q, hA0, hV, rfl, hfz, hnd⟩ := hW
  obtain ⟨hl, hc⟩ := law_calls (enc := enc) [.st [.int .i64, .st [.bool, .slc (.int .u32)], .int .u64, .slc (.int .i64), .slc (.int .i64), .slc (.st [.int .i64, .int .i64, .slc (.slc (.st [.bool, .slc (.int .u32)]))]), .slc (.st [.bool, .slc (.int .u32)]), .slc (.st [.st [.bool, .slc (.int .u32)], .st [.bool, .slc (.int .u32)]]), .bool], .slc (.st [.int .u8, .int .u8, .slc (.int .i8)]), .slc (.int .i8)] (by kernel_rfl) hval0 hA0 (fun g cs h => by cases h) spec_all
  refine hc.mono fun e W' ⟨he, hb⟩ => ?_
  subst he
  rw [show Tryz.f3.params.size = 3 by kernel_rfl] at hl
  obtain ⟨d0, d1, d2, rfl⟩ : ∃ d0 d1 d2, ds = [d0, d1, d2] := by
    match ds, hl with
    | [a0, a1, a2], _ => exact ⟨a0, a1, a2, rfl⟩
  exact ⟨_, rfl, law_post laidOut (by kernel_rfl) (by kernel_rfl) Tryz.underlying4 rfl rfl hW' hb⟩
theorem law_holds : Rows.WireCertsSaid :=
  OpenClaim.holds_of_wide 3 Tryz.f3 rfl rfl rfl rfl rfl rfl rfl ⟨rfl, rfl, rfl, rfl, rfl⟩ rfl rfl rfl rfl rfl (by kernel_rfl) Tryz.func3 (by kernel_rfl)
    (of_decide_eq_true (by kernel_rfl)) (by unfold Func.isWrapper; first | (rw [if_pos (by decide +kernel)]; kernel_rfl) | (rw [if_neg (by decide +kernel)]; exact ⟨rfl, rfl⟩))
    (fun os started H enc _ => law_lifted os started H enc)
#print axioms law_holds
end Go.Proofs.YtphilljhfdlfdaaGreat
