/- 'ModmatDeterminants' returns true for every input, and each argument reads afterwards as it read before. No conditions. -/
import Derived.Test.YtpbomhmflllemaaRows
import Derived.Test.YtpbomhmflllemaaZi
set_option linter.all false

namespace Go.Proofs.Ytpbomhmflllemaa
open Go.ChangeShapes Go.WideShapes Go.ChangeAt Go.RowKit

def chV (what i k c : Nat) : V := .ag [.sc (.int .u8 what), .sc (.int .u8 i), .sc (.int .u8 k), .sc (.int .u32 c)]
theorem ch_val {x : V} (h : (Shp.st [.int .u8, .int .u8, .int .u8, .int .u32]).Val x) : ∃ what i k c : Nat, x = chV what i k c ∧ what ≤ 255 ∧ i ≤ 255 ∧ k ≤ 255 ∧ c ≤ 4294967295 := by
  obtain ⟨ys, rfl, a, b, rfl, ⟨n, rfl, hn⟩, c, d, rfl, ⟨m, rfl, hm⟩, e, f, rfl, ⟨q, rfl, hq⟩, g, r, rfl, ⟨t, rfl, ht⟩, rfl⟩ := h
  obtain ⟨n, rfl, h1⟩ := wf_nat u8_wf hn
  obtain ⟨m, rfl, h2⟩ := wf_nat u8_wf hm
  obtain ⟨q, rfl, h3⟩ := wf_nat u8_wf hq
  obtain ⟨t, rfl, h4⟩ := wf_nat u32_wf ht
  exact ⟨n, m, q, t, rfl, h1, h2, h3, h4⟩

/-- what the exchange of two rows, or of none, does to the determinant -/
theorem det_change {p n i k c : Nat} [NeZero p] {A : List (List Nat)} (hp : Pr p) (hn : n ≤ 4) (hA : MV p n n A) :
    (¬ (0 < n ∧ i % n ≠ k % n) → detL p (changeL p A 0 i k c) = detL p A) ∧ (0 < n ∧ i % n ≠ k % n → (0 + p - detL p (changeL p A 0 i k c)) % p = detL p A) := by
  have hl := hA.1
  by_cases h0 : n = 0
  · have e : changeL p A 0 i k c = A := by unfold changeL; rw [if_pos (by omega)]
    rw [e]
    exact ⟨fun _ => rfl, fun h => by omega⟩
  · have e : changeL p A 0 i k c = swapL A (i % n) (k % n) := by unfold changeL; rw [if_neg (by omega), if_pos rfl, hl]
    have hi : i % n < n := Nat.mod_lt _ (by omega)
    have hk : k % n < n := Nat.mod_lt _ (by omega)
    rw [e]
    refine ⟨fun h => ?_, fun h => det_swap hp hn hA hi hk h.2⟩
    have hik : i % n = k % n := by omega
    rw [← hik]
    congr 1
    refine mat_ext (by simp [swapL]) fun j hj => ?_
    rw [swapL_get (by omega) (by omega)]
    by_cases e : j = i % n
    · rw [if_pos e, e]
    · rw [if_neg e, if_neg e]

set_option maxRecDepth 20000 in
set_option maxHeartbeats 8000000 in
theorem mdet_s {p n kp kc kp2 kc2 what i k c : Nat} {A C L L2 : List (List Nat)} (hp : Pr p) (hle : p ≤ 2147483647) (hpr : Spec Try.prog 73 [.sc (.int .u64 p)] (.sc (.bool true))) (hA : MV p n n A) (hC : MV p n n C) (hn : n ≤ 4)
    (m1 : Spec Try.prog 32 [rawV kp kc L] (md p n A)) (m2 : Spec Try.prog 33 [rawV kp kc2 L2, .sc (.int .i64 n), .sc (.int .i64 n)] (md p n C))
    (h1 : what ≤ 255) (h2 : i ≤ 255) (h3 : k ≤ 255) (h4 : c ≤ 4294967295) :
    Spec Try.prog 9 [rawV kp kc L, rawV kp2 kc2 L2, chV what i k c] (.sc (.bool true)) := by
  have hp1 := hp.1
  have hne : NeZero p := ⟨by omega⟩
  have cs := sanity_s pr5
  have hl := hA.1
  have hlC := hC.1
  have hAC := mulL_mv (by omega) hA hC
  have hT := turnL_mv hA
  obtain ⟨n', hA', _, hn'⟩ := change_mv (what := 0) (i := i) (k := k) (c := c) (by omega) hA
  obtain rfl := hn' (by omega)
  have c1 := det_s hpr hp hle hA (by omega)
  have c2 := det_s hpr hp hle hC (by omega)
  have c3 := rmul_s (by omega) (by omega) hA hC (by omega) (by omega) (by omega)
  have c4 := det_s hpr hp hle hAC (by omega)
  have c5 := rturned_s hA (by omega) (by omega)
  have c6 := det_s hpr hp hle hT (by omega)
  have c7 := changed_s (what := 0) (c := c) hp hle hA (by omega) (by omega) (by omega) h2 h3 h4
  have c8 := det_s hpr hp hle hA' (by omega)
  have hz : Rw p n' (List.replicate n' 0) := ⟨by simp, fun x hx => by rw [List.eq_of_mem_replicate hx]; omega⟩
  have c9 := rwith_s hA hz (by omega) (by omega)
  have c10 := det_ne_s hpr (with_mv hA hz) (by omega) (by omega) (by omega)
  have c11 := rank_s hpr hp hle hA (by omega) (by omega)
  have e1 := det_mul hp hn hA hC hAC fun i j hi hj => by
    have := (actL_post hC (hA.get hi).1).2 j hj
    unfold mulM
    rw [show fM p (mulL p n' A C) i j = fR p (actL p n' (A.getD i []) C) j by unfold fM ent fR; rw [mulL_get (by omega)], this]
    rfl
  have e2 := det_turn hp hn hA hT fun i j hi hj => by
    unfold fM
    rw [turnL_ent hi (by omega)]
  obtain ⟨e3, e4⟩ := det_change (i := i) (k := k) (c := c) hp hn hA
  have e5 := det_rank hp hn hA
  have l1 := detL_lt hp1 A
  have l2 := detL_lt hp1 C
  have l3 := detL_lt hp1 (changeL p A 0 i k c)
  rw [e1] at c4
  rw [e2] at c6
  have c12 := rMul_s p (detL p A) (detL p C) (by omega) (by omega) l1 l2
  have c13 := rSub0_s p (detL p (changeL p A 0 i k c)) (by omega) (by omega) l3
  have q1 : decide ((detL p A : Int) ≥ (p : Int)) = false := decide_eq_false (by omega)
  have q2 : decide ((detL p C : Int) ≥ (p : Int)) = false := decide_eq_false (by omega)
  have q3 : decide ((detL p (changeL p A 0 i k c) : Int) ≥ (p : Int)) = false := decide_eq_false (by omega)
  have q4 : (((detL p A : Int) == 0) == decide (((rrefL p n' A).2.length : Int) < (A.length : Int))) = true := by
    rw [beq_iff_eq]
    by_cases h : detL p A = 0
    · have := e5.1 h
      rw [h]
      exact (decide_eq_true (by omega)).symm
    · have := fun h' => h (e5.2 h')
      rw [decide_eq_false (by omega)]
      exact beq_eq_false_iff_ne.2 (by omega)
  have z1 := nv_repl n'
  have z2 := nv_clo (List.replicate n' 0)
  have z3 : (nv (List.replicate n' 0)).take n' = nv (List.replicate n' 0) := List.take_of_length_le (by rw [nv_len, List.length_replicate]; exact Nat.le_refl _)
  have z4 := nv_len (List.replicate n' 0)
  rw [List.length_replicate] at z4
  have m3 : Spec Try.prog 33 [rawV kp kc2 L2, .sc (.int .i64 A.length), .sc (.int .i64 n')] (md p n' C) := by rw [hl]; exact m2
  clear m2
  unfold rawV chV at *
  unfold md mv at *
  clear e1 e2 e5 hAC hT hA'
  generalize (rrefL p n' A).2.length = rk at *
  generalize mulL p n' A C = AC at *
  generalize turnL A n' = TA at *
  generalize changeL p A 0 i k c = A' at *
  generalize A ++ [List.replicate n' 0] = AW at *
  generalize List.replicate n' 0 = zr at *
  refine Spec.run Try.func9 rfl Try.ntmps9 (by simp) (by simp (disch := omega) only [go_sem, Nat.reduceAdd]; rfl) fun B hB => ?_
  by_cases h0 : 0 < n'
  case' neg =>
    have r1 : decide ((A.length : Int) > 0) = false := decide_eq_false (by omega)
    have e5 := e3 (fun h => h0 h.1)
    have q5 : ((detL p A' : Int) == (detL p A : Int)) = true := by rw [e5]; simp
    (repeat (first | refine DO.nil (by kernel_rfl) ?_ | (with_reducible first | apply oz1 | apply oz2 | apply oz3 | apply oz4 | apply oz5 | apply oz6 | apply oz7 | apply oz8 | apply oz9 | apply ozb | apply ozc | apply oze | apply ozf | apply ozg | apply ozh | apply ozi | apply ozj | apply ozk | refine ozd (by decide) ?_) | ((first | apply SO.call | apply DO.call); (iterate 3 (focus (simp (disch := omega) only [go_sem, ↓reduceIte, Nat.reduceEqDiff, if_pos, beq_self_eq_true, z2, z3, z4] <;> rfl))); (first | apply SCall.ofX | apply DCall.ofX); (focus (first | assumption)); (focus (simp (disch := omega) only [go_sem, ↓reduceIte, Nat.reduceBEq, beq_self_eq_true] <;> rfl))) | ((with_reducible first | apply SC.condB | apply SC.region | apply SO.run | apply DO.run); (focus (simp (disch := omega) only [go_sem, ↓reduceIte, Nat.reduceEqDiff, Nat.reduceLT, Nat.reduceLeDiff, Nat.reduceAdd, reduceCtorEq, if_pos, bne_self_eq_false, beq_self_eq_true, q1, q2, q3, q4, q5, r1, z1] <;> rfl)); (first | refine pickT ?_ | refine pickF ?_ | fail_if_success with_reducible refine pickA ?_)) | ((with_reducible refine SC.draw Tab.mixed ?_ ?_); (focus (first | rfl | simp (disch := omega) only [go_sem, ↓reduceIte, Nat.reduceEqDiff, Nat.reduceLT, Nat.reduceLeDiff, Nat.reduceAdd, Nat.reduceMul, Nat.reduceSub, reduceCtorEq, Nat.reduceBEq, Int.reduceToNat, Int.reducePow, if_pos, if_neg, bne_self_eq_false, beq_self_eq_true, q1, q2, q3, q4, q5, r1, z1, z2, z3, z4]))) | (with_reducible apply SC.ops)))
  case' pos =>
    have r1 : decide ((A.length : Int) > 0) = true := decide_eq_true (by omega)
    have r2 : ((A.length : Int) == 0) = false := by rw [beq_eq_false_iff_ne]; omega
    have r3 : ((i : Int) % (A.length : Int)) = ((i % n' : Nat) : Int) := by rw [hl]; simp
    have r4 : ((k : Int) % (A.length : Int)) = ((k % n' : Nat) : Int) := by rw [hl]; simp
    by_cases hik : i % n' = k % n'
    case' pos =>
      have r5 : (((i % n' : Nat) : Int) != ((k % n' : Nat) : Int)) = false := by rw [hik]; simp
      have e5 := e3 (fun h => h.2 hik)
      have q5 : ((detL p A' : Int) == (detL p A : Int)) = true := by rw [e5]; simp
      (repeat (first | refine DO.nil (by kernel_rfl) ?_ | (with_reducible first | apply oz1 | apply oz2 | apply oz3 | apply oz4 | apply oz5 | apply oz6 | apply oz7 | apply oz8 | apply oz9 | apply ozb | apply ozc | apply oze | apply ozf | apply ozg | apply ozh | apply ozi | apply ozj | apply ozk | refine ozd (by decide) ?_) | ((first | apply SO.call | apply DO.call); (iterate 3 (focus (simp (disch := omega) only [go_sem, ↓reduceIte, Nat.reduceEqDiff, if_pos, beq_self_eq_true, z2, z3, z4] <;> rfl))); (first | apply SCall.ofX | apply DCall.ofX); (focus (first | assumption)); (focus (simp (disch := omega) only [go_sem, ↓reduceIte, Nat.reduceBEq, beq_self_eq_true] <;> rfl))) | ((with_reducible first | apply SC.condB | apply SC.region | apply SO.run | apply DO.run); (focus (simp (disch := omega) only [go_sem, ↓reduceIte, Nat.reduceEqDiff, Nat.reduceLT, Nat.reduceLeDiff, Nat.reduceAdd, reduceCtorEq, if_pos, if_neg, bne_self_eq_false, beq_self_eq_true, q1, q2, q3, q4, q5, r1, r3, r4, r5, z1] <;> rfl)); (first | refine pickT ?_ | refine pickF ?_ | fail_if_success with_reducible refine pickA ?_)) | ((with_reducible refine SC.draw Tab.mixed ?_ ?_); (focus (first | rfl | simp (disch := omega) only [go_sem, ↓reduceIte, Nat.reduceEqDiff, Nat.reduceLT, Nat.reduceLeDiff, Nat.reduceAdd, Nat.reduceMul, Nat.reduceSub, reduceCtorEq, Nat.reduceBEq, Int.reduceToNat, Int.reducePow, if_pos, if_neg, bne_self_eq_false, beq_self_eq_true, q1, q2, q3, q4, q5, r1, r2, r3, r4, r5, z1, z2, z3, z4]))) | (with_reducible apply SC.ops)))
    case' neg =>
      have r5 : (((i % n' : Nat) : Int) != ((k % n' : Nat) : Int)) = true := by rw [bne_iff_ne]; omega
      have e5 := e4 ⟨h0, hik⟩
      rw [e5] at c13
      (repeat (first | refine DO.nil (by kernel_rfl) ?_ | (with_reducible first | apply oz1 | apply oz2 | apply oz3 | apply oz4 | apply oz5 | apply oz6 | apply oz7 | apply oz8 | apply oz9 | apply ozb | apply ozc | apply oze | apply ozf | apply ozg | apply ozh | apply ozi | apply ozj | apply ozk | refine ozd (by decide) ?_) | ((first | apply SO.call | apply DO.call); (iterate 3 (focus (simp (disch := omega) only [go_sem, ↓reduceIte, Nat.reduceEqDiff, if_pos, beq_self_eq_true, z2, z3, z4] <;> rfl))); (first | apply SCall.ofX | apply DCall.ofX); (focus (first | assumption)); (focus (simp (disch := omega) only [go_sem, ↓reduceIte, Nat.reduceBEq, beq_self_eq_true] <;> rfl))) | ((with_reducible first | apply SC.condB | apply SC.region | apply SO.run | apply DO.run); (focus (simp (disch := omega) only [go_sem, ↓reduceIte, Nat.reduceEqDiff, Nat.reduceLT, Nat.reduceLeDiff, Nat.reduceAdd, reduceCtorEq, if_pos, if_neg, bne_self_eq_false, beq_self_eq_true, q1, q2, q3, q4, r1, r3, r4, r5, z1] <;> rfl)); (first | refine pickT ?_ | refine pickF ?_ | fail_if_success with_reducible refine pickA ?_)) | ((with_reducible refine SC.draw Tab.mixed ?_ ?_); (focus (first | rfl | simp (disch := omega) only [go_sem, ↓reduceIte, Nat.reduceEqDiff, Nat.reduceLT, Nat.reduceLeDiff, Nat.reduceAdd, Nat.reduceMul, Nat.reduceSub, reduceCtorEq, Nat.reduceBEq, Int.reduceToNat, Int.reducePow, if_pos, if_neg, bne_self_eq_false, beq_self_eq_true, q1, q2, q3, q4, r1, r2, r3, r4, r5, z1, z2, z3, z4]))) | (with_reducible apply SC.ops)))
  all_goals
    exact retQ_ret Try.results9 (by simp (disch := omega) only [go_sem, ↓reduceIte]; rfl) (by simp (disch := omega) only [go_sem]; rfl) rfl

theorem spec_all (xs : List V) (h : Shp.Vals [.st [.int .u8, .int .u8, .slc (.slc (.int .u32))], .st [.int .u8, .int .u8, .slc (.slc (.int .u32))], .st [.int .u8, .int .u8, .int .u8, .int .u32]] xs) : Spec Try.prog 9 xs (.sc (.bool true)) := by
  obtain ⟨x0, ys0, rfl, h0, x1, ys1, rfl, h1, x2, ys2, rfl, h2, rfl⟩ := h
  obtain ⟨kp, kc, L, rfl, b1, b2, b3, b4⟩ := raw_val h0
  obtain ⟨kp2, kc2, L2, rfl, _, d2, d3, d4⟩ := raw_val h1
  obtain ⟨what, i, k, c, rfl, a1, a2, a3, a4⟩ := ch_val h2
  have hp := pOf_pr kp
  have hp1 := hp.1
  have hle := pOf_le kp
  exact mdet_s hp hle (prim_s kp) (sizedL_mv (by omega)) (sizedL_mv (by omega)) (by omega) (rsquare_s (by omega) (by omega) b1 rfl b3 b4) (rsized_s (by omega) (by omega) b1 rfl d3 (by omega) (by omega)) a1 a2 a3 a4

theorem own : ownKnob Try.prog.godebug = none := by kernel_rfl
theorem laidOut : laidOutB Try.prog = true := by kernel_rfl

set_option maxRecDepth 100000 in
theorem law_lifted (os : Os) (started : os.Started) (H : Type) (enc : TypeId × Value → H) :
    ReturnsInHanded {} Try.checked os 9 .any (Rows.modmatDeterminantsSpec.pre6 enc Try.prog Try.f9 Rows.modmatDeterminantsRow.domain false) (Rows.modmatDeterminantsSpec.post enc Try.prog Try.f9 false true false false) := by
  refine returnsInHanded_of_change (C := Try.checked) own started (by kernel_rfl) Try.func9
    (ChangeSpec.witness6 (enc := enc) (C := Try.checked) false ⟨#[], #[.agg #[.int .u8 0, .int .u8 0, .slice none 0 0], .agg #[.int .u8 0, .int .u8 0, .slice none 0 0], .agg #[.int .u8 0, .int .u8 0, .int .u8 0, .int .u32 0]], []⟩ 8 (by kernel_rfl) (by kernel_rfl) (by kernel_rfl) (by kernel_rfl)) ?_
  intro W base args ds gs before hval0 hW hcnd _
  have hW' := hW
  obtain ⟨p, q, hA0, hV, rfl, hfz, hnd⟩ := hW
  obtain ⟨hl, hc⟩ := law_calls (enc := enc) [.st [.int .u8, .int .u8, .slc (.slc (.int .u32))], .st [.int .u8, .int .u8, .slc (.slc (.int .u32))], .st [.int .u8, .int .u8, .int .u8, .int .u32]] (by kernel_rfl) hval0 hA0 (fun g cs h => by cases h) spec_all
  refine hc.mono fun e W' ⟨he, hb⟩ => ?_
  subst he
  rw [show Try.f9.params.size = 3 by kernel_rfl] at hl
  obtain ⟨d0, d1, d2, rfl⟩ : ∃ d0 d1 d2, ds = [d0, d1, d2] := by
    match ds, hl with
    | [a0, a1, a2], _ => exact ⟨a0, a1, a2, rfl⟩
  exact ⟨_, rfl, law_post laidOut (by kernel_rfl) (by kernel_rfl) Try.underlying4 rfl rfl hW' hb⟩

theorem law_holds : Rows.ModmatDeterminantsSaid :=
  OpenClaim.holds_of_wide 9 Try.f9 rfl rfl rfl rfl rfl rfl rfl ⟨rfl, rfl, rfl, rfl, rfl⟩ rfl rfl rfl rfl rfl (by kernel_rfl) Try.func9 (by kernel_rfl)
    (of_decide_eq_true (by kernel_rfl)) (by unfold Func.isWrapper; first | (rw [if_pos (by decide +kernel)]; kernel_rfl) | (rw [if_neg (by decide +kernel)]; exact ⟨rfl, rfl⟩))
    (fun os started H enc _ => law_lifted os started H enc)
#print axioms law_holds
end Go.Proofs.Ytpbomhmflllemaa
