/- 'ModmatLeft' returns true for every input, and each argument reads afterwards as it read before. No conditions. -/
import Derived.Test.YtpbomhmflllemaaRows
import Derived.Test.YtpbomhmflllemaaZi
set_option linter.all false

namespace Go.Proofs.Ytpbomhmflllemaa
open Go.ChangeShapes Go.WideShapes Go.ChangeAt Go.RowKit

theorem partL_rw {p n : Nat} {l : List Nat} (hp : 0 < p) : Rw p n (partL p l n n) := by
  refine ⟨partL_len, fun x hx => ?_⟩
  obtain ⟨j, _, rfl⟩ := List.mem_map.1 hx
  split
  · exact Nat.mod_lt _ hp
  · exact hp
theorem int_beq {a b : Int} {t : Bool} (h : a = b ↔ t = true) : (a == b) = t := by
  cases t
  · rw [beq_eq_false_iff_ne]; intro e; have := h.1 e; cases this
  · rw [beq_iff_eq]; exact h.2 rfl

set_option maxRecDepth 20000 in
set_option maxHeartbeats 8000000 in
theorem lleft_s {p n w kp kc : Nat} {M L : List (List Nat)} {l : List Nat} (hm : Mm p n w M) (m1 : Spec Try.prog 12 [rawV kp kc L] (md p w M)) (hu : ∀ x ∈ l, x < 4294967296) (hll : l.length ≤ maxLen) :
    Spec Try.prog 7 [rawV kp kc L, .im (uv l) l.length] (.sc (.bool true)) := by
  obtain ⟨hp, hle, hpr, hM, hn, hw⟩ := hm
  have hp1 := hp.1
  have hne : NeZero p := ⟨by omega⟩
  have cs := sanity_s pr5
  have hl := hM.1
  have c1 := left_s hpr hp hle hM (by omega) (by omega)
  obtain ⟨⟨pv, hF⟩, hA, hS⟩ := leftL_spec hp hM
  have hN := nullity hp hM
  generalize hK0 : leftL p w M = K0 at *
  have hKl : K0.length = pv.length := hF.mv.1
  have hKm : MV p K0.length n K0 := by rw [hKl]; exact hF.mv
  have c2 := rvalid_t hp (by omega) hKm (by omega) (by omega)
  have c3 := rrref_s hp hle hKm (by omega) (by omega)
  rw [rrefL_self hp hF] at c3
  have c4 := rvector_s (p := p) (n := n) (l := l) (by omega) (by omega) hu (by omega)
  have hv : Rw p n (partL p l n n) := partL_rw (by omega)
  have c5 := rsolvable_s hp hle hKm hv (by omega) (by omega)
  have c6 := rsame_t hKm (by omega) (by omega)
  have c7 := ract_s (p := p) (x := partL p l n n) (by omega) (by omega) hM hv (by omega) (by omega)
  have hav := (actL_post hM hv.1).1
  have c8 := rzero_s hav.1 (by omega)
  have hiff : (((rrefL p n (K0 ++ [partL p l n n])).2.length : Int) = ((rrefL p n K0).2.length : Int)) ↔ zeroL (actL p w (partL p l n n) M) = true := by
    rw [ann_iff hM hv.1, Int.ofNat_inj, solvable_iff hp hKm hv]
    exact ⟨fun h => Ann.span hA h, fun h => hS _ h⟩
  have hb := int_beq hiff
  rw [hb] at c5
  have hz : ∀ i, i < K0.length → zeroL (actL p w (K0.getD i []) M) = true := fun i hi => (ann_iff hM (hKm.get hi).1).2 (hA i hi)
  have c9 : ∀ i, i < K0.length → Spec Try.prog 27 [.im (nv (K0.getD i [])) n, md p w M] (.im (nv (actL p w (K0.getD i []) M)) w) := fun i hi => ract_s (by omega) (by omega) hM (hKm.get hi) (by omega) (by omega)
  have c10 : ∀ i, i < K0.length → Spec Try.prog 24 [.im (nv (actL p w (K0.getD i []) M)) w] (.sc (.bool true)) := fun i hi => by
    have := rzero_s (actL_post hM (hKm.get hi).1).1.1 (w := w) (by omega)
    rwa [hz i hi] at this
  unfold rawV at *
  unfold md mv at *
  generalize zeroL (actL p w (partL p l n n) M) = zb at *
  generalize actL p w (partL p l n n) M = av at *
  generalize partL p l n n = v at *
  rw [hl] at m1 c1 c7 c9
  simp only at c3
  have g1 := imR_len n K0
  have q1 : ((pv.length : Int) == (K0.length : Int)) = true := by rw [beq_iff_eq]; omega
  have q2 : (zb == zb) = true := by cases zb <;> rfl
  refine Spec.run Try.func7 rfl Try.ntmps7 (by simp) (by simp (disch := omega) only [go_sem, Nat.reduceAdd]; rfl) fun B hB => ?_
  (repeat (first | refine DO.nil (by kernel_rfl) ?_ | (with_reducible first | apply oz1 | apply oz2 | apply oz3 | apply oz4 | apply oz5 | apply oz6 | apply oz7 | apply oz8 | apply oz9 | apply ozb | apply ozc | apply oze | apply ozf | apply ozg | apply ozh | apply ozi | apply ozj | apply ozk | refine ozd (by decide) ?_) | ((first | apply SO.call | apply DO.call); (iterate 3 (focus (simp (disch := omega) only [go_sem, ↓reduceIte] <;> rfl))); (first | apply SCall.ofX | apply DCall.ofX); (focus (first | assumption)); (focus (simp (disch := omega) only [go_sem] <;> rfl))) | ((with_reducible first | apply SC.condB | apply SC.region | apply SO.run | apply DO.run); (focus (simp (disch := omega) only [go_sem, ↓reduceIte, Nat.reduceEqDiff, Nat.reduceLeDiff, Nat.reduceAdd, reduceCtorEq, bne_self_eq_false] <;> rfl)); (first | refine pickT ?_ | refine pickF ?_ | fail_if_success with_reducible refine pickA ?_)) | ((with_reducible refine SC.draw Tab.mixed ?_ ?_); (focus (first | rfl | simp (disch := omega) only [go_sem, ↓reduceIte, Nat.reduceEqDiff, Nat.reduceLT, Nat.reduceLeDiff, Nat.reduceAdd, Nat.reduceMul, Nat.reduceSub, reduceCtorEq, Nat.reduceBEq, Int.reduceToNat, Int.reducePow, if_pos, if_neg, bne_self_eq_false]))) | (with_reducible apply SC.ops)))
  refine SC.loop (fun i : Nat => ⟨[(1, .im (uv l) l.length), (5, .sc (.bool true)), (6, .pt 1 0), (7, .pt 2 0), (8, .sc (.int .i64 i))], [(2, ⟨29, [.sc (.int .u64 p), .sc (.int .i64 n), .im (imR n (nR K0)) K0.length], false⟩), (1, ⟨29, [.sc (.int .u64 p), .sc (.int .i64 w), .im (imR w (nR M)) n], false⟩)], 3, 89⟩)
    (fun i => i ≤ K0.length) (fun i => K0.length - i) 0 ?_ ?_ ?_
  · (refine Le.slots ?_ ?_ ?_ <;> (repeat' (first | (exact fun _ _ h => h) | exact Nat.le_refl _ | exact leSl_nil | refine leSl_cons (by simp (disch := omega) only [go_sem, ↓reduceIte, Nat.reduceEqDiff, reduceCtorEq] <;> rfl) ?_ ?_ | exact VLe.junk _ | exact VLe.refl rfl | exact VLe.nil_sl _ _ _ | exact VLe.int (by first | rfl | omega | (dsimp only; omega)) | exact VLe.bool rfl | exact VLe.sl rfl (by first | rfl | omega) | exact VLe.cap rfl (by first | rfl | omega) | exact VLe.im rfl rfl | omega | (refine fun id k h => ?_; simp only [hget] at h ⊢; (repeat' (split at h)) <;> first | (cases h; done) | (simp (disch := omega) only [if_pos, if_neg]; exact h)))))
  · exact Nat.zero_le _
  · intro i hi K hK
    by_cases hc : i < K0.length
    · have q3 := decide_eq_true (p := (i : Int) < (K0.length : Int)) (by omega)
      have d1 := c9 i hc
      have d2 := c10 i hc
      have g2 := imR_get (w := n) (M := K0) (i := i) hc
      generalize K0.getD i [] = r at *
      (repeat (first | refine DO.nil (by kernel_rfl) ?_ | (with_reducible first | apply oz1 | apply oz2 | apply oz3 | apply oz4 | apply oz5 | apply oz6 | apply oz7 | apply oz8 | apply oz9 | apply ozb | apply ozc | apply oze | apply ozf | apply ozg | apply ozh | apply ozi | apply ozj | apply ozk | refine ozd (by decide) ?_) | ((first | apply SO.call | apply DO.call); (iterate 3 (focus (simp (disch := omega) only [go_sem, ↓reduceIte, Nat.reduceEqDiff] <;> rfl))); (first | apply SCall.ofX | apply DCall.ofX); (focus (first | assumption)); (focus (simp (disch := omega) only [go_sem] <;> rfl))) | ((with_reducible first | apply SC.condB | apply SC.region | apply SO.run | apply DO.run); (focus (simp (disch := omega) only [go_sem, ↓reduceIte, Nat.reduceEqDiff, Nat.reduceLeDiff, Nat.reduceAdd, reduceCtorEq, if_pos, q3, g1, g2, List.getElem?_drop] <;> rfl)); (first | refine pickT ?_ | refine pickF ?_ | fail_if_success with_reducible refine pickA ?_)) | ((with_reducible refine SC.draw Tab.mixed ?_ ?_); (focus (first | rfl | simp (disch := omega) only [go_sem, ↓reduceIte, Nat.reduceEqDiff, Nat.reduceLT, Nat.reduceLeDiff, Nat.reduceAdd, Nat.reduceMul, Nat.reduceSub, reduceCtorEq, Nat.reduceBEq, Int.reduceToNat, Int.reducePow, if_pos, if_neg, q3, g1, g2, List.getElem?_drop]))) | (with_reducible apply SC.ops)))
      refine hK _ (i + 1) ?_ (by omega) (by omega)
      (refine Le.slots ?_ ?_ ?_ <;> (repeat' (first | (exact fun _ _ h => h) | exact Nat.le_refl _ | exact leSl_nil | refine leSl_cons (by simp (disch := omega) only [go_sem, ↓reduceIte, Nat.reduceEqDiff] <;> rfl) ?_ ?_ | exact VLe.junk _ | exact VLe.refl rfl | exact VLe.nil_sl _ _ _ | exact VLe.int (by first | rfl | omega | (dsimp only; omega)) | exact VLe.bool rfl | exact VLe.sl rfl (by first | rfl | omega) | exact VLe.cap rfl (by first | rfl | omega) | exact VLe.im rfl rfl | omega | (refine fun id k h => ?_; simp only [hget] at h ⊢; (repeat' (split at h)) <;> first | (cases h; done) | (simp (disch := omega) only [if_pos, if_neg]; exact h)))))
    · have q3 := decide_eq_false (p := (i : Int) < (K0.length : Int)) (by omega)
      (repeat (first | refine DO.nil (by kernel_rfl) ?_ | (with_reducible first | apply oz1 | apply oz2 | apply oz3 | apply oz4 | apply oz5 | apply oz6 | apply oz7 | apply oz8 | apply oz9 | apply ozb | apply ozc | apply oze | apply ozf | apply ozg | apply ozh | apply ozi | apply ozj | apply ozk | refine ozd (by decide) ?_) | ((first | apply SO.call | apply DO.call); (iterate 3 (focus (simp (disch := omega) only [go_sem, ↓reduceIte, Nat.reduceEqDiff] <;> rfl))); (first | apply SCall.ofX | apply DCall.ofX); (focus (first | assumption)); (focus (simp (disch := omega) only [go_sem] <;> rfl))) | ((with_reducible first | apply SC.condB | apply SC.region | apply SO.run | apply DO.run); (focus (simp (disch := omega) only [go_sem, ↓reduceIte, Nat.reduceEqDiff, Nat.reduceLT, Nat.reduceLeDiff, Nat.reduceAdd, reduceCtorEq, q3, q1, q2] <;> rfl)); (first | refine pickT ?_ | refine pickF ?_ | fail_if_success with_reducible refine pickA ?_)) | ((with_reducible refine SC.draw Tab.mixed ?_ ?_); (focus (first | rfl | simp (disch := omega) only [go_sem, ↓reduceIte, Nat.reduceEqDiff, Nat.reduceLT, Nat.reduceLeDiff, Nat.reduceAdd, Nat.reduceMul, Nat.reduceSub, reduceCtorEq, Nat.reduceBEq, Int.reduceToNat, Int.reducePow, if_pos, if_neg, q3, q1, q2]))) | (with_reducible apply SC.ops)))
      exact retQ_ret Try.results7 (by simp (disch := omega) only [go_sem, ↓reduceIte]; rfl) (by simp (disch := omega) only [go_sem]; rfl) rfl

theorem spec_all (xs : List V) (h : Shp.Vals [.st [.int .u8, .int .u8, .slc (.slc (.int .u32))], .slc (.int .u32)] xs) : Spec Try.prog 7 xs (.sc (.bool true)) := by
  obtain ⟨x0, ys0, rfl, h0, x1, ys1, rfl, h1, rfl⟩ := h
  obtain ⟨p, n, w, M, kp, kc, L, hm, rfl, m1⟩ := made_val h0
  obtain ⟨l, rfl, h2, h3⟩ := u32_val h1
  exact lleft_s hm m1 h2 h3

theorem own : ownKnob Try.prog.godebug = none := by kernel_rfl
theorem laidOut : laidOutB Try.prog = true := by kernel_rfl

set_option maxRecDepth 100000 in
theorem law_lifted (os : Os) (started : os.Started) (H : Type) (enc : TypeId × Value → H) :
    ReturnsInHanded {} Try.checked os 7 .any (Rows.modmatLeftSpec.pre6 enc Try.prog Try.f7 Rows.modmatLeftRow.domain false) (Rows.modmatLeftSpec.post enc Try.prog Try.f7 false true false false) := by
  refine returnsInHanded_of_change (C := Try.checked) own started (by kernel_rfl) Try.func7
    (ChangeSpec.witness6 (enc := enc) (C := Try.checked) false ⟨#[], #[.agg #[.int .u8 0, .int .u8 0, .slice none 0 0], .slice none 0 0], []⟩ 8 (by kernel_rfl) (by kernel_rfl) (by kernel_rfl) (by kernel_rfl)) ?_
  intro W base args ds gs before hval0 hW hcnd _
  have hW' := hW
  obtain ⟨p, q, hA0, hV, rfl, hfz, hnd⟩ := hW
  obtain ⟨hl, hc⟩ := law_calls (enc := enc) [.st [.int .u8, .int .u8, .slc (.slc (.int .u32))], .slc (.int .u32)] (by kernel_rfl) hval0 hA0 (fun g cs h => by cases h) spec_all
  refine hc.mono fun e W' ⟨he, hb⟩ => ?_
  subst he
  rw [show Try.f7.params.size = 2 by kernel_rfl] at hl
  obtain ⟨d0, d1, rfl⟩ : ∃ d0 d1, ds = [d0, d1] := by
    match ds, hl with
    | [a0, a1], _ => exact ⟨a0, a1, rfl⟩
  exact ⟨_, rfl, law_post laidOut (by kernel_rfl) (by kernel_rfl) Try.underlying4 rfl rfl hW' hb⟩

theorem law_holds : Rows.ModmatLeftSaid :=
  OpenClaim.holds_of_wide 7 Try.f7 rfl rfl rfl rfl rfl rfl rfl ⟨rfl, rfl, rfl, rfl, rfl⟩ rfl rfl rfl rfl rfl (by kernel_rfl) Try.func7 (by kernel_rfl)
    (of_decide_eq_true (by kernel_rfl)) (by unfold Func.isWrapper; first | (rw [if_pos (by decide +kernel)]; kernel_rfl) | (rw [if_neg (by decide +kernel)]; exact ⟨rfl, rfl⟩))
    (fun os started H enc _ => law_lifted os started H enc)
#print axioms law_holds
end Go.Proofs.Ytpbomhmflllemaa
