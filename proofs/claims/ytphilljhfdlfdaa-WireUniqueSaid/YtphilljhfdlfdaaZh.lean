/- Texts joined: Do Dp Dq Dy Dr Ds Eh Dz Ea Eb Ec Dj Dk Dt. -/
import Derived.Test.YtphilljhfdlfdaaZc
import Derived.Test.YtphilljhfdlfdaaZe
import Derived.Test.YtphilljhfdlfdaaZg
set_option linter.all false
open Nat renaming reduceEqDiff → zn1, reduceLT → zn2, reduceLeDiff → zn3, reduceAdd → zn4, reduceMul → zn5, reduceSub → zn6, reduceBEq → zn7, mul_one → zn8, zero_add → zn9, one_mul → zna, le_refl → znb, zero_le → znc, add_sub_cancel_left → znd, sub_eq_zero_of_le → zne, add_assoc → znf
open Int renaming reduceToNat → zi1, reducePow → zi2
open List renaming length_append → zl1, drop_zero → zl2, take_succ_cons → zl3, take_zero → zl4, getElem?_drop → zl5, append_assoc → zl6, nil_append → zl7, cons_append → zl8, drop_succ_cons → zl9, take_of_length_le → zla, getElem?_eq_getElem → zlb, getElem?_eq_some_iff → zlc, map_cons → zld, map_nil → zle, all_eq_true → zlf
namespace Go.Proofs.Ytphilljhfdlfdaa
open Go.RowKit
def fcv (x : Int × Int) : V := .ag [.sc (.int .i64 x.1), .sc (.bool (decide (x.2 < 0))), .im (lv (limbsOf x.2.natAbs)) (limbsOf x.2.natAbs).length]
def fc_ (x : Int × Int) : List Int := whl x.1 ++ int_ x.2
theorem face_s {x : Int × Int} (h1 : I64 x.1) (h2 : (limbsOf x.2.natAbs).length ≤ 100000000) : PutA 82 [fcv x] (fc_ x) := by
  have hp : 0 < (fc_ x).length := by unfold fc_; rw [zl1]; have := whl_pos x.1; omega
  refine PutA.of hp fun id c cap nx hc hi => ?_
  have hl : (fc_ x).length = (whl x.1).length + (int_ x.2).length := zl1
  have a1 := whole_s h1 id c cap (by omega)
  have a2 := putint_s x.2 h2 (nx + 1) (c ++ whl x.1) none (by rw [zl1]; omega)
  rw [zl1] at a2
  unfold fcv
  unfold iv sv at a2
  refine InlQ.run Try.func82 rfl Try.ntmps82 (by simp) (by simp (disch := omega) only [go_sem, zn4]; rfl) fun B hB => ?_
  (repeat (first | refine DO.nilF (fun i => i + 1 - nx) (by simp (disch := omega) only [go_sem, ↓reduceIte, zn1, zn2, zn3, zn4, zn5, zn6, reduceCtorEq, zn7, zi1, zi2, if_pos, if_neg, zld, zle, Option.map_some, Option.map_none, znd, zne, znf, zn4] <;> rfl) (by kernel_rfl) ?_ | (with_reducible refine SC.condB (by simp (disch := omega) only [go_sem, ↓reduceIte, zn1, zn2, zn3, zn4, zn5, zn6, reduceCtorEq, zn7, zi1, zi2, if_pos, if_neg]; rfl) ?_; first | with_reducible refine pickT ?_ | with_reducible refine pickF ?_) | (with_reducible refine oz (by constructor <;> decide) ?_) | ((with_reducible apply SC.region); (focus (simp (disch := omega) only [go_sem, ↓reduceIte, reduceCtorEq]; rfl))) | (with_reducible refine SC.draw Tab.mixed rfl ?_; (repeat (refine DO.run (by simp (disch := omega) only [go_sem, ↓reduceIte, zn1, zn2, zn3, zn4, zn5, zn6, reduceCtorEq, zn7, zi1, zi2, if_pos, if_neg]; rfl) ?_)); refine DO.nilF (fun i => i + 1 - nx) (by simp (disch := omega) only [go_sem, ↓reduceIte, zn1, zn2, zn3, zn4, zn5, zn6, reduceCtorEq, zn7, zi1, zi2, if_pos, if_neg, zld, zle, Option.map_some, Option.map_none, znd, zne, znf, zn4] <;> rfl) (by kernel_rfl) ?_)))
  (refine SC.draw Tab.mixed (by first | rfl | simp (disch := omega) only [go_sem, ↓reduceIte, if_pos]) ?_)
  (repeat (refine DO.run (by simp (disch := omega) only [go_sem, ↓reduceIte, zn1, reduceCtorEq]; rfl) ?_))
  (first | refine SO.callA Tab.go50 (by simp (disch := omega) only [go_sem, ↓reduceIte, zn1, zn2, zn3, zn4, zn5, zn6, reduceCtorEq, zn7, zi1, zi2, if_pos, if_neg] <;> rfl) (by simp (disch := omega) only [go_sem, ↓reduceIte, zn1, zn2, zn3, zn4, zn5, zn6, reduceCtorEq, zn7, zi1, zi2, if_pos, if_neg] <;> rfl) (SApp.of (a1) (by simp (disch := omega) only [go_sem, ↓reduceIte, zn1, zn2, zn3, zn4, zn5, zn6, reduceCtorEq, zn7, zi1, zi2, if_pos, if_neg] <;> rfl) rfl (by simp (disch := omega) only [go_sem, ↓reduceIte, zn1, zn2, zn3, zn4, zn5, zn6, reduceCtorEq, zn7, zi1, zi2, if_pos, if_neg] <;> rfl) ?_) | refine DO.callA Tab.go50 (by simp (disch := omega) only [go_sem, ↓reduceIte, zn1] <;> rfl) (by simp (disch := omega) only [go_sem] <;> rfl) (DApp.of (a1) (by simp (disch := omega) only [go_sem, ↓reduceIte, if_neg] <;> rfl) rfl (by simp (disch := omega) only [go_sem, ↓reduceIte, if_neg] <;> rfl) ?_))
  (repeat (refine DO.run (by simp (disch := omega) only [go_sem, ↓reduceIte, zn1, zn2, zn3, zn4, reduceCtorEq, if_neg]; rfl) ?_))
  (first | refine SO.callA Tab.go35 (by simp (disch := omega) only [go_sem, ↓reduceIte, zn1, zn2, zn3, zn4, zn5, zn6, reduceCtorEq, zn7, zi1, zi2, if_pos, if_neg] <;> rfl) (by simp (disch := omega) only [go_sem, ↓reduceIte, zn1, zn2, zn3, zn4, zn5, zn6, reduceCtorEq, zn7, zi1, zi2, if_pos, if_neg] <;> rfl) (SApp.of (a2) (by simp (disch := omega) only [go_sem, ↓reduceIte, zn1, zn2, zn3, zn4, zn5, zn6, reduceCtorEq, zn7, zi1, zi2, if_pos, if_neg] <;> rfl) rfl (by simp (disch := omega) only [go_sem, ↓reduceIte, zn1, zn2, zn3, zn4, zn5, zn6, reduceCtorEq, zn7, zi1, zi2, if_pos, if_neg] <;> rfl) ?_) | refine DO.callA Tab.go35 (by simp (disch := omega) only [go_sem, ↓reduceIte, zn1] <;> rfl) (by simp (disch := omega) only [go_sem, zn2] <;> rfl) (DApp.of (a2) (by simp (disch := omega) only [go_sem, ↓reduceIte] <;> rfl) rfl (by simp (disch := omega) only [go_sem, ↓reduceIte, if_neg] <;> rfl) ?_))
  (repeat (refine DO.run (by simp (disch := omega) only [go_sem, ↓reduceIte]; rfl) ?_))
  (refine DO.nilF (fun i => i + 1 - nx) (by simp (disch := omega) only [go_sem, zn4, zld, zle, Option.map_some, Option.map_none, znd, zne, znf, zn4] <;> rfl) (by kernel_rfl) ?_)
  (repeat (first | refine DO.nilF (fun i => i + 1 - nx) (by simp (disch := omega) only [go_sem, ↓reduceIte, zn1, zn2, zn3, zn4, zn5, zn6, reduceCtorEq, zn7, zi1, zi2, if_pos, if_neg, zld, zle, Option.map_some, Option.map_none, znd, zne, znf, zn4] <;> rfl) (by kernel_rfl) ?_ | (with_reducible refine SC.condB (by simp (disch := omega) only [go_sem, ↓reduceIte, zn1, zn2, zn3, zn4, zn5, zn6, reduceCtorEq, zn7, zi1, zi2, if_pos, if_neg]; rfl) ?_; first | with_reducible refine pickT ?_ | with_reducible refine pickF ?_) | (with_reducible refine oz (by constructor <;> decide) ?_) | ((with_reducible apply SC.region); (focus (simp (disch := omega) only [go_sem, ↓reduceIte, zn1, zn2, zn3, zn4, zn5, zn6, reduceCtorEq, zn7, zi1, zi2, if_pos, if_neg]; rfl))) | (with_reducible refine SC.draw Tab.mixed rfl ?_; (repeat (refine DO.run (by simp (disch := omega) only [go_sem, ↓reduceIte, zn1, zn2, zn3, zn4, zn5, zn6, reduceCtorEq, zn7, zi1, zi2, if_pos, if_neg]; rfl) ?_)); refine DO.nilF (fun i => i + 1 - nx) (by simp (disch := omega) only [go_sem, ↓reduceIte, zn1, zn2, zn3, zn4, zn5, zn6, reduceCtorEq, zn7, zi1, zi2, if_pos, if_neg, zld, zle, Option.map_some, Option.map_none, znd, zne, znf, zn4] <;> rfl) (by kernel_rfl) ?_)))
  have e : bw (c ++ fc_ x) = bw (c ++ whl x.1 ++ int_ x.2) := by unfold fc_; rw [zl6]
  refine retIQ_ret (.sl (nx + 2) 0 (c.length + (fc_ x).length) 1 none) [(nx + 2, ⟨5, bw (c ++ fc_ x), false⟩)] (nx + 3) Try.results82 (by simp (disch := omega) only [go_sem, ↓reduceIte]; rfl) ⟨nx + 2, by omega, rfl, rfl⟩ ?_
  rw [e, hl, ← znf]
  (refine Le.slots ?_ ?_ ?_ <;> (repeat' (first | (exact fun _ _ h => h) | exact znb _ | exact leSl_nil | refine leSl_cons (by simp (disch := omega) only [go_sem, ↓reduceIte] <;> rfl) ?_ ?_ | exact VLe.junk _ | exact VLe.refl rfl | exact VLe.nil_sl _ _ _ | exact VLe.int (by first | rfl | omega | (dsimp only; omega)) | exact VLe.bool rfl | exact VLe.sl rfl (by first | rfl | omega) | exact VLe.cap rfl (by first | rfl | omega) | exact VLe.im rfl rfl | omega | (refine fun id k h => ?_; simp only [hget] at h ⊢; (repeat' (split at h)) <;> first | (cases h; done) | (simp (disch := omega) only [if_pos]; exact h)))))
def fcs (l : List (Int × Int)) : List V := l.flatMap fun x => [.sc (.int .i64 x.1), .sc (.bool (decide (x.2 < 0))), .im (lv (limbsOf x.2.natAbs)) (limbsOf x.2.natAbs).length]
def lst {α : Type} (f : α → List Int) (l : List α) : List Int := num l.length ++ l.flatMap f
theorem fcs_len (l : List (Int × Int)) : (fcs l).length = l.length * 3 := by
  induction l with
  | nil => rfl
  | cons x r ih =>
    show ([_, _, _] ++ fcs r).length = _
    rw [zl1, ih]
    show 3 + r.length * 3 = (r.length + 1) * 3
    omega
theorem fcs_drop : ∀ (l : List (Int × Int)) (i : Nat) (h : i < l.length), (fcs l).drop (i * 3) = [.sc (.int .i64 l[i].1), .sc (.bool (decide (l[i].2 < 0))), .im (lv (limbsOf l[i].2.natAbs)) (limbsOf l[i].2.natAbs).length] ++ fcs (l.drop (i + 1))
  | x :: r, 0, _ => rfl
  | x :: r, i + 1, h => by
    have e : fcs (x :: r) = [.sc (.int .i64 x.1), .sc (.bool (decide (x.2 < 0))), .im (lv (limbsOf x.2.natAbs)) (limbsOf x.2.natAbs).length] ++ fcs r := rfl
    rw [e, List.drop_append]
    have e2 : (i + 1) * 3 - 3 = i * 3 := by omega
    simp only [List.length_cons, List.length_nil, zn9, zn4, e2]
    rw [List.drop_of_length_le (by simp; omega), zl7, fcs_drop r i (by simpa using h)]
    rfl
theorem flat_snoc {α : Type} (f : α → List Int) (l : List α) {i : Nat} (h : i < l.length) : (l.take (i + 1)).flatMap f = (l.take i).flatMap f ++ f l[i] := by
  rw [List.take_succ_eq_append_getElem h, List.flatMap_append]; simp
theorem flat_le {α : Type} (f : α → List Int) : ∀ (l : List α) (i : Nat), ((l.take i).flatMap f).length ≤ (l.flatMap f).length
  | [], i => by simp
  | x :: r, 0 => by simp
  | x :: r, i + 1 => by
    have := flat_le f r i
    simp only [zl3, List.flatMap_cons, zl1]; omega
set_option maxHeartbeats 4000000 in
theorem faces_s (l : List (Int × Int)) (h : ∀ x ∈ l, I64 x.1 ∧ (limbsOf x.2.natAbs).length ≤ 100000000) (hl : l.length ≤ 1000000) : PutA 81 [.im (fcs l) l.length, .sc (.func (.func 82) #[] #[])] (lst fc_ l) := by
  have hp : 0 < (lst fc_ l).length := by unfold lst; rw [zl1]; have := num_pos l.length; omega
  refine PutA.of hp fun id c cap nx hc hi => ?_
  have ge : (lst fc_ l).length = (num l.length).length + (l.flatMap fc_).length := zl1
  have a1 := number_s l.length (by omega) id c cap (by omega)
  refine InlQ.run Try.func81 rfl Try.ntmps81 (by simp) (by simp (disch := omega) only [go_sem, zn4]; rfl) fun B hB => ?_
  (repeat (first | (with_reducible refine oz (by constructor <;> decide) ?_) | ((first | apply SO.call | apply DO.call); (iterate 3 (focus (simp (disch := omega) only [go_sem, ↓reduceIte, zn1] <;> rfl))); (first | apply SCall.ofX | apply DCall.ofX); assumption; (focus (simp (disch := omega) only [go_sem, ↓reduceIte, zn1, zn2, zn3, zn4, zn5, zn6, reduceCtorEq, zn7, zi1, zi2, if_pos, if_neg] <;> rfl))) | ((with_reducible first | apply wa | apply wb | apply wc | apply wd); (focus (simp (disch := omega) only [go_sem, ↓reduceIte, zn1, reduceCtorEq] <;> rfl)); (first | refine pT ?_ | refine pF ?_ | fail_if_success with_reducible refine pA ?_)) | (with_reducible apply SC.ops)))
  (first | refine SO.callA Tab.go68 (by simp (disch := omega) only [go_sem, ↓reduceIte, zn1] <;> rfl) (by simp (disch := omega) only [go_sem] <;> rfl) (SApp.of (a1) (by simp (disch := omega) only [go_sem, ↓reduceIte] <;> rfl) rfl (by simp (disch := omega) only [go_sem, ↓reduceIte] <;> rfl) ?_) | refine DO.callA Tab.go68 (by simp (disch := omega) only [go_sem, ↓reduceIte, zn1, zn2, zn3, zn4, zn5, zn6, reduceCtorEq, zn7, zi1, zi2, if_pos, if_neg] <;> rfl) (by simp (disch := omega) only [go_sem, ↓reduceIte, zn1, zn2, zn3, zn4, zn5, zn6, reduceCtorEq, zn7, zi1, zi2, if_pos, if_neg] <;> rfl) (DApp.of (a1) (by simp (disch := omega) only [go_sem, ↓reduceIte, zn1, zn2, zn3, zn4, zn5, zn6, reduceCtorEq, zn7, zi1, zi2, if_pos, if_neg] <;> rfl) rfl (by simp (disch := omega) only [go_sem, ↓reduceIte, zn1, zn2, zn3, zn4, zn5, zn6, reduceCtorEq, zn7, zi1, zi2, if_pos, if_neg] <;> rfl) ?_))
  (repeat (first | (with_reducible refine oz (by constructor <;> decide) ?_) | ((with_reducible first | apply wa | apply wb | apply wc | apply wd); (focus (simp (disch := omega) only [go_sem, ↓reduceIte, zn1, reduceCtorEq] <;> rfl)); (first | refine pT ?_ | refine pF ?_ | fail_if_success with_reducible refine pA ?_)) | (with_reducible apply SC.ops)))
  refine SC.loop (fun x : Nat × Nat × Nat => ⟨[(0, .sl x.2.1 0 (c ++ num l.length ++ (l.take x.1).flatMap fc_).length 1 none), (2, .sc (.func (.func 82) #[] #[])), (14, .im (fcs l) l.length), (15, .sc (.int .i64 l.length)), (16, .sc (.int .i64 x.1))], [(x.2.1, ⟨5, bw (c ++ num l.length ++ (l.take x.1).flatMap fc_), false⟩)], x.2.2, 26⟩)
    (fun x => x.1 ≤ l.length ∧ nx ≤ x.2.1 ∧ x.2.1 < x.2.2) (fun x => l.length - x.1) (0, nx, nx + 1) ?_ ?_ ?_
  · simp only [zl4, List.flatMap_nil, List.append_nil, zl1]
    (refine Le.slots ?_ ?_ ?_ <;> (repeat' (first | (exact fun _ _ h => h) | exact znb _ | exact leSl_nil | refine leSl_cons (by simp (disch := omega) only [go_sem, ↓reduceIte, zn1, reduceCtorEq] <;> rfl) ?_ ?_ | exact VLe.junk _ | exact VLe.refl rfl | exact VLe.nil_sl _ _ _ | exact VLe.int (by first | rfl | omega | (dsimp only; omega)) | exact VLe.bool rfl | exact VLe.sl rfl (by first | rfl | omega) | exact VLe.cap rfl (by first | rfl | omega) | exact VLe.im rfl rfl | omega | (refine fun id k h => ?_; simp only [hget] at h ⊢; (repeat' (split at h)) <;> first | (cases h; done) | (simp (disch := omega) only [if_pos, if_neg]; exact h)))))
  · exact ⟨znc _, by simp only; omega, by simp only; omega⟩
  · rintro ⟨i, q, m⟩ ⟨hi1, hq1, hq2⟩ K hK
    simp only at hi1 hq1 hq2 ⊢
    by_cases hlt : i < l.length
    · have gx := fcs_drop l i hlt
      have q2 : decide ((i : Int) < (l.length : Int)) = true := by rw [decide_eq_true_iff]; omega
      have x0 : ((i : Int)).toNat = i := rfl
      have h12 := h l[i] (List.getElem_mem hlt)
      have hs := flat_snoc fc_ l hlt
      have hle := flat_le fc_ l (i + 1)
      rw [hs, zl1] at hle
      have a2 := face_s h12.1 h12.2 q (c ++ num l.length ++ (l.take i).flatMap fc_) none (by rw [zl1, zl1]; omega)
      unfold fcv at a2
      have gl := fcs_len l
      (repeat (first | (with_reducible refine oz (by constructor <;> decide) ?_) | ((with_reducible first | apply wa | apply wb | apply wc | apply wd); (focus (simp (disch := omega) only [go_sem, ↓reduceIte, zn1, zn3, zn4, reduceCtorEq, if_pos, q2, x0, gl, gx, zl8, zl7, zl3, zl4] <;> rfl)); (first | refine pT ?_ | refine pF ?_ | fail_if_success with_reducible refine pA ?_)) | (with_reducible apply SC.ops)))
      (refine SO.callAV (by simp (disch := omega) only [go_sem, ↓reduceIte, zn1] <;> rfl) Tab.go82 (by simp (disch := omega) only [go_sem, ↓reduceIte, zn1] <;> rfl) (by simp (disch := omega) only [go_sem] <;> rfl) (SApp.of (a2) (by simp (disch := omega) only [go_sem, ↓reduceIte, if_neg] <;> rfl) rfl (by simp (disch := omega) only [go_sem, ↓reduceIte, if_neg] <;> rfl) ?_))
      (repeat (first | (with_reducible refine oz (by constructor <;> decide) ?_) | ((with_reducible first | apply wa | apply wb | apply wc | apply wd); (focus (simp (disch := omega) only [go_sem, ↓reduceIte, zn1, reduceCtorEq] <;> rfl)); (first | refine pT ?_ | refine pF ?_ | fail_if_success with_reducible refine pA ?_)) | (with_reducible apply SC.ops)))
      have e5 : (c ++ num l.length ++ (l.take (i + 1)).flatMap fc_).length = (c ++ num l.length ++ (l.take i).flatMap fc_).length + (fc_ l[i]).length := by rw [hs, ← zl6, zl1]
      have e4 : bw (c ++ num l.length ++ (l.take (i + 1)).flatMap fc_) = bw (c ++ num l.length ++ (l.take i).flatMap fc_ ++ fc_ l[i]) := by rw [hs, ← zl6]
      refine hK _ (i + 1, m + 1, m + 2) ?_ ⟨by simp only; omega, by simp only; omega, by simp only; omega⟩ (by simp only; omega)
      simp only [e4, e5]
      (refine Le.slots ?_ ?_ ?_ <;> (repeat' (first | (exact fun _ _ h => h) | exact znb _ | exact leSl_nil | refine leSl_cons (by simp (disch := omega) only [go_sem, ↓reduceIte, zn1, reduceCtorEq] <;> rfl) ?_ ?_ | exact VLe.junk _ | exact VLe.refl rfl | exact VLe.nil_sl _ _ _ | exact VLe.int (by first | rfl | omega | (dsimp only; omega)) | exact VLe.bool rfl | exact VLe.sl rfl (by first | rfl | omega) | exact VLe.cap rfl (by first | rfl | omega) | exact VLe.im rfl rfl | omega | (refine fun id k h => ?_; simp only [hget] at h ⊢; (repeat' (split at h)) <;> first | (cases h; done) | (simp (disch := omega) only [if_pos]; exact h)))))
    · have q2 : decide ((i : Int) < (l.length : Int)) = false := by rw [decide_eq_false_iff_not]; omega
      have hie : i = l.length := by omega
      have e6 : c ++ num l.length ++ (l.take i).flatMap fc_ = c ++ lst fc_ l := by rw [hie, List.take_length, zl6]; rfl
      have e7 : (c ++ lst fc_ l).length = c.length + (lst fc_ l).length := zl1
      rw [e6, e7]
      (repeat (first | (with_reducible refine oz (by constructor <;> decide) ?_) | ((with_reducible first | apply wa | apply wb | apply wc | apply wd); (focus (simp (disch := omega) only [go_sem, ↓reduceIte, zn1, zn2, reduceCtorEq, q2] <;> rfl)); (first | refine pT ?_ | refine pF ?_ | fail_if_success with_reducible refine pA ?_)) | (with_reducible apply SC.ops)))
      refine retIQ_ret (.sl q 0 (c.length + (lst fc_ l).length) 1 none) [(q, ⟨5, bw (c ++ lst fc_ l), false⟩)] m Try.results81 (by simp (disch := omega) only [go_sem, ↓reduceIte]; rfl) ⟨q, by omega, rfl, rfl⟩ ?_
      (refine Le.slots ?_ ?_ ?_ <;> (repeat' (first | (exact fun _ _ h => h) | exact znb _ | exact leSl_nil | refine leSl_cons (by simp (disch := omega) only [go_sem, ↓reduceIte] <;> rfl) ?_ ?_ | exact VLe.junk _ | exact VLe.refl rfl | exact VLe.nil_sl _ _ _ | exact VLe.int (by first | rfl | omega | (dsimp only; omega)) | exact VLe.bool rfl | exact VLe.sl rfl (by first | rfl | omega) | exact VLe.cap rfl (by first | rfl | omega) | exact VLe.im rfl rfl | omega | (refine fun id k h => ?_; simp only [hget] at h ⊢; (repeat' (split at h)) <;> first | (cases h; done) | (simp (disch := omega) only [if_pos, if_neg]; exact h)))))
structure Cel where
  id : Int
  dim : Int
  B : List (Int × Int)
def celC (x : Cel) : List V := [.sc (.int .i64 x.id), .sc (.int .i64 x.dim), .im (fcs x.B) x.B.length]
def cel_ (x : Cel) : List Int := whl x.id ++ whl x.dim ++ lst fc_ x.B
def CelOk (x : Cel) : Prop := I64 x.id ∧ I64 x.dim ∧ x.B.length ≤ 1000000 ∧ ∀ y ∈ x.B, I64 y.1 ∧ (limbsOf y.2.natAbs).length ≤ 100000000
theorem cell_s {x : Cel} (h : CelOk x) : PutA 52 [.ag (celC x)] (cel_ x) := by
  have hl : (cel_ x).length = (whl x.id).length + (whl x.dim).length + (lst fc_ x.B).length := by unfold cel_; rw [zl1, zl1]
  refine PutA.of (by have := whl_pos x.id; omega) fun id c cap nx hc hi => ?_
  have a1 := whole_s h.1 id c cap (by omega)
  have a2 := whole_s h.2.1 (nx + 1) (c ++ whl x.id) none (by rw [zl1]; omega)
  have a3 := faces_s x.B h.2.2.2 h.2.2.1 (nx + 2) (c ++ whl x.id ++ whl x.dim) none (by rw [zl1, zl1]; omega)
  simp only [zl1] at a2 a3
  unfold celC
  refine InlQ.run Try.func52 rfl Try.ntmps52 (by simp) (by simp (disch := omega) only [go_sem, zn4]; rfl) fun B hB => ?_
  (repeat (first | (with_reducible refine oz (by constructor <;> decide) ?_) | ((first | apply SO.call | apply DO.call); (iterate 3 (focus (simp (disch := omega) only [go_sem, ↓reduceIte, zn1, if_neg] <;> rfl))); (first | apply SCall.ofX | apply DCall.ofX); assumption; (focus (simp (disch := omega) only [go_sem, ↓reduceIte, zn1, zn2, zn3, zn4, zn5, zn6, reduceCtorEq, zn7, zi1, zi2, if_pos, if_neg] <;> rfl))) | ((with_reducible first | apply wa | apply wb | apply wc | apply wd); (focus (simp (disch := omega) only [go_sem, ↓reduceIte, zn1, reduceCtorEq] <;> rfl)); (first | refine pT ?_ | refine pF ?_ | fail_if_success with_reducible refine pA ?_)) | (with_reducible apply SC.ops)))
  (first | refine SO.callA Tab.go50 (by simp (disch := omega) only [go_sem, ↓reduceIte, zn1] <;> rfl) (by simp (disch := omega) only [go_sem] <;> rfl) (SApp.of (a1) (by simp (disch := omega) only [go_sem, ↓reduceIte, if_neg] <;> rfl) rfl (by simp (disch := omega) only [go_sem, ↓reduceIte, if_neg] <;> rfl) ?_) | refine DO.callA Tab.go50 (by simp (disch := omega) only [go_sem, ↓reduceIte, zn1, zn2, zn3, zn4, zn5, zn6, reduceCtorEq, zn7, zi1, zi2, if_pos, if_neg] <;> rfl) (by simp (disch := omega) only [go_sem, ↓reduceIte, zn1, zn2, zn3, zn4, zn5, zn6, reduceCtorEq, zn7, zi1, zi2, if_pos, if_neg] <;> rfl) (DApp.of (a1) (by simp (disch := omega) only [go_sem, ↓reduceIte, zn1, zn2, zn3, zn4, zn5, zn6, reduceCtorEq, zn7, zi1, zi2, if_pos, if_neg] <;> rfl) rfl (by simp (disch := omega) only [go_sem, ↓reduceIte, zn1, zn2, zn3, zn4, zn5, zn6, reduceCtorEq, zn7, zi1, zi2, if_pos, if_neg] <;> rfl) ?_))
  (repeat (first | (with_reducible refine oz (by constructor <;> decide) ?_) | ((first | apply SO.call | apply DO.call); (iterate 3 (focus (simp (disch := omega) only [go_sem, ↓reduceIte, zn1] <;> rfl))); (first | apply SCall.ofX | apply DCall.ofX); assumption; (focus (simp (disch := omega) only [go_sem, ↓reduceIte, zn1, zn2, zn3, zn4, zn5, zn6, reduceCtorEq, zn7, zi1, zi2, if_pos, if_neg] <;> rfl))) | ((with_reducible first | apply wa | apply wb | apply wc | apply wd); (focus (simp (disch := omega) only [go_sem, ↓reduceIte, zn1, reduceCtorEq, if_neg] <;> rfl)); (first | refine pT ?_ | refine pF ?_ | fail_if_success with_reducible refine pA ?_)) | (with_reducible apply SC.ops)))
  (first | refine SO.callA Tab.go50 (by simp (disch := omega) only [go_sem, ↓reduceIte, zn1] <;> rfl) (by simp (disch := omega) only [go_sem] <;> rfl) (SApp.of (a2) (by simp (disch := omega) only [go_sem, ↓reduceIte] <;> rfl) rfl (by simp (disch := omega) only [go_sem, ↓reduceIte, if_neg] <;> rfl) ?_) | refine DO.callA Tab.go50 (by simp (disch := omega) only [go_sem, ↓reduceIte, zn1, zn2, zn3, zn4, zn5, zn6, reduceCtorEq, zn7, zi1, zi2, if_pos, if_neg] <;> rfl) (by simp (disch := omega) only [go_sem, ↓reduceIte, zn1, zn2, zn3, zn4, zn5, zn6, reduceCtorEq, zn7, zi1, zi2, if_pos, if_neg] <;> rfl) (DApp.of (a2) (by simp (disch := omega) only [go_sem, ↓reduceIte, zn1, zn2, zn3, zn4, zn5, zn6, reduceCtorEq, zn7, zi1, zi2, if_pos, if_neg] <;> rfl) rfl (by simp (disch := omega) only [go_sem, ↓reduceIte, zn1, zn2, zn3, zn4, zn5, zn6, reduceCtorEq, zn7, zi1, zi2, if_pos, if_neg] <;> rfl) ?_))
  (repeat (first | (with_reducible refine oz (by constructor <;> decide) ?_) | ((first | apply SO.call | apply DO.call); (iterate 3 (focus (simp (disch := omega) only [go_sem, ↓reduceIte, zn1] <;> rfl))); (first | apply SCall.ofX | apply DCall.ofX); assumption; (focus (simp (disch := omega) only [go_sem, ↓reduceIte, zn1, zn2, zn3, zn4, zn5, zn6, reduceCtorEq, zn7, zi1, zi2, if_pos, if_neg] <;> rfl))) | ((with_reducible first | apply wa | apply wb | apply wc | apply wd); (focus (simp (disch := omega) only [go_sem, ↓reduceIte, zn1, zn2, reduceCtorEq, if_neg] <;> rfl)); (first | refine pT ?_ | refine pF ?_ | fail_if_success with_reducible refine pA ?_)) | (with_reducible apply SC.ops)))
  (first | refine SO.callA Tab.go81 (by simp (disch := omega) only [go_sem, ↓reduceIte, zn1] <;> rfl) (by simp (disch := omega) only [go_sem, zn2] <;> rfl) (SApp.of (a3) (by simp (disch := omega) only [go_sem, ↓reduceIte] <;> rfl) rfl (by simp (disch := omega) only [go_sem, ↓reduceIte, if_neg] <;> rfl) ?_) | refine DO.callA Tab.go81 (by simp (disch := omega) only [go_sem, ↓reduceIte, zn1, zn2, zn3, zn4, zn5, zn6, reduceCtorEq, zn7, zi1, zi2, if_pos, if_neg] <;> rfl) (by simp (disch := omega) only [go_sem, ↓reduceIte, zn1, zn2, zn3, zn4, zn5, zn6, reduceCtorEq, zn7, zi1, zi2, if_pos, if_neg] <;> rfl) (DApp.of (a3) (by simp (disch := omega) only [go_sem, ↓reduceIte, zn1, zn2, zn3, zn4, zn5, zn6, reduceCtorEq, zn7, zi1, zi2, if_pos, if_neg] <;> rfl) rfl (by simp (disch := omega) only [go_sem, ↓reduceIte, zn1, zn2, zn3, zn4, zn5, zn6, reduceCtorEq, zn7, zi1, zi2, if_pos, if_neg] <;> rfl) ?_))
  (repeat (first | (with_reducible refine oz (by constructor <;> decide) ?_) | ((with_reducible first | apply wa | apply wb | apply wc | apply wd); (focus (simp (disch := omega) only [go_sem, ↓reduceIte] <;> rfl)); (first | refine pT ?_ | refine pF ?_ | fail_if_success with_reducible refine pA ?_)) | (with_reducible apply SC.ops)))
  have e : bw (c ++ cel_ x) = bw (c ++ whl x.id ++ whl x.dim ++ lst fc_ x.B) := by unfold cel_; simp only [zl6]
  have e2 : c.length + (cel_ x).length = c.length + (whl x.id).length + (whl x.dim).length + (lst fc_ x.B).length := by omega
  refine retIQ_ret (.sl (nx + 3) 0 (c.length + (cel_ x).length) 1 none) [(nx + 3, ⟨5, bw (c ++ cel_ x), false⟩)] (nx + 4) Try.results52 (by simp (disch := omega) only [go_sem, ↓reduceIte]; rfl) ⟨nx + 3, by omega, rfl, rfl⟩ ?_
  rw [e, e2]
  (refine Le.slots ?_ ?_ ?_ <;> (repeat' (first | (exact fun _ _ h => h) | exact znb _ | exact leSl_nil | refine leSl_cons (by simp (disch := omega) only [go_sem, ↓reduceIte] <;> rfl) ?_ ?_ | exact VLe.junk _ | exact VLe.refl rfl | exact VLe.nil_sl _ _ _ | exact VLe.int (by first | rfl | omega | (dsimp only; omega)) | exact VLe.bool rfl | exact VLe.sl rfl (by first | rfl | omega) | exact VLe.cap rfl (by first | rfl | omega) | exact VLe.im rfl rfl | omega | (refine fun id k h => ?_; simp only [hget] at h ⊢; (repeat' (split at h)) <;> first | (cases h; done) | (simp (disch := omega) only [if_pos]; exact h)))))
section
variable {P : Program}
def RdK (P : Program) (f : Nat) (xs : Nat → List V) (kd kd' : Blk) (y : V) : Prop :=
  Only (fun _ => False) y ∧ kd'.cs.all clo = true ∧ ∀ k nx, k < nx → InlQ P f (xs k) [(k, kd)] nx (fun y' hp' nx' => y' = y ∧ hp' = [(k, kd')] ∧ nx' = nx)
theorem SInlQ.rdk {B : Base} {s s' : SS} {ops : Array Oper} {l : List Oper} {cs : List Code} {Q : Exit → SS → Prop} {f n : Nat} {xs : Nat → List V} {d : Option Nat} {kd kd' : Blk} {y : V} (h : RdK P f xs kd kd' y) (k : Nat) (hk : hget s.hp k = some kd) (hn : s.nx = n) (hlt : k < n) (hp : s.put d y (.set k kd') = s')
    (ho : SO P B ops l cs Q s') : SInlQ P B f (xs k) d ops l cs Q s := by
  subst hn; subst hp
  obtain ⟨h1, h2, h3⟩ := h
  refine ⟨[(k, kd)], _, fun id b hb => ?_, h3 k s.nx hlt, ?_⟩
  · simp only [hget] at hb
    split at hb
    · rename_i e; subst e; cases hb; exact hk
    · cases hb
  · rintro x hp' nx' ⟨rfl, rfl, rfl⟩
    refine ⟨h1.mono fun _ h => h.elim, ⟨fun z hz => Only.clo (List.all_eq_true.1 h2 z hz), trivial⟩, SO.weak (Le.less (fun id b hb => ?_) (znb _)) ho⟩
    rw [hget_app]
    simp only [Eff.heap, hget_hset] at hb
    by_cases e : id = k
    · subst e; rw [if_pos rfl, hk] at hb; cases hb; simp [hget]
    · rw [if_neg e] at hb
      have : hget [(k, kd')] id = none := by simp [hget, e]
      rw [this, hget_rest]
      have h0 : hasId [(k, kd)] id = false := by simp [hasId, e]
      rw [h0]; simpa using hb
theorem nilSl {B : Base} {sl sl' : List (Nat × V)} {hp hp' : List (Nat × Blk)} {nx nt m : Nat} {tO : TypeId} (q0 : Nat) (hB : B.Old m) (hm : m ≤ q0) (hs : mapSl (fun i => i) (fun i => i < q0) sl sl') (hh : mapHp (fun i => i) (fun i => i < q0) hp hp') :
    Le B ⟨sl, hp, nx, nt⟩ ⟨sl', (q0, ⟨tO, [], false⟩) :: hp', q0 + 1, nt⟩ := by
  refine Le.map (fun i => i) (fun i => i < q0) hB (fun i hi => ⟨by omega, rfl⟩) (fun i hi => by omega) (fun i j _ _ e => e) hs fun i b hb hlt => ?_
  simp only [hget] at hb
  split at hb
  · omega
  · exact mapHp_get hh i b hb
end
def listR {α : Type} (one : Rd → α × Rd) : Nat → Rd → List α → List α × Rd
  | 0, s, acc => (acc, s)
  | f + 1, s, acc => if s.e = 0 then listR one f (one s).2 (acc ++ [(one s).1]) else (acc, s)
def Rd.list {α : Type} (b : List Int) (n : Nat) (one : Rd → α × Rd) (s : Rd) : List α × Rd := listR one (s.size b n 4000).1 (s.size b n 4000).2 []
theorem whole_at {b : List Int} {n : Nat} {s : Rd} (h : s.at_ ≤ n) : (s.whole b n).2.at_ ≤ n := number_at h
theorem size_at {b : List Int} {n lim : Nat} {s : Rd} (h : s.at_ ≤ n) : (s.size b n lim).2.at_ ≤ n := by
  unfold Rd.size
  split
  · rw [fail_at]; exact number_at h
  · exact number_at h
theorem flag_at {b : List Int} {n : Nat} {s : Rd} (h : s.at_ ≤ n) : (s.flag b n).2.at_ ≤ n := by
  unfold Rd.flag
  simp only
  split
  · rw [fail_at]; exact next_at h
  · exact next_at h
theorem int_at {b : List Int} {n : Nat} {s : Rd} (h : s.at_ ≤ n) : (s.int b n).2.at_ ≤ n := by
  unfold Rd.int
  have h1 := number_at (b := b) h
  generalize (s.number b n) = r at *
  obtain ⟨u, s1⟩ := r
  simp only at h1 ⊢
  have h2 : (if u / 2 > 4000 then s1.fail 2 else s1).at_ ≤ n := by split <;> (try rw [fail_at]) <;> exact h1
  generalize (if u / 2 > 4000 then s1.fail 2 else s1) = s2 at *
  by_cases hc : s2.e = 0 ∧ (n - s2.at_) / 4 < u / 2
  · simp only [if_pos hc]
    rw [if_neg (fail_ne2 _ (by omega))]
    show (s2.fail 5).at_ ≤ n
    rw [fail_at]; exact h2
  · simp only [if_neg hc]
    split
    · rename_i h0
      have h4 : 4 * (u / 2) ≤ n - s2.at_ := by omega
      split <;> (simp only; omega)
    · exact h2
theorem listR_at {α : Type} {one : Rd → α × Rd} {n : Nat} (h1 : ∀ s : Rd, s.at_ ≤ n → (one s).2.at_ ≤ n) : ∀ (f : Nat) (s : Rd) (acc : List α), s.at_ ≤ n → (listR one f s acc).2.at_ ≤ n
  | 0, _, _, h => h
  | f + 1, s, acc, h => by
    unfold listR
    split
    · exact listR_at h1 f _ _ (h1 s h)
    · exact h
theorem list_at {α : Type} {one : Rd → α × Rd} {b : List Int} {n : Nat} (h1 : ∀ s : Rd, s.at_ ≤ n → (one s).2.at_ ≤ n) {s : Rd} (h : s.at_ ≤ n) : (s.list b n one).2.at_ ≤ n := listR_at h1 _ _ _ (size_at h)
theorem size_le (b : List Int) (n lim : Nat) (s : Rd) : (s.size b n lim).1 ≤ lim := by
  unfold Rd.size
  split
  · exact znc _
  · omega
theorem VMap.fn1 {f : Nat → Nat} {D : Nat → Prop} {g : Fn} {id id' off : Nat} (h : f id' = id) (hD : D id') : VMap f D (.fn g [.pt id off] []) (.fn g [.pt id' off] []) := by
  refine VMap.fn rfl rfl (fun i x y hx hy => ?_) (fun i x y hx _ => by cases hx)
  match i, hx, hy with
  | 0, hx, hy => cases hx; cases hy; exact VMap.pt h hD
  | i + 1, hx, _ => cases hx
def Rd.face (b : List Int) (n : Nat) (s : Rd) : (Int × Int) × Rd := (((s.whole b n).1, ((s.whole b n).2.int b n).1), ((s.whole b n).2.int b n).2)
theorem face_at {b : List Int} {n : Nat} {s : Rd} (h : s.at_ ≤ n) : (s.face b n).2.at_ ≤ n := int_at (whole_at h)
theorem fcv_only (x : Int × Int) : Only (fun _ => False) (fcv x) := by
  refine .ag fun y hy => ?_
  simp only [List.mem_cons, List.not_mem_nil, or_false] at hy
  rcases hy with rfl | rfl | rfl
  · exact .sc _
  · exact .sc _
  · exact .im _ _
theorem rface_s (b : List Int) (n : Nat) (s : Rd) (hu : U8s b) (hn : n ≤ b.length) (hb : n ≤ 1000000000) (ha : s.at_ ≤ n) : RdQ Try.prog 95 [] (rdB b n s) (rdB b n (s.face b n).2) (fcv (s.face b n).1) := by
  refine ⟨fcv_only _, rdB_clo _ _ _, fun k nx hk => ?_⟩
  refine InlQ.run Try.func95 rfl Try.ntmps95 (by simp) (by simp (disch := omega) only [go_sem]; rfl) fun B hB => ?_
  have c1 := rwh_s b n s hu hn hb
  have c2 := rint_s b n (s.whole b n).2 hu hn hb (whole_at ha)
  unfold Rd.face
  generalize s.whole b n = r at *
  obtain ⟨u, s1⟩ := r
  simp only at c1 c2 ⊢
  generalize s1.int b n = r2 at *
  obtain ⟨z, s2⟩ := r2
  simp only at c2 ⊢
  unfold fcv
  unfold rdB iv sv at *
  simp only
  (repeat (first | (with_reducible refine oz (by constructor <;> decide) ?_) | ((first | apply SO.call | apply DO.call); (iterate 3 (focus (simp (disch := omega) only [go_sem, ↓reduceIte, if_neg] <;> rfl))); (first | apply SCall.ofX | apply DCall.ofX); assumption; (focus (simp (disch := omega) only [go_sem, ↓reduceIte, zn1, zn2, zn3, zn4, zn5, zn6, reduceCtorEq, zn7, zi1, zi2, if_pos, if_neg] <;> rfl))) | ((with_reducible first | apply wa | apply wb | apply wc | apply wd); (focus (simp (disch := omega) only [go_sem, ↓reduceIte, reduceCtorEq] <;> rfl)); (first | refine pT ?_ | refine pF ?_ | fail_if_success with_reducible refine pA ?_)) | (with_reducible apply SC.ops)))
  (refine SO.inlQ (by simp (disch := omega) only [go_sem] <;> rfl) Tab.go83 (by simp (disch := omega) only [go_sem, ↓reduceIte] <;> rfl) (by simp (disch := omega) only [go_sem] <;> rfl) (SInlQ.rd (c1) (by simp (disch := omega) only [go_sem, ↓reduceIte, if_neg] <;> rfl) rfl (by first | omega | (dsimp only; omega) | (simp (disch := omega) only [go_sem] <;> omega)) (by simp (disch := omega) only [go_sem, ↓reduceIte, if_neg] <;> rfl) ?_))
  (repeat (first | (with_reducible refine oz (by constructor <;> decide) ?_) | ((first | apply SO.call | apply DO.call); (iterate 3 (focus (simp (disch := omega) only [go_sem, ↓reduceIte, if_neg] <;> rfl))); (first | apply SCall.ofX | apply DCall.ofX); assumption; (focus (simp (disch := omega) only [go_sem, ↓reduceIte, zn1, zn2, zn3, zn4, zn5, zn6, reduceCtorEq, zn7, zi1, zi2, if_pos, if_neg] <;> rfl))) | ((with_reducible first | apply wa | apply wb | apply wc | apply wd); (focus (simp (disch := omega) only [go_sem, ↓reduceIte, zn1, zn3, zn4, reduceCtorEq] <;> rfl)); (first | refine pT ?_ | refine pF ?_ | fail_if_success with_reducible refine pA ?_)) | (with_reducible apply SC.ops)))
  (refine SO.inlQ (by simp (disch := omega) only [go_sem] <;> rfl) Tab.go42 (by simp (disch := omega) only [go_sem, ↓reduceIte] <;> rfl) (by simp (disch := omega) only [go_sem] <;> rfl) (SInlQ.rd (c2) (by simp (disch := omega) only [go_sem, ↓reduceIte, if_neg] <;> rfl) rfl (by first | omega | (dsimp only; omega) | (simp (disch := omega) only [go_sem] <;> omega)) (by simp (disch := omega) only [go_sem, ↓reduceIte, if_neg] <;> rfl) ?_))
  (repeat (first | (with_reducible refine oz (by constructor <;> decide) ?_) | ((with_reducible first | apply wa | apply wb | apply wc | apply wd); (focus (simp (disch := omega) only [go_sem, ↓reduceIte, zn1, zn2, zn3, zn4, reduceCtorEq, if_neg] <;> rfl)); (first | refine pT ?_ | refine pF ?_ | fail_if_success with_reducible refine pA ?_)) | (with_reducible apply SC.ops)))
  exact rd_ret hB hk (fcv_only (u, z)) rfl Try.results95 (by simp (disch := omega) only [go_sem, ↓reduceIte, zn1, zn3, zn4, if_neg] <;> rfl) (by simp (disch := omega) only [go_sem, ↓reduceIte, if_neg] <;> rfl)
structure Chg where
  kind : Int
  cell : Cel
  a : Int
  b : Int
  w0 : Int
  w1 : Int
def chgC (x : Chg) : List V := .sc (.int .i64 x.kind) :: celC x.cell ++ [.sc (.int .i64 x.a), .sc (.int .i64 x.b), .sc (.int .i64 x.w0), .sc (.int .i64 x.w1)]
def chg_ (x : Chg) : List Int := whl x.kind ++ cel_ x.cell ++ whl x.a ++ whl x.b ++ whl x.w0 ++ whl x.w1
def ChgOk (x : Chg) : Prop := I64 x.kind ∧ CelOk x.cell ∧ I64 x.a ∧ I64 x.b ∧ I64 x.w0 ∧ I64 x.w1
set_option maxHeartbeats 4000000 in
theorem change_s {x : Chg} (h : ChgOk x) : PutA 53 [.ag (chgC x)] (chg_ x) := by
  have hl : (chg_ x).length = (whl x.kind).length + (cel_ x.cell).length + (whl x.a).length + (whl x.b).length + (whl x.w0).length + (whl x.w1).length := by unfold chg_; simp only [zl1]
  refine PutA.of (by have := whl_pos x.kind; omega) fun id c cap nx hc hi => ?_
  obtain ⟨h1, h2, h3, h4, h5, h6⟩ := h
  have a1 := whole_s h1 id c cap (by omega)
  have a2 := cell_s h2 (nx + 1) (c ++ whl x.kind) none (by simp only [zl1]; omega)
  have a3 := whole_s h3 (nx + 2) (c ++ whl x.kind ++ cel_ x.cell) none (by simp only [zl1]; omega)
  have a4 := whole_s h4 (nx + 3) (c ++ whl x.kind ++ cel_ x.cell ++ whl x.a) none (by simp only [zl1]; omega)
  have a5 := whole_s h5 (nx + 4) (c ++ whl x.kind ++ cel_ x.cell ++ whl x.a ++ whl x.b) none (by simp only [zl1]; omega)
  have a6 := whole_s h6 (nx + 5) (c ++ whl x.kind ++ cel_ x.cell ++ whl x.a ++ whl x.b ++ whl x.w0) none (by simp only [zl1]; omega)
  simp only [zl1] at a2 a3 a4 a5 a6
  unfold chgC
  unfold celC at a2 ⊢
  simp only [zl8, zl7]
  refine InlQ.run Try.func53 rfl Try.ntmps53 (by simp) (by simp (disch := omega) only [go_sem, zn4]; rfl) fun B hB => ?_
  (repeat (first | (with_reducible refine oz (by constructor <;> decide) ?_) | ((first | apply SO.call | apply DO.call); (iterate 3 (focus (simp (disch := omega) only [go_sem, ↓reduceIte, zn1, if_neg] <;> rfl))); (first | apply SCall.ofX | apply DCall.ofX); assumption; (focus (simp (disch := omega) only [go_sem, ↓reduceIte, zn1, zn2, zn3, zn4, zn5, zn6, reduceCtorEq, zn7, zi1, zi2, if_pos, if_neg] <;> rfl))) | ((with_reducible first | apply wa | apply wb | apply wc | apply wd); (focus (simp (disch := omega) only [go_sem, ↓reduceIte, zn1, reduceCtorEq] <;> rfl)); (first | refine pT ?_ | refine pF ?_ | fail_if_success with_reducible refine pA ?_)) | (with_reducible apply SC.ops) | (with_reducible apply SR.next) | refine SC.loopN 5 ?_))
  (first | refine SO.callA Tab.go50 (by simp (disch := omega) only [go_sem, ↓reduceIte, zn1] <;> rfl) (by simp (disch := omega) only [go_sem] <;> rfl) (SApp.of (a1) (by simp (disch := omega) only [go_sem, ↓reduceIte, if_neg] <;> rfl) rfl (by simp (disch := omega) only [go_sem, ↓reduceIte, if_neg] <;> rfl) ?_) | refine DO.callA Tab.go50 (by simp (disch := omega) only [go_sem, ↓reduceIte, zn1, zn2, zn3, zn4, zn5, zn6, reduceCtorEq, zn7, zi1, zi2, if_pos, if_neg] <;> rfl) (by simp (disch := omega) only [go_sem, ↓reduceIte, zn1, zn2, zn3, zn4, zn5, zn6, reduceCtorEq, zn7, zi1, zi2, if_pos, if_neg] <;> rfl) (DApp.of (a1) (by simp (disch := omega) only [go_sem, ↓reduceIte, zn1, zn2, zn3, zn4, zn5, zn6, reduceCtorEq, zn7, zi1, zi2, if_pos, if_neg] <;> rfl) rfl (by simp (disch := omega) only [go_sem, ↓reduceIte, zn1, zn2, zn3, zn4, zn5, zn6, reduceCtorEq, zn7, zi1, zi2, if_pos, if_neg] <;> rfl) ?_))
  (repeat (first | (with_reducible refine oz (by constructor <;> decide) ?_) | ((first | apply SO.call | apply DO.call); (iterate 3 (focus (simp (disch := omega) only [go_sem, ↓reduceIte, zn1] <;> rfl))); (first | apply SCall.ofX | apply DCall.ofX); assumption; (focus (simp (disch := omega) only [go_sem, ↓reduceIte, zn1, zn2, zn3, zn4, zn5, zn6, reduceCtorEq, zn7, zi1, zi2, if_pos, if_neg] <;> rfl))) | ((with_reducible first | apply wa | apply wb | apply wc | apply wd); (focus (simp (disch := omega) only [go_sem, ↓reduceIte, zn1, zn3, zn4, reduceCtorEq, if_neg] <;> rfl)); (first | refine pT ?_ | refine pF ?_ | fail_if_success with_reducible refine pA ?_)) | (with_reducible apply SC.ops) | (with_reducible apply SR.next) | refine SC.loopN 5 ?_))
  (first | refine SO.callA Tab.go52 (by simp (disch := omega) only [go_sem, ↓reduceIte, zn1] <;> rfl) (by simp (disch := omega) only [go_sem] <;> rfl) (SApp.of (a2) (by simp (disch := omega) only [go_sem, ↓reduceIte] <;> rfl) rfl (by simp (disch := omega) only [go_sem, ↓reduceIte, if_neg] <;> rfl) ?_) | refine DO.callA Tab.go52 (by simp (disch := omega) only [go_sem, ↓reduceIte, zn1, zn2, zn3, zn4, zn5, zn6, reduceCtorEq, zn7, zi1, zi2, if_pos, if_neg] <;> rfl) (by simp (disch := omega) only [go_sem, ↓reduceIte, zn1, zn2, zn3, zn4, zn5, zn6, reduceCtorEq, zn7, zi1, zi2, if_pos, if_neg] <;> rfl) (DApp.of (a2) (by simp (disch := omega) only [go_sem, ↓reduceIte, zn1, zn2, zn3, zn4, zn5, zn6, reduceCtorEq, zn7, zi1, zi2, if_pos, if_neg] <;> rfl) rfl (by simp (disch := omega) only [go_sem, ↓reduceIte, zn1, zn2, zn3, zn4, zn5, zn6, reduceCtorEq, zn7, zi1, zi2, if_pos, if_neg] <;> rfl) ?_))
  (repeat (first | (with_reducible refine oz (by constructor <;> decide) ?_) | ((first | apply SO.call | apply DO.call); (iterate 3 (focus (simp (disch := omega) only [go_sem, ↓reduceIte, zn1] <;> rfl))); (first | apply SCall.ofX | apply DCall.ofX); assumption; (focus (simp (disch := omega) only [go_sem, ↓reduceIte, zn1, zn2, zn3, zn4, zn5, zn6, reduceCtorEq, zn7, zi1, zi2, if_pos, if_neg, Int.reduceAdd] <;> rfl))) | ((with_reducible first | apply wa | apply wb | apply wc | apply wd); (focus (simp (disch := omega) only [go_sem, ↓reduceIte, zn1, zn3, zn4, reduceCtorEq, zi1, if_pos, if_neg] <;> rfl)); (first | refine pT ?_ | refine pF ?_ | fail_if_success with_reducible refine pA ?_)) | (with_reducible apply SC.ops) | (with_reducible apply SR.next) | refine SC.loopN 5 ?_))
  (first | refine SO.callA Tab.go50 (by simp (disch := omega) only [go_sem, ↓reduceIte, zn1] <;> rfl) (by simp (disch := omega) only [go_sem] <;> rfl) (SApp.of (a3) (by simp (disch := omega) only [go_sem, ↓reduceIte] <;> rfl) rfl (by simp (disch := omega) only [go_sem, ↓reduceIte, if_neg] <;> rfl) ?_) | refine DO.callA Tab.go50 (by simp (disch := omega) only [go_sem, ↓reduceIte, zn1, zn2, zn3, zn4, zn5, zn6, reduceCtorEq, zn7, zi1, zi2, if_pos, if_neg] <;> rfl) (by simp (disch := omega) only [go_sem, ↓reduceIte, zn1, zn2, zn3, zn4, zn5, zn6, reduceCtorEq, zn7, zi1, zi2, if_pos, if_neg] <;> rfl) (DApp.of (a3) (by simp (disch := omega) only [go_sem, ↓reduceIte, zn1, zn2, zn3, zn4, zn5, zn6, reduceCtorEq, zn7, zi1, zi2, if_pos, if_neg] <;> rfl) rfl (by simp (disch := omega) only [go_sem, ↓reduceIte, zn1, zn2, zn3, zn4, zn5, zn6, reduceCtorEq, zn7, zi1, zi2, if_pos, if_neg] <;> rfl) ?_))
  (repeat (first | (with_reducible refine oz (by constructor <;> decide) ?_) | ((first | apply SO.call | apply DO.call); (iterate 3 (focus (simp (disch := omega) only [go_sem, ↓reduceIte, zn1] <;> rfl))); (first | apply SCall.ofX | apply DCall.ofX); assumption; (focus (simp (disch := omega) only [go_sem, ↓reduceIte, zn1, zn2, zn3, zn4, zn5, zn6, reduceCtorEq, zn7, zi1, zi2, if_pos, if_neg, Int.reduceAdd] <;> rfl))) | ((with_reducible first | apply wa | apply wb | apply wc | apply wd); (focus (simp (disch := omega) only [go_sem, ↓reduceIte, zn1, reduceCtorEq, zi1, if_pos, Int.reduceAdd] <;> rfl)); (first | refine pT ?_ | refine pF ?_ | fail_if_success with_reducible refine pA ?_)) | (with_reducible apply SC.ops) | (with_reducible apply SR.next) | refine SC.loopN 5 ?_))
  (first | refine SO.callA Tab.go50 (by simp (disch := omega) only [go_sem, ↓reduceIte, zn1] <;> rfl) (by simp (disch := omega) only [go_sem] <;> rfl) (SApp.of (a4) (by simp (disch := omega) only [go_sem, ↓reduceIte] <;> rfl) rfl (by simp (disch := omega) only [go_sem, ↓reduceIte, if_neg] <;> rfl) ?_) | refine DO.callA Tab.go50 (by simp (disch := omega) only [go_sem, ↓reduceIte, zn1, zn2, zn3, zn4, zn5, zn6, reduceCtorEq, zn7, zi1, zi2, if_pos, if_neg] <;> rfl) (by simp (disch := omega) only [go_sem, ↓reduceIte, zn1, zn2, zn3, zn4, zn5, zn6, reduceCtorEq, zn7, zi1, zi2, if_pos, if_neg] <;> rfl) (DApp.of (a4) (by simp (disch := omega) only [go_sem, ↓reduceIte, zn1, zn2, zn3, zn4, zn5, zn6, reduceCtorEq, zn7, zi1, zi2, if_pos, if_neg] <;> rfl) rfl (by simp (disch := omega) only [go_sem, ↓reduceIte, zn1, zn2, zn3, zn4, zn5, zn6, reduceCtorEq, zn7, zi1, zi2, if_pos, if_neg] <;> rfl) ?_))
  (repeat (first | (with_reducible refine oz (by constructor <;> decide) ?_) | ((first | apply SO.call | apply DO.call); (iterate 3 (focus (simp (disch := omega) only [go_sem, ↓reduceIte, zn1] <;> rfl))); (first | apply SCall.ofX | apply DCall.ofX); assumption; (focus (simp (disch := omega) only [go_sem, ↓reduceIte, zn1, zn2, zn3, zn4, zn5, zn6, reduceCtorEq, zn7, zi1, zi2, if_pos, if_neg, Int.reduceAdd] <;> rfl))) | ((with_reducible first | apply wa | apply wb | apply wc | apply wd); (focus (simp (disch := omega) only [go_sem, ↓reduceIte, zn1, reduceCtorEq, zi1, if_pos, Int.reduceAdd] <;> rfl)); (first | refine pT ?_ | refine pF ?_ | fail_if_success with_reducible refine pA ?_)) | (with_reducible apply SC.ops) | (with_reducible apply SR.next) | refine SC.loopN 5 ?_))
  (first | refine SO.callA Tab.go50 (by simp (disch := omega) only [go_sem, ↓reduceIte, zn1] <;> rfl) (by simp (disch := omega) only [go_sem] <;> rfl) (SApp.of (a5) (by simp (disch := omega) only [go_sem, ↓reduceIte] <;> rfl) rfl (by simp (disch := omega) only [go_sem, ↓reduceIte, if_neg] <;> rfl) ?_) | refine DO.callA Tab.go50 (by simp (disch := omega) only [go_sem, ↓reduceIte, zn1, zn2, zn3, zn4, zn5, zn6, reduceCtorEq, zn7, zi1, zi2, if_pos, if_neg] <;> rfl) (by simp (disch := omega) only [go_sem, ↓reduceIte, zn1, zn2, zn3, zn4, zn5, zn6, reduceCtorEq, zn7, zi1, zi2, if_pos, if_neg] <;> rfl) (DApp.of (a5) (by simp (disch := omega) only [go_sem, ↓reduceIte, zn1, zn2, zn3, zn4, zn5, zn6, reduceCtorEq, zn7, zi1, zi2, if_pos, if_neg] <;> rfl) rfl (by simp (disch := omega) only [go_sem, ↓reduceIte, zn1, zn2, zn3, zn4, zn5, zn6, reduceCtorEq, zn7, zi1, zi2, if_pos, if_neg] <;> rfl) ?_))
  (repeat (first | (with_reducible refine oz (by constructor <;> decide) ?_) | ((first | apply SO.call | apply DO.call); (iterate 3 (focus (simp (disch := omega) only [go_sem, ↓reduceIte, zn1] <;> rfl))); (first | apply SCall.ofX | apply DCall.ofX); assumption; (focus (simp (disch := omega) only [go_sem, ↓reduceIte, zn1, zn2, zn3, zn4, zn5, zn6, reduceCtorEq, zn7, zi1, zi2, if_pos, if_neg, Int.reduceAdd] <;> rfl))) | ((with_reducible first | apply wa | apply wb | apply wc | apply wd); (focus (simp (disch := omega) only [go_sem, ↓reduceIte, zn1, reduceCtorEq, zi1, if_pos, Int.reduceAdd] <;> rfl)); (first | refine pT ?_ | refine pF ?_ | fail_if_success with_reducible refine pA ?_)) | (with_reducible apply SC.ops) | (with_reducible apply SR.next) | refine SC.loopN 5 ?_))
  (first | refine SO.callA Tab.go50 (by simp (disch := omega) only [go_sem, ↓reduceIte, zn1] <;> rfl) (by simp (disch := omega) only [go_sem] <;> rfl) (SApp.of (a6) (by simp (disch := omega) only [go_sem, ↓reduceIte] <;> rfl) rfl (by simp (disch := omega) only [go_sem, ↓reduceIte, if_neg] <;> rfl) ?_) | refine DO.callA Tab.go50 (by simp (disch := omega) only [go_sem, ↓reduceIte, zn1, zn2, zn3, zn4, zn5, zn6, reduceCtorEq, zn7, zi1, zi2, if_pos, if_neg] <;> rfl) (by simp (disch := omega) only [go_sem, ↓reduceIte, zn1, zn2, zn3, zn4, zn5, zn6, reduceCtorEq, zn7, zi1, zi2, if_pos, if_neg] <;> rfl) (DApp.of (a6) (by simp (disch := omega) only [go_sem, ↓reduceIte, zn1, zn2, zn3, zn4, zn5, zn6, reduceCtorEq, zn7, zi1, zi2, if_pos, if_neg] <;> rfl) rfl (by simp (disch := omega) only [go_sem, ↓reduceIte, zn1, zn2, zn3, zn4, zn5, zn6, reduceCtorEq, zn7, zi1, zi2, if_pos, if_neg] <;> rfl) ?_))
  (repeat (first | (with_reducible refine oz (by constructor <;> decide) ?_) | ((with_reducible first | apply wa | apply wb | apply wc | apply wd); (focus (simp (disch := omega) only [go_sem, ↓reduceIte, zn1, zn2, reduceCtorEq, Int.reduceAdd] <;> rfl)); (first | refine pT ?_ | refine pF ?_ | fail_if_success with_reducible refine pA ?_)) | (with_reducible apply SC.ops) | (with_reducible apply SR.next) | refine SC.loopN 5 ?_))
  have e : bw (c ++ chg_ x) = bw (c ++ whl x.kind ++ cel_ x.cell ++ whl x.a ++ whl x.b ++ whl x.w0 ++ whl x.w1) := by unfold chg_; simp only [zl6]
  have e2 : c.length + (chg_ x).length = c.length + (whl x.kind).length + (cel_ x.cell).length + (whl x.a).length + (whl x.b).length + (whl x.w0).length + (whl x.w1).length := by omega
  refine retIQ_ret (.sl (nx + 6) 0 (c.length + (chg_ x).length) 1 none) [(nx + 6, ⟨5, bw (c ++ chg_ x), false⟩)] (nx + 7) Try.results53 (by simp (disch := omega) only [go_sem, ↓reduceIte]; rfl) ⟨nx + 6, by omega, rfl, rfl⟩ ?_
  rw [e, e2]
  (refine Le.slots ?_ ?_ ?_ <;> (repeat' (first | (exact fun _ _ h => h) | exact znb _ | exact leSl_nil | refine leSl_cons (by simp (disch := omega) only [go_sem, ↓reduceIte] <;> rfl) ?_ ?_ | exact VLe.junk _ | exact VLe.refl rfl | exact VLe.nil_sl _ _ _ | exact VLe.int (by first | rfl | omega | (dsimp only; omega)) | exact VLe.bool rfl | exact VLe.sl rfl (by first | rfl | omega) | exact VLe.cap rfl (by first | rfl | omega) | exact VLe.im rfl rfl | omega | (refine fun id k h => ?_; simp only [hget] at h ⊢; (repeat' (split at h)) <;> first | (cases h; done) | (simp (disch := omega) only [if_pos]; exact h)))))
def cels (l : List Cel) : List V := l.flatMap celC
theorem cels_len (l : List Cel) : (cels l).length = l.length * 3 := by
  induction l with
  | nil => rfl
  | cons x r ih =>
    show (celC x ++ cels r).length = _
    rw [zl1, ih]
    show 3 + r.length * 3 = (r.length + 1) * 3
    omega
theorem cels_drop : ∀ (l : List Cel) (i : Nat) (h : i < l.length), (cels l).drop (i * 3) = celC l[i] ++ cels (l.drop (i + 1))
  | x :: r, 0, _ => rfl
  | x :: r, i + 1, h => by
    have e : cels (x :: r) = celC x ++ cels r := rfl
    have e0 : (celC x).length = 3 := rfl
    have e2 : (i + 1) * 3 - 3 = i * 3 := by omega
    rw [e, List.drop_append, e0, e2, List.drop_of_length_le (by rw [e0]; omega), zl7, cels_drop r i (by simpa using h)]
    rfl
set_option maxHeartbeats 4000000 in
theorem cels_s (l : List Cel) (h : ∀ x ∈ l, CelOk x) (hl : l.length ≤ 1000000) : PutA 51 [.im (cels l) l.length, .sc (.func (.func 52) #[] #[])] (lst cel_ l) := by
  have hp : 0 < (lst cel_ l).length := by unfold lst; rw [zl1]; have := num_pos l.length; omega
  refine PutA.of hp fun id c cap nx hc hi => ?_
  have ge : (lst cel_ l).length = (num l.length).length + (l.flatMap cel_).length := zl1
  have a1 := number_s l.length (by omega) id c cap (by omega)
  refine InlQ.run Try.func51 rfl Try.ntmps51 (by simp) (by simp (disch := omega) only [go_sem, zn4]; rfl) fun B hB => ?_
  (repeat (first | (with_reducible refine oz (by constructor <;> decide) ?_) | ((first | apply SO.call | apply DO.call); (iterate 3 (focus (simp (disch := omega) only [go_sem, ↓reduceIte, zn1] <;> rfl))); (first | apply SCall.ofX | apply DCall.ofX); assumption; (focus (simp (disch := omega) only [go_sem, ↓reduceIte, zn1, zn2, zn3, zn4, zn5, zn6, reduceCtorEq, zn7, zi1, zi2, if_pos, if_neg] <;> rfl))) | ((with_reducible first | apply wa | apply wb | apply wc | apply wd); (focus (simp (disch := omega) only [go_sem, ↓reduceIte, zn1, reduceCtorEq] <;> rfl)); (first | refine pT ?_ | refine pF ?_ | fail_if_success with_reducible refine pA ?_)) | (with_reducible apply SC.ops)))
  (first | refine SO.callA Tab.go68 (by simp (disch := omega) only [go_sem, ↓reduceIte, zn1] <;> rfl) (by simp (disch := omega) only [go_sem] <;> rfl) (SApp.of (a1) (by simp (disch := omega) only [go_sem, ↓reduceIte] <;> rfl) rfl (by simp (disch := omega) only [go_sem, ↓reduceIte] <;> rfl) ?_) | refine DO.callA Tab.go68 (by simp (disch := omega) only [go_sem, ↓reduceIte, zn1, zn2, zn3, zn4, zn5, zn6, reduceCtorEq, zn7, zi1, zi2, if_pos, if_neg] <;> rfl) (by simp (disch := omega) only [go_sem, ↓reduceIte, zn1, zn2, zn3, zn4, zn5, zn6, reduceCtorEq, zn7, zi1, zi2, if_pos, if_neg] <;> rfl) (DApp.of (a1) (by simp (disch := omega) only [go_sem, ↓reduceIte, zn1, zn2, zn3, zn4, zn5, zn6, reduceCtorEq, zn7, zi1, zi2, if_pos, if_neg] <;> rfl) rfl (by simp (disch := omega) only [go_sem, ↓reduceIte, zn1, zn2, zn3, zn4, zn5, zn6, reduceCtorEq, zn7, zi1, zi2, if_pos, if_neg] <;> rfl) ?_))
  (repeat (first | (with_reducible refine oz (by constructor <;> decide) ?_) | ((with_reducible first | apply wa | apply wb | apply wc | apply wd); (focus (simp (disch := omega) only [go_sem, ↓reduceIte, zn1, reduceCtorEq] <;> rfl)); (first | refine pT ?_ | refine pF ?_ | fail_if_success with_reducible refine pA ?_)) | (with_reducible apply SC.ops)))
  refine SC.loop (fun x : Nat × Nat × Nat => ⟨[(0, .sl x.2.1 0 (c ++ num l.length ++ (l.take x.1).flatMap cel_).length 1 none), (2, .sc (.func (.func 52) #[] #[])), (14, .im (cels l) l.length), (15, .sc (.int .i64 l.length)), (16, .sc (.int .i64 x.1))], [(x.2.1, ⟨5, bw (c ++ num l.length ++ (l.take x.1).flatMap cel_), false⟩)], x.2.2, 26⟩)
    (fun x => x.1 ≤ l.length ∧ nx ≤ x.2.1 ∧ x.2.1 < x.2.2) (fun x => l.length - x.1) (0, nx, nx + 1) ?_ ?_ ?_
  · simp only [zl4, List.flatMap_nil, List.append_nil, zl1]
    (refine Le.slots ?_ ?_ ?_ <;> (repeat' (first | (exact fun _ _ h => h) | exact znb _ | exact leSl_nil | refine leSl_cons (by simp (disch := omega) only [go_sem, ↓reduceIte, zn1, reduceCtorEq] <;> rfl) ?_ ?_ | exact VLe.junk _ | exact VLe.refl rfl | exact VLe.nil_sl _ _ _ | exact VLe.int (by first | rfl | omega | (dsimp only; omega)) | exact VLe.bool rfl | exact VLe.sl rfl (by first | rfl | omega) | exact VLe.cap rfl (by first | rfl | omega) | exact VLe.im rfl rfl | omega | (refine fun id k h => ?_; simp only [hget] at h ⊢; (repeat' (split at h)) <;> first | (cases h; done) | (simp (disch := omega) only [if_pos, if_neg]; exact h)))))
  · exact ⟨znc _, by simp only; omega, by simp only; omega⟩
  · rintro ⟨i, q, m⟩ ⟨hi1, hq1, hq2⟩ K hK
    simp only at hi1 hq1 hq2 ⊢
    by_cases hlt : i < l.length
    · have gx := cels_drop l i hlt
      have gl := cels_len l
      have q2 : decide ((i : Int) < (l.length : Int)) = true := by rw [decide_eq_true_iff]; omega
      have x0 : ((i : Int)).toNat = i := rfl
      have h12 := h l[i] (List.getElem_mem hlt)
      have hs := flat_snoc cel_ l hlt
      have hle := flat_le cel_ l (i + 1)
      rw [hs, zl1] at hle
      have a2 := cell_s h12 q (c ++ num l.length ++ (l.take i).flatMap cel_) none (by rw [zl1, zl1]; omega)
      unfold celC at gx a2
      (repeat (first | (with_reducible refine oz (by constructor <;> decide) ?_) | ((with_reducible first | apply wa | apply wb | apply wc | apply wd); (focus (simp (disch := omega) only [go_sem, ↓reduceIte, zn1, zn3, zn4, reduceCtorEq, if_pos, q2, x0, gl, gx, zl8, zl7, zl3, zl4] <;> rfl)); (first | refine pT ?_ | refine pF ?_ | fail_if_success with_reducible refine pA ?_)) | (with_reducible apply SC.ops)))
      (refine SO.callAV (by simp (disch := omega) only [go_sem, ↓reduceIte, zn1] <;> rfl) Tab.go52 (by simp (disch := omega) only [go_sem, ↓reduceIte, zn1] <;> rfl) (by simp (disch := omega) only [go_sem] <;> rfl) (SApp.of (a2) (by simp (disch := omega) only [go_sem, ↓reduceIte, if_neg] <;> rfl) rfl (by simp (disch := omega) only [go_sem, ↓reduceIte, if_neg] <;> rfl) ?_))
      (repeat (first | (with_reducible refine oz (by constructor <;> decide) ?_) | ((with_reducible first | apply wa | apply wb | apply wc | apply wd); (focus (simp (disch := omega) only [go_sem, ↓reduceIte, zn1, reduceCtorEq] <;> rfl)); (first | refine pT ?_ | refine pF ?_ | fail_if_success with_reducible refine pA ?_)) | (with_reducible apply SC.ops)))
      have e5 : (c ++ num l.length ++ (l.take (i + 1)).flatMap cel_).length = (c ++ num l.length ++ (l.take i).flatMap cel_).length + (cel_ l[i]).length := by rw [hs, ← zl6, zl1]
      have e4 : bw (c ++ num l.length ++ (l.take (i + 1)).flatMap cel_) = bw (c ++ num l.length ++ (l.take i).flatMap cel_ ++ cel_ l[i]) := by rw [hs, ← zl6]
      refine hK _ (i + 1, m + 1, m + 2) ?_ ⟨by simp only; omega, by simp only; omega, by simp only; omega⟩ (by simp only; omega)
      simp only [e4, e5]
      (refine Le.slots ?_ ?_ ?_ <;> (repeat' (first | (exact fun _ _ h => h) | exact znb _ | exact leSl_nil | refine leSl_cons (by simp (disch := omega) only [go_sem, ↓reduceIte, zn1, reduceCtorEq] <;> rfl) ?_ ?_ | exact VLe.junk _ | exact VLe.refl rfl | exact VLe.nil_sl _ _ _ | exact VLe.int (by first | rfl | omega | (dsimp only; omega)) | exact VLe.bool rfl | exact VLe.sl rfl (by first | rfl | omega) | exact VLe.cap rfl (by first | rfl | omega) | exact VLe.im rfl rfl | omega | (refine fun id k h => ?_; simp only [hget] at h ⊢; (repeat' (split at h)) <;> first | (cases h; done) | (simp (disch := omega) only [if_pos]; exact h)))))
    · have q2 : decide ((i : Int) < (l.length : Int)) = false := by rw [decide_eq_false_iff_not]; omega
      have hie : i = l.length := by omega
      have e6 : c ++ num l.length ++ (l.take i).flatMap cel_ = c ++ lst cel_ l := by rw [hie, List.take_length, zl6]; rfl
      have e7 : (c ++ lst cel_ l).length = c.length + (lst cel_ l).length := zl1
      rw [e6, e7]
      (repeat (first | (with_reducible refine oz (by constructor <;> decide) ?_) | ((with_reducible first | apply wa | apply wb | apply wc | apply wd); (focus (simp (disch := omega) only [go_sem, ↓reduceIte, zn1, zn2, reduceCtorEq, q2] <;> rfl)); (first | refine pT ?_ | refine pF ?_ | fail_if_success with_reducible refine pA ?_)) | (with_reducible apply SC.ops)))
      refine retIQ_ret (.sl q 0 (c.length + (lst cel_ l).length) 1 none) [(q, ⟨5, bw (c ++ lst cel_ l), false⟩)] m Try.results51 (by simp (disch := omega) only [go_sem, ↓reduceIte]; rfl) ⟨q, by omega, rfl, rfl⟩ ?_
      (refine Le.slots ?_ ?_ ?_ <;> (repeat' (first | (exact fun _ _ h => h) | exact znb _ | exact leSl_nil | refine leSl_cons (by simp (disch := omega) only [go_sem, ↓reduceIte] <;> rfl) ?_ ?_ | exact VLe.junk _ | exact VLe.refl rfl | exact VLe.nil_sl _ _ _ | exact VLe.int (by first | rfl | omega | (dsimp only; omega)) | exact VLe.bool rfl | exact VLe.sl rfl (by first | rfl | omega) | exact VLe.cap rfl (by first | rfl | omega) | exact VLe.im rfl rfl | omega | (refine fun id k h => ?_; simp only [hget] at h ⊢; (repeat' (split at h)) <;> first | (cases h; done) | (simp (disch := omega) only [if_pos, if_neg]; exact h)))))
theorem fcs_clo (l : List (Int × Int)) : (fcs l).all clo = true := by
  rw [zlf]; intro y hy; obtain ⟨x, _, hx⟩ := List.mem_flatMap.1 hy
  simp only [List.mem_cons, List.not_mem_nil, or_false] at hx
  rcases hx with rfl | rfl | rfl <;> rfl
def Rd.faces (b : List Int) (n : Nat) (s : Rd) : List (Int × Int) × Rd := Rd.list b n (fun s => s.face b n) s
theorem faces_at {b : List Int} {n : Nat} {s : Rd} (h : s.at_ ≤ n) : (s.faces b n).2.at_ ≤ n := list_at (fun _ h => face_at h) h
set_option maxHeartbeats 4000000 in
theorem rfaces_s (b : List Int) (n : Nat) (s0 : Rd) (hu : U8s b) (hn : n ≤ b.length) (hb : n ≤ 1000000000) (ha : s0.at_ ≤ n) :
    RdK Try.prog 94 (fun k => [.pt k 0, .fn (.func 95) [.pt k 0] []]) (rdB b n s0) (rdB b n (s0.faces b n).2) (.im (fcs (s0.faces b n).1) (s0.faces b n).1.length) := by
  refine ⟨.im _ _, rdB_clo _ _ _, fun k nx hk => ?_⟩
  refine InlQ.run Try.func94 rfl Try.ntmps94 (by simp) (by simp (disch := omega) only [go_sem, zn4]; rfl) fun B hB => ?_
  have c1 := rsize_s b n s0 hu hn hb 4000 (by omega)
  have hat := size_at (b := b) (lim := 4000) ha
  have hc4 := size_le b n 4000 s0
  unfold Rd.faces Rd.list
  generalize s0.size b n 4000 = r at *
  obtain ⟨c, s1⟩ := r
  simp only at c1 hat hc4 ⊢
  unfold rdB at c1 ⊢
  (repeat (first | (with_reducible refine oz (by constructor <;> decide) ?_) | ((first | apply SO.call | apply DO.call); (iterate 3 (focus (simp (disch := omega) only [go_sem, ↓reduceIte] <;> rfl))); (first | apply SCall.ofX | apply DCall.ofX); assumption; (focus (simp (disch := omega) only [go_sem, ↓reduceIte, zn1, zn2, zn3, zn4, zn5, zn6, reduceCtorEq, zn7, zi1, zi2, if_pos, if_neg] <;> rfl))) | ((with_reducible first | apply wa | apply wb | apply wc | apply wd); (focus (simp (disch := omega) only [go_sem, ↓reduceIte, reduceCtorEq] <;> rfl)); (first | refine pT ?_ | refine pF ?_ | fail_if_success with_reducible refine pA ?_)) | (with_reducible apply SC.ops)))
  (refine SO.inlQ (by simp (disch := omega) only [go_sem] <;> rfl) Tab.go78 (by simp (disch := omega) only [go_sem, ↓reduceIte] <;> rfl) (by simp (disch := omega) only [go_sem] <;> rfl) (SInlQ.rd (c1) (by simp (disch := omega) only [go_sem, ↓reduceIte] <;> rfl) rfl (by first | omega | (dsimp only; omega) | (simp (disch := omega) only [go_sem] <;> omega)) (by simp (disch := omega) only [go_sem, ↓reduceIte] <;> rfl) ?_))
  (repeat (first | (with_reducible refine oz (by constructor <;> decide) ?_) | ((with_reducible first | apply wa | apply wb | apply wc | apply wd); (focus (simp (disch := omega) only [go_sem, ↓reduceIte] <;> rfl)); (first | refine pT ?_ | refine pF ?_ | fail_if_success with_reducible refine pA ?_)) | (with_reducible apply SC.ops)))
  generalize hL : listR (fun s => s.face b n) c s1 [] = L at *
  refine SC.weak (by simp) (nilSl (tO := 130) (sl' := [(0, .pt k 0), (1, .fn (.func 95) [.pt k 0] []), (5, .sc (.int .i64 c)), (6, .sl nx 0 0 3 none), (7, .sc (.int .i64 0))]) (hp' := [(k, rdB b n s1)]) nx hB (by omega) ?_ ?_) ?_
  · refine mapSl_cons (by simp (disch := omega) only [go_sem, ↓reduceIte, reduceCtorEq] <;> rfl) (VMap.pt rfl (by omega)) ?_
    refine mapSl_cons (by simp (disch := omega) only [go_sem, ↓reduceIte, zn1, reduceCtorEq] <;> rfl) (VMap.fn1 rfl (by omega)) ?_
    (repeat' (first | exact trivial | refine mapSl_cons (by simp (disch := omega) only [go_sem, ↓reduceIte, zn1] <;> rfl) ?_ ?_ | exact VMap.junk _ | exact VMap.sc _ | exact VMap.clo rfl | exact VMap.sl rfl (by omega) | exact VMap.cap rfl (by omega) | exact VMap.pt rfl (by omega) | exact VMap.nil_sl _ _ _ | exact VMap.int (by first | rfl | omega | (dsimp only; omega))))
  · unfold rdB
    (repeat' (first | exact mapHp_nil | refine mapHp_cons (by simp (disch := omega) only [go_sem, ↓reduceIte] <;> rfl) ?_ ?_ | exact BMap.clo (by first | rfl | assumption | exact wv_clo _ | exact imR_clo _ _ | exact nv_clo _) | refine BMap.list ?_ | exact mapL_nil | refine mapL_cons ?_ ?_ | exact VMap.junk _ | exact VMap.sc _ | exact VMap.clo rfl | exact VMap.sl rfl (by omega) | exact VMap.cap rfl (by omega) | exact VMap.pt rfl (by omega) | exact VMap.nil_sl _ _ _ | exact VMap.int (by first | rfl | omega | (dsimp only; omega))))
  refine SC.loop (fun z : Nat × List (Int × Int) × Rd × Nat × Nat => ⟨[(0, .pt k 0), (1, .fn (.func 95) [.pt k 0] []), (5, .sc (.int .i64 c)), (6, .sl z.2.2.2.1 0 z.2.1.length 3 none), (7, .sc (.int .i64 z.1))], [(z.2.2.2.1, ⟨130, fcs z.2.1, false⟩), (k, rdB b n z.2.2.1)], z.2.2.2.2, 28⟩)
    (fun z => z.1 ≤ c ∧ listR (fun s => s.face b n) (c - z.1) z.2.2.1 z.2.1 = L ∧ z.2.1.length = z.1 ∧ z.2.2.1.at_ ≤ n ∧ nx ≤ z.2.2.2.1 ∧ z.2.2.2.1 < z.2.2.2.2) (fun z => c - z.1) (0, [], s1, nx, nx + 1) ?_ ?_ ?_
  · unfold fcs rdB
    (refine Le.slots ?_ ?_ ?_ <;> (repeat' (first | (exact fun _ _ h => h) | exact znb _ | exact leSl_nil | refine leSl_cons (by simp (disch := omega) only [go_sem, ↓reduceIte, zn1, reduceCtorEq] <;> rfl) ?_ ?_ | exact VLe.junk _ | exact VLe.refl rfl | exact VLe.nil_sl _ _ _ | exact VLe.int (by first | rfl | omega | (dsimp only; omega)) | exact VLe.bool rfl | exact VLe.sl rfl (by first | rfl | omega) | exact VLe.cap rfl (by first | rfl | omega) | exact VLe.im rfl rfl | omega | (refine fun id k h => ?_; simp only [hget] at h ⊢; (repeat' (split at h)) <;> first | (cases h; done) | (simp (disch := omega) only [if_pos, if_neg]; exact h)))))
  · exact ⟨znc _, hL, rfl, hat, znb _, Nat.lt_succ_self _⟩
  · rintro ⟨i, acc, s, q, m⟩ ⟨hi1, hl, hlen, has, hq1, hq2⟩ K hK
    simp only at hi1 hl hlen has hq1 hq2 ⊢
    by_cases hlt : i < c ∧ s.e = 0
    · have q2 : decide ((i : Int) < (c : Int)) = true := by rw [decide_eq_true_iff]; omega
      have q3 : ((s.e : Int) == 0) = true := by rw [hlt.2]; rfl
      have c2 := rface_s b n s hu hn hb has
      have hats := face_at (b := b) has
      have hci : c - i = (c - (i + 1)) + 1 := by omega
      rw [hci] at hl
      unfold listR at hl
      rw [if_pos hlt.2] at hl
      generalize s.face b n = r at *
      obtain ⟨x, s2⟩ := r
      simp only at c2 hats hl
      have gl := fcs_len acc
      have gt : (fcs acc).take (acc.length * 3) = fcs acc := zla (by omega)
      have e4 : fcs (acc ++ [x]) = fcs acc ++ [.sc (.int .i64 x.1), .sc (.bool (decide (x.2 < 0))), .im (lv (limbsOf x.2.natAbs)) (limbsOf x.2.natAbs).length] := by unfold fcs; simp only [List.flatMap_append, List.flatMap_cons, List.flatMap_nil, List.append_nil]
      have e5 : (acc ++ [x]).length = acc.length + 1 := zl1
      have hK2 := fun s' q' m' h => hK s' (i + 1, acc ++ [x], s2, q', m') h
      simp only [e4, e5] at hK2
      unfold rdB at *
      unfold fcv at c2
      (repeat (first | (with_reducible refine oz (by constructor <;> decide) ?_) | ((with_reducible first | apply wa | apply wb | apply wc | apply wd); (focus (simp (disch := omega) only [go_sem, ↓reduceIte, zn1, reduceCtorEq, if_neg, q2, q3] <;> rfl)); (first | refine pT ?_ | refine pF ?_ | fail_if_success with_reducible refine pA ?_)) | (with_reducible apply SC.ops)))
      (refine SO.inlQ (by simp (disch := omega) only [go_sem, ↓reduceIte] <;> rfl) Tab.go95 (by simp (disch := omega) only [go_sem] <;> rfl) (by simp (disch := omega) only [go_sem] <;> rfl) (SInlQ.rd (c2) (by simp (disch := omega) only [go_sem, ↓reduceIte, if_neg] <;> rfl) rfl (by first | omega | (dsimp only; omega) | (simp (disch := omega) only [go_sem] <;> omega)) (by simp (disch := omega) only [go_sem, ↓reduceIte, if_neg] <;> rfl) ?_))
      (repeat (first | (with_reducible refine oz (by constructor <;> decide) ?_) | ((with_reducible first | apply wa | apply wb | apply wc | apply wd); (focus (simp (disch := omega) only [go_sem, ↓reduceIte, zn1, zn3, zn4, reduceCtorEq, if_pos, if_neg, gl, gt, zl2, zl3, zl4, zna, zn9] <;> rfl)); (first | refine pT ?_ | refine pF ?_ | fail_if_success with_reducible refine pA ?_)) | (with_reducible apply SC.ops)))
      refine hK2 _ (m + 1) (m + 2) ?_ ⟨by omega, hl, by omega, hats, by omega, by omega⟩ (by omega)
      (refine Le.slots ?_ ?_ ?_ <;> (repeat' (first | (exact fun _ _ h => h) | exact znb _ | exact leSl_nil | refine leSl_cons (by simp (disch := omega) only [go_sem, ↓reduceIte, zn1, reduceCtorEq] <;> rfl) ?_ ?_ | exact VLe.junk _ | exact VLe.refl rfl | exact VLe.nil_sl _ _ _ | exact VLe.int (by first | rfl | omega | (dsimp only; omega)) | exact VLe.bool rfl | exact VLe.sl rfl (by first | rfl | omega) | exact VLe.cap rfl (by first | rfl | omega) | exact VLe.im rfl rfl | omega | (refine fun id k h => ?_; simp only [hget] at h ⊢; (repeat' (split at h)) <;> first | (cases h; done) | (simp (disch := omega) only [if_pos, if_neg]; exact h)))))
    · have hE : listR (fun s => s.face b n) (c - i) s acc = (acc, s) := by
        by_cases h0 : c - i = 0
        · rw [h0]; rfl
        · obtain ⟨m', hm'⟩ : ∃ m', c - i = m' + 1 := ⟨c - i - 1, by omega⟩
          rw [hm']; unfold listR; rw [if_neg (fun h => hlt ⟨by omega, h⟩)]
      rw [hE] at hl
      subst hl
      have gl := fcs_len acc
      have gt : (fcs acc).take (acc.length * 3) = fcs acc := zla (by omega)
      have gcl : (fcs acc).all clo = true := fcs_clo acc
      have kb : (k == q) = false := by rw [beq_eq_false_iff_ne]; omega
      simp only
      unfold rdB
      by_cases hi : i < c
      · have q2 : decide ((i : Int) < (c : Int)) = true := by rw [decide_eq_true_iff]; omega
        have q3 : ((s.e : Int) == 0) = false := by rw [beq_eq_false_iff_ne]; intro h; exact hlt ⟨hi, by omega⟩
        (repeat (first | (with_reducible refine oz (by constructor <;> decide) ?_) | ((with_reducible first | apply wa | apply wb | apply wc | apply wd); (focus (simp (disch := omega) only [go_sem, ↓reduceIte, zn1, zn2, reduceCtorEq, if_neg, q2, q3] <;> rfl)); (first | refine pT ?_ | refine pF ?_ | fail_if_success with_reducible refine pA ?_)) | (with_reducible apply SC.ops)))
        exact rd_retF hB hk Try.results94 (by simp (disch := omega) only [go_sem, ↓reduceIte] <;> rfl) (by simp (disch := omega) only [go_sem, ↓reduceIte, if_pos, gl, gt, gcl, zl2] <;> rfl) (.im _ _) rfl (by simp (disch := omega) only [go_sem, ↓reduceIte, if_pos, if_neg, kb, Bool.false_eq_true] <;> rfl)
      · have q2 : decide ((i : Int) < (c : Int)) = false := by rw [decide_eq_false_iff_not]; omega
        (repeat (first | (with_reducible refine oz (by constructor <;> decide) ?_) | ((with_reducible first | apply wa | apply wb | apply wc | apply wd); (focus (simp (disch := omega) only [go_sem, ↓reduceIte, zn1, zn2, reduceCtorEq, q2] <;> rfl)); (first | refine pT ?_ | refine pF ?_ | fail_if_success with_reducible refine pA ?_)) | (with_reducible apply SC.ops)))
        exact rd_retF hB hk Try.results94 (by simp (disch := omega) only [go_sem, ↓reduceIte] <;> rfl) (by simp (disch := omega) only [go_sem, ↓reduceIte, if_pos, gl, gt, gcl, zl2] <;> rfl) (.im _ _) rfl (by simp (disch := omega) only [go_sem, ↓reduceIte, if_pos, if_neg, kb, Bool.false_eq_true] <;> rfl)
def Rd.cell (b : List Int) (n : Nat) (s : Rd) : Cel × Rd :=
  (⟨(s.whole b n).1, ((s.whole b n).2.whole b n).1, (((s.whole b n).2.whole b n).2.faces b n).1⟩, (((s.whole b n).2.whole b n).2.faces b n).2)
theorem cell_at {b : List Int} {n : Nat} {s : Rd} (h : s.at_ ≤ n) : (s.cell b n).2.at_ ≤ n := faces_at (whole_at (whole_at h))
theorem cel_only (x : Cel) : Only (fun _ => False) (.ag (celC x)) := by
  refine .ag fun y hy => ?_
  simp only [celC, List.mem_cons, List.not_mem_nil, or_false] at hy
  rcases hy with rfl | rfl | rfl
  · exact .sc _
  · exact .sc _
  · exact .im _ _
theorem rcell2_s (b : List Int) (n : Nat) (s : Rd) (hu : U8s b) (hn : n ≤ b.length) (hb : n ≤ 1000000000) (ha : s.at_ ≤ n) : RdQ Try.prog 85 [] (rdB b n s) (rdB b n (s.cell b n).2) (.ag (celC (s.cell b n).1)) := by
  refine ⟨cel_only _, rdB_clo _ _ _, fun k nx hk => ?_⟩
  refine InlQ.run Try.func85 rfl Try.ntmps85 (by simp) (by simp (disch := omega) only [go_sem]; rfl) fun B hB => ?_
  have c1 := rwh_s b n s hu hn hb
  have c2 := rwh_s b n (s.whole b n).2 hu hn hb
  have c3 := rfaces_s b n ((s.whole b n).2.whole b n).2 hu hn hb (whole_at (whole_at ha))
  unfold Rd.cell
  generalize s.whole b n = r at *
  obtain ⟨u, s1⟩ := r
  simp only at c1 c2 c3 ⊢
  generalize s1.whole b n = r at *
  obtain ⟨u2, s2⟩ := r
  simp only at c2 c3 ⊢
  generalize s2.faces b n = r at *
  obtain ⟨fs, s3⟩ := r
  simp only at c3 ⊢
  have ho := cel_only ⟨u, u2, fs⟩
  unfold celC at *
  unfold rdB at *
  simp only at ho ⊢
  (repeat (first | (with_reducible refine oz (by constructor <;> decide) ?_) | ((first | apply SO.call | apply DO.call); (iterate 3 (focus (simp (disch := omega) only [go_sem, ↓reduceIte, if_neg] <;> rfl))); (first | apply SCall.ofX | apply DCall.ofX); assumption; (focus (simp (disch := omega) only [go_sem, ↓reduceIte, zn1, zn2, zn3, zn4, zn5, zn6, reduceCtorEq, zn7, zi1, zi2, if_pos, if_neg] <;> rfl))) | ((with_reducible first | apply wa | apply wb | apply wc | apply wd); (focus (simp (disch := omega) only [go_sem, ↓reduceIte, reduceCtorEq] <;> rfl)); (first | refine pT ?_ | refine pF ?_ | fail_if_success with_reducible refine pA ?_)) | (with_reducible apply SC.ops)))
  (refine SO.inlQ (by simp (disch := omega) only [go_sem] <;> rfl) Tab.go83 (by simp (disch := omega) only [go_sem, ↓reduceIte] <;> rfl) (by simp (disch := omega) only [go_sem] <;> rfl) (SInlQ.rd (c1) (by simp (disch := omega) only [go_sem, ↓reduceIte, if_neg] <;> rfl) rfl (by first | omega | (dsimp only; omega) | (simp (disch := omega) only [go_sem] <;> omega)) (by simp (disch := omega) only [go_sem, ↓reduceIte, if_neg] <;> rfl) ?_))
  (repeat (first | (with_reducible refine oz (by constructor <;> decide) ?_) | ((first | apply SO.call | apply DO.call); (iterate 3 (focus (simp (disch := omega) only [go_sem, ↓reduceIte, if_neg] <;> rfl))); (first | apply SCall.ofX | apply DCall.ofX); assumption; (focus (simp (disch := omega) only [go_sem, ↓reduceIte, zn1, zn2, zn3, zn4, zn5, zn6, reduceCtorEq, zn7, zi1, zi2, if_pos, if_neg] <;> rfl))) | ((with_reducible first | apply wa | apply wb | apply wc | apply wd); (focus (simp (disch := omega) only [go_sem, ↓reduceIte, zn1, zn3, zn4, reduceCtorEq] <;> rfl)); (first | refine pT ?_ | refine pF ?_ | fail_if_success with_reducible refine pA ?_)) | (with_reducible apply SC.ops)))
  (refine SO.inlQ (by simp (disch := omega) only [go_sem] <;> rfl) Tab.go83 (by simp (disch := omega) only [go_sem, ↓reduceIte] <;> rfl) (by simp (disch := omega) only [go_sem] <;> rfl) (SInlQ.rd (c2) (by simp (disch := omega) only [go_sem, ↓reduceIte, if_neg] <;> rfl) rfl (by first | omega | (dsimp only; omega) | (simp (disch := omega) only [go_sem] <;> omega)) (by simp (disch := omega) only [go_sem, ↓reduceIte, if_neg] <;> rfl) ?_))
  (repeat (first | (with_reducible refine oz (by constructor <;> decide) ?_) | ((first | apply SO.call | apply DO.call); (iterate 3 (focus (simp (disch := omega) only [go_sem, ↓reduceIte, zn1, if_neg] <;> rfl))); (first | apply SCall.ofX | apply DCall.ofX); assumption; (focus (simp (disch := omega) only [go_sem, ↓reduceIte, zn1, zn2, zn3, zn4, zn5, zn6, reduceCtorEq, zn7, zi1, zi2, if_pos, if_neg] <;> rfl))) | ((with_reducible first | apply wa | apply wb | apply wc | apply wd); (focus (simp (disch := omega) only [go_sem, ↓reduceIte, zn1, zn3, zn4, reduceCtorEq] <;> rfl)); (first | refine pT ?_ | refine pF ?_ | fail_if_success with_reducible refine pA ?_)) | (with_reducible apply SC.ops)))
  (refine SO.inlQ (by simp (disch := omega) only [go_sem] <;> rfl) Tab.go94 (by simp (disch := omega) only [go_sem, ↓reduceIte, zn1] <;> rfl) (by simp (disch := omega) only [go_sem] <;> rfl) (SInlQ.rdk (c3) k (by simp (disch := omega) only [go_sem, ↓reduceIte, if_neg] <;> rfl) rfl (by first | omega | (dsimp only; omega) | (simp (disch := omega) only [go_sem] <;> omega)) (by simp (disch := omega) only [go_sem, ↓reduceIte, if_neg] <;> rfl) ?_))
  (repeat (first | (with_reducible refine oz (by constructor <;> decide) ?_) | ((with_reducible first | apply wa | apply wb | apply wc | apply wd); (focus (simp (disch := omega) only [go_sem, ↓reduceIte, zn1, zn2, zn3, zn4, reduceCtorEq, if_neg] <;> rfl)); (first | refine pT ?_ | refine pF ?_ | fail_if_success with_reducible refine pA ?_)) | (with_reducible apply SC.ops)))
  exact rd_ret hB hk ho rfl Try.results85 (by simp (disch := omega) only [go_sem, ↓reduceIte, zn1, zn3, zn4, if_neg] <;> rfl) (by simp (disch := omega) only [go_sem, ↓reduceIte, if_neg] <;> rfl)
theorem cels_clo (l : List Cel) : (cels l).all clo = true := by
  rw [zlf]; intro y hy; obtain ⟨x, _, hx⟩ := List.mem_flatMap.1 hy
  simp only [celC, List.mem_cons, List.not_mem_nil, or_false] at hx
  rcases hx with rfl | rfl | rfl <;> rfl
def Rd.cells (b : List Int) (n : Nat) (s : Rd) : List Cel × Rd := Rd.list b n (fun s => s.cell b n) s
theorem cells_at {b : List Int} {n : Nat} {s : Rd} (h : s.at_ ≤ n) : (s.cells b n).2.at_ ≤ n := list_at (fun _ h => cell_at h) h
set_option maxHeartbeats 4000000 in
theorem rcells_s (b : List Int) (n : Nat) (s0 : Rd) (hu : U8s b) (hn : n ≤ b.length) (hb : n ≤ 1000000000) (ha : s0.at_ ≤ n) :
    RdK Try.prog 84 (fun k => [.pt k 0, .fn (.func 85) [.pt k 0] []]) (rdB b n s0) (rdB b n (s0.cells b n).2) (.im (cels (s0.cells b n).1) (s0.cells b n).1.length) := by
  refine ⟨.im _ _, rdB_clo _ _ _, fun k nx hk => ?_⟩
  refine InlQ.run Try.func84 rfl Try.ntmps84 (by simp) (by simp (disch := omega) only [go_sem, zn4]; rfl) fun B hB => ?_
  have c1 := rsize_s b n s0 hu hn hb 4000 (by omega)
  have hat := size_at (b := b) (lim := 4000) ha
  have hc4 := size_le b n 4000 s0
  unfold Rd.cells Rd.list
  generalize s0.size b n 4000 = r at *
  obtain ⟨c, s1⟩ := r
  simp only at c1 hat hc4 ⊢
  unfold rdB at c1 ⊢
  (repeat (first | (with_reducible refine oz (by constructor <;> decide) ?_) | ((first | apply SO.call | apply DO.call); (iterate 3 (focus (simp (disch := omega) only [go_sem, ↓reduceIte] <;> rfl))); (first | apply SCall.ofX | apply DCall.ofX); assumption; (focus (simp (disch := omega) only [go_sem, ↓reduceIte, zn1, zn2, zn3, zn4, zn5, zn6, reduceCtorEq, zn7, zi1, zi2, if_pos, if_neg] <;> rfl))) | ((with_reducible first | apply wa | apply wb | apply wc | apply wd); (focus (simp (disch := omega) only [go_sem, ↓reduceIte, reduceCtorEq] <;> rfl)); (first | refine pT ?_ | refine pF ?_ | fail_if_success with_reducible refine pA ?_)) | (with_reducible apply SC.ops)))
  (refine SO.inlQ (by simp (disch := omega) only [go_sem] <;> rfl) Tab.go78 (by simp (disch := omega) only [go_sem, ↓reduceIte] <;> rfl) (by simp (disch := omega) only [go_sem] <;> rfl) (SInlQ.rd (c1) (by simp (disch := omega) only [go_sem, ↓reduceIte] <;> rfl) rfl (by first | omega | (dsimp only; omega) | (simp (disch := omega) only [go_sem] <;> omega)) (by simp (disch := omega) only [go_sem, ↓reduceIte] <;> rfl) ?_))
  (repeat (first | (with_reducible refine oz (by constructor <;> decide) ?_) | ((with_reducible first | apply wa | apply wb | apply wc | apply wd); (focus (simp (disch := omega) only [go_sem, ↓reduceIte] <;> rfl)); (first | refine pT ?_ | refine pF ?_ | fail_if_success with_reducible refine pA ?_)) | (with_reducible apply SC.ops)))
  generalize hL : listR (fun s => s.cell b n) c s1 [] = L at *
  refine SC.weak (by simp) (nilSl (tO := 64) (sl' := [(0, .pt k 0), (1, .fn (.func 85) [.pt k 0] []), (5, .sc (.int .i64 c)), (6, .sl nx 0 0 3 none), (7, .sc (.int .i64 0))]) (hp' := [(k, rdB b n s1)]) nx hB (by omega) ?_ ?_) ?_
  · refine mapSl_cons (by simp (disch := omega) only [go_sem, ↓reduceIte, reduceCtorEq] <;> rfl) (VMap.pt rfl (by omega)) ?_
    refine mapSl_cons (by simp (disch := omega) only [go_sem, ↓reduceIte, zn1, reduceCtorEq] <;> rfl) (VMap.fn1 rfl (by omega)) ?_
    (repeat' (first | exact trivial | refine mapSl_cons (by simp (disch := omega) only [go_sem, ↓reduceIte, zn1] <;> rfl) ?_ ?_ | exact VMap.junk _ | exact VMap.sc _ | exact VMap.clo rfl | exact VMap.sl rfl (by omega) | exact VMap.cap rfl (by omega) | exact VMap.pt rfl (by omega) | exact VMap.nil_sl _ _ _ | exact VMap.int (by first | rfl | omega | (dsimp only; omega))))
  · unfold rdB
    (repeat' (first | exact mapHp_nil | refine mapHp_cons (by simp (disch := omega) only [go_sem, ↓reduceIte] <;> rfl) ?_ ?_ | exact BMap.clo (by first | rfl | assumption | exact wv_clo _ | exact imR_clo _ _ | exact nv_clo _) | refine BMap.list ?_ | exact mapL_nil | refine mapL_cons ?_ ?_ | exact VMap.junk _ | exact VMap.sc _ | exact VMap.clo rfl | exact VMap.sl rfl (by omega) | exact VMap.cap rfl (by omega) | exact VMap.pt rfl (by omega) | exact VMap.nil_sl _ _ _ | exact VMap.int (by first | rfl | omega | (dsimp only; omega))))
  refine SC.loop (fun z : Nat × List Cel × Rd × Nat × Nat => ⟨[(0, .pt k 0), (1, .fn (.func 85) [.pt k 0] []), (5, .sc (.int .i64 c)), (6, .sl z.2.2.2.1 0 z.2.1.length 3 none), (7, .sc (.int .i64 z.1))], [(z.2.2.2.1, ⟨64, cels z.2.1, false⟩), (k, rdB b n z.2.2.1)], z.2.2.2.2, 28⟩)
    (fun z => z.1 ≤ c ∧ listR (fun s => s.cell b n) (c - z.1) z.2.2.1 z.2.1 = L ∧ z.2.1.length = z.1 ∧ z.2.2.1.at_ ≤ n ∧ nx ≤ z.2.2.2.1 ∧ z.2.2.2.1 < z.2.2.2.2) (fun z => c - z.1) (0, [], s1, nx, nx + 1) ?_ ?_ ?_
  · unfold cels rdB
    (refine Le.slots ?_ ?_ ?_ <;> (repeat' (first | (exact fun _ _ h => h) | exact znb _ | exact leSl_nil | refine leSl_cons (by simp (disch := omega) only [go_sem, ↓reduceIte, zn1, reduceCtorEq] <;> rfl) ?_ ?_ | exact VLe.junk _ | exact VLe.refl rfl | exact VLe.nil_sl _ _ _ | exact VLe.int (by first | rfl | omega | (dsimp only; omega)) | exact VLe.bool rfl | exact VLe.sl rfl (by first | rfl | omega) | exact VLe.cap rfl (by first | rfl | omega) | exact VLe.im rfl rfl | omega | (refine fun id k h => ?_; simp only [hget] at h ⊢; (repeat' (split at h)) <;> first | (cases h; done) | (simp (disch := omega) only [if_pos, if_neg]; exact h)))))
  · exact ⟨znc _, hL, rfl, hat, znb _, Nat.lt_succ_self _⟩
  · rintro ⟨i, acc, s, q, m⟩ ⟨hi1, hl, hlen, has, hq1, hq2⟩ K hK
    simp only at hi1 hl hlen has hq1 hq2 ⊢
    by_cases hlt : i < c ∧ s.e = 0
    · have q2 : decide ((i : Int) < (c : Int)) = true := by rw [decide_eq_true_iff]; omega
      have q3 : ((s.e : Int) == 0) = true := by rw [hlt.2]; rfl
      have c2 := rcell2_s b n s hu hn hb has
      have hats := cell_at (b := b) has
      have hci : c - i = (c - (i + 1)) + 1 := by omega
      rw [hci] at hl
      unfold listR at hl
      rw [if_pos hlt.2] at hl
      generalize s.cell b n = r at *
      obtain ⟨x, s2⟩ := r
      simp only at c2 hats hl
      have gl := cels_len acc
      have gt : (cels acc).take (acc.length * 3) = cels acc := zla (by omega)
      have e4 : cels (acc ++ [x]) = cels acc ++ celC x := by unfold cels; simp only [List.flatMap_append, List.flatMap_cons, List.flatMap_nil, List.append_nil]
      have e5 : (acc ++ [x]).length = acc.length + 1 := zl1
      have hK2 := fun s' q' m' h => hK s' (i + 1, acc ++ [x], s2, q', m') h
      simp only [e4, e5] at hK2
      unfold rdB at *
      unfold celC at *
      (repeat (first | (with_reducible refine oz (by constructor <;> decide) ?_) | ((with_reducible first | apply wa | apply wb | apply wc | apply wd); (focus (simp (disch := omega) only [go_sem, ↓reduceIte, zn1, reduceCtorEq, if_neg, q2, q3] <;> rfl)); (first | refine pT ?_ | refine pF ?_ | fail_if_success with_reducible refine pA ?_)) | (with_reducible apply SC.ops)))
      (refine SO.inlQ (by simp (disch := omega) only [go_sem, ↓reduceIte] <;> rfl) Tab.go85 (by simp (disch := omega) only [go_sem] <;> rfl) (by simp (disch := omega) only [go_sem] <;> rfl) (SInlQ.rd (c2) (by simp (disch := omega) only [go_sem, ↓reduceIte, if_neg] <;> rfl) rfl (by first | omega | (dsimp only; omega) | (simp (disch := omega) only [go_sem] <;> omega)) (by simp (disch := omega) only [go_sem, ↓reduceIte, if_neg] <;> rfl) ?_))
      (repeat (first | (with_reducible refine oz (by constructor <;> decide) ?_) | ((with_reducible first | apply wa | apply wb | apply wc | apply wd); (focus (simp (disch := omega) only [go_sem, ↓reduceIte, zn1, zn3, zn4, reduceCtorEq, if_pos, if_neg, gl, gt, zl2, zl3, zl4, zna, zn9] <;> rfl)); (first | refine pT ?_ | refine pF ?_ | fail_if_success with_reducible refine pA ?_)) | (with_reducible apply SC.ops)))
      refine hK2 _ (m + 1) (m + 2) ?_ ⟨by omega, hl, by omega, hats, by omega, by omega⟩ (by omega)
      (refine Le.slots ?_ ?_ ?_ <;> (repeat' (first | (exact fun _ _ h => h) | exact znb _ | exact leSl_nil | refine leSl_cons (by simp (disch := omega) only [go_sem, ↓reduceIte, zn1, reduceCtorEq] <;> rfl) ?_ ?_ | exact VLe.junk _ | exact VLe.refl rfl | exact VLe.nil_sl _ _ _ | exact VLe.int (by first | rfl | omega | (dsimp only; omega)) | exact VLe.bool rfl | exact VLe.sl rfl (by first | rfl | omega) | exact VLe.cap rfl (by first | rfl | omega) | exact VLe.im rfl rfl | omega | (refine fun id k h => ?_; simp only [hget] at h ⊢; (repeat' (split at h)) <;> first | (cases h; done) | (simp (disch := omega) only [if_pos, if_neg]; exact h)))))
    · have hE : listR (fun s => s.cell b n) (c - i) s acc = (acc, s) := by
        by_cases h0 : c - i = 0
        · rw [h0]; rfl
        · obtain ⟨m', hm'⟩ : ∃ m', c - i = m' + 1 := ⟨c - i - 1, by omega⟩
          rw [hm']; unfold listR; rw [if_neg (fun h => hlt ⟨by omega, h⟩)]
      rw [hE] at hl
      subst hl
      have gl := cels_len acc
      have gt : (cels acc).take (acc.length * 3) = cels acc := zla (by omega)
      have gcl : (cels acc).all clo = true := cels_clo acc
      have kb : (k == q) = false := by rw [beq_eq_false_iff_ne]; omega
      simp only
      unfold rdB
      by_cases hi : i < c
      · have q2 : decide ((i : Int) < (c : Int)) = true := by rw [decide_eq_true_iff]; omega
        have q3 : ((s.e : Int) == 0) = false := by rw [beq_eq_false_iff_ne]; intro h; exact hlt ⟨hi, by omega⟩
        (repeat (first | (with_reducible refine oz (by constructor <;> decide) ?_) | ((with_reducible first | apply wa | apply wb | apply wc | apply wd); (focus (simp (disch := omega) only [go_sem, ↓reduceIte, zn1, zn2, reduceCtorEq, if_neg, q2, q3] <;> rfl)); (first | refine pT ?_ | refine pF ?_ | fail_if_success with_reducible refine pA ?_)) | (with_reducible apply SC.ops)))
        exact rd_retF hB hk Try.results84 (by simp (disch := omega) only [go_sem, ↓reduceIte] <;> rfl) (by simp (disch := omega) only [go_sem, ↓reduceIte, if_pos, gl, gt, gcl, zl2] <;> rfl) (.im _ _) rfl (by simp (disch := omega) only [go_sem, ↓reduceIte, if_pos, if_neg, kb, Bool.false_eq_true] <;> rfl)
      · have q2 : decide ((i : Int) < (c : Int)) = false := by rw [decide_eq_false_iff_not]; omega
        (repeat (first | (with_reducible refine oz (by constructor <;> decide) ?_) | ((with_reducible first | apply wa | apply wb | apply wc | apply wd); (focus (simp (disch := omega) only [go_sem, ↓reduceIte, zn1, zn2, reduceCtorEq, q2] <;> rfl)); (first | refine pT ?_ | refine pF ?_ | fail_if_success with_reducible refine pA ?_)) | (with_reducible apply SC.ops)))
        exact rd_retF hB hk Try.results84 (by simp (disch := omega) only [go_sem, ↓reduceIte] <;> rfl) (by simp (disch := omega) only [go_sem, ↓reduceIte, if_pos, gl, gt, gcl, zl2] <;> rfl) (.im _ _) rfl (by simp (disch := omega) only [go_sem, ↓reduceIte, if_pos, if_neg, kb, Bool.false_eq_true] <;> rfl)
def Rd.chg (b : List Int) (n : Nat) (s : Rd) : Chg × Rd :=
  let r0 := s.whole b n
  let r1 := r0.2.cell b n
  let r2 := r1.2.whole b n
  let r3 := r2.2.whole b n
  let r4 := r3.2.whole b n
  let r5 := r4.2.whole b n
  (⟨r0.1, r1.1, r2.1, r3.1, r4.1, r5.1⟩, r5.2)
theorem chg_at {b : List Int} {n : Nat} {s : Rd} (h : s.at_ ≤ n) : (s.chg b n).2.at_ ≤ n := by
  unfold Rd.chg
  simp only
  exact whole_at (whole_at (whole_at (whole_at (cell_at (whole_at h)))))
theorem chg_only (x : Chg) : Only (fun _ => False) (.ag (chgC x)) := by
  refine .ag fun y hy => ?_
  simp only [chgC, celC, zl8, zl7, List.mem_cons, List.not_mem_nil, or_false] at hy
  rcases hy with rfl | rfl | rfl | rfl | rfl | rfl | rfl | rfl
  · exact .sc _
  · exact .sc _
  · exact .sc _
  · exact .im _ _
  · exact .sc _
  · exact .sc _
  · exact .sc _
  · exact .sc _
set_option maxHeartbeats 4000000 in
set_option maxRecDepth 4000 in
theorem rchg_s (b : List Int) (n : Nat) (s : Rd) (hu : U8s b) (hn : n ≤ b.length) (hb : n ≤ 1000000000) (ha : s.at_ ≤ n) : RdQ Try.prog 87 [] (rdB b n s) (rdB b n (s.chg b n).2) (.ag (chgC (s.chg b n).1)) := by
  refine ⟨chg_only _, rdB_clo _ _ _, fun k nx hk => ?_⟩
  refine InlQ.run Try.func87 rfl Try.ntmps87 (by simp) (by simp (disch := omega) only [go_sem]; rfl) fun B hB => ?_
  have c0 := rwh_s b n s hu hn hb
  have c1 := rcell2_s b n (s.whole b n).2 hu hn hb (whole_at ha)
  have hl := chg_only (s.chg b n).1
  unfold Rd.chg at *
  generalize s.whole b n = r at *
  obtain ⟨u0, s0⟩ := r
  simp only at c0 c1 hl ⊢
  generalize s0.cell b n = r at *
  obtain ⟨x1, s1⟩ := r
  simp only at c1 hl ⊢
  have c2 := rwh_s b n s1 hu hn hb
  generalize s1.whole b n = r at *
  obtain ⟨u2, s2⟩ := r
  simp only at c2 hl ⊢
  have c3 := rwh_s b n s2 hu hn hb
  generalize s2.whole b n = r at *
  obtain ⟨u3, s3⟩ := r
  simp only at c3 hl ⊢
  have c4 := rwh_s b n s3 hu hn hb
  generalize s3.whole b n = r at *
  obtain ⟨u4, s4⟩ := r
  simp only at c4 hl ⊢
  have c5 := rwh_s b n s4 hu hn hb
  generalize s4.whole b n = r at *
  obtain ⟨u5, s5⟩ := r
  simp only at c5 hl ⊢
  unfold chgC celC at *
  unfold rdB at *
  simp only [zl8, zl7] at hl ⊢
  (repeat (first | (with_reducible refine oz (by constructor <;> decide) ?_) | ((first | apply SO.call | apply DO.call); (iterate 3 (focus (simp (disch := omega) only [go_sem, ↓reduceIte, if_neg] <;> rfl))); (first | apply SCall.ofX | apply DCall.ofX); assumption; (focus (simp (disch := omega) only [go_sem, ↓reduceIte, zn1, zn2, zn3, zn4, zn5, zn6, reduceCtorEq, zn7, zi1, zi2, if_pos, if_neg] <;> rfl))) | ((with_reducible first | apply wa | apply wb | apply wc | apply wd); (focus (simp (disch := omega) only [go_sem, ↓reduceIte, reduceCtorEq] <;> rfl)); (first | refine pT ?_ | refine pF ?_ | fail_if_success with_reducible refine pA ?_)) | (with_reducible apply SC.ops) | (with_reducible apply SR.next) | refine SC.loopN 5 ?_))
  (refine SO.inlQ (by simp (disch := omega) only [go_sem] <;> rfl) Tab.go83 (by simp (disch := omega) only [go_sem, ↓reduceIte] <;> rfl) (by simp (disch := omega) only [go_sem] <;> rfl) (SInlQ.rd (c0) (by simp (disch := omega) only [go_sem, ↓reduceIte, if_neg] <;> rfl) rfl (by first | omega | (dsimp only; omega) | (simp (disch := omega) only [go_sem] <;> omega)) (by simp (disch := omega) only [go_sem, ↓reduceIte, if_neg] <;> rfl) ?_))
  (repeat (first | (with_reducible refine oz (by constructor <;> decide) ?_) | ((first | apply SO.call | apply DO.call); (iterate 3 (focus (simp (disch := omega) only [go_sem, ↓reduceIte, if_neg] <;> rfl))); (first | apply SCall.ofX | apply DCall.ofX); assumption; (focus (simp (disch := omega) only [go_sem, ↓reduceIte, zn1, zn2, zn3, zn4, zn5, zn6, reduceCtorEq, zn7, zi1, zi2, if_pos, if_neg] <;> rfl))) | ((with_reducible first | apply wa | apply wb | apply wc | apply wd); (focus (simp (disch := omega) only [go_sem, ↓reduceIte, zn1, zn3, zn4, reduceCtorEq] <;> rfl)); (first | refine pT ?_ | refine pF ?_ | fail_if_success with_reducible refine pA ?_)) | (with_reducible apply SC.ops) | (with_reducible apply SR.next) | refine SC.loopN 5 ?_))
  (refine SO.inlQ (by simp (disch := omega) only [go_sem] <;> rfl) Tab.go85 (by simp (disch := omega) only [go_sem, ↓reduceIte] <;> rfl) (by simp (disch := omega) only [go_sem] <;> rfl) (SInlQ.rd (c1) (by simp (disch := omega) only [go_sem, ↓reduceIte, if_neg] <;> rfl) rfl (by first | omega | (dsimp only; omega) | (simp (disch := omega) only [go_sem] <;> omega)) (by simp (disch := omega) only [go_sem, ↓reduceIte, if_neg] <;> rfl) ?_))
  (repeat (first | (with_reducible refine oz (by constructor <;> decide) ?_) | ((first | apply SO.call | apply DO.call); (iterate 3 (focus (simp (disch := omega) only [go_sem, ↓reduceIte, if_neg] <;> rfl))); (first | apply SCall.ofX | apply DCall.ofX); assumption; (focus (simp (disch := omega) only [go_sem, ↓reduceIte, zn1, zn2, zn3, zn4, zn5, zn6, reduceCtorEq, zn7, zi1, zi2, if_pos, if_neg] <;> rfl))) | ((with_reducible first | apply wa | apply wb | apply wc | apply wd); (focus (simp (disch := omega) only [go_sem, ↓reduceIte, zn1, zn3, zn4, reduceCtorEq, zi1, if_pos] <;> rfl)); (first | refine pT ?_ | refine pF ?_ | fail_if_success with_reducible refine pA ?_)) | (with_reducible apply SC.ops) | (with_reducible apply SR.next) | refine SC.loopN 5 ?_))
  (refine SO.inlQ (by simp (disch := omega) only [go_sem] <;> rfl) Tab.go83 (by simp (disch := omega) only [go_sem, ↓reduceIte] <;> rfl) (by simp (disch := omega) only [go_sem] <;> rfl) (SInlQ.rd (c2) (by simp (disch := omega) only [go_sem, ↓reduceIte, if_neg] <;> rfl) rfl (by first | omega | (dsimp only; omega) | (simp (disch := omega) only [go_sem] <;> omega)) (by simp (disch := omega) only [go_sem, ↓reduceIte, if_neg] <;> rfl) ?_))
  (repeat (first | (with_reducible refine oz (by constructor <;> decide) ?_) | ((first | apply SO.call | apply DO.call); (iterate 3 (focus (simp (disch := omega) only [go_sem, ↓reduceIte, if_neg] <;> rfl))); (first | apply SCall.ofX | apply DCall.ofX); assumption; (focus (simp (disch := omega) only [go_sem, ↓reduceIte, zn1, zn2, zn3, zn4, zn5, zn6, reduceCtorEq, zn7, zi1, zi2, if_pos, if_neg, Int.reduceAdd] <;> rfl))) | ((with_reducible first | apply wa | apply wb | apply wc | apply wd); (focus (simp (disch := omega) only [go_sem, ↓reduceIte, zn1, zn3, zn4, reduceCtorEq, zi1, if_pos, Int.reduceAdd] <;> rfl)); (first | refine pT ?_ | refine pF ?_ | fail_if_success with_reducible refine pA ?_)) | (with_reducible apply SC.ops) | (with_reducible apply SR.next) | refine SC.loopN 5 ?_))
  (refine SO.inlQ (by simp (disch := omega) only [go_sem] <;> rfl) Tab.go83 (by simp (disch := omega) only [go_sem, ↓reduceIte] <;> rfl) (by simp (disch := omega) only [go_sem] <;> rfl) (SInlQ.rd (c3) (by simp (disch := omega) only [go_sem, ↓reduceIte, if_neg] <;> rfl) rfl (by first | omega | (dsimp only; omega) | (simp (disch := omega) only [go_sem] <;> omega)) (by simp (disch := omega) only [go_sem, ↓reduceIte, if_neg] <;> rfl) ?_))
  (repeat (first | (with_reducible refine oz (by constructor <;> decide) ?_) | ((first | apply SO.call | apply DO.call); (iterate 3 (focus (simp (disch := omega) only [go_sem, ↓reduceIte, if_neg] <;> rfl))); (first | apply SCall.ofX | apply DCall.ofX); assumption; (focus (simp (disch := omega) only [go_sem, ↓reduceIte, zn1, zn2, zn3, zn4, zn5, zn6, reduceCtorEq, zn7, zi1, zi2, if_pos, if_neg, Int.reduceAdd] <;> rfl))) | ((with_reducible first | apply wa | apply wb | apply wc | apply wd); (focus (simp (disch := omega) only [go_sem, ↓reduceIte, zn1, zn3, zn4, reduceCtorEq, zi1, if_pos, Int.reduceAdd] <;> rfl)); (first | refine pT ?_ | refine pF ?_ | fail_if_success with_reducible refine pA ?_)) | (with_reducible apply SC.ops) | (with_reducible apply SR.next) | refine SC.loopN 5 ?_))
  (refine SO.inlQ (by simp (disch := omega) only [go_sem] <;> rfl) Tab.go83 (by simp (disch := omega) only [go_sem, ↓reduceIte] <;> rfl) (by simp (disch := omega) only [go_sem] <;> rfl) (SInlQ.rd (c4) (by simp (disch := omega) only [go_sem, ↓reduceIte, if_neg] <;> rfl) rfl (by first | omega | (dsimp only; omega) | (simp (disch := omega) only [go_sem] <;> omega)) (by simp (disch := omega) only [go_sem, ↓reduceIte, if_neg] <;> rfl) ?_))
  (repeat (first | (with_reducible refine oz (by constructor <;> decide) ?_) | ((first | apply SO.call | apply DO.call); (iterate 3 (focus (simp (disch := omega) only [go_sem, ↓reduceIte, if_neg] <;> rfl))); (first | apply SCall.ofX | apply DCall.ofX); assumption; (focus (simp (disch := omega) only [go_sem, ↓reduceIte, zn1, zn2, zn3, zn4, zn5, zn6, reduceCtorEq, zn7, zi1, zi2, if_pos, if_neg, Int.reduceAdd] <;> rfl))) | ((with_reducible first | apply wa | apply wb | apply wc | apply wd); (focus (simp (disch := omega) only [go_sem, ↓reduceIte, zn1, zn3, zn4, reduceCtorEq, zi1, if_pos, Int.reduceAdd] <;> rfl)); (first | refine pT ?_ | refine pF ?_ | fail_if_success with_reducible refine pA ?_)) | (with_reducible apply SC.ops) | (with_reducible apply SR.next) | refine SC.loopN 5 ?_))
  (refine SO.inlQ (by simp (disch := omega) only [go_sem] <;> rfl) Tab.go83 (by simp (disch := omega) only [go_sem, ↓reduceIte] <;> rfl) (by simp (disch := omega) only [go_sem] <;> rfl) (SInlQ.rd (c5) (by simp (disch := omega) only [go_sem, ↓reduceIte, if_neg] <;> rfl) rfl (by first | omega | (dsimp only; omega) | (simp (disch := omega) only [go_sem] <;> omega)) (by simp (disch := omega) only [go_sem, ↓reduceIte, if_neg] <;> rfl) ?_))
  (repeat (first | (with_reducible refine oz (by constructor <;> decide) ?_) | ((with_reducible first | apply wa | apply wb | apply wc | apply wd); (focus (simp (disch := omega) only [go_sem, ↓reduceIte, zn1, zn2, zn3, zn4, if_neg, Int.reduceAdd] <;> rfl)); (first | refine pT ?_ | refine pF ?_ | fail_if_success with_reducible refine pA ?_)) | (with_reducible apply SC.ops) | (with_reducible apply SR.next) | refine SC.loopN 5 ?_))
  exact rd_ret hB hk hl rfl Try.results87 (by simp (disch := omega) only [go_sem, ↓reduceIte, zn1, zn3, zn4, if_neg] <;> rfl) (by simp (disch := omega) only [go_sem, ↓reduceIte, if_neg] <;> rfl)
section
variable {P : Program}
theorem NewX.split0 {f : Nat} {k : Blk} {X : Nat → V} {fl : Bool} (h1 : NewX P f [.sc (.slice none 0 0)] k X fl) (h2 : ∀ a c, c ≤ maxLen → NewX P f [.sc (.slice (some a) 0 c)] k X fl) : NewX P f [.im [] 0] k X fl := by
  refine ⟨h1.1, fun S w vs hS hT ha => ?_⟩
  obtain ⟨vl⟩ := vs
  have hlen := ha.1
  match vl, ha with
  | [v], ha =>
    have hr := ha.2 0 _ v rfl rfl
    have key : ∀ u : Value, v = u → AllC S w [.sc u] (#[v] : Array Value).toList := fun u e => ⟨rfl, fun i y z hy hz => by
      cases i with
      | zero => simp at hy hz; subst hy; subst hz; rw [e]; exact R.sc _
      | succ i => simp at hy⟩
    cases hr with
    | im0 hl hm ha' =>
      rename_i c a
      cases a with
      | none => have hc := ha' rfl; subst hc; exact h1.2 S w #[.slice none 0 0] hS hT (key _ rfl)
      | some ad => exact (h2 ad c hm).2 S w #[.slice (some ad) 0 c] hS hT (key _ rfl)
    | im1 f hl hm hS' hc hx => rename_i c b off; exact (h2 ⟨b, off, none⟩ c hm).2 S w #[.slice (some ⟨b, off, none⟩) 0 c] hS hT (key _ rfl)
  | [], ha => simp at hlen
  | _ :: _ :: _, ha => simp at hlen
end
theorem Le.emp {B : Base} {sl : List (Nat × V)} {hp : List (Nat × Blk)} {nx nt c : Nat} {ad : Addr} (t : Nat) (h : get sl t = .sc (.slice (some ad) 0 c)) (hc : c ≤ maxLen) : Le B ⟨sl, hp, nx, nt⟩ ⟨(t, .im [] 0) :: sl, hp, nx, nt⟩ := by
  intro S rho A a w hr
  refine ⟨S, rho, A, ⟨fun t' => ?_, hr.mem, hr.alt, hr.nt, hr.defs⟩⟩
  simp only [get]
  by_cases e : t' = t
  · subst e
    rw [if_pos rfl]
    have := hr.slots t'
    simp only at this
    rw [h] at this
    generalize a.eval (.tmp t') = u at *
    cases this
    exact .im0 (znc _) hc (fun h => by cases h)
  · rw [if_neg e]; exact hr.slots t'
theorem cloneB_s {b : List Int} (hb : b.length ≤ 1000000000) : NewP Try.prog 36 [.im (bw b) b.length] ⟨5, bw b, false⟩ 0 b.length 1 none := by
  by_cases h : b.length = 0
  · have h0 : b = [] := List.eq_nil_of_length_eq_zero h
    subst h0
    refine NewX.split0 ?_ fun a c hc => ?_
    · refine NewP.ofQ bw_sc ?_
      refine InlQ.run Try.func36 rfl Try.ntmps36 (by simp) (by simp (disch := omega) only [go_sem]; rfl) fun B hB => ?_
      (repeat (first | (with_reducible refine oz (by constructor <;> decide) ?_) | ((with_reducible first | apply wa | apply wb | apply wc | apply wd); (focus (simp (disch := omega) only [go_sem, ↓reduceIte, reduceCtorEq] <;> rfl)); (first | refine pT ?_ | refine pF ?_ | fail_if_success with_reducible refine pA ?_)) | (with_reducible apply SC.ops)))
      exact retIQ_ret (.sl 0 0 0 1 none) [(0, ⟨5, [], false⟩)] 1 Try.results36 (by simp (disch := omega) only [go_sem, ↓reduceIte] <;> rfl) ⟨0, by omega, rfl, rfl⟩ (Le.map (fun i => i) (fun _ => False) hB (fun i hi => by omega) (fun _ h => h.elim) (fun _ _ h => h.elim) ⟨VMap.nil_sl _ _ _, trivial⟩ (fun _ _ _ h => h.elim))
    · refine NewP.ofQ bw_sc ?_
      refine InlQ.run Try.func36 rfl Try.ntmps36 (by simp) (by simp (disch := omega) only [go_sem]; rfl) fun B hB => ?_
      (repeat (first | (with_reducible refine oz (by constructor <;> decide) ?_) | ((with_reducible first | apply wa | apply wb | apply wc | apply wd); (focus (simp (disch := omega) only [go_sem, ↓reduceIte, zn1, zn2, zn3, reduceCtorEq] <;> rfl)); (first | refine pT ?_ | refine pF ?_ | fail_if_success with_reducible refine pA ?_)) | (with_reducible apply SC.ops)))
      refine SO.weak (Le.emp 6 (by simp (disch := omega) only [go_sem, ↓reduceIte] <;> rfl) hc) ?_
      (repeat (first | (with_reducible refine oz (by constructor <;> decide) ?_) | ((with_reducible first | apply wa | apply wb | apply wc | apply wd); (focus (simp (disch := omega) only [go_sem, ↓reduceIte, zn1, zn2, zn3, zn4] <;> rfl)); (first | refine pT ?_ | refine pF ?_ | fail_if_success with_reducible refine pA ?_)) | (with_reducible apply SC.ops)))
      refine retIQ_ret (.sl 1 0 0 1 none) [(1, ⟨5, [], false⟩)] 2 Try.results36 (by simp (disch := omega) only [go_sem, ↓reduceIte] <;> rfl) ⟨1, by omega, rfl, rfl⟩ ?_
      (refine Le.slots ?_ ?_ ?_ <;> (repeat' (first | (exact fun _ _ h => h) | exact znb _ | exact leSl_nil | refine leSl_cons (by simp (disch := omega) only [go_sem, ↓reduceIte] <;> rfl) ?_ ?_ | exact VLe.junk _ | exact VLe.refl rfl | exact VLe.nil_sl _ _ _ | exact VLe.int (by first | rfl | omega | (dsimp only; omega)) | exact VLe.bool rfl | exact VLe.sl rfl (by first | rfl | omega) | exact VLe.cap rfl (by first | rfl | omega) | exact VLe.im rfl rfl | omega | (refine fun id k h => ?_; simp only [hget] at h ⊢; (repeat' (split at h)) <;> first | (cases h; done) | (simp (disch := omega) only [if_pos, if_neg]; exact h)))))
  · have gl := bw_len b
    have gc := bw_clo b
    have go := bw_one b
    have gt : (bw b).take b.length = bw b := zla (by omega)
    refine NewP.ofQ bw_sc ?_
    refine InlQ.run Try.func36 rfl Try.ntmps36 (by simp) (by simp (disch := omega) only [go_sem]; rfl) fun B hB => ?_
    (repeat (first | (with_reducible refine oz (by constructor <;> decide) ?_) | ((with_reducible first | apply wa | apply wb | apply wc | apply wd); (focus (simp (disch := omega) only [go_sem, ↓reduceIte, zn1, zn2, zn3, zn4, reduceCtorEq, if_pos, gl, go, zn8, zn9, zl7] <;> rfl)); (first | refine pT ?_ | refine pF ?_ | fail_if_success with_reducible refine pA ?_)) | (with_reducible apply SC.ops)))
    refine retIQ_ret (.sl 1 0 b.length 1 none) [(1, ⟨5, bw b, false⟩)] 2 Try.results36 (by simp (disch := omega) only [go_sem, ↓reduceIte] <;> rfl) ⟨1, by omega, rfl, rfl⟩ ?_
    (refine Le.slots ?_ ?_ ?_ <;> (repeat' (first | (exact fun _ _ h => h) | exact znb _ | exact leSl_nil | refine leSl_cons (by simp (disch := omega) only [go_sem, ↓reduceIte] <;> rfl) ?_ ?_ | exact VLe.junk _ | exact VLe.refl rfl | exact VLe.nil_sl _ _ _ | exact VLe.int (by first | rfl | omega | (dsimp only; omega)) | exact VLe.bool rfl | exact VLe.sl rfl (by first | rfl | omega) | exact VLe.cap rfl (by first | rfl | omega) | exact VLe.im rfl rfl | omega | (refine fun id k h => ?_; simp only [hget] at h ⊢; (repeat' (split at h)) <;> first | (cases h; done) | (simp (disch := omega) only [if_pos, if_neg]; exact h)))))
theorem idlePI : Idle Try.prog 34 := Idle.of Tab.go34 Try.func34 rfl rfl rfl rfl Try.ntmps34 Try.results34
theorem PutInt_s {b : List Int} (z : Int) (hb : b.length ≤ 100000000) (hz : (limbsOf z.natAbs).length ≤ 10000000) : Spec Try.prog 10 [.im (bw b) b.length, iv z] (.im (bw (b ++ int_ z)) (b ++ int_ z).length) := by
  have ge : (int_ z).length ≤ 500000000 := by
    have hh : hdI z = 2 * (limbsOf z.natAbs).length + (if z < 0 then 1 else 0) := rfl
    have := num_10 (n := hdI z) (by rw [hh]; split <;> omega)
    unfold int_; rw [zl1, lbs_len]; omega
  have a1 := cloneB_s (b := b) (by omega)
  have a2 := putint_s z (by omega) 1 b none (by omega)
  have gl := bw_len (b ++ int_ z)
  have gle : (b ++ int_ z).length = b.length + (int_ z).length := zl1
  have gcl := bw_clo (b ++ int_ z)
  refine Spec.runD Try.func10 rfl rfl rfl rfl idlePI Try.ntmps10 (by simp) rfl (by simp (disch := omega) only [go_sem, ↓reduceIte, zn4, reduceCtorEq]; rfl) fun B hB => ?_
  unfold iv sv at a2 ⊢
  (repeat (first | refine DO.nil (by kernel_rfl) ?_ | (with_reducible refine SC.condB (by simp (disch := omega) only [go_sem, ↓reduceIte, zn1, zn2, zn3, zn4, zn5, zn6, reduceCtorEq, zn7, zi1, zi2, if_pos, if_neg]; rfl) ?_; first | with_reducible refine pickT ?_ | with_reducible refine pickF ?_) | (with_reducible refine oz (by constructor <;> decide) ?_) | ((with_reducible apply SC.region); (focus (simp (disch := omega) only [go_sem, ↓reduceIte, zn1, zn2, zn3, zn4, zn5, zn6, reduceCtorEq, zn7, zi1, zi2, if_pos, if_neg]; rfl))) | (with_reducible refine SC.draw Tab.mixed rfl ?_; (repeat (refine DO.run (by simp (disch := omega) only [go_sem, ↓reduceIte, reduceCtorEq]; rfl) ?_)); refine DO.nil (by kernel_rfl) ?_)))
  (refine SC.draw Tab.mixed rfl ?_)
  (repeat (refine DO.run (by simp (disch := omega) only [go_sem, ↓reduceIte, reduceCtorEq]; rfl) ?_))
  (refine DO.callN Tab.go36 (by simp (disch := omega) only [go_sem, ↓reduceIte]; rfl) (by simp (disch := omega) only [go_sem] <;> rfl) ?_; refine DNew.of (a1) rfl (by simp (disch := omega) only [go_sem, zn4]; rfl) ?_)
  (repeat (refine DO.run (by simp (disch := omega) only [go_sem, ↓reduceIte, zn1, zn2, zn3, zn4, reduceCtorEq]; rfl) ?_))
  (first | refine SO.callA Tab.go35 (by simp (disch := omega) only [go_sem, ↓reduceIte, zn1, zn2, zn3, zn4, zn5, zn6, reduceCtorEq, zn7, zi1, zi2, if_pos, if_neg] <;> rfl) (by simp (disch := omega) only [go_sem, ↓reduceIte, zn1, zn2, zn3, zn4, zn5, zn6, reduceCtorEq, zn7, zi1, zi2, if_pos, if_neg] <;> rfl) (SApp.of (a2) (by simp (disch := omega) only [go_sem, ↓reduceIte, zn1, zn2, zn3, zn4, zn5, zn6, reduceCtorEq, zn7, zi1, zi2, if_pos, if_neg] <;> rfl) rfl (by simp (disch := omega) only [go_sem, ↓reduceIte, zn1, zn2, zn3, zn4, zn5, zn6, reduceCtorEq, zn7, zi1, zi2, if_pos, if_neg] <;> rfl) ?_) | refine DO.callA Tab.go35 (by simp (disch := omega) only [go_sem, ↓reduceIte, zn1] <;> rfl) (by simp (disch := omega) only [go_sem, zn2] <;> rfl) (DApp.of (a2) (by simp (disch := omega) only [go_sem, ↓reduceIte] <;> rfl) rfl (by simp (disch := omega) only [go_sem, ↓reduceIte, zn4, reduceCtorEq] <;> rfl) ?_))
  (repeat (refine DO.run (by simp (disch := omega) only [go_sem, ↓reduceIte]; rfl) ?_))
  (refine DO.nil (by kernel_rfl) ?_)
  (repeat (first | refine DO.nil (by kernel_rfl) ?_ | (with_reducible refine SC.condB (by simp (disch := omega) only [go_sem, ↓reduceIte, zn1, zn2, zn3, zn4, zn5, zn6, reduceCtorEq, zn7, zi1, zi2, if_pos, if_neg]; rfl) ?_; first | with_reducible refine pickT ?_ | with_reducible refine pickF ?_) | (with_reducible refine oz (by constructor <;> decide) ?_) | ((with_reducible apply SC.region); (focus (simp (disch := omega) only [go_sem, ↓reduceIte, zn1, zn2, zn3, zn4, zn5, zn6, reduceCtorEq, zn7, zi1, zi2, if_pos, if_neg]; rfl))) | (with_reducible refine SC.draw Tab.mixed rfl ?_; (repeat (refine DO.run (by simp (disch := omega) only [go_sem, ↓reduceIte, zn1, zn2, zn3, zn4, zn5, zn6, reduceCtorEq, zn7, zi1, zi2, if_pos, if_neg]; rfl) ?_)); refine DO.nil (by kernel_rfl) ?_)))
  have gt : (bw (b ++ int_ z)).take (b.length + (int_ z).length) = bw (b ++ int_ z) := zla (by omega)
  rw [gle]
  exact retQ_ret Try.results10 (by simp (disch := omega) only [go_sem, ↓reduceIte] <;> rfl) (by simp (disch := omega) only [go_sem, ↓reduceIte, if_pos, gl, gle, gcl, gt, zl2, zn8] <;> rfl) rfl
structure Hst where
  start : Int
  base : List Cel
  log : List Chg
def chgs (l : List Chg) : List V := l.flatMap chgC
theorem chgs_len (l : List Chg) : (chgs l).length = l.length * 8 := by
  induction l with
  | nil => rfl
  | cons x r ih =>
    show (chgC x ++ chgs r).length = _
    rw [zl1, ih]
    show 8 + r.length * 8 = (r.length + 1) * 8
    omega
theorem chgs_drop : ∀ (l : List Chg) (i : Nat) (h : i < l.length), (chgs l).drop (i * 8) = chgC l[i] ++ chgs (l.drop (i + 1))
  | x :: r, 0, _ => rfl
  | x :: r, i + 1, h => by
    have e : chgs (x :: r) = chgC x ++ chgs r := rfl
    have e0 : (chgC x).length = 8 := rfl
    have e2 : (i + 1) * 8 - 8 = i * 8 := by omega
    rw [e, List.drop_append, e0, e2, List.drop_of_length_le (by rw [e0]; omega), zl7, chgs_drop r i (by simpa using h)]
    rfl
def hstC (x : Hst) : V := .ag [.sc (.int .i64 x.start), .im (cels x.base) x.base.length, .im (chgs x.log) x.log.length]
def logE (x : Chg) : List Int := flg true ++ chg_ x
def hed_ (x : Hst) : List Int := whl x.start ++ lst cel_ x.base
def hst_ (x : Hst) : List Int := hed_ x ++ x.log.flatMap logE ++ flg false
def HstOk (x : Hst) : Prop := I64 x.start ∧ (∀ y ∈ x.base, CelOk y) ∧ x.base.length ≤ 1000000 ∧ (∀ y ∈ x.log, ChgOk y) ∧ x.log.length ≤ 1000000
theorem idlePH : Idle Try.prog 49 := Idle.of Tab.go49 Try.func49 rfl rfl rfl rfl Try.ntmps49 Try.results49
set_option maxHeartbeats 8000000 in
theorem PutHistory_s {b : List Int} {x : Hst} (hx : HstOk x) (hb : b.length + (hst_ x).length ≤ 1000000000) : Spec Try.prog 20 [.im (bw b) b.length, hstC x] (.im (bw (b ++ hst_ x)) (b ++ hst_ x).length) := by
  obtain ⟨h1, h2, h3, h4, h5⟩ := hx
  have hlen : (hst_ x).length = (whl x.start).length + (lst cel_ x.base).length + (x.log.flatMap logE).length + 1 := by unfold hst_ hed_; simp only [zl1]; rfl
  have a1 := cloneB_s (b := b) (by omega)
  have a2 := whole_s h1 1 b none (by omega)
  have a3 := cels_s x.base h2 h3 2 (b ++ whl x.start) none (by rw [zl1]; omega)
  rw [zl1] at a3
  have gl := bw_len (b ++ hst_ x)
  have gle : (b ++ hst_ x).length = b.length + (hst_ x).length := zl1
  have gcl := bw_clo (b ++ hst_ x)
  have gt : (bw (b ++ hst_ x)).take (b.length + (hst_ x).length) = bw (b ++ hst_ x) := zla (by omega)
  unfold hstC
  refine Spec.runD Try.func20 rfl rfl rfl rfl idlePH Try.ntmps20 (by simp) rfl (by simp (disch := omega) only [go_sem, ↓reduceIte, zn4, reduceCtorEq]; rfl) fun B hB => ?_
  (repeat (first | (with_reducible refine SC.condB (by simp (disch := omega) only [go_sem, ↓reduceIte, zn1, zn2, zn3, zn4, zn5, zn6, reduceCtorEq, zn7, zi1, zi2, if_pos, if_neg]; rfl) ?_; first | with_reducible refine pickT ?_ | with_reducible refine pickF ?_) | (with_reducible refine oz (by constructor <;> decide) ?_) | ((with_reducible apply SC.region); (focus (simp (disch := omega) only [go_sem, ↓reduceIte, zn1, zn2, zn3, zn4, zn5, zn6, reduceCtorEq, zn7, zi1, zi2, if_pos, if_neg]; rfl))) | (with_reducible refine SC.draw Tab.mixed rfl ?_; (repeat (refine DO.run (by simp (disch := omega) only [go_sem, ↓reduceIte, reduceCtorEq]; rfl) ?_)); refine DO.nil (by kernel_rfl) ?_)))
  (refine SC.draw Tab.mixed rfl ?_)
  (repeat (refine DO.run (by simp (disch := omega) only [go_sem, ↓reduceIte, reduceCtorEq]; rfl) ?_))
  (refine DO.callN Tab.go36 (by simp (disch := omega) only [go_sem, ↓reduceIte]; rfl) (by simp (disch := omega) only [go_sem] <;> rfl) ?_; refine DNew.of (a1) rfl (by simp (disch := omega) only [go_sem, zn4]; rfl) ?_)
  (repeat (refine DO.run (by simp (disch := omega) only [go_sem, ↓reduceIte, zn1, reduceCtorEq]; rfl) ?_))
  (first | refine SO.callA Tab.go50 (by simp (disch := omega) only [go_sem, ↓reduceIte, zn1, zn2, zn3, zn4, zn5, zn6, reduceCtorEq, zn7, zi1, zi2, if_pos, if_neg] <;> rfl) (by simp (disch := omega) only [go_sem, ↓reduceIte, zn1, zn2, zn3, zn4, zn5, zn6, reduceCtorEq, zn7, zi1, zi2, if_pos, if_neg] <;> rfl) (SApp.of (a2) (by simp (disch := omega) only [go_sem, ↓reduceIte, zn1, zn2, zn3, zn4, zn5, zn6, reduceCtorEq, zn7, zi1, zi2, if_pos, if_neg] <;> rfl) rfl (by simp (disch := omega) only [go_sem, ↓reduceIte, zn1, zn2, zn3, zn4, zn5, zn6, reduceCtorEq, zn7, zi1, zi2, if_pos, if_neg] <;> rfl) ?_) | refine DO.callA Tab.go50 (by simp (disch := omega) only [go_sem, ↓reduceIte, zn1] <;> rfl) (by simp (disch := omega) only [go_sem] <;> rfl) (DApp.of (a2) (by simp (disch := omega) only [go_sem, ↓reduceIte] <;> rfl) rfl (by simp (disch := omega) only [go_sem, ↓reduceIte, zn4, reduceCtorEq] <;> rfl) ?_))
  (repeat (refine DO.run (by simp (disch := omega) only [go_sem, ↓reduceIte]; rfl) ?_))
  (refine DO.nil (by kernel_rfl) ?_)
  (repeat (first | (with_reducible refine oz (by constructor <;> decide) ?_) | ((first | apply SO.call | apply DO.call); (iterate 3 (focus (simp (disch := omega) only [go_sem, ↓reduceIte, zn1] <;> rfl))); (first | apply SCall.ofX | apply DCall.ofX); assumption; (focus (simp (disch := omega) only [go_sem, ↓reduceIte, zn1, zn2, zn3, zn4, zn5, zn6, reduceCtorEq, zn7, zi1, zi2, if_pos, if_neg] <;> rfl))) | ((with_reducible first | apply wa | apply wb | apply wc | apply wd); (focus (simp (disch := omega) only [go_sem, ↓reduceIte, zn1, reduceCtorEq] <;> rfl)); (first | refine pT ?_ | refine pF ?_ | fail_if_success with_reducible refine pA ?_)) | (with_reducible apply SC.ops)))
  (first | refine SO.callA Tab.go51 (by simp (disch := omega) only [go_sem, ↓reduceIte, zn1] <;> rfl) (by simp (disch := omega) only [go_sem] <;> rfl) (SApp.of (a3) (by simp (disch := omega) only [go_sem, ↓reduceIte] <;> rfl) rfl (by simp (disch := omega) only [go_sem, ↓reduceIte, zn4, reduceCtorEq] <;> rfl) ?_) | refine DO.callA Tab.go51 (by simp (disch := omega) only [go_sem, ↓reduceIte, zn1, zn2, zn3, zn4, zn5, zn6, reduceCtorEq, zn7, zi1, zi2, if_pos, if_neg] <;> rfl) (by simp (disch := omega) only [go_sem, ↓reduceIte, zn1, zn2, zn3, zn4, zn5, zn6, reduceCtorEq, zn7, zi1, zi2, if_pos, if_neg] <;> rfl) (DApp.of (a3) (by simp (disch := omega) only [go_sem, ↓reduceIte, zn1, zn2, zn3, zn4, zn5, zn6, reduceCtorEq, zn7, zi1, zi2, if_pos, if_neg] <;> rfl) rfl (by simp (disch := omega) only [go_sem, ↓reduceIte, zn1, zn2, zn3, zn4, zn5, zn6, reduceCtorEq, zn7, zi1, zi2, if_pos, if_neg] <;> rfl) ?_))
  (repeat (first | (with_reducible refine oz (by constructor <;> decide) ?_) | ((with_reducible first | apply wa | apply wb | apply wc | apply wd); (focus (simp (disch := omega) only [go_sem, ↓reduceIte, zn1, reduceCtorEq] <;> rfl)); (first | refine pT ?_ | refine pF ?_ | fail_if_success with_reducible refine pA ?_)) | (with_reducible apply SC.ops)))
  refine SC.loop (fun i : Nat => ⟨[(0, .sl 3 0 (b ++ hed_ x ++ (x.log.take i).flatMap logE).length 1 none), (17, .im (chgs x.log) x.log.length), (18, .sc (.int .i64 x.log.length)), (19, .sc (.int .i64 i))], [(3, ⟨5, bw (b ++ hed_ x ++ (x.log.take i).flatMap logE), false⟩)], 4, 30⟩)
    (fun i => i ≤ x.log.length) (fun i => x.log.length - i) 0 ?_ (znc _) ?_
  · have e0 : (b ++ hed_ x).length = b.length + (whl x.start).length + (lst cel_ x.base).length := by unfold hed_; simp only [zl1]; omega
    have e1 : bw (b ++ hed_ x) = bw (b ++ whl x.start ++ lst cel_ x.base) := by unfold hed_; rw [zl6]
    simp only [zl4, List.flatMap_nil, List.append_nil, e0, e1]
    (refine Le.slots ?_ ?_ ?_ <;> (repeat' (first | (exact fun _ _ h => h) | exact znb _ | exact leSl_nil | refine leSl_cons (by simp (disch := omega) only [go_sem, ↓reduceIte, zn1, reduceCtorEq] <;> rfl) ?_ ?_ | exact VLe.junk _ | exact VLe.refl rfl | exact VLe.nil_sl _ _ _ | exact VLe.int (by first | rfl | omega | (dsimp only; omega)) | exact VLe.bool rfl | exact VLe.sl rfl (by first | rfl | omega) | exact VLe.cap rfl (by first | rfl | omega) | exact VLe.im rfl rfl | omega | (refine fun id k h => ?_; simp only [hget] at h ⊢; (repeat' (split at h)) <;> first | (cases h; done) | (simp (disch := omega) only [if_pos]; exact h)))))
  · intro i hi K hK
    have e0 : (b ++ hed_ x).length = b.length + (whl x.start).length + (lst cel_ x.base).length := by unfold hed_; simp only [zl1]; omega
    by_cases hlt : i < x.log.length
    · have gx := chgs_drop x.log i hlt
      have gcl2 := chgs_len x.log
      have q2 : decide ((i : Int) < (x.log.length : Int)) = true := by rw [decide_eq_true_iff]; omega
      have x0 : ((i : Int)).toNat = i := rfl
      have h12 := h4 x.log[i] (List.getElem_mem hlt)
      have hs := flat_snoc logE x.log hlt
      have hle := flat_le logE x.log (i + 1)
      rw [hs, zl1] at hle
      have hE : (logE x.log[i]).length = 1 + (chg_ x.log[i]).length := by unfold logE; rw [zl1]; rfl
      have hbb : (b ++ hed_ x ++ (x.log.take i).flatMap logE).length = (b ++ hed_ x).length + ((x.log.take i).flatMap logE).length := zl1
      have f1 := flag_s true 3 (b ++ hed_ x ++ (x.log.take i).flatMap logE) none (by rw [hbb, e0]; show _ + 1 ≤ _; omega)
      have hbc : (b ++ hed_ x ++ (x.log.take i).flatMap logE ++ flg true).length = (b ++ hed_ x ++ (x.log.take i).flatMap logE).length + 1 := zl1
      have f2 := change_s h12 5 (b ++ hed_ x ++ (x.log.take i).flatMap logE ++ flg true) none (by rw [hbc, hbb, e0]; omega)
      rw [hbc] at f2
      have f1l : (flg true).length = 1 := rfl
      rw [f1l] at f1
      unfold chgC celC at gx f2
      simp only [zl8, zl7] at gx f2
      have e5 : (b ++ hed_ x ++ (x.log.take (i + 1)).flatMap logE).length = (b ++ hed_ x ++ (x.log.take i).flatMap logE).length + 1 + (chg_ x.log[i]).length := by rw [hs, ← zl6, zl1, hE]; omega
      have e4 : bw (b ++ hed_ x ++ (x.log.take (i + 1)).flatMap logE) = bw (b ++ hed_ x ++ (x.log.take i).flatMap logE ++ flg true ++ chg_ x.log[i]) := by rw [hs]; unfold logE; simp only [zl6]
      have hK2 := fun s h => hK s (i + 1) h (by omega) (by omega)
      simp only [e4, e5] at hK2
      generalize b ++ hed_ x ++ (x.log.take i).flatMap logE = pre at *
      (repeat (first | (with_reducible refine SC.condB (by simp (disch := omega) only [go_sem, ↓reduceIte]; rfl) ?_; first | with_reducible refine pickT ?_ | with_reducible refine pickF ?_) | (with_reducible refine oz (by constructor <;> decide) ?_) | ((with_reducible apply SC.region); (focus (simp (disch := omega) only [go_sem, ↓reduceIte, zn1, zn3, zn4, reduceCtorEq, if_pos, q2, x0, gcl2, gx, zl3, zl4]; rfl))) | (with_reducible refine SC.draw Tab.mixed rfl ?_; (repeat (refine DO.run (by simp (disch := omega) only [go_sem, ↓reduceIte, reduceCtorEq, zl7]; rfl) ?_)); refine DO.nil (by kernel_rfl) ?_)))
      (refine SC.draw Tab.mixed rfl ?_)
      (repeat (refine DO.run (by simp (disch := omega) only [go_sem, ↓reduceIte, reduceCtorEq]; rfl) ?_))
      (first | refine SO.callA Tab.go54 (by simp (disch := omega) only [go_sem, ↓reduceIte, zn1, zn2, zn3, zn4, zn5, zn6, reduceCtorEq, zn7, zi1, zi2, if_pos, if_neg] <;> rfl) (by simp (disch := omega) only [go_sem, ↓reduceIte, zn1, zn2, zn3, zn4, zn5, zn6, reduceCtorEq, zn7, zi1, zi2, if_pos, if_neg] <;> rfl) (SApp.of (f1) (by simp (disch := omega) only [go_sem, ↓reduceIte, zn1, zn2, zn3, zn4, zn5, zn6, reduceCtorEq, zn7, zi1, zi2, if_pos, if_neg] <;> rfl) rfl (by simp (disch := omega) only [go_sem, ↓reduceIte, zn1, zn2, zn3, zn4, zn5, zn6, reduceCtorEq, zn7, zi1, zi2, if_pos, if_neg] <;> rfl) ?_) | refine DO.callA Tab.go54 (by simp (disch := omega) only [go_sem, ↓reduceIte] <;> rfl) (by simp (disch := omega) only [go_sem] <;> rfl) (DApp.of (f1) (by simp (disch := omega) only [go_sem, ↓reduceIte, zn1] <;> rfl) rfl (by simp (disch := omega) only [go_sem, ↓reduceIte, zn1, zn4] <;> rfl) ?_))
      (repeat (refine DO.run (by simp (disch := omega) only [go_sem, ↓reduceIte, zn1, zn3, zn4]; rfl) ?_))
      (first | refine SO.callA Tab.go53 (by simp (disch := omega) only [go_sem, ↓reduceIte, zn1, zn2, zn3, zn4, zn5, zn6, reduceCtorEq, zn7, zi1, zi2, if_pos, if_neg] <;> rfl) (by simp (disch := omega) only [go_sem, ↓reduceIte, zn1, zn2, zn3, zn4, zn5, zn6, reduceCtorEq, zn7, zi1, zi2, if_pos, if_neg] <;> rfl) (SApp.of (f2) (by simp (disch := omega) only [go_sem, ↓reduceIte, zn1, zn2, zn3, zn4, zn5, zn6, reduceCtorEq, zn7, zi1, zi2, if_pos, if_neg] <;> rfl) rfl (by simp (disch := omega) only [go_sem, ↓reduceIte, zn1, zn2, zn3, zn4, zn5, zn6, reduceCtorEq, zn7, zi1, zi2, if_pos, if_neg] <;> rfl) ?_) | refine DO.callA Tab.go53 (by simp (disch := omega) only [go_sem, ↓reduceIte, zn1] <;> rfl) (by simp (disch := omega) only [go_sem] <;> rfl) (DApp.of (f2) (by simp (disch := omega) only [go_sem, ↓reduceIte] <;> rfl) rfl (by simp (disch := omega) only [go_sem, ↓reduceIte, zn1, zn4] <;> rfl) ?_))
      (repeat (refine DO.run (by simp (disch := omega) only [go_sem, ↓reduceIte]; rfl) ?_))
      (refine DO.nil (by kernel_rfl) ?_)
      (repeat (first | (with_reducible refine SC.condB (by simp (disch := omega) only [go_sem, ↓reduceIte, zn1, zn2, zn3, zn4, zn5, zn6, reduceCtorEq, zn7, zi1, zi2, if_pos, if_neg]; rfl) ?_; first | with_reducible refine pickT ?_ | with_reducible refine pickF ?_) | (with_reducible refine oz (by constructor <;> decide) ?_) | ((with_reducible apply SC.region); (focus (simp (disch := omega) only [go_sem, ↓reduceIte, zn1, reduceCtorEq]; rfl))) | (with_reducible refine SC.draw Tab.mixed rfl ?_; (repeat (refine DO.run (by simp (disch := omega) only [go_sem, ↓reduceIte, zn1, zn2, zn3, zn4, zn5, zn6, reduceCtorEq, zn7, zi1, zi2, if_pos, if_neg]; rfl) ?_)); refine DO.nil (by kernel_rfl) ?_)))
      have cl := bw_clo (pre ++ flg true ++ chg_ x.log[i])
      refine hK2 _ (Le.ren 3 6 hB (by omega) (by omega) (by omega) ?_ ?_)
      · refine mapSl_cons (by simp (disch := omega) only [go_sem, ↓reduceIte, reduceCtorEq] <;> rfl) (VMap.sl (if_pos rfl) (by omega)) ?_
        (repeat' (first | exact trivial | refine mapSl_cons (by simp (disch := omega) only [go_sem, ↓reduceIte, zn1, reduceCtorEq] <;> rfl) ?_ ?_ | exact VMap.junk _ | exact VMap.sc _ | exact VMap.clo rfl | exact VMap.sl rfl (by omega) | exact VMap.cap rfl (by omega) | exact VMap.pt rfl (by omega) | exact VMap.nil_sl _ _ _ | exact VMap.int (by first | rfl | omega | (dsimp only; omega))))
      · exact mapHp_cons (by simp (disch := omega) only [go_sem, ↓reduceIte] <;> rfl) (BMap.clo cl) mapHp_nil
    · have hie : i = x.log.length := by omega
      subst hie
      have q2 : decide ((x.log.length : Int) < (x.log.length : Int)) = false := by rw [decide_eq_false_iff_not]; omega
      rw [List.take_length]
      have hbb : (b ++ hed_ x ++ x.log.flatMap logE).length = (b ++ hed_ x).length + (x.log.flatMap logE).length := zl1
      have f1 := flag_s false 3 (b ++ hed_ x ++ x.log.flatMap logE) none (by rw [hbb, e0]; show _ + 1 ≤ _; omega)
      have e6 : b ++ hst_ x = b ++ hed_ x ++ x.log.flatMap logE ++ flg false := by unfold hst_; simp only [zl6]
      have f1l : (flg false).length = 1 := rfl
      rw [f1l] at f1
      have e7 : b.length + (hst_ x).length = (b ++ hed_ x ++ x.log.flatMap logE).length + 1 := by rw [hbb, e0]; omega
      rw [e6] at gl gcl gt ⊢
      rw [e7] at gt
      rw [zl1, f1l] at gl
      have gl3 : (b ++ hed_ x ++ x.log.flatMap logE ++ flg false).length = (b ++ hed_ x ++ x.log.flatMap logE).length + 1 := by rw [zl1]; rfl
      rw [gl3]
      generalize b ++ hed_ x ++ x.log.flatMap logE = pre at *
      (repeat (first | (with_reducible refine oz (by constructor <;> decide) ?_) | ((first | apply SO.call | apply DO.call); (iterate 3 (focus (simp (disch := omega) only [go_sem, ↓reduceIte] <;> rfl))); (first | apply SCall.ofX | apply DCall.ofX); assumption; (focus (simp (disch := omega) only [go_sem, ↓reduceIte, zn1, zn2, zn3, zn4, zn5, zn6, reduceCtorEq, zn7, zi1, zi2, if_pos, if_neg, q2] <;> rfl))) | ((with_reducible first | apply wa | apply wb | apply wc | apply wd); (focus (simp (disch := omega) only [go_sem, ↓reduceIte, zn1, zn2, reduceCtorEq, q2] <;> rfl)); (first | refine pT ?_ | refine pF ?_ | fail_if_success with_reducible refine pA ?_)) | (with_reducible apply SC.ops)))
      (first | refine SO.callA Tab.go54 (by simp (disch := omega) only [go_sem, ↓reduceIte] <;> rfl) (by simp (disch := omega) only [go_sem, zn2] <;> rfl) (SApp.of (f1) (by simp (disch := omega) only [go_sem, ↓reduceIte] <;> rfl) rfl (by simp (disch := omega) only [go_sem, ↓reduceIte, zn4] <;> rfl) ?_) | refine DO.callA Tab.go54 (by simp (disch := omega) only [go_sem, ↓reduceIte, zn1, zn2, zn3, zn4, zn5, zn6, reduceCtorEq, zn7, zi1, zi2, if_pos, if_neg] <;> rfl) (by simp (disch := omega) only [go_sem, ↓reduceIte, zn1, zn2, zn3, zn4, zn5, zn6, reduceCtorEq, zn7, zi1, zi2, if_pos, if_neg] <;> rfl) (DApp.of (f1) (by simp (disch := omega) only [go_sem, ↓reduceIte, zn1, zn2, zn3, zn4, zn5, zn6, reduceCtorEq, zn7, zi1, zi2, if_pos, if_neg] <;> rfl) rfl (by simp (disch := omega) only [go_sem, ↓reduceIte, zn1, zn2, zn3, zn4, zn5, zn6, reduceCtorEq, zn7, zi1, zi2, if_pos, if_neg] <;> rfl) ?_))
      (repeat (first | (with_reducible refine oz (by constructor <;> decide) ?_) | ((with_reducible first | apply wa | apply wb | apply wc | apply wd); (focus (simp (disch := omega) only [go_sem, ↓reduceIte] <;> rfl)); (first | refine pT ?_ | refine pF ?_ | fail_if_success with_reducible refine pA ?_)) | (with_reducible apply SC.ops)))
      exact retQ_ret Try.results20 (by simp (disch := omega) only [go_sem, ↓reduceIte] <;> rfl) (by simp (disch := omega) only [go_sem, ↓reduceIte, zn3, if_pos, gl, gcl, gt, zl2, zn8] <;> rfl) rfl
end Go.Proofs.Ytphilljhfdlfdaa
