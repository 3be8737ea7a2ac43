/- Texts joined: Ed Ei Ee Ej Dl Dm Eg Ek Dd Du Dv Dw Dx Eq Ef Es. -/
import Derived.Test.YtphilljhfdlfdaaZc
import Derived.Test.YtphilljhfdlfdaaZe
import Derived.Test.YtphilljhfdlfdaaZg
import Derived.Test.YtphilljhfdlfdaaZh
set_option linter.all false
open Nat renaming reduceEqDiff → zn1, reduceLT → zn2, reduceLeDiff → zn3, reduceAdd → zn4, reduceMul → zn5, reduceSub → zn6, reduceBEq → zn7, mul_one → zn8, zero_add → zn9, one_mul → zna, le_refl → znb, zero_le → znc, add_sub_cancel_left → znd, sub_eq_zero_of_le → zne, add_assoc → znf
open Int renaming reduceToNat → zi1, reducePow → zi2
open List renaming length_append → zl1, drop_zero → zl2, take_succ_cons → zl3, take_zero → zl4, getElem?_drop → zl5, append_assoc → zl6, nil_append → zl7, cons_append → zl8, drop_succ_cons → zl9, take_of_length_le → zla, getElem?_eq_getElem → zlb, getElem?_eq_some_iff → zlc, map_cons → zld, map_nil → zle, all_eq_true → zlf
namespace Go.Proofs.Ytphilljhfdlfdaa
open Go.RowKit
def Rd.begin (b : List Int) (n : Nat) (s : Rd) : (Int × List Cel) × Rd := (((s.whole b n).1, ((s.whole b n).2.cells b n).1), ((s.whole b n).2.cells b n).2)
theorem begin_at {b : List Int} {n : Nat} {s : Rd} (h : s.at_ ≤ n) : (s.begin b n).2.at_ ≤ n := cells_at (whole_at h)
def begC (x : Int × List Cel) : V := .ag [.sc (.int .i64 x.1), .im (cels x.2) x.2.length, .sc (.slice none 0 0)]
theorem beg_only (x : Int × List Cel) : Only (fun _ => False) (begC x) := by
  refine .ag fun y hy => ?_
  simp only [List.mem_cons, List.not_mem_nil, or_false] at hy
  rcases hy with rfl | rfl | rfl
  · exact .sc _
  · exact .im _ _
  · exact .sc _
theorem rbegin_s (b : List Int) (n : Nat) (s : Rd) (hu : U8s b) (hn : n ≤ b.length) (hb : n ≤ 1000000000) (ha : s.at_ ≤ n) : RdQ Try.prog 61 [] (rdB b n s) (rdB b n (s.begin b n).2) (begC (s.begin b n).1) := by
  refine ⟨beg_only _, rdB_clo _ _ _, fun k nx hk => ?_⟩
  refine InlQ.run Try.func61 rfl Try.ntmps61 (by simp) (by simp (disch := omega) only [go_sem]; rfl) fun B hB => ?_
  have c1 := rwh_s b n s hu hn hb
  have c2 := rcells_s b n (s.whole b n).2 hu hn hb (whole_at ha)
  unfold Rd.begin
  generalize s.whole b n = r at *
  obtain ⟨u, s1⟩ := r
  simp only at c1 c2 ⊢
  generalize s1.cells b n = r at *
  obtain ⟨l, s2⟩ := r
  simp only at c2 ⊢
  have ho := beg_only (u, l)
  unfold begC at *
  unfold rdB at *
  simp only at ho ⊢
  (repeat (first | refine DO.nilF (fun i => i + 1 - nx) (by simp (disch := omega) only [go_sem, ↓reduceIte, zn1, zn2, zn3, zn4, zn5, zn6, reduceCtorEq, zn7, zi1, zi2, if_pos, if_neg, zld, zle, Option.map_some, Option.map_none, znd, zne, znf, zn4] <;> rfl) (by kernel_rfl) ?_ | (with_reducible refine oz (by constructor <;> decide) ?_) | ((first | apply SO.call | apply DO.call); (iterate 3 (focus (simp (disch := omega) only [go_sem, ↓reduceIte, if_neg] <;> rfl))); (first | apply SCall.ofX | apply DCall.ofX); assumption; (focus (simp (disch := omega) only [go_sem, ↓reduceIte, zn1, zn2, zn3, zn4, zn5, zn6, reduceCtorEq, zn7, zi1, zi2, if_pos, if_neg] <;> rfl))) | ((with_reducible first | apply wa | apply wb | apply wc | apply wd); (focus (simp (disch := omega) only [go_sem, ↓reduceIte, reduceCtorEq] <;> rfl)); (first | refine pT ?_ | refine pF ?_ | fail_if_success with_reducible refine pA ?_)) | ((with_reducible refine SC.draw Tab.mixed ?_ ?_); rfl) | (with_reducible apply SC.ops)))
  (refine SO.inlQ (by simp (disch := omega) only [go_sem] <;> rfl) Tab.go83 (by simp (disch := omega) only [go_sem, ↓reduceIte] <;> rfl) (by simp (disch := omega) only [go_sem] <;> rfl) (SInlQ.rd (c1) (by simp (disch := omega) only [go_sem, ↓reduceIte, if_neg] <;> rfl) rfl (by first | omega | (dsimp only; omega) | (simp (disch := omega) only [go_sem] <;> omega)) (by simp (disch := omega) only [go_sem, ↓reduceIte, if_neg] <;> rfl) ?_))
  (repeat (first | refine DO.nilF (fun i => i + 1 - nx) (by simp (disch := omega) only [go_sem, ↓reduceIte, zn1, zn2, zn3, zn4, zn5, zn6, reduceCtorEq, zn7, zi1, zi2, if_pos, if_neg, zld, zle, Option.map_some, Option.map_none, znd, zne, znf, zn4] <;> rfl) (by kernel_rfl) ?_ | (with_reducible refine oz (by constructor <;> decide) ?_) | ((first | apply SO.call | apply DO.call); (iterate 3 (focus (simp (disch := omega) only [go_sem, ↓reduceIte, zn1, if_neg] <;> rfl))); (first | apply SCall.ofX | apply DCall.ofX); assumption; (focus (simp (disch := omega) only [go_sem, ↓reduceIte, zn1, zn2, zn3, zn4, zn5, zn6, reduceCtorEq, zn7, zi1, zi2, if_pos, if_neg] <;> rfl))) | ((with_reducible first | apply wa | apply wb | apply wc | apply wd); (focus (simp (disch := omega) only [go_sem, ↓reduceIte, zn1, zn3, zn4, reduceCtorEq] <;> rfl)); (first | refine pT ?_ | refine pF ?_ | fail_if_success with_reducible refine pA ?_)) | ((with_reducible refine SC.draw Tab.mixed ?_ ?_); rfl) | (with_reducible apply SC.ops)))
  (refine SO.inlQ (by simp (disch := omega) only [go_sem] <;> rfl) Tab.go84 (by simp (disch := omega) only [go_sem, ↓reduceIte, zn1] <;> rfl) (by simp (disch := omega) only [go_sem] <;> rfl) (SInlQ.rdk (c2) k (by simp (disch := omega) only [go_sem, ↓reduceIte, if_neg] <;> rfl) rfl (by first | omega | (dsimp only; omega) | (simp (disch := omega) only [go_sem] <;> omega)) (by simp (disch := omega) only [go_sem, ↓reduceIte, if_neg] <;> rfl) ?_))
  (repeat (first | refine DO.nilF (fun i => i + 1 - nx) (by simp (disch := omega) only [go_sem, ↓reduceIte, zn1, zn2, zn3, zn4, zn5, zn6, reduceCtorEq, zn7, zi1, zi2, if_pos, if_neg, zld, zle, Option.map_some, Option.map_none, znd, zne, znf, zn4] <;> rfl) (by kernel_rfl) ?_ | (with_reducible refine oz (by constructor <;> decide) ?_) | ((with_reducible first | apply wa | apply wb | apply wc | apply wd); (focus (simp (disch := omega) only [go_sem, ↓reduceIte, zn1, zn2, zn3, zn4, reduceCtorEq, if_neg] <;> rfl)); (first | refine pT ?_ | refine pF ?_ | fail_if_success with_reducible refine pA ?_)) | ((with_reducible refine SC.draw Tab.mixed ?_ ?_); rfl) | (with_reducible apply SC.ops)))
  exact rd_ret hB hk ho rfl Try.results61 (by simp (disch := omega) only [go_sem, ↓reduceIte, zn1, zn3, zn4, if_neg] <;> rfl) (by simp (disch := omega) only [go_sem, ↓reduceIte, if_neg] <;> rfl)
def Rd.step (b : List Int) (n : Nat) (s : Rd) (log : List Chg) : Bool × Rd × List Chg :=
  if (s.flag b n).1 = true ∧ (s.flag b n).2.e = 0 then
    if log.length = 4000 then (false, (s.flag b n).2.fail 2, log)
    else if ((s.flag b n).2.chg b n).2.e = 0 then (true, ((s.flag b n).2.chg b n).2, log ++ [((s.flag b n).2.chg b n).1]) else (false, ((s.flag b n).2.chg b n).2, log)
  else (false, (s.flag b n).2, log)
theorem step_at {b : List Int} {n : Nat} {s : Rd} {log : List Chg} (h : s.at_ ≤ n) : (s.step b n log).2.1.at_ ≤ n := by
  have h1 := flag_at (b := b) h
  have h2 := chg_at (b := b) h1
  unfold Rd.step
  generalize (s.flag b n).2.chg b n = rc at *
  generalize s.flag b n = rf at *
  obtain ⟨f, s1⟩ := rf
  obtain ⟨x, s2⟩ := rc
  simp only at h1 h2 ⊢
  split
  · split
    · show (s1.fail 2).at_ ≤ n
      rw [fail_at]; exact h1
    · split <;> exact h2
  · exact h1
theorem step_len {b : List Int} {n : Nat} {s : Rd} {log : List Chg} (h : (s.step b n log).1 = true) : (s.step b n log).2.2.length = log.length + 1 ∧ log.length ≠ 4000 := by
  unfold Rd.step at *
  generalize (s.flag b n).2.chg b n = rc at *
  generalize s.flag b n = rf at *
  obtain ⟨f, s1⟩ := rf
  obtain ⟨x, s2⟩ := rc
  simp only at h ⊢
  by_cases h1 : f = true ∧ s1.e = 0
  · rw [if_pos h1] at h ⊢
    by_cases h2 : log.length = 4000
    · rw [if_pos h2] at h; cases h
    · rw [if_neg h2] at h ⊢
      by_cases h3 : s2.e = 0
      · rw [if_pos h3]; exact ⟨zl1, h2⟩
      · rw [if_neg h3] at h; cases h
  · rw [if_neg h1] at h; cases h
theorem step_same {b : List Int} {n : Nat} {s : Rd} {log : List Chg} (h : (s.step b n log).1 = false) : (s.step b n log).2.2 = log := by
  unfold Rd.step at *
  generalize (s.flag b n).2.chg b n = rc at *
  generalize s.flag b n = rf at *
  obtain ⟨f, s1⟩ := rf
  obtain ⟨x, s2⟩ := rc
  simp only at h ⊢
  by_cases h1 : f = true ∧ s1.e = 0
  · rw [if_pos h1] at h ⊢
    by_cases h2 : log.length = 4000
    · rw [if_pos h2]
    · rw [if_neg h2] at h ⊢
      by_cases h3 : s2.e = 0
      · rw [if_pos h3] at h; cases h
      · rw [if_neg h3]
  · rw [if_neg h1]
def StepQ (b : List Int) (n k h q nx : Nat) (st bs : V) (r : Bool × Rd × List Chg) (y : V) (hp' : List (Nat × Blk)) (nx' : Nat) : Prop :=
  y = .sc (.bool r.1) ∧ ∃ q', (q' = q ∧ nx ≤ nx' ∨ nx ≤ q' ∧ q' < nx') ∧ hp' = [(k, rdB b n r.2.1), (h, ⟨52, [st, bs, .sl q' 0 r.2.2.length 8 none], false⟩), (q', ⟨67, chgs r.2.2, false⟩)]
theorem chgs_clo (l : List Chg) : (chgs l).all clo = true := by
  rw [zlf]; intro y hy; obtain ⟨x, _, hx⟩ := List.mem_flatMap.1 hy
  simp only [chgC, celC, zl8, zl7, List.mem_cons, List.not_mem_nil, or_false] at hx
  rcases hx with rfl | rfl | rfl | rfl | rfl | rfl | rfl | rfl <;> rfl
set_option maxHeartbeats 8000000 in
theorem rstep_s (b : List Int) (n : Nat) (s : Rd) (hu : U8s b) (hn : n ≤ b.length) (hb : n ≤ 1000000000) (ha : s.at_ ≤ n) (log : List Chg) (hlog : log.length ≤ 4000) (x0 : Int) (cs : List V) (m : Nat) (k h q nx : Nat) (hk : k < nx) (hh : h < nx) (hq : q < nx) (hkh : k ≠ h) (hkq : k ≠ q) (hhq : h ≠ q) :
    InlQ Try.prog 62 [.pt k 0, .pt h 0] [(k, rdB b n s), (h, ⟨52, [.sc (.int .i64 x0), .im cs m, .sl q 0 log.length 8 none], false⟩), (q, ⟨67, chgs log, false⟩)] nx (StepQ b n k h q nx (.sc (.int .i64 x0)) (.im cs m) (s.step b n log)) := by
  refine InlQ.run Try.func62 rfl Try.ntmps62 (by simp) (by simp (disch := omega) only [go_sem, zn4]; rfl) fun B hB => ?_
  have c1 := rflag_s b n s hu hn hb
  have hat := flag_at (b := b) ha
  unfold Rd.step
  generalize s.flag b n = r at *
  obtain ⟨f, s1⟩ := r
  simp only at c1 hat ⊢
  have c2 := rchg_s b n s1 hu hn hb hat
  have c3 := fail_s b n s1 2
  have gl := chgs_len log
  have gt : (chgs log).take (log.length * 8) = chgs log := zla (by omega)
  have k1 : (k = h) = False := eq_false hkh
  have k2 : (k = q) = False := eq_false hkq
  have k3 : (h = q) = False := eq_false hhq
  have k4 : (h = k) = False := eq_false (Ne.symm hkh)
  have k5 : (q = k) = False := eq_false (Ne.symm hkq)
  have k6 : (q = h) = False := eq_false (Ne.symm hhq)
  by_cases hf : f = true ∧ s1.e = 0
  · rw [if_pos hf]
    obtain ⟨rfl, he⟩ := hf
    have q3 : ((s1.e : Int) != 0) = false := by rw [he]; rfl
    by_cases hl : log.length = 4000
    · rw [if_pos hl]
      have q4 : ((log.length : Int) == 4000) = true := by rw [hl]; rfl
      unfold rdB at *
      (repeat (first | refine DO.nilF (fun i => i + 1 - nx) (by simp (disch := omega) only [go_sem, ↓reduceIte, zn1, zn2, zn3, zn4, zn5, zn6, reduceCtorEq, zn7, zi1, zi2, if_pos, if_neg, zld, zle, Option.map_some, Option.map_none, znd, zne, znf, zn4] <;> rfl) (by kernel_rfl) ?_ | (with_reducible refine oz (by constructor <;> decide) ?_) | ((first | apply SO.call | apply DO.call); (iterate 3 (focus (simp (disch := omega) only [go_sem, ↓reduceIte] <;> rfl))); (first | apply SCall.ofX | apply DCall.ofX); assumption; (focus (simp (disch := omega) only [go_sem, ↓reduceIte, zn1, zn2, zn3, zn4, zn5, zn6, reduceCtorEq, zn7, zi1, zi2, if_pos, if_neg, k1, k2, k3, k4, k5, k6] <;> rfl))) | ((with_reducible first | apply wa | apply wb | apply wc | apply wd); (focus (simp (disch := omega) only [go_sem, ↓reduceIte, reduceCtorEq] <;> rfl)); (first | refine pT ?_ | refine pF ?_ | fail_if_success with_reducible refine pA ?_)) | ((with_reducible refine SC.draw Tab.mixed ?_ ?_); rfl) | (with_reducible apply SC.ops)))
      (refine SO.inlQ (by simp (disch := omega) only [go_sem] <;> rfl) Tab.go86 (by simp (disch := omega) only [go_sem, ↓reduceIte] <;> rfl) (by simp (disch := omega) only [go_sem] <;> rfl) (SInlQ.rd (c1) (by simp (disch := omega) only [go_sem, ↓reduceIte] <;> rfl) rfl (by first | omega | (dsimp only; omega) | (simp (disch := omega) only [go_sem] <;> omega)) (by simp (disch := omega) only [go_sem, ↓reduceIte] <;> rfl) ?_))
      (repeat (first | refine DO.nilF (fun i => i + 1 - nx) (by simp (disch := omega) only [go_sem, ↓reduceIte, zn1, zn2, zn3, zn4, zn5, zn6, reduceCtorEq, zn7, zi1, zi2, if_pos, if_neg, zld, zle, Option.map_some, Option.map_none, znd, zne, znf, zn4] <;> rfl) (by kernel_rfl) ?_ | (with_reducible refine oz (by constructor <;> decide) ?_) | ((first | apply SO.call | apply DO.call); (iterate 3 (focus (simp (disch := omega) only [go_sem, ↓reduceIte] <;> rfl))); (first | apply SCall.ofX | apply DCall.ofX); assumption; (focus (simp (disch := omega) only [go_sem, ↓reduceIte, zn1, zn2, zn3, zn4, zn5, zn6, reduceCtorEq, zn7, zi1, zi2, if_pos, if_neg, q3, q4, k1, k2, k3, k4, k5, k6] <;> rfl))) | ((with_reducible first | apply wa | apply wb | apply wc | apply wd); (focus (simp (disch := omega) only [go_sem, ↓reduceIte, zn1, reduceCtorEq, q3, q4, k4] <;> rfl)); (first | refine pT ?_ | refine pF ?_ | fail_if_success with_reducible refine pA ?_)) | ((with_reducible refine SC.draw Tab.mixed ?_ ?_); rfl) | (with_reducible apply SC.ops)))
      (refine SO.inlQ (by simp (disch := omega) only [go_sem] <;> rfl) Tab.go76 (by simp (disch := omega) only [go_sem, ↓reduceIte] <;> rfl) (by simp (disch := omega) only [go_sem] <;> rfl) (SInlQ.rd (c3) (by simp (disch := omega) only [go_sem, ↓reduceIte] <;> rfl) rfl (by first | omega | (dsimp only; omega) | (simp (disch := omega) only [go_sem] <;> omega)) (by simp (disch := omega) only [go_sem, ↓reduceIte] <;> rfl) ?_))
      (repeat (first | refine DO.nilF (fun i => i + 1 - nx) (by simp (disch := omega) only [go_sem, ↓reduceIte, zn1, zn2, zn3, zn4, zn5, zn6, reduceCtorEq, zn7, zi1, zi2, if_pos, if_neg, zld, zle, Option.map_some, Option.map_none, znd, zne, znf, zn4] <;> rfl) (by kernel_rfl) ?_ | (with_reducible refine oz (by constructor <;> decide) ?_) | ((with_reducible first | apply wa | apply wb | apply wc | apply wd); (focus (simp (disch := omega) only [go_sem, ↓reduceIte] <;> rfl)); (first | refine pT ?_ | refine pF ?_ | fail_if_success with_reducible refine pA ?_)) | ((with_reducible refine SC.draw Tab.mixed ?_ ?_); rfl) | (with_reducible apply SC.ops)))
      refine retIQ_ret (.sc (.bool false)) _ nx Try.results62 (by simp (disch := omega) only [go_sem, ↓reduceIte]; rfl) ⟨rfl, q, .inl ⟨rfl, by omega⟩, rfl⟩ ?_
      unfold rdB
      (refine Le.slots ?_ ?_ ?_ <;> (repeat' (first | (exact fun _ _ h => h) | exact znb _ | exact leSl_nil | refine leSl_cons (by simp (disch := omega) only [go_sem, ↓reduceIte] <;> rfl) ?_ ?_ | exact VLe.junk _ | exact VLe.refl rfl | exact VLe.nil_sl _ _ _ | exact VLe.int (by first | rfl | omega | (dsimp only; omega)) | exact VLe.bool rfl | exact VLe.sl rfl (by first | rfl | omega) | exact VLe.cap rfl (by first | rfl | omega) | exact VLe.im rfl rfl | omega | (refine fun id k h => ?_; simp only [hget] at h ⊢; (repeat' (split at h)) <;> first | (cases h; done) | (simp (disch := omega) only [if_pos, if_neg]; exact h)))))
    · rw [if_neg hl]
      have q4 : ((log.length : Int) == 4000) = false := by rw [beq_eq_false_iff_ne]; omega
      generalize s1.chg b n = r at *
      obtain ⟨x, s2⟩ := r
      simp only at c2 ⊢
      have e4 : chgs (log ++ [x]) = chgs log ++ chgC x := by unfold chgs; simp only [List.flatMap_append, List.flatMap_cons, List.flatMap_nil, List.append_nil]
      by_cases he2 : s2.e = 0
      · rw [if_pos he2]
        have q5 : ((s2.e : Int) != 0) = false := by rw [he2]; rfl
        unfold chgC celC at *
        unfold rdB at *
        simp only [zl8, zl7] at c2 e4
        (repeat (first | refine DO.nilF (fun i => i + 1 - nx) (by simp (disch := omega) only [go_sem, ↓reduceIte, zn1, zn2, zn3, zn4, zn5, zn6, reduceCtorEq, zn7, zi1, zi2, if_pos, if_neg, zld, zle, Option.map_some, Option.map_none, znd, zne, znf, zn4] <;> rfl) (by kernel_rfl) ?_ | (with_reducible refine oz (by constructor <;> decide) ?_) | ((first | apply SO.call | apply DO.call); (iterate 3 (focus (simp (disch := omega) only [go_sem, ↓reduceIte] <;> rfl))); (first | apply SCall.ofX | apply DCall.ofX); assumption; (focus (simp (disch := omega) only [go_sem, ↓reduceIte, zn1, zn2, zn3, zn4, zn5, zn6, reduceCtorEq, zn7, zi1, zi2, if_pos, if_neg, k1, k2, k3, k4, k5, k6] <;> rfl))) | ((with_reducible first | apply wa | apply wb | apply wc | apply wd); (focus (simp (disch := omega) only [go_sem, ↓reduceIte, reduceCtorEq] <;> rfl)); (first | refine pT ?_ | refine pF ?_ | fail_if_success with_reducible refine pA ?_)) | ((with_reducible refine SC.draw Tab.mixed ?_ ?_); rfl) | (with_reducible apply SC.ops)))
        (refine SO.inlQ (by simp (disch := omega) only [go_sem] <;> rfl) Tab.go86 (by simp (disch := omega) only [go_sem, ↓reduceIte] <;> rfl) (by simp (disch := omega) only [go_sem] <;> rfl) (SInlQ.rd (c1) (by simp (disch := omega) only [go_sem, ↓reduceIte] <;> rfl) rfl (by first | omega | (dsimp only; omega) | (simp (disch := omega) only [go_sem] <;> omega)) (by simp (disch := omega) only [go_sem, ↓reduceIte] <;> rfl) ?_))
        (repeat (first | refine DO.nilF (fun i => i + 1 - nx) (by simp (disch := omega) only [go_sem, ↓reduceIte, zn1, zn2, zn3, zn4, zn5, zn6, reduceCtorEq, zn7, zi1, zi2, if_pos, if_neg, zld, zle, Option.map_some, Option.map_none, znd, zne, znf, zn4] <;> rfl) (by kernel_rfl) ?_ | (with_reducible refine oz (by constructor <;> decide) ?_) | ((first | apply SO.call | apply DO.call); (iterate 3 (focus (simp (disch := omega) only [go_sem, ↓reduceIte] <;> rfl))); (first | apply SCall.ofX | apply DCall.ofX); assumption; (focus (simp (disch := omega) only [go_sem, ↓reduceIte, zn1, zn2, zn3, zn4, zn5, zn6, reduceCtorEq, zn7, zi1, zi2, if_pos, if_neg, q3, q4, k1, k2, k3, k4, k5, k6] <;> rfl))) | ((with_reducible first | apply wa | apply wb | apply wc | apply wd); (focus (simp (disch := omega) only [go_sem, ↓reduceIte, zn1, reduceCtorEq, q3, q4, k4] <;> rfl)); (first | refine pT ?_ | refine pF ?_ | fail_if_success with_reducible refine pA ?_)) | ((with_reducible refine SC.draw Tab.mixed ?_ ?_); rfl) | (with_reducible apply SC.ops)))
        (refine SO.inlQ (by simp (disch := omega) only [go_sem] <;> rfl) Tab.go87 (by simp (disch := omega) only [go_sem, ↓reduceIte] <;> rfl) (by simp (disch := omega) only [go_sem] <;> rfl) (SInlQ.rd (c2) (by simp (disch := omega) only [go_sem, ↓reduceIte] <;> rfl) rfl (by first | omega | (dsimp only; omega) | (simp (disch := omega) only [go_sem] <;> omega)) (by simp (disch := omega) only [go_sem, ↓reduceIte] <;> rfl) ?_))
        (repeat (first | refine DO.nilF (fun i => i + 1 - nx) (by simp (disch := omega) only [go_sem, zn4, zld, zle, Option.map_some, Option.map_none, znd, zne, znf, zn4] <;> rfl) (by kernel_rfl) ?_ | (with_reducible refine oz (by constructor <;> decide) ?_) | ((with_reducible first | apply wa | apply wb | apply wc | apply wd); (focus (simp (disch := omega) only [go_sem, ↓reduceIte, zn1, zn2, zn3, zn4, reduceCtorEq, if_pos, if_neg, q5, gl, gt, zl2, zl3, zl4, zna, zn9, k2, k3, k4, k5, k6] <;> rfl)); (first | refine pT ?_ | refine pF ?_ | fail_if_success with_reducible refine pA ?_)) | ((with_reducible refine SC.draw Tab.mixed ?_ ?_); (focus (first | rfl | simp (disch := omega) only [go_sem, ↓reduceIte, if_pos]))) | (with_reducible apply SC.ops)))
        refine retIQ_ret (.sc (.bool true)) [(k, ⟨108, [.im (bw b) n, .sc (.int .i64 s2.at_), .sc (.int .i64 s2.e)], false⟩), (h, ⟨52, [.sc (.int .i64 x0), .im cs m, .sl (nx + 1 + 1) 0 (log.length + 1) 8 none], false⟩), (nx + 1 + 1, ⟨67, chgs (log ++ [x]), false⟩)] (nx + 3) Try.results62 (by simp (disch := omega) only [go_sem, ↓reduceIte]; rfl) ⟨rfl, nx + 1 + 1, .inr ⟨by omega, by omega⟩, ?_⟩ ?_
        · unfold rdB
          simp only [zl1, List.length_cons, List.length_nil]
        · rw [e4]
          (refine Le.slots ?_ ?_ ?_ <;> (repeat' (first | (exact fun _ _ h => h) | exact znb _ | exact leSl_nil | refine leSl_cons (by simp (disch := omega) only [go_sem, ↓reduceIte] <;> rfl) ?_ ?_ | exact VLe.junk _ | exact VLe.refl rfl | exact VLe.nil_sl _ _ _ | exact VLe.int (by first | rfl | omega | (dsimp only; omega)) | exact VLe.bool rfl | exact VLe.sl rfl (by first | rfl | omega) | exact VLe.cap rfl (by first | rfl | omega) | exact VLe.im rfl rfl | omega | (refine fun id k h => ?_; simp only [hget] at h ⊢; (repeat' (split at h)) <;> first | (cases h; done) | (simp (disch := omega) only [if_pos, if_neg]; exact h)))))
      · rw [if_neg he2]
        have q5 : ((s2.e : Int) != 0) = true := by rw [bne_iff_ne]; omega
        unfold chgC celC at *
        unfold rdB at *
        simp only [zl8, zl7] at c2
        (repeat (first | refine DO.nilF (fun i => i + 1 - nx) (by simp (disch := omega) only [go_sem, ↓reduceIte, zn1, zn2, zn3, zn4, zn5, zn6, reduceCtorEq, zn7, zi1, zi2, if_pos, if_neg, zld, zle, Option.map_some, Option.map_none, znd, zne, znf, zn4] <;> rfl) (by kernel_rfl) ?_ | (with_reducible refine oz (by constructor <;> decide) ?_) | ((first | apply SO.call | apply DO.call); (iterate 3 (focus (simp (disch := omega) only [go_sem, ↓reduceIte] <;> rfl))); (first | apply SCall.ofX | apply DCall.ofX); assumption; (focus (simp (disch := omega) only [go_sem, ↓reduceIte, zn1, zn2, zn3, zn4, zn5, zn6, reduceCtorEq, zn7, zi1, zi2, if_pos, if_neg, k1, k2, k3, k4, k5, k6] <;> rfl))) | ((with_reducible first | apply wa | apply wb | apply wc | apply wd); (focus (simp (disch := omega) only [go_sem, ↓reduceIte, reduceCtorEq] <;> rfl)); (first | refine pT ?_ | refine pF ?_ | fail_if_success with_reducible refine pA ?_)) | ((with_reducible refine SC.draw Tab.mixed ?_ ?_); rfl) | (with_reducible apply SC.ops)))
        (refine SO.inlQ (by simp (disch := omega) only [go_sem] <;> rfl) Tab.go86 (by simp (disch := omega) only [go_sem, ↓reduceIte] <;> rfl) (by simp (disch := omega) only [go_sem] <;> rfl) (SInlQ.rd (c1) (by simp (disch := omega) only [go_sem, ↓reduceIte] <;> rfl) rfl (by first | omega | (dsimp only; omega) | (simp (disch := omega) only [go_sem] <;> omega)) (by simp (disch := omega) only [go_sem, ↓reduceIte] <;> rfl) ?_))
        (repeat (first | refine DO.nilF (fun i => i + 1 - nx) (by simp (disch := omega) only [go_sem, ↓reduceIte, zn1, zn2, zn3, zn4, zn5, zn6, reduceCtorEq, zn7, zi1, zi2, if_pos, if_neg, zld, zle, Option.map_some, Option.map_none, znd, zne, znf, zn4] <;> rfl) (by kernel_rfl) ?_ | (with_reducible refine oz (by constructor <;> decide) ?_) | ((first | apply SO.call | apply DO.call); (iterate 3 (focus (simp (disch := omega) only [go_sem, ↓reduceIte] <;> rfl))); (first | apply SCall.ofX | apply DCall.ofX); assumption; (focus (simp (disch := omega) only [go_sem, ↓reduceIte, zn1, zn2, zn3, zn4, zn5, zn6, reduceCtorEq, zn7, zi1, zi2, if_pos, if_neg, q3, q4, k1, k2, k3, k4, k5, k6] <;> rfl))) | ((with_reducible first | apply wa | apply wb | apply wc | apply wd); (focus (simp (disch := omega) only [go_sem, ↓reduceIte, zn1, reduceCtorEq, q3, q4, k4] <;> rfl)); (first | refine pT ?_ | refine pF ?_ | fail_if_success with_reducible refine pA ?_)) | ((with_reducible refine SC.draw Tab.mixed ?_ ?_); rfl) | (with_reducible apply SC.ops)))
        (refine SO.inlQ (by simp (disch := omega) only [go_sem] <;> rfl) Tab.go87 (by simp (disch := omega) only [go_sem, ↓reduceIte] <;> rfl) (by simp (disch := omega) only [go_sem] <;> rfl) (SInlQ.rd (c2) (by simp (disch := omega) only [go_sem, ↓reduceIte] <;> rfl) rfl (by first | omega | (dsimp only; omega) | (simp (disch := omega) only [go_sem] <;> omega)) (by simp (disch := omega) only [go_sem, ↓reduceIte] <;> rfl) ?_))
        (repeat (first | refine DO.nilF (fun i => i + 1 - nx) (by simp (disch := omega) only [go_sem, ↓reduceIte, zn1, zn2, zn3, zn4, zn5, zn6, reduceCtorEq, zn7, zi1, zi2, if_pos, if_neg, zld, zle, Option.map_some, Option.map_none, znd, zne, znf, zn4] <;> rfl) (by kernel_rfl) ?_ | (with_reducible refine oz (by constructor <;> decide) ?_) | ((with_reducible first | apply wa | apply wb | apply wc | apply wd); (focus (simp (disch := omega) only [go_sem, ↓reduceIte, zn1, zn3, zn4, reduceCtorEq, if_neg, q5] <;> rfl)); (first | refine pT ?_ | refine pF ?_ | fail_if_success with_reducible refine pA ?_)) | ((with_reducible refine SC.draw Tab.mixed ?_ ?_); rfl) | (with_reducible apply SC.ops)))
        refine retIQ_ret (.sc (.bool false)) _ (nx + 1) Try.results62 (by simp (disch := omega) only [go_sem, ↓reduceIte]; rfl) ⟨rfl, q, .inl ⟨rfl, by omega⟩, rfl⟩ ?_
        unfold rdB
        (refine Le.slots ?_ ?_ ?_ <;> (repeat' (first | (exact fun _ _ h => h) | exact znb _ | exact leSl_nil | refine leSl_cons (by simp (disch := omega) only [go_sem, ↓reduceIte] <;> rfl) ?_ ?_ | exact VLe.junk _ | exact VLe.refl rfl | exact VLe.nil_sl _ _ _ | exact VLe.int (by first | rfl | omega | (dsimp only; omega)) | exact VLe.bool rfl | exact VLe.sl rfl (by first | rfl | omega) | exact VLe.cap rfl (by first | rfl | omega) | exact VLe.im rfl rfl | omega | (refine fun id k h => ?_; simp only [hget] at h ⊢; (repeat' (split at h)) <;> first | (cases h; done) | (simp (disch := omega) only [if_pos, if_neg]; exact h)))))
  · rw [if_neg hf]
    unfold rdB at *
    by_cases hf1 : f = true
    · subst hf1
      have q3 : ((s1.e : Int) != 0) = true := by rw [bne_iff_ne]; intro h; exact hf ⟨rfl, by omega⟩
      (repeat (first | refine DO.nilF (fun i => i + 1 - nx) (by simp (disch := omega) only [go_sem, ↓reduceIte, zn1, zn2, zn3, zn4, zn5, zn6, reduceCtorEq, zn7, zi1, zi2, if_pos, if_neg, zld, zle, Option.map_some, Option.map_none, znd, zne, znf, zn4] <;> rfl) (by kernel_rfl) ?_ | (with_reducible refine oz (by constructor <;> decide) ?_) | ((first | apply SO.call | apply DO.call); (iterate 3 (focus (simp (disch := omega) only [go_sem, ↓reduceIte] <;> rfl))); (first | apply SCall.ofX | apply DCall.ofX); assumption; (focus (simp (disch := omega) only [go_sem, ↓reduceIte, zn1, zn2, zn3, zn4, zn5, zn6, reduceCtorEq, zn7, zi1, zi2, if_pos, if_neg, k1, k2, k3, k4, k5, k6] <;> rfl))) | ((with_reducible first | apply wa | apply wb | apply wc | apply wd); (focus (simp (disch := omega) only [go_sem, ↓reduceIte, reduceCtorEq] <;> rfl)); (first | refine pT ?_ | refine pF ?_ | fail_if_success with_reducible refine pA ?_)) | ((with_reducible refine SC.draw Tab.mixed ?_ ?_); rfl) | (with_reducible apply SC.ops)))
      (refine SO.inlQ (by simp (disch := omega) only [go_sem] <;> rfl) Tab.go86 (by simp (disch := omega) only [go_sem, ↓reduceIte] <;> rfl) (by simp (disch := omega) only [go_sem] <;> rfl) (SInlQ.rd (c1) (by simp (disch := omega) only [go_sem, ↓reduceIte] <;> rfl) rfl (by first | omega | (dsimp only; omega) | (simp (disch := omega) only [go_sem] <;> omega)) (by simp (disch := omega) only [go_sem, ↓reduceIte] <;> rfl) ?_))
      (repeat (first | refine DO.nilF (fun i => i + 1 - nx) (by simp (disch := omega) only [go_sem, ↓reduceIte, zn1, zn2, zn3, zn4, zn5, zn6, reduceCtorEq, zn7, zi1, zi2, if_pos, if_neg, zld, zle, Option.map_some, Option.map_none, znd, zne, znf, zn4] <;> rfl) (by kernel_rfl) ?_ | (with_reducible refine oz (by constructor <;> decide) ?_) | ((with_reducible first | apply wa | apply wb | apply wc | apply wd); (focus (simp (disch := omega) only [go_sem, ↓reduceIte, zn1, reduceCtorEq, q3] <;> rfl)); (first | refine pT ?_ | refine pF ?_ | fail_if_success with_reducible refine pA ?_)) | ((with_reducible refine SC.draw Tab.mixed ?_ ?_); rfl) | (with_reducible apply SC.ops)))
      refine retIQ_ret (.sc (.bool false)) _ nx Try.results62 (by simp (disch := omega) only [go_sem, ↓reduceIte]; rfl) ⟨rfl, q, .inl ⟨rfl, by omega⟩, rfl⟩ ?_
      unfold rdB
      (refine Le.slots ?_ ?_ ?_ <;> (repeat' (first | (exact fun _ _ h => h) | exact znb _ | exact leSl_nil | refine leSl_cons (by simp (disch := omega) only [go_sem, ↓reduceIte] <;> rfl) ?_ ?_ | exact VLe.junk _ | exact VLe.refl rfl | exact VLe.nil_sl _ _ _ | exact VLe.int (by first | rfl | omega | (dsimp only; omega)) | exact VLe.bool rfl | exact VLe.sl rfl (by first | rfl | omega) | exact VLe.cap rfl (by first | rfl | omega) | exact VLe.im rfl rfl | omega | (refine fun id k h => ?_; simp only [hget] at h ⊢; (repeat' (split at h)) <;> first | (cases h; done) | (simp (disch := omega) only [if_pos, if_neg]; exact h)))))
    · have hf2 : f = false := by simpa using hf1
      subst hf2
      (repeat (first | refine DO.nilF (fun i => i + 1 - nx) (by simp (disch := omega) only [go_sem, ↓reduceIte, zn1, zn2, zn3, zn4, zn5, zn6, reduceCtorEq, zn7, zi1, zi2, if_pos, if_neg, zld, zle, Option.map_some, Option.map_none, znd, zne, znf, zn4] <;> rfl) (by kernel_rfl) ?_ | (with_reducible refine oz (by constructor <;> decide) ?_) | ((first | apply SO.call | apply DO.call); (iterate 3 (focus (simp (disch := omega) only [go_sem, ↓reduceIte] <;> rfl))); (first | apply SCall.ofX | apply DCall.ofX); assumption; (focus (simp (disch := omega) only [go_sem, ↓reduceIte, zn1, zn2, zn3, zn4, zn5, zn6, reduceCtorEq, zn7, zi1, zi2, if_pos, if_neg, k1, k2, k3, k4, k5, k6] <;> rfl))) | ((with_reducible first | apply wa | apply wb | apply wc | apply wd); (focus (simp (disch := omega) only [go_sem, ↓reduceIte, reduceCtorEq] <;> rfl)); (first | refine pT ?_ | refine pF ?_ | fail_if_success with_reducible refine pA ?_)) | ((with_reducible refine SC.draw Tab.mixed ?_ ?_); rfl) | (with_reducible apply SC.ops)))
      (refine SO.inlQ (by simp (disch := omega) only [go_sem] <;> rfl) Tab.go86 (by simp (disch := omega) only [go_sem, ↓reduceIte] <;> rfl) (by simp (disch := omega) only [go_sem] <;> rfl) (SInlQ.rd (c1) (by simp (disch := omega) only [go_sem, ↓reduceIte] <;> rfl) rfl (by first | omega | (dsimp only; omega) | (simp (disch := omega) only [go_sem] <;> omega)) (by simp (disch := omega) only [go_sem, ↓reduceIte] <;> rfl) ?_))
      (repeat (first | refine DO.nilF (fun i => i + 1 - nx) (by simp (disch := omega) only [go_sem, ↓reduceIte, zn1, zn2, zn3, zn4, zn5, zn6, reduceCtorEq, zn7, zi1, zi2, if_pos, if_neg, zld, zle, Option.map_some, Option.map_none, znd, zne, znf, zn4] <;> rfl) (by kernel_rfl) ?_ | (with_reducible refine oz (by constructor <;> decide) ?_) | ((with_reducible first | apply wa | apply wb | apply wc | apply wd); (focus (simp (disch := omega) only [go_sem, ↓reduceIte, zn1, reduceCtorEq] <;> rfl)); (first | refine pT ?_ | refine pF ?_ | fail_if_success with_reducible refine pA ?_)) | ((with_reducible refine SC.draw Tab.mixed ?_ ?_); rfl) | (with_reducible apply SC.ops)))
      refine retIQ_ret (.sc (.bool false)) _ nx Try.results62 (by simp (disch := omega) only [go_sem, ↓reduceIte]; rfl) ⟨rfl, q, .inl ⟨rfl, by omega⟩, rfl⟩ ?_
      unfold rdB
      (refine Le.slots ?_ ?_ ?_ <;> (repeat' (first | (exact fun _ _ h => h) | exact znb _ | exact leSl_nil | refine leSl_cons (by simp (disch := omega) only [go_sem, ↓reduceIte] <;> rfl) ?_ ?_ | exact VLe.junk _ | exact VLe.refl rfl | exact VLe.nil_sl _ _ _ | exact VLe.int (by first | rfl | omega | (dsimp only; omega)) | exact VLe.bool rfl | exact VLe.sl rfl (by first | rfl | omega) | exact VLe.cap rfl (by first | rfl | omega) | exact VLe.im rfl rfl | omega | (refine fun id k h => ?_; simp only [hget] at h ⊢; (repeat' (split at h)) <;> first | (cases h; done) | (simp (disch := omega) only [if_pos, if_neg]; exact h)))))
def histR (b : List Int) (n : Nat) : Nat → Rd → List Chg → List Chg × Rd
  | 0, s, log => (log, s)
  | f + 1, s, log => if (s.step b n log).1 = true then histR b n f (s.step b n log).2.1 (s.step b n log).2.2 else (log, (s.step b n log).2.1)
def Rd.hist (b : List Int) (n : Nat) (s : Rd) : Hst × Rd :=
  (⟨(s.begin b n).1.1, (s.begin b n).1.2, (histR b n 4001 (s.begin b n).2 []).1⟩, (histR b n 4001 (s.begin b n).2 []).2)
theorem hst_only (x : Hst) : Only (fun _ => False) (hstC x) := by
  refine .ag fun y hy => ?_
  simp only [List.mem_cons, List.not_mem_nil, or_false] at hy
  rcases hy with rfl | rfl | rfl
  · exact .sc _
  · exact .im _ _
  · exact .im _ _
theorem rstep_part {b : List Int} {n k h q nx z : Nat} {x0 : Int} {cs : List V} {m : Nat} {r : Bool × Rd × List Chg} (hz1 : z < nx) (hzk : k ≠ z) (hzh : h ≠ z) (hzq : q ≠ z) : ∀ y hp' nx', StepQ b n k h q nx (.sc (.int .i64 x0)) (.im cs m) r y hp' nx' →
    Only (fun i => i ≠ z) y ∧ OnlyH (fun i => i ≠ z) hp' ∧ ∀ id kk, hget hp' id = some kk → id ≠ z := by
  rintro y hp' nx' ⟨rfl, q', hq, rfl⟩
  have hq' : q' ≠ z := by omega
  refine ⟨.sc _, ⟨fun w hw => Only.clo (List.all_eq_true.1 (rdB_clo _ _ _) w hw), ⟨fun w hw => ?_, ⟨fun w hw => Only.clo (List.all_eq_true.1 (chgs_clo _) w hw), trivial⟩⟩⟩, fun id kk hg => ?_⟩
  · simp only [List.mem_cons, List.not_mem_nil, or_false] at hw
    rcases hw with rfl | rfl | rfl
    · exact .sc _
    · exact .im _ _
    · exact .sl hq'
  · simp only [hget] at hg
    repeat' split at hg
    · omega
    · omega
    · omega
    · cases hg
set_option maxHeartbeats 8000000 in
theorem rhistory_s (b : List Int) (n : Nat) (s : Rd) (hu : U8s b) (hn : n ≤ b.length) (hb : n ≤ 1000000000) (ha : s.at_ ≤ n) :
    RdQ Try.prog 57 [] (rdB b n s) (rdB b n (s.hist b n).2) (hstC (s.hist b n).1) := by
  refine ⟨hst_only _, rdB_clo _ _ _, fun k nx hk => ?_⟩
  refine InlQ.run Try.func57 rfl Try.ntmps57 (by simp) (by simp (disch := omega) only [go_sem]; rfl) fun B hB => ?_
  have c1 := rbegin_s b n s hu hn hb ha
  have hat := begin_at (b := b) ha
  unfold Rd.hist
  generalize s.begin b n = r at *
  obtain ⟨⟨st, bs⟩, s1⟩ := r
  simp only at c1 hat ⊢
  generalize hL : histR b n 4001 s1 [] = L
  obtain ⟨lg, s9⟩ := L
  simp only
  unfold begC rdB at c1
  unfold rdB
  simp only at c1
  (repeat (first | refine DO.nilF (fun i => i + 1 - nx) (by simp (disch := omega) only [go_sem, ↓reduceIte, zn1, zn2, zn3, zn4, zn5, zn6, reduceCtorEq, zn7, zi1, zi2, if_pos, if_neg, zld, zle, Option.map_some, Option.map_none, znd, zne, znf, zn4] <;> rfl) (by kernel_rfl) ?_ | (with_reducible refine oz (by constructor <;> decide) ?_) | ((first | apply SO.call | apply DO.call); (iterate 3 (focus (simp (disch := omega) only [go_sem, ↓reduceIte, if_neg] <;> rfl))); (first | apply SCall.ofX | apply DCall.ofX); assumption; (focus (simp (disch := omega) only [go_sem, ↓reduceIte, zn1, zn2, zn3, zn4, zn5, zn6, reduceCtorEq, zn7, zi1, zi2, if_pos, if_neg] <;> rfl))) | ((with_reducible first | apply wa | apply wb | apply wc | apply wd); (focus (simp (disch := omega) only [go_sem, ↓reduceIte, reduceCtorEq] <;> rfl)); (first | refine pT ?_ | refine pF ?_ | fail_if_success with_reducible refine pA ?_)) | (with_reducible apply SC.ops)))
  (refine SO.inlQ (by simp (disch := omega) only [go_sem] <;> rfl) Tab.go61 (by simp (disch := omega) only [go_sem, ↓reduceIte] <;> rfl) (by simp (disch := omega) only [go_sem] <;> rfl) (SInlQ.rd (c1) (by simp (disch := omega) only [go_sem, ↓reduceIte, if_neg] <;> rfl) rfl (by first | omega | (dsimp only; omega) | (simp (disch := omega) only [go_sem] <;> omega)) (by simp (disch := omega) only [go_sem, ↓reduceIte, if_neg] <;> rfl) ?_))
  (repeat (first | refine DO.nilF (fun i => i + 1 - nx) (by simp (disch := omega) only [go_sem, ↓reduceIte, zn1, zn2, zn3, zn4, zn5, zn6, reduceCtorEq, zn7, zi1, zi2, if_pos, if_neg, zld, zle, Option.map_some, Option.map_none, znd, zne, znf, zn4] <;> rfl) (by kernel_rfl) ?_ | (with_reducible refine oz (by constructor <;> decide) ?_) | ((with_reducible first | apply wa | apply wb | apply wc | apply wd); (focus (simp (disch := omega) only [go_sem, ↓reduceIte, zn1, zn3, zn4] <;> rfl)); (first | refine pT ?_ | refine pF ?_ | fail_if_success with_reducible refine pA ?_)) | (with_reducible apply SC.ops)))
  refine SC.weak (by simp) (nilRowZ (z := 8) (tO := 67) (sl' := [(0, .pt k 0), (2, .pt nx 0), (3, .pt (nx + 1) 0)]) (rest := [(nx, ⟨52, [.sc (.int .i64 0), .sc (.slice none 0 0), .sc (.slice none 0 0)], false⟩), (k, rdB b n s1)]) (pre := [.sc (.int .i64 st), .im (cels bs) bs.length]) (nx + 1) (nx + 2) hB (by simp (disch := omega) only [go_sem, ↓reduceIte] <;> rfl) rfl (by omega) ?_ (by omega) ?_) ?_
  · exact ⟨⟨by omega, by omega, by omega, by simp, by simp (disch := omega) only [go_sem, ↓reduceIte, if_neg] <;> rfl, rfl⟩, ⟨by omega, by omega, by omega, by simp, by simp (disch := omega) only [go_sem, ↓reduceIte, if_neg] <;> rfl, rfl⟩, trivial⟩
  · (repeat' (first | exact trivial | refine mapSl_cons (by simp (disch := omega) only [go_sem, ↓reduceIte, zn1, reduceCtorEq] <;> rfl) ?_ ?_ | exact VMap.junk _ | exact VMap.sc _ | exact VMap.clo rfl | exact VMap.sl rfl (by omega) | exact VMap.cap rfl (by omega) | exact VMap.pt rfl (by omega) | exact VMap.nil_sl _ _ _ | exact VMap.int (by first | rfl | omega | (dsimp only; omega))))
  simp only [zl8, zl7]
  refine SC.loop (fun z : Rd × List Chg × Nat × Nat => ⟨[(0, .pt k 0), (2, .pt nx 0), (3, .pt (nx + 1) 0)], [(nx, ⟨52, [.sc (.int .i64 0), .sc (.slice none 0 0), .sc (.slice none 0 0)], false⟩), (k, rdB b n z.1), (nx + 1, ⟨52, [.sc (.int .i64 st), .im (cels bs) bs.length, .sl z.2.2.1 0 z.2.1.length 8 none], false⟩), (z.2.2.1, ⟨67, chgs z.2.1, false⟩)], z.2.2.2, 9⟩)
    (fun z => z.2.1.length ≤ 4000 ∧ histR b n (4001 - z.2.1.length) z.1 z.2.1 = (lg, s9) ∧ z.1.at_ ≤ n ∧ nx + 2 ≤ z.2.2.1 ∧ z.2.2.1 < z.2.2.2) (fun z => 4001 - z.2.1.length) (s1, [], nx + 2, nx + 3) ?_ ?_ ?_
  · unfold chgs
    (refine Le.slots ?_ ?_ ?_ <;> (repeat' (first | (exact fun _ _ h => h) | exact znb _ | exact leSl_nil | refine leSl_cons (by simp (disch := omega) only [go_sem, ↓reduceIte, zn1, reduceCtorEq] <;> rfl) ?_ ?_ | exact VLe.junk _ | exact VLe.refl rfl | exact VLe.nil_sl _ _ _ | exact VLe.int (by first | rfl | omega | (dsimp only; omega)) | exact VLe.bool rfl | exact VLe.sl rfl (by first | rfl | omega) | exact VLe.cap rfl (by first | rfl | omega) | exact VLe.im rfl rfl | omega | (refine fun id k h => ?_; simp only [hget] at h ⊢; (repeat' (split at h)) <;> first | (cases h; done) | (simp (disch := omega) only [if_pos, if_neg]; exact h)))))
  · exact ⟨znc _, hL, hat, by simp only; omega, by simp only; omega⟩
  · rintro ⟨s, log, q, m⟩ ⟨hl4, hh, has, hq1, hq2⟩ K hK
    simp only at hl4 hh has hq1 hq2 ⊢
    have c5 := rstep_s b n s hu hn hb has log hl4 st (cels bs) bs.length k (nx + 1) q m (by omega) (by omega) (by omega) (by omega) (by omega) (by omega)
    have hs1 := step_at (b := b) (log := log) has
    have hs2 := @step_len b n s log
    have h40 : 4001 - log.length = (4000 - log.length) + 1 := by omega
    rw [h40] at hh
    unfold histR at hh
    have hss := @step_same b n s log
    generalize s.step b n log = r at *
    obtain ⟨f, s2, log2⟩ := r
    simp only at hs1 hs2 hh hss
    (repeat (first | refine DO.nilF (fun i => i + 1 - nx) (by simp (disch := omega) only [go_sem, ↓reduceIte, zn1, zn2, zn3, zn4, zn5, zn6, reduceCtorEq, zn7, zi1, zi2, if_pos, if_neg, zld, zle, Option.map_some, Option.map_none, znd, zne, znf, zn4] <;> rfl) (by kernel_rfl) ?_ | (with_reducible refine oz (by constructor <;> decide) ?_) | ((first | apply SO.call | apply DO.call); (iterate 3 (focus (simp (disch := omega) only [go_sem, ↓reduceIte, zn1, reduceCtorEq, if_neg] <;> rfl))); (first | apply SCall.ofX | apply DCall.ofX); assumption; (focus (simp (disch := omega) only [go_sem, ↓reduceIte, zn1, zn2, zn3, zn4, zn5, zn6, reduceCtorEq, zn7, zi1, zi2, if_pos, if_neg] <;> rfl))) | ((with_reducible first | apply wa | apply wb | apply wc | apply wd); (focus (simp (disch := omega) only [go_sem, ↓reduceIte] <;> rfl)); (first | refine pT ?_ | refine pF ?_ | fail_if_success with_reducible refine pA ?_)) | (with_reducible apply SC.ops)))
    refine SO.inlQ (by simp (disch := omega) only [go_sem] <;> rfl) Tab.go62 (by simp (disch := omega) only [go_sem, ↓reduceIte, zn1, reduceCtorEq] <;> rfl) (by simp (disch := omega) only [go_sem] <;> rfl) (SInlQ.part [(nx, _)] (fun i => i ≠ nx) c5 ?_ ?_ (rstep_part (by omega) (by omega) (by omega) (by omega)) ?_)
    · intro id kk hg
      simp only [hget] at hg
      split at hg
      · rename_i e; exact fun h => h e
      · cases hg
    · intro id kk hg
      simp only [hget] at hg
      repeat' split at hg
      · omega
      · omega
      · omega
      · cases hg
    rintro y hp' nx' ⟨rfl, q', hq', rfl⟩
    simp only [zl8, zl7]
    cases f with
    | true =>
      rw [if_pos rfl] at hh
      obtain ⟨hl2, hl3⟩ := hs2 rfl
      (repeat (first | refine DO.nilF (fun i => i + 1 - nx) (by simp (disch := omega) only [go_sem, ↓reduceIte, zn1, zn2, zn3, zn4, zn5, zn6, reduceCtorEq, zn7, zi1, zi2, if_pos, if_neg, zld, zle, Option.map_some, Option.map_none, znd, zne, znf, zn4] <;> rfl) (by kernel_rfl) ?_ | (with_reducible refine oz (by constructor <;> decide) ?_) | ((with_reducible first | apply wa | apply wb | apply wc | apply wd); (focus (simp (disch := omega) only [go_sem, ↓reduceIte] <;> rfl)); (first | refine pT ?_ | refine pF ?_ | fail_if_success with_reducible refine pA ?_)) | (with_reducible apply SC.ops)))
      refine hK _ (s2, log2, q', nx') ?_ ⟨by simp only; omega, ?_, hs1, by simp only; omega, by simp only; omega⟩ (by simp only; omega)
      · simp only
        (refine Le.slots ?_ ?_ ?_ <;> (repeat' (first | (exact fun _ _ h => h) | exact znb _ | exact leSl_nil | refine leSl_cons (by simp (disch := omega) only [go_sem, ↓reduceIte, zn1, reduceCtorEq] <;> rfl) ?_ ?_ | exact VLe.junk _ | exact VLe.refl rfl | exact VLe.nil_sl _ _ _ | exact VLe.int (by first | rfl | omega | (dsimp only; omega)) | exact VLe.bool rfl | exact VLe.sl rfl (by first | rfl | omega) | exact VLe.cap rfl (by first | rfl | omega) | exact VLe.im rfl rfl | omega | (refine fun id k h => ?_; simp only [hget] at h ⊢; (repeat' (split at h)) <;> first | (cases h; done) | (simp (disch := omega) only [if_pos, if_neg]; exact h)))))
      · simp only
        rw [hl2, show 4001 - (log.length + 1) = 4000 - log.length by omega]
        exact hh
    | false =>
      rw [if_neg (by simp)] at hh
      have := hss rfl
      subst this
      cases hh
      have gl := chgs_len lg
      have gt : (chgs lg).take (lg.length * 8) = chgs lg := zla (by omega)
      have gcl := chgs_clo lg
      have kb : (k == q') = false := by rw [beq_eq_false_iff_ne]; omega
      have kb1 : (nx == q') = false := by rw [beq_eq_false_iff_ne]; omega
      unfold rdB
      (repeat (first | refine DO.nilF (fun i => i + 1 - nx) (by simp (disch := omega) only [go_sem, ↓reduceIte, zn1, zn2, zn3, zn4, zn5, zn6, reduceCtorEq, zn7, zi1, zi2, if_pos, if_neg, zld, zle, Option.map_some, Option.map_none, znd, zne, znf, zn4] <;> rfl) (by kernel_rfl) ?_ | (with_reducible refine oz (by constructor <;> decide) ?_) | ((with_reducible first | apply wa | apply wb | apply wc | apply wd); (focus (simp (disch := omega) only [go_sem, ↓reduceIte, zn1, zn2, zn3, zn4, reduceCtorEq, if_neg] <;> rfl)); (first | refine pT ?_ | refine pF ?_ | fail_if_success with_reducible refine pA ?_)) | (with_reducible apply SC.ops)))
      exact rd_retF hB hk Try.results57 (by simp (disch := omega) only [go_sem, ↓reduceIte, zn1, zn3, zn4, reduceCtorEq] <;> rfl) (by simp (disch := omega) only [go_sem, ↓reduceIte, if_pos, if_neg, gl, gt, gcl, zl2] <;> rfl) (hst_only ⟨st, bs, lg⟩) rfl (by simp (disch := omega) only [go_sem, ↓reduceIte, if_neg, kb, kb1, Bool.false_eq_true] <;> rfl)
end Go.Proofs.Ytphilljhfdlfdaa
namespace Go.Proofs.Ytphilljhfdlfdaa
def Stk {α : Type} (one : Rd → α × Rd) : Prop := ∀ s : Rd, s.e ≠ 0 → (one s).2.e = s.e
def seqR {α β γ : Type} (mk : α → β → γ) (f : Rd → α × Rd) (g : Rd → β × Rd) (s : Rd) : γ × Rd := (mk (f s).1 (g (f s).2).1, (g (f s).2).2)
theorem Stk.seq {α β γ : Type} {mk : α → β → γ} {f : Rd → α × Rd} {g : Rd → β × Rd} (h1 : Stk f) (h2 : Stk g) : Stk (seqR mk f g) := fun s hs => by
  show (g (f s).2).2.e = s.e
  have h := h1 s hs
  rw [h2 _ (by rw [h]; exact hs), h]
theorem number_stk (b : List Int) (n : Nat) : Stk (Rd.number b n) := fun s hs => by unfold Rd.number; rw [if_neg hs]
theorem whole_stk (b : List Int) (n : Nat) : Stk (Rd.whole b n) := number_stk b n
theorem flag_stk (b : List Int) (n : Nat) : Stk (Rd.flag b n) := fun s hs => by
  have h : (s.next b n) = (0, s) := by unfold Rd.next; rw [if_neg hs]
  unfold Rd.flag
  rw [h]; simp
theorem size_stk (b : List Int) (n lim : Nat) : Stk (Rd.size b n lim) := fun s hs => by
  have h : (s.number b n) = (0, s) := by unfold Rd.number; rw [if_neg hs]
  unfold Rd.size
  rw [h]; simp
theorem int_stk (b : List Int) (n : Nat) : Stk (Rd.int b n) := fun s hs => by
  have h : (s.number b n) = (0, s) := by unfold Rd.number; rw [if_neg hs]
  unfold Rd.int
  rw [h]
  simp [hs]
theorem listR_stk {α : Type} (one : Rd → α × Rd) : ∀ (f : Nat) (s : Rd) (acc : List α), s.e ≠ 0 → listR one f s acc = (acc, s)
  | 0, _, _, _ => rfl
  | f + 1, s, acc, h => by unfold listR; rw [if_neg h]
theorem list_stk {α : Type} (b : List Int) (n : Nat) (one : Rd → α × Rd) : Stk (Rd.list b n one) := fun s hs => by
  have h := size_stk b n 4000 s hs
  unfold Rd.list
  rw [listR_stk _ _ _ _ (by rw [h]; exact hs), h]
def CelFit (x : Cel) : Prop := I64 x.id ∧ I64 x.dim ∧ x.B.length ≤ 4000 ∧ ∀ y ∈ x.B, I64 y.1 ∧ (limbsOf y.2.natAbs).length ≤ 4000
theorem cell_stk (b : List Int) (n : Nat) : Stk (Rd.cell b n) :=
  (whole_stk b n).seq (mk := fun a (y : Int × List (Int × Int)) => (⟨a, y.1, y.2⟩ : Cel)) ((whole_stk b n).seq (mk := Prod.mk) (list_stk b n (Rd.face b n)))
def ChgFit (x : Chg) : Prop := I64 x.kind ∧ CelFit x.cell ∧ I64 x.a ∧ I64 x.b ∧ I64 x.w0 ∧ I64 x.w1
def mkCh (k : Int) (y : Cel × Int × Int × Int × Int) : Chg := ⟨k, y.1, y.2.1, y.2.2.1, y.2.2.2.1, y.2.2.2.2⟩
theorem chg_seq (b : List Int) (n : Nat) : Rd.chg b n = seqR mkCh (Rd.whole b n) (seqR Prod.mk (Rd.cell b n) (seqR Prod.mk (Rd.whole b n) (seqR Prod.mk (Rd.whole b n) (seqR Prod.mk (Rd.whole b n) (Rd.whole b n))))) := by
  funext s
  simp only [Rd.chg, seqR, mkCh]
def getR (z : Int) (s : Rd) : Int × Nat × Nat := if s.e = 0 then (z, s.at_, 0) else (0, 0, s.e)
def getI (b : List Int) (n : Nat) (at_ : Int) : Int × Nat × Nat := if at_ < 0 ∨ at_ > n then (0, 0, 1) else getR (Rd.int b n ⟨at_.toNat, 0⟩).1 (Rd.int b n ⟨at_.toNat, 0⟩).2
def tuI (r : Int × Nat × Nat) : V := .tu [iv r.1, .sc (.int .i64 r.2.1), .sc (.int .i64 r.2.2)]
theorem Spec.mono {P : Program} {f : Nat} {args : List V} {x x' : V} (h : Spec P f args x) (hx : ∀ (S : Nat → Prop) (rho : Nat → Nat) (w : World) (A : Nat → Prop) (v : Value), R S rho w A x v → R S rho w A x' v) : Spec P f args x' :=
  fun S w vs hS hT ha => (h S w vs hS hT ha).mono fun e w' ⟨v, he, g, hr⟩ => ⟨v, he, g, hx _ _ _ _ _ hr⟩
theorem getI_s (b : List Int) (n : Nat) (at_ : Int) (hu : U8s b) (hn : n ≤ b.length) (hb : n ≤ 1000000000) :
    Spec Try.prog 41 [.im (bw b) n, .sc (.int .i64 at_), .sc (.func (.func 42) #[] #[])] (tuI (getI b n at_)) := by
  unfold getI
  by_cases h0 : at_ < 0
  · have q1 : decide (at_ < 0) = true := decide_eq_true h0
    rw [if_pos (.inl h0)]
    refine Spec.run Try.func41 rfl Try.ntmps41 (by simp) (by simp (disch := omega) only [go_sem, zn4]; rfl) fun B hB => ?_
    (repeat (first | refine DO.nil (by kernel_rfl) ?_ | (with_reducible refine oz (by constructor <;> decide) ?_) | ((with_reducible first | apply wa | apply wb | apply wc | apply wd); (focus (simp (disch := omega) only [go_sem, ↓reduceIte, zn1, zn3, zn4, reduceCtorEq, q1] <;> rfl)); (first | refine pT ?_ | refine pF ?_ | fail_if_success with_reducible refine pA ?_)) | ((with_reducible refine SC.draw Tab.mixed ?_ ?_); rfl) | (with_reducible apply SC.ops)))
    exact retQ_ret Try.results41 (by simp (disch := omega) only [go_sem, ↓reduceIte, zn1, zn3, zn4, reduceCtorEq] <;> rfl) (by simp (disch := omega) only [go_sem, ↓reduceIte] <;> rfl) rfl
  · have q1 : decide (at_ < 0) = false := decide_eq_false h0
    by_cases h1 : at_ > n
    · have q2 : decide (at_ > (n : Int)) = true := decide_eq_true h1
      rw [if_pos (.inr h1)]
      refine Spec.run Try.func41 rfl Try.ntmps41 (by simp) (by simp (disch := omega) only [go_sem, zn4]; rfl) fun B hB => ?_
      (repeat (first | refine DO.nil (by kernel_rfl) ?_ | (with_reducible refine oz (by constructor <;> decide) ?_) | ((with_reducible first | apply wa | apply wb | apply wc | apply wd); (focus (simp (disch := omega) only [go_sem, ↓reduceIte, zn1, zn3, zn4, reduceCtorEq, q1, q2] <;> rfl)); (first | refine pT ?_ | refine pF ?_ | fail_if_success with_reducible refine pA ?_)) | ((with_reducible refine SC.draw Tab.mixed ?_ ?_); rfl) | (with_reducible apply SC.ops)))
      exact retQ_ret Try.results41 (by simp (disch := omega) only [go_sem, ↓reduceIte, zn1, zn3, zn4, reduceCtorEq] <;> rfl) (by simp (disch := omega) only [go_sem, ↓reduceIte] <;> rfl) rfl
    · have q2 : decide (at_ > (n : Int)) = false := decide_eq_false h1
      rw [if_neg (by omega)]
      obtain ⟨a, rfl⟩ : ∃ a : Nat, at_ = a := ⟨at_.toNat, by omega⟩
      have c1 := rint_s b n ⟨a, 0⟩ hu hn hb (by simp only; omega)
      rw [show ((a : Int)).toNat = a from rfl]
      generalize Rd.int b n ⟨a, 0⟩ = r at *
      obtain ⟨z, s⟩ := r
      simp only at c1 ⊢
      unfold rdB at c1
      unfold getR
      by_cases he : s.e = 0
      · have q3 : ((s.e : Int) != 0) = false := by rw [he]; rfl
        rw [if_pos he]
        unfold tuI
        simp only
        unfold iv sv at c1 ⊢
        refine Spec.run Try.func41 rfl Try.ntmps41 (by simp) (by simp (disch := omega) only [go_sem, zn4]; rfl) fun B hB => ?_
        (repeat (first | refine DO.nil (by kernel_rfl) ?_ | (with_reducible refine oz (by constructor <;> decide) ?_) | ((with_reducible first | apply wa | apply wb | apply wc | apply wd); (focus (simp (disch := omega) only [go_sem, ↓reduceIte, zn1, zn3, zn4, reduceCtorEq, q1, q2] <;> rfl)); (first | refine pT ?_ | refine pF ?_ | fail_if_success with_reducible refine pA ?_)) | ((with_reducible refine SC.draw Tab.mixed ?_ ?_); rfl) | (with_reducible apply SC.ops)))
        (refine SO.inlQ (by simp (disch := omega) only [go_sem, ↓reduceIte, zn1] <;> rfl) Tab.go42 (by simp (disch := omega) only [go_sem, ↓reduceIte] <;> rfl) (by simp (disch := omega) only [go_sem] <;> rfl) (SInlQ.rd (c1) (by simp (disch := omega) only [go_sem, ↓reduceIte] <;> rfl) rfl (by first | omega | (dsimp only; omega)) (by simp (disch := omega) only [go_sem, ↓reduceIte] <;> rfl) ?_))
        (repeat (first | refine DO.nil (by kernel_rfl) ?_ | (with_reducible refine oz (by constructor <;> decide) ?_) | ((with_reducible first | apply wa | apply wb | apply wc | apply wd); (focus (simp (disch := omega) only [go_sem, ↓reduceIte, zn1, zn2, zn3, zn4, reduceCtorEq, q3] <;> rfl)); (first | refine pT ?_ | refine pF ?_ | fail_if_success with_reducible refine pA ?_)) | ((with_reducible refine SC.draw Tab.mixed ?_ ?_); rfl) | (with_reducible apply SC.ops)))
        exact retQ_ret Try.results41 (by simp (disch := omega) only [go_sem, ↓reduceIte, zn1, zn3, zn4, reduceCtorEq] <;> rfl) (by simp (disch := omega) only [go_sem, ↓reduceIte] <;> rfl) rfl
      · have q3 : ((s.e : Int) != 0) = true := by rw [bne_iff_ne]; omega
        rw [if_neg he]
        unfold iv sv at c1
        refine Spec.run Try.func41 rfl Try.ntmps41 (by simp) (by simp (disch := omega) only [go_sem, zn4]; rfl) fun B hB => ?_
        (repeat (first | refine DO.nil (by kernel_rfl) ?_ | (with_reducible refine oz (by constructor <;> decide) ?_) | ((with_reducible first | apply wa | apply wb | apply wc | apply wd); (focus (simp (disch := omega) only [go_sem, ↓reduceIte, zn1, zn3, zn4, reduceCtorEq, q1, q2] <;> rfl)); (first | refine pT ?_ | refine pF ?_ | fail_if_success with_reducible refine pA ?_)) | ((with_reducible refine SC.draw Tab.mixed ?_ ?_); rfl) | (with_reducible apply SC.ops)))
        (refine SO.inlQ (by simp (disch := omega) only [go_sem, ↓reduceIte, zn1] <;> rfl) Tab.go42 (by simp (disch := omega) only [go_sem, ↓reduceIte] <;> rfl) (by simp (disch := omega) only [go_sem] <;> rfl) (SInlQ.rd (c1) (by simp (disch := omega) only [go_sem, ↓reduceIte] <;> rfl) rfl (by first | omega | (dsimp only; omega)) (by simp (disch := omega) only [go_sem, ↓reduceIte] <;> rfl) ?_))
        (repeat (first | refine DO.nil (by kernel_rfl) ?_ | (with_reducible refine oz (by constructor <;> decide) ?_) | ((with_reducible first | apply wa | apply wb | apply wc | apply wd); (focus (simp (disch := omega) only [go_sem, ↓reduceIte, zn1, zn3, zn4, reduceCtorEq, q3] <;> rfl)); (first | refine pT ?_ | refine pF ?_ | fail_if_success with_reducible refine pA ?_)) | ((with_reducible refine SC.draw Tab.mixed ?_ ?_); rfl) | (with_reducible apply SC.ops)))
        exact retQ_ret Try.results41 (by simp (disch := omega) only [go_sem, ↓reduceIte, zn1, zn3, zn4, reduceCtorEq] <;> rfl) (by simp (disch := omega) only [go_sem, ↓reduceIte] <;> rfl) rfl
theorem idleGI : Idle Try.prog 40 := Idle.of Tab.go40 Try.func40 rfl rfl rfl rfl Try.ntmps40 Try.results40
theorem GetInt_s (b : List Int) (n : Nat) (at_ : Int) (hu : U8s b) (hn : n ≤ b.length) (hb : n ≤ 1000000000) :
    Spec Try.prog 15 [.im (bw b) n, .sc (.int .i64 at_)] (tuI (getI b n at_)) := by
  have c1 := getI_s b n at_ hu hn hb
  generalize getI b n at_ = r at *
  obtain ⟨z, i, e⟩ := r
  unfold tuI iv sv at c1 ⊢
  simp only at c1 ⊢
  refine Spec.runD Try.func15 rfl rfl rfl rfl idleGI Try.ntmps15 (by simp) (by simp (disch := omega) only [go_sem, zn4]; rfl) (by simp (disch := omega) only [go_sem, ↓reduceIte]; rfl) fun B hB => ?_
  (repeat (first | (with_reducible refine oz (by constructor <;> decide) ?_) | ((first | apply SO.call | apply DO.call); (iterate 3 (focus (simp (disch := omega) only [go_sem, ↓reduceIte, zn1] <;> rfl))); (first | apply SCall.ofX | apply DCall.ofX); (focus (first | assumption | exact c1)); (focus (simp (disch := omega) only [go_sem] <;> rfl))) | ((with_reducible first | apply wa | apply wb | apply wc | apply wd); (focus (simp (disch := omega) only [go_sem, ↓reduceIte, zn1, zn2, zn3, zn4, reduceCtorEq] <;> rfl)); (first | refine pT ?_ | refine pF ?_ | fail_if_success with_reducible refine pA ?_)) | (with_reducible apply SC.ops)))
  exact retQ_ret Try.results15 (by simp (disch := omega) only [go_sem, ↓reduceIte, zn1, zn3, zn4] <;> rfl) (by simp (disch := omega) only [go_sem, ↓reduceIte] <;> rfl) rfl
def salR (b : List Int) (n : Nat) : Nat → Rd → List Chg → Nat → List Chg × Rd × Nat
  | 0, s, log, e => (log, s, e)
  | f + 1, s, log, e => if (s.step b n log).1 = true then salR b n f (s.step b n log).2.1 (s.step b n log).2.2 (s.step b n log).2.1.at_ else (log, (s.step b n log).2.1, e)
def salH (b : List Int) (n : Nat) : Hst × Nat :=
  let r := Rd.begin b n ⟨0, 0⟩
  if r.2.e = 0 then
    let l := salR b n 4001 r.2 [] r.2.at_
    (⟨r.1.1, r.1.2, l.1⟩, if l.2.1.e = 0 then l.2.1.at_ else l.2.2)
  else (⟨0, [], []⟩, 0)
theorem idleSV : Idle Try.prog 60 := Idle.of Tab.go60 Try.func60 rfl rfl rfl rfl Try.ntmps60 Try.results60
def tuS (r : Hst × Nat) : V := .tu [hstC r.1, .sc (.int .i64 r.2)]
set_option maxHeartbeats 8000000 in
theorem Salvage_s (b : List Int) (n : Nat) (hu : U8s b) (hn : n ≤ b.length) (hb : n ≤ 1000000000) :
    Spec Try.prog 24 [.im (bw b) n] (tuS (salH b n)) := by
  refine Spec.runD Try.func24 rfl rfl rfl rfl idleSV Try.ntmps24 (by simp) (by simp (disch := omega) only [go_sem]; rfl) (by simp (disch := omega) only [go_sem, ↓reduceIte]; rfl) fun B hB => ?_
  have c1 := rbegin_s b n ⟨0, 0⟩ hu hn hb (znc _)
  have hat := begin_at (b := b) (n := n) (s := ⟨0, 0⟩) (znc _)
  unfold salH
  generalize Rd.begin b n ⟨0, 0⟩ = r at *
  obtain ⟨⟨st, bs⟩, s1⟩ := r
  simp only at c1 hat ⊢
  unfold begC rdB at c1
  simp only at c1
  by_cases he : s1.e = 0
  · rw [if_pos he]
    have q1 : ((s1.e : Int) != 0) = false := by rw [he]; rfl
    generalize hL : salR b n 4001 s1 [] s1.at_ = L
    obtain ⟨lg, s9, en⟩ := L
    simp only
    (repeat (first | refine DO.nilF (fun i => i + 1 - nx) (by simp (disch := omega) only [go_sem, ↓reduceIte, zn1, zn2, zn3, zn4, zn5, zn6, reduceCtorEq, zn7, zi1, zi2, if_pos, if_neg, zld, zle, Option.map_some, Option.map_none, znd, zne, znf, zn4] <;> rfl) (by kernel_rfl) ?_ | (with_reducible refine oz (by constructor <;> decide) ?_) | ((first | apply SO.call | apply DO.call); (iterate 3 (focus (simp (disch := omega) only [go_sem, ↓reduceIte] <;> rfl))); (first | apply SCall.ofX | apply DCall.ofX); assumption; (focus (simp (disch := omega) only [go_sem, ↓reduceIte, zn1, zn2, zn3, zn4, zn5, zn6, reduceCtorEq, zn7, zi1, zi2, if_pos, if_neg] <;> rfl))) | ((with_reducible first | apply wa | apply wb | apply wc | apply wd); (focus (simp (disch := omega) only [go_sem, ↓reduceIte, zn3, zn4, reduceCtorEq] <;> rfl)); (first | refine pT ?_ | refine pF ?_ | fail_if_success with_reducible refine pA ?_)) | (with_reducible apply SC.ops)))
    (refine SO.inlQ (by simp (disch := omega) only [go_sem] <;> rfl) Tab.go61 (by simp (disch := omega) only [go_sem, ↓reduceIte] <;> rfl) (by simp (disch := omega) only [go_sem] <;> rfl) (SInlQ.rd (c1) (by simp (disch := omega) only [go_sem, ↓reduceIte] <;> rfl) rfl (by first | omega | (dsimp only; omega) | (simp (disch := omega) only [go_sem] <;> omega)) (by simp (disch := omega) only [go_sem, ↓reduceIte] <;> rfl) ?_))
    (repeat (first | refine DO.nilF (fun i => i + 1 - nx) (by simp (disch := omega) only [go_sem, ↓reduceIte, zn1, zn2, zn3, zn4, zn5, zn6, reduceCtorEq, zn7, zi1, zi2, if_pos, if_neg, zld, zle, Option.map_some, Option.map_none, znd, zne, znf, zn4] <;> rfl) (by kernel_rfl) ?_ | (with_reducible refine oz (by constructor <;> decide) ?_) | ((with_reducible first | apply wa | apply wb | apply wc | apply wd); (focus (simp (disch := omega) only [go_sem, ↓reduceIte, zn1, zn3, zn4, reduceCtorEq, q1] <;> rfl)); (first | refine pT ?_ | refine pF ?_ | fail_if_success with_reducible refine pA ?_)) | (with_reducible apply SC.ops)))
    refine SC.weak (by simp) (nilRowZ (z := 8) (tO := 67) (sl' := [(2, .pt 0 0), (3, .sc (.int .i64 0)), (4, .pt 1 0), (5, .pt 2 0), (6, .sc (.int .i64 s1.at_))]) (rest := [(0, ⟨52, [.sc (.int .i64 0), .sc (.slice none 0 0), .sc (.slice none 0 0)], false⟩), (1, rdB b n s1)]) (pre := [.sc (.int .i64 st), .im (cels bs) bs.length]) 2 3 hB (by simp (disch := omega) only [go_sem, ↓reduceIte] <;> rfl) rfl (by omega) ?_ (by omega) ?_) ?_
    · exact ⟨⟨by omega, by omega, by omega, by simp, by simp (disch := omega) only [go_sem, ↓reduceIte, reduceCtorEq] <;> rfl, rfl⟩, ⟨by omega, by omega, by omega, by simp, by simp (disch := omega) only [go_sem, ↓reduceIte, zn1] <;> rfl, rfl⟩, trivial⟩
    · (repeat' (first | exact trivial | refine mapSl_cons (by simp (disch := omega) only [go_sem, ↓reduceIte, zn1] <;> rfl) ?_ ?_ | exact VMap.junk _ | exact VMap.sc _ | exact VMap.clo rfl | exact VMap.sl rfl (by omega) | exact VMap.cap rfl (by omega) | exact VMap.pt rfl (by omega) | exact VMap.nil_sl _ _ _ | exact VMap.int (by first | rfl | omega | (dsimp only; omega))))
    simp only [zl8, zl7]
    refine SC.loop (fun z : Rd × List Chg × Nat × Nat × Nat => ⟨[(2, .pt 0 0), (3, .sc (.int .i64 0)), (4, .pt 1 0), (5, .pt 2 0), (6, .sc (.int .i64 z.2.2.2.2))], [(0, ⟨52, [.sc (.int .i64 0), .sc (.slice none 0 0), .sc (.slice none 0 0)], false⟩), (1, rdB b n z.1), (2, ⟨52, [.sc (.int .i64 st), .im (cels bs) bs.length, .sl z.2.2.1 0 z.2.1.length 8 none], false⟩), (z.2.2.1, ⟨67, chgs z.2.1, false⟩)], z.2.2.2.1, 39⟩)
      (fun z => z.2.1.length ≤ 4000 ∧ salR b n (4001 - z.2.1.length) z.1 z.2.1 z.2.2.2.2 = (lg, s9, en) ∧ z.1.at_ ≤ n ∧ 3 ≤ z.2.2.1 ∧ z.2.2.1 < z.2.2.2.1) (fun z => 4001 - z.2.1.length) (s1, [], 3, 4, s1.at_) ?_ ?_ ?_
    · unfold chgs
      (refine Le.slots ?_ ?_ ?_ <;> (repeat' (first | (exact fun _ _ h => h) | exact znb _ | exact leSl_nil | refine leSl_cons (by simp (disch := omega) only [go_sem, ↓reduceIte, zn1] <;> rfl) ?_ ?_ | exact VLe.junk _ | exact VLe.refl rfl | exact VLe.nil_sl _ _ _ | exact VLe.int (by first | rfl | omega | (dsimp only; omega)) | exact VLe.bool rfl | exact VLe.sl rfl (by first | rfl | omega) | exact VLe.cap rfl (by first | rfl | omega) | exact VLe.im rfl rfl | omega | (refine fun id k h => ?_; simp only [hget] at h ⊢; (repeat' (split at h)) <;> first | (cases h; done) | (simp (disch := omega) only [if_pos, if_neg]; exact h)))))
    · exact ⟨znc _, hL, hat, by simp only; omega, by simp only; omega⟩
    · rintro ⟨s, log, q, m, ed⟩ ⟨hl4, hh, has, hq1, hq2⟩ K hK
      simp only at hl4 hh has hq1 hq2 ⊢
      have c5 := rstep_s b n s hu hn hb has log hl4 st (cels bs) bs.length 1 2 q m (by omega) (by omega) (by omega) (by omega) (by omega) (by omega)
      have hs1 := step_at (b := b) (log := log) has
      have hs2 := @step_len b n s log
      have h40 : 4001 - log.length = (4000 - log.length) + 1 := by omega
      rw [h40] at hh
      unfold salR at hh
      have hss := @step_same b n s log
      generalize s.step b n log = r at *
      obtain ⟨f, s2, log2⟩ := r
      simp only at hs1 hs2 hh hss
      (repeat (first | refine DO.nilF (fun i => i + 1 - nx) (by simp (disch := omega) only [go_sem, ↓reduceIte, zn1, zn2, zn3, zn4, zn5, zn6, reduceCtorEq, zn7, zi1, zi2, if_pos, if_neg, zld, zle, Option.map_some, Option.map_none, znd, zne, znf, zn4] <;> rfl) (by kernel_rfl) ?_ | (with_reducible refine oz (by constructor <;> decide) ?_) | ((first | apply SO.call | apply DO.call); (iterate 3 (focus (simp (disch := omega) only [go_sem, ↓reduceIte, zn1, reduceCtorEq] <;> rfl))); (first | apply SCall.ofX | apply DCall.ofX); assumption; (focus (simp (disch := omega) only [go_sem, ↓reduceIte, zn1, zn2, zn3, zn4, zn5, zn6, reduceCtorEq, zn7, zi1, zi2, if_pos, if_neg] <;> rfl))) | ((with_reducible first | apply wa | apply wb | apply wc | apply wd); (focus (simp (disch := omega) only [go_sem, ↓reduceIte, zn1] <;> rfl)); (first | refine pT ?_ | refine pF ?_ | fail_if_success with_reducible refine pA ?_)) | (with_reducible apply SC.ops)))
      refine SO.inlQ (by simp (disch := omega) only [go_sem] <;> rfl) Tab.go62 (by simp (disch := omega) only [go_sem, ↓reduceIte, zn1] <;> rfl) (by simp (disch := omega) only [go_sem] <;> rfl) (SInlQ.part [(0, _)] (fun i => i ≠ 0) c5 ?_ ?_ (rstep_part (by omega) (by omega) (by omega) (by omega)) ?_)
      · intro id kk hg
        simp only [hget] at hg
        split at hg
        · rename_i e; exact fun h => h e
        · cases hg
      · intro id kk hg
        simp only [hget] at hg
        repeat' split at hg
        · omega
        · omega
        · omega
        · cases hg
      rintro y hp' nx' ⟨rfl, q', hq', rfl⟩
      simp only [zl8, zl7]
      have kb : (1 = q') = False := by simp only [eq_iff_iff, iff_false]; omega
      have kb1 : (2 = q') = False := by simp only [eq_iff_iff, iff_false]; omega
      have kb2 : (0 = q') = False := by simp only [eq_iff_iff, iff_false]; omega
      cases f with
      | true =>
        rw [if_pos rfl] at hh
        obtain ⟨hl2, hl3⟩ := hs2 rfl
        unfold rdB
        (repeat (first | refine DO.nilF (fun i => i + 1 - nx) (by simp (disch := omega) only [go_sem, ↓reduceIte, zn1, zn2, zn3, zn4, zn5, zn6, reduceCtorEq, zn7, zi1, zi2, if_pos, if_neg, zld, zle, Option.map_some, Option.map_none, znd, zne, znf, zn4] <;> rfl) (by kernel_rfl) ?_ | (with_reducible refine oz (by constructor <;> decide) ?_) | ((with_reducible first | apply wa | apply wb | apply wc | apply wd); (focus (simp (disch := omega) only [go_sem, ↓reduceIte, zn1, reduceCtorEq] <;> rfl)); (first | refine pT ?_ | refine pF ?_ | fail_if_success with_reducible refine pA ?_)) | (with_reducible apply SC.ops)))
        refine hK _ (s2, log2, q', nx', s2.at_) ?_ ⟨by simp only; omega, ?_, hs1, by simp only; omega, by simp only; omega⟩ (by simp only; omega)
        · simp only
          unfold rdB
          (refine Le.slots ?_ ?_ ?_ <;> (repeat' (first | (exact fun _ _ h => h) | exact znb _ | exact leSl_nil | refine leSl_cons (by simp (disch := omega) only [go_sem, ↓reduceIte, zn1] <;> rfl) ?_ ?_ | exact VLe.junk _ | exact VLe.refl rfl | exact VLe.nil_sl _ _ _ | exact VLe.int (by first | rfl | omega | (dsimp only; omega)) | exact VLe.bool rfl | exact VLe.sl rfl (by first | rfl | omega) | exact VLe.cap rfl (by first | rfl | omega) | exact VLe.im rfl rfl | omega | (refine fun id k h => ?_; simp only [hget] at h ⊢; (repeat' (split at h)) <;> first | (cases h; done) | (simp (disch := omega) only [if_pos, if_neg]; exact h)))))
        · simp only
          rw [hl2, show 4001 - (log.length + 1) = 4000 - log.length by omega]
          exact hh
      | false =>
        rw [if_neg (by simp)] at hh
        have := hss rfl
        subst this
        cases hh
        have gl := chgs_len lg
        have gt : (chgs lg).take (lg.length * 8) = chgs lg := zla (by omega)
        have gcl := chgs_clo lg
        unfold rdB
        by_cases h9 : s9.e = 0
        · rw [if_pos h9]
          have q9 : ((s9.e : Int) == 0) = true := by rw [h9]; rfl
          (repeat (first | refine DO.nilF (fun i => i + 1 - nx) (by simp (disch := omega) only [go_sem, ↓reduceIte, zn1, zn2, zn3, zn4, zn5, zn6, reduceCtorEq, zn7, zi1, zi2, if_pos, if_neg, zld, zle, Option.map_some, Option.map_none, znd, zne, znf, zn4] <;> rfl) (by kernel_rfl) ?_ | (with_reducible refine oz (by constructor <;> decide) ?_) | ((with_reducible first | apply wa | apply wb | apply wc | apply wd); (focus (simp (disch := omega) only [go_sem, ↓reduceIte, zn1, zn2, zn3, zn4, reduceCtorEq, q9] <;> rfl)); (first | refine pT ?_ | refine pF ?_ | fail_if_success with_reducible refine pA ?_)) | (with_reducible apply SC.ops)))
          exact retQ_ret Try.results24 (by simp (disch := omega) only [go_sem, ↓reduceIte, zn1, zn3, zn4] <;> rfl) (by simp (disch := omega) only [go_sem, ↓reduceIte, if_pos, if_neg, gl, gt, gcl, zl2] <;> rfl) rfl
        · rw [if_neg h9]
          have q9 : ((s9.e : Int) == 0) = false := by rw [beq_eq_false_iff_ne]; omega
          (repeat (first | refine DO.nilF (fun i => i + 1 - nx) (by simp (disch := omega) only [go_sem, ↓reduceIte, zn1, zn2, zn3, zn4, zn5, zn6, reduceCtorEq, zn7, zi1, zi2, if_pos, if_neg, zld, zle, Option.map_some, Option.map_none, znd, zne, znf, zn4] <;> rfl) (by kernel_rfl) ?_ | (with_reducible refine oz (by constructor <;> decide) ?_) | ((with_reducible first | apply wa | apply wb | apply wc | apply wd); (focus (simp (disch := omega) only [go_sem, ↓reduceIte, zn1, zn2, zn3, zn4, reduceCtorEq, q9] <;> rfl)); (first | refine pT ?_ | refine pF ?_ | fail_if_success with_reducible refine pA ?_)) | (with_reducible apply SC.ops)))
          exact retQ_ret Try.results24 (by simp (disch := omega) only [go_sem, ↓reduceIte, zn1, zn3, zn4] <;> rfl) (by simp (disch := omega) only [go_sem, ↓reduceIte, if_pos, if_neg, gl, gt, gcl, zl2] <;> rfl) rfl
  · rw [if_neg he]
    have q1 : ((s1.e : Int) != 0) = true := by rw [bne_iff_ne]; omega
    (repeat (first | refine DO.nilF (fun i => i + 1 - nx) (by simp (disch := omega) only [go_sem, ↓reduceIte, zn1, zn2, zn3, zn4, zn5, zn6, reduceCtorEq, zn7, zi1, zi2, if_pos, if_neg, zld, zle, Option.map_some, Option.map_none, znd, zne, znf, zn4] <;> rfl) (by kernel_rfl) ?_ | (with_reducible refine oz (by constructor <;> decide) ?_) | ((first | apply SO.call | apply DO.call); (iterate 3 (focus (simp (disch := omega) only [go_sem, ↓reduceIte] <;> rfl))); (first | apply SCall.ofX | apply DCall.ofX); assumption; (focus (simp (disch := omega) only [go_sem, ↓reduceIte, zn1, zn2, zn3, zn4, zn5, zn6, reduceCtorEq, zn7, zi1, zi2, if_pos, if_neg] <;> rfl))) | ((with_reducible first | apply wa | apply wb | apply wc | apply wd); (focus (simp (disch := omega) only [go_sem, ↓reduceIte, zn3, zn4, reduceCtorEq] <;> rfl)); (first | refine pT ?_ | refine pF ?_ | fail_if_success with_reducible refine pA ?_)) | (with_reducible apply SC.ops)))
    (refine SO.inlQ (by simp (disch := omega) only [go_sem] <;> rfl) Tab.go61 (by simp (disch := omega) only [go_sem, ↓reduceIte] <;> rfl) (by simp (disch := omega) only [go_sem] <;> rfl) (SInlQ.rd (c1) (by simp (disch := omega) only [go_sem, ↓reduceIte] <;> rfl) rfl (by first | omega | (dsimp only; omega) | (simp (disch := omega) only [go_sem] <;> omega)) (by simp (disch := omega) only [go_sem, ↓reduceIte] <;> rfl) ?_))
    (repeat (first | refine DO.nilF (fun i => i + 1 - nx) (by simp (disch := omega) only [go_sem, ↓reduceIte, zn1, zn2, zn3, zn4, zn5, zn6, reduceCtorEq, zn7, zi1, zi2, if_pos, if_neg, zld, zle, Option.map_some, Option.map_none, znd, zne, znf, zn4] <;> rfl) (by kernel_rfl) ?_ | (with_reducible refine oz (by constructor <;> decide) ?_) | ((with_reducible first | apply wa | apply wb | apply wc | apply wd); (focus (simp (disch := omega) only [go_sem, ↓reduceIte, zn1, zn3, zn4, reduceCtorEq, q1] <;> rfl)); (first | refine pT ?_ | refine pF ?_ | fail_if_success with_reducible refine pA ?_)) | (with_reducible apply SC.ops)))
    exact retQ_ret Try.results24 (by simp (disch := omega) only [go_sem, ↓reduceIte, zn1, zn3, zn4, reduceCtorEq] <;> rfl) (by simp (disch := omega) only [go_sem, ↓reduceIte] <;> rfl) rfl
end Go.Proofs.Ytphilljhfdlfdaa
namespace Go.Proofs.Ytphilljhfdlfdaa
theorem histR_stk (b : List Int) (n f : Nat) {s : Rd} {log : List Chg} (hs : s.e ≠ 0) (hf : 0 < f) : (histR b n f s log).2.e = s.e := by
  obtain ⟨f, rfl⟩ : ∃ g, f = g + 1 := ⟨f - 1, by omega⟩
  have h := flag_stk b n s hs
  unfold histR
  have h2 : s.step b n log = (false, (s.flag b n).2, log) := by
    unfold Rd.step
    rw [if_neg (by rw [h]; exact fun hh => hs hh.2)]
  rw [h2, if_neg (by simp)]
  exact h
def HstFit (x : Hst) : Prop := I64 x.start ∧ (∀ y ∈ x.base, CelFit y) ∧ x.base.length ≤ 4000 ∧ (∀ y ∈ x.log, ChgFit y) ∧ x.log.length ≤ 4000
theorem AppC.nil {P : Program} {f id len : Nat} {xs : List V} {ty : TypeId} {k' : Blk} (h : AppC P f (.sl id 0 0 1 none :: xs) id ⟨ty, [], false⟩ 0 len 1 none k') (hl : k'.cs.length = len) : Spec P f (.sc (.slice none 0 0) :: xs) (.im k'.cs len) := by
  intro S w vs hS hT ha
  have hm : Mem (Base.inner S (fun _ => 0) (fun _ => False) [] w) S (fun _ => 0) (fun _ => False) [(id, ⟨ty, [], false⟩)] w :=
    { cells := fun _ _ _ h => h.elim, fz := fun _ _ _ h => h.elim, own := fun _ _ _ h => h.elim, inj := fun _ _ _ _ _ _ h => h.elim, slt := hS, sub := fun _ h => h, base := fun _ h => .inl h,
      frame := ⟨rfl, rfl, rfl, znb _, fun _ _ _ => rfl, fun _ _ => rfl, fun _ _ h => h, hS, hT⟩, keep := fun _ h => ⟨h, rfl⟩ }
  have hv : All S (fun _ => 0) (fun _ => False) w (.sl id 0 0 1 none :: xs) vs.toList := by
    refine ⟨ha.1, fun i x u hx hu => ?_⟩
    cases i with
    | zero =>
      cases hx
      have := ha.2 0 _ u rfl hu
      cases this
      exact .sln (by simp)
    | succ i => exact ha.2 (i + 1) x u hx hu
  refine (h _ S _ _ w vs 0 hm (fun _ h => h.elim) hv).mono ?_
  rintro e w' ⟨v, b, rfl, g, hSb, hb, hnb, hc, hr⟩
  have hb2 : w.heap.size ≤ b := hb.elim (fun h => h) (fun h => h.1.elim)
  refine ⟨v, rfl, ⟨g.os, g.tape, g.output, g.size, fun b hb => g.block b hb (fun h => h.1)⟩, ?_⟩
  obtain ⟨cells, h1, h2⟩ := hc
  have hbs : b < w'.heap.size := by
    rcases Nat.lt_or_ge b w'.heap.size with h | h
    · exact h
    · rw [Array.getElem?_eq_none h] at h1; cases h1
  cases hr with
  | sln h =>
    have : k'.cs = [] := List.eq_nil_of_length_eq_zero hl
    rw [this]
    exact .im0 (znb _) (by unfold maxLen; omega) (fun _ => rfl)
  | sl h0 hl' hm' hc hz =>
    refine .im1 (fun i => cells.getD i default) hl' hm' (.inr ⟨hb2, hbs⟩) (fun i x hx => ?_) (fun i x hx => ?_)
    · obtain ⟨u, hu, _⟩ := h2 i x hx
      have e : cells.getD i default = u := by simp [Array.getD_eq_getD_getElem?, hu]
      simp only [e]
      simp [World.cell?, h1, hu]
    · obtain ⟨u, hu, hr⟩ := h2 i x hx
      have e : cells.getD i default = u := by simp [Array.getD_eq_getD_getElem?, hu]
      rw [e]
      exact hr.mono (fun _ h => h.elim) (fun _ h => h.elim)
def noH : Hst := ⟨0, [], []⟩
def getH (b : List Int) (n : Nat) (at_ : Int) : Hst × Nat × Nat := if at_ < 0 ∨ at_ > n then (noH, 0, 1) else if (Rd.hist b n ⟨at_.toNat, 0⟩).2.e = 0 then ((Rd.hist b n ⟨at_.toNat, 0⟩).1, (Rd.hist b n ⟨at_.toNat, 0⟩).2.at_, 0) else (noH, 0, (Rd.hist b n ⟨at_.toNat, 0⟩).2.e)
def tuH (r : Hst × Nat × Nat) : V := .tu [hstC r.1, .sc (.int .i64 r.2.1), .sc (.int .i64 r.2.2)]
set_option maxHeartbeats 4000000 in
theorem getH_s (b : List Int) (n : Nat) (at_ : Int) (hu : U8s b) (hn : n ≤ b.length) (hb : n ≤ 1000000000) :
    Spec Try.prog 56 [.im (bw b) n, .sc (.int .i64 at_), .sc (.func (.func 57) #[] #[])] (tuH (getH b n at_)) := by
  unfold getH
  by_cases h0 : at_ < 0
  · have q1 : decide (at_ < 0) = true := decide_eq_true h0
    rw [if_pos (.inl h0)]
    refine Spec.run Try.func56 rfl Try.ntmps56 (by simp) (by simp (disch := omega) only [go_sem, zn4]; rfl) fun B hB => ?_
    (repeat (first | refine DO.nil (by kernel_rfl) ?_ | (with_reducible refine oz (by constructor <;> decide) ?_) | ((with_reducible first | apply wa | apply wb | apply wc | apply wd); (focus (simp (disch := omega) only [go_sem, ↓reduceIte, zn1, zn3, zn4, reduceCtorEq, q1] <;> rfl)); (first | refine pT ?_ | refine pF ?_ | fail_if_success with_reducible refine pA ?_)) | ((with_reducible refine SC.draw Tab.mixed ?_ ?_); rfl) | (with_reducible apply SC.ops)))
    exact retQ_ret Try.results56 (by simp (disch := omega) only [go_sem, ↓reduceIte, zn1, zn3, zn4, reduceCtorEq] <;> rfl) (by simp (disch := omega) only [go_sem, ↓reduceIte] <;> rfl) rfl
  · have q1 : decide (at_ < 0) = false := decide_eq_false h0
    by_cases h1 : at_ > n
    · have q2 : decide (at_ > (n : Int)) = true := decide_eq_true h1
      rw [if_pos (.inr h1)]
      refine Spec.run Try.func56 rfl Try.ntmps56 (by simp) (by simp (disch := omega) only [go_sem, zn4]; rfl) fun B hB => ?_
      (repeat (first | refine DO.nil (by kernel_rfl) ?_ | (with_reducible refine oz (by constructor <;> decide) ?_) | ((with_reducible first | apply wa | apply wb | apply wc | apply wd); (focus (simp (disch := omega) only [go_sem, ↓reduceIte, zn1, zn3, zn4, reduceCtorEq, q1, q2] <;> rfl)); (first | refine pT ?_ | refine pF ?_ | fail_if_success with_reducible refine pA ?_)) | ((with_reducible refine SC.draw Tab.mixed ?_ ?_); rfl) | (with_reducible apply SC.ops)))
      exact retQ_ret Try.results56 (by simp (disch := omega) only [go_sem, ↓reduceIte, zn1, zn3, zn4, reduceCtorEq] <;> rfl) (by simp (disch := omega) only [go_sem, ↓reduceIte] <;> rfl) rfl
    · have q2 : decide (at_ > (n : Int)) = false := decide_eq_false h1
      rw [if_neg (by omega)]
      obtain ⟨a, rfl⟩ : ∃ a : Nat, at_ = a := ⟨at_.toNat, by omega⟩
      have c1 := rhistory_s b n ⟨a, 0⟩ hu hn hb (by simp only; omega)
      rw [show ((a : Int)).toNat = a from rfl]
      generalize Rd.hist b n ⟨a, 0⟩ = r at *
      obtain ⟨z, s⟩ := r
      simp only at c1 ⊢
      unfold rdB at c1
      by_cases he : s.e = 0
      · have q3 : ((s.e : Int) != 0) = false := by rw [he]; rfl
        rw [if_pos he]
        unfold tuH
        simp only
        unfold hstC at c1 ⊢
        refine Spec.run Try.func56 rfl Try.ntmps56 (by simp) (by simp (disch := omega) only [go_sem, zn4]; rfl) fun B hB => ?_
        (repeat (first | refine DO.nil (by kernel_rfl) ?_ | (with_reducible refine oz (by constructor <;> decide) ?_) | ((with_reducible first | apply wa | apply wb | apply wc | apply wd); (focus (simp (disch := omega) only [go_sem, ↓reduceIte, zn1, zn3, zn4, reduceCtorEq, q1, q2] <;> rfl)); (first | refine pT ?_ | refine pF ?_ | fail_if_success with_reducible refine pA ?_)) | ((with_reducible refine SC.draw Tab.mixed ?_ ?_); rfl) | (with_reducible apply SC.ops)))
        (refine SO.inlQ (by simp (disch := omega) only [go_sem, ↓reduceIte, zn1] <;> rfl) Tab.go57 (by simp (disch := omega) only [go_sem, ↓reduceIte] <;> rfl) (by simp (disch := omega) only [go_sem] <;> rfl) (SInlQ.rd (c1) (by simp (disch := omega) only [go_sem, ↓reduceIte] <;> rfl) rfl (by first | omega | (dsimp only; omega) | (simp (disch := omega) only [go_sem] <;> omega)) (by simp (disch := omega) only [go_sem, ↓reduceIte] <;> rfl) ?_))
        (repeat (first | refine DO.nil (by kernel_rfl) ?_ | (with_reducible refine oz (by constructor <;> decide) ?_) | ((with_reducible first | apply wa | apply wb | apply wc | apply wd); (focus (simp (disch := omega) only [go_sem, ↓reduceIte, zn1, zn2, zn3, zn4, reduceCtorEq, q3] <;> rfl)); (first | refine pT ?_ | refine pF ?_ | fail_if_success with_reducible refine pA ?_)) | ((with_reducible refine SC.draw Tab.mixed ?_ ?_); rfl) | (with_reducible apply SC.ops)))
        exact retQ_ret Try.results56 (by simp (disch := omega) only [go_sem, ↓reduceIte, zn1, zn3, zn4, reduceCtorEq] <;> rfl) (by simp (disch := omega) only [go_sem, ↓reduceIte] <;> rfl) rfl
      · have q3 : ((s.e : Int) != 0) = true := by rw [bne_iff_ne]; omega
        rw [if_neg he]
        unfold hstC at c1
        refine Spec.run Try.func56 rfl Try.ntmps56 (by simp) (by simp (disch := omega) only [go_sem, zn4]; rfl) fun B hB => ?_
        (repeat (first | refine DO.nil (by kernel_rfl) ?_ | (with_reducible refine oz (by constructor <;> decide) ?_) | ((with_reducible first | apply wa | apply wb | apply wc | apply wd); (focus (simp (disch := omega) only [go_sem, ↓reduceIte, zn1, zn3, zn4, reduceCtorEq, q1, q2] <;> rfl)); (first | refine pT ?_ | refine pF ?_ | fail_if_success with_reducible refine pA ?_)) | ((with_reducible refine SC.draw Tab.mixed ?_ ?_); rfl) | (with_reducible apply SC.ops)))
        (refine SO.inlQ (by simp (disch := omega) only [go_sem, ↓reduceIte, zn1] <;> rfl) Tab.go57 (by simp (disch := omega) only [go_sem, ↓reduceIte] <;> rfl) (by simp (disch := omega) only [go_sem] <;> rfl) (SInlQ.rd (c1) (by simp (disch := omega) only [go_sem, ↓reduceIte] <;> rfl) rfl (by first | omega | (dsimp only; omega) | (simp (disch := omega) only [go_sem] <;> omega)) (by simp (disch := omega) only [go_sem, ↓reduceIte] <;> rfl) ?_))
        (repeat (first | refine DO.nil (by kernel_rfl) ?_ | (with_reducible refine oz (by constructor <;> decide) ?_) | ((with_reducible first | apply wa | apply wb | apply wc | apply wd); (focus (simp (disch := omega) only [go_sem, ↓reduceIte, zn1, zn3, zn4, reduceCtorEq, q3] <;> rfl)); (first | refine pT ?_ | refine pF ?_ | fail_if_success with_reducible refine pA ?_)) | ((with_reducible refine SC.draw Tab.mixed ?_ ?_); rfl) | (with_reducible apply SC.ops)))
        exact retQ_ret Try.results56 (by simp (disch := omega) only [go_sem, ↓reduceIte, zn1, zn3, zn4, reduceCtorEq] <;> rfl) (by simp (disch := omega) only [go_sem, ↓reduceIte] <;> rfl) rfl
theorem idleGH : Idle Try.prog 55 := Idle.of Tab.go55 Try.func55 rfl rfl rfl rfl Try.ntmps55 Try.results55
theorem GetHistory_s (b : List Int) (n : Nat) (at_ : Int) (hu : U8s b) (hn : n ≤ b.length) (hb : n ≤ 1000000000) :
    Spec Try.prog 22 [.im (bw b) n, .sc (.int .i64 at_)] (tuH (getH b n at_)) := by
  have c1 := getH_s b n at_ hu hn hb
  generalize getH b n at_ = r at *
  obtain ⟨z, i, e⟩ := r
  unfold tuH hstC at c1 ⊢
  simp only at c1 ⊢
  refine Spec.runD Try.func22 rfl rfl rfl rfl idleGH Try.ntmps22 (by simp) (by simp (disch := omega) only [go_sem, zn4]; rfl) (by simp (disch := omega) only [go_sem, ↓reduceIte]; rfl) fun B hB => ?_
  (repeat (first | refine DO.nil (by kernel_rfl) ?_ | (with_reducible refine oz (by constructor <;> decide) ?_) | ((first | apply SO.call | apply DO.call); (iterate 3 (focus (simp (disch := omega) only [go_sem, ↓reduceIte, zn1] <;> rfl))); (first | apply SCall.ofX | apply DCall.ofX); (focus (first | assumption | exact c1)); (focus (simp (disch := omega) only [go_sem] <;> rfl))) | ((with_reducible first | apply wa | apply wb | apply wc | apply wd); (focus (simp (disch := omega) only [go_sem, ↓reduceIte, zn1, zn2, zn3, zn4, reduceCtorEq] <;> rfl)); (first | refine pT ?_ | refine pF ?_ | fail_if_success with_reducible refine pA ?_)) | ((with_reducible refine SC.draw Tab.mixed ?_ ?_); rfl) | (with_reducible apply SC.ops)))
  exact retQ_ret Try.results22 (by simp (disch := omega) only [go_sem, ↓reduceIte, zn1, zn3, zn4] <;> rfl) (by simp (disch := omega) only [go_sem, ↓reduceIte] <;> rfl) rfl
theorem U8s.app {a b : List Int} (h1 : U8s a) (h2 : U8s b) : U8s (a ++ b) := fun x hx => (List.mem_append.1 hx).elim (h1 x) (h2 x)
theorem U8s.flat {α : Type} {f : α → List Int} (l : List α) (h : ∀ x ∈ l, U8s (f x)) : U8s (l.flatMap f) := fun x hx => by
  obtain ⟨y, hy, hxy⟩ := List.mem_flatMap.1 hx
  exact h y hy x hxy
theorem U8s.take {a : List Int} (h : U8s a) (n : Nat) : U8s (a.take n) := fun x hx => h x (List.mem_of_mem_take hx)
end Go.Proofs.Ytphilljhfdlfdaa
