/- Texts joined: Ed Ei Ee Ej Dl Dm Eg Ek Dd Du Dv Dw Dx Eq Ef Es. -/
import Derived.Test.YtphilljhfdlfdaaZc
import Derived.Test.YtphilljhfdlfdaaZe
import Derived.Test.YtphilljhfdlfdaaZg
import Derived.Test.YtphilljhfdlfdaaZh
import Derived.Test.YtphilljhfdlfdaaZh
import Derived.Test.YtphilljhfdlfdaaZh
set_option linter.all false
open Nat renaming reduceEqDiff → zn1, reduceLT → zn2, reduceLeDiff → zn3, reduceAdd → zn4, reduceMul → zn5, reduceSub → zn6, reduceBEq → zn7
open Int renaming reduceToNat → zi1, reducePow → zi2
namespace Go.Proofs.Ytphilljhfdlfdaa
open Go.RowKit
def Rd.begin (b : List Int) (n : Nat) (s : Rd) : (Int × List Cel) × Rd := (((s.whole b n).1, ((s.whole b n).2.cells b n).1), ((s.whole b n).2.cells b n).2)
theorem begin_at {b : List Int} {n : Nat} {s : Rd} (h : s.at_ ≤ n) : (s.begin b n).2.at_ ≤ n := cells_at (whole_at h)
def begC (x : Int × List Cel) : V := .ag [.sc (.int .i64 x.1), .im (cels x.2) x.2.length, .sc (.slice none 0 0)]
theorem beg_only (x : Int × List Cel) : Only (fun _ => False) (begC x) := by
  refine .ag fun y hy => ?_
  simp only [List.mem_cons, List.not_mem_nil, or_false] at hy
  rcases hy with rfl | rfl | rfl
  · exact .sc _
  · exact .im _ _
  · exact .sc _
theorem rbegin_s (b : List Int) (n : Nat) (s : Rd) (hu : U8s b) (hn : n ≤ b.length) (hb : n ≤ 1000000000) (ha : s.at_ ≤ n) : RdQ Try.prog 61 [] (rdB b n s) (rdB b n (s.begin b n).2) (begC (s.begin b n).1) := by
  refine ⟨beg_only _, rdB_clo _ _ _, fun k nx hk => ?_⟩
  refine InlQ.run Try.func61 rfl Try.ntmps61 (by simp) (by simp (disch := omega) only [go_sem]; rfl) fun B hB => ?_
  have c1 := rwh_s b n s hu hn hb
  have c2 := rcells_s b n (s.whole b n).2 hu hn hb (whole_at ha)
  unfold Rd.begin
  generalize s.whole b n = r at *
  obtain ⟨u, s1⟩ := r
  simp only at c1 c2 ⊢
  generalize s1.cells b n = r at *
  obtain ⟨l, s2⟩ := r
  simp only at c2 ⊢
  have ho := beg_only (u, l)
  unfold begC at *
  unfold rdB at *
  simp only at ho ⊢
  (repeat (first | refine DO.nilF (fun i => i + 1 - nx) (by simp (disch := omega) only [go_sem, ↓reduceIte, zn1, zn2, zn3, zn4, zn5, zn6, reduceCtorEq, zn7, zi1, zi2, if_pos, if_neg, List.map_cons, List.map_nil, Option.map_some, Option.map_none, Nat.add_sub_cancel_left, Nat.sub_eq_zero_of_le, Nat.add_assoc, zn4] <;> rfl) (by kernel_rfl) ?_ | (with_reducible first | apply oz1 | apply oz2 | apply oz3 | apply oz4 | apply oz5 | apply oz6 | apply oz7 | apply oz8 | apply oz9 | apply ozb | apply ozc | apply oze | apply ozf | apply ozg | apply ozh | apply ozi | apply ozj | apply ozk | refine ozd (by decide) ?_) | ((first | apply SO.call | apply DO.call); (iterate 3 (focus (simp (disch := omega) only [go_sem, ↓reduceIte, if_neg] <;> rfl))); (first | apply SCall.ofX | apply DCall.ofX); (focus (first | assumption)); (focus (simp (disch := omega) only [go_sem, ↓reduceIte, zn1, zn2, zn3, zn4, zn5, zn6, reduceCtorEq, zn7, zi1, zi2, if_pos, if_neg] <;> rfl))) | ((with_reducible first | apply SC.condB | apply SC.region | apply SO.run | apply DO.run); (focus (simp (disch := omega) only [go_sem, ↓reduceIte, reduceCtorEq] <;> rfl)); (first | refine pickT ?_ | refine pickF ?_ | fail_if_success with_reducible refine pickA ?_)) | ((with_reducible refine SC.draw Tab.mixed ?_ ?_); (focus rfl)) | (with_reducible apply SC.ops)))
  (refine SO.inlQ (by simp (disch := omega) only [go_sem] <;> rfl) Tab.go83 (by simp (disch := omega) only [go_sem, ↓reduceIte] <;> rfl) (by simp (disch := omega) only [go_sem] <;> rfl) (SInlQ.rd (c1) (by simp (disch := omega) only [go_sem, ↓reduceIte, if_neg] <;> rfl) rfl (by first | omega | (dsimp only; omega) | (simp (disch := omega) only [go_sem] <;> omega)) (by simp (disch := omega) only [go_sem, ↓reduceIte, if_neg] <;> rfl) ?_))
  (repeat (first | refine DO.nilF (fun i => i + 1 - nx) (by simp (disch := omega) only [go_sem, ↓reduceIte, zn1, zn2, zn3, zn4, zn5, zn6, reduceCtorEq, zn7, zi1, zi2, if_pos, if_neg, List.map_cons, List.map_nil, Option.map_some, Option.map_none, Nat.add_sub_cancel_left, Nat.sub_eq_zero_of_le, Nat.add_assoc, zn4] <;> rfl) (by kernel_rfl) ?_ | (with_reducible first | apply oz1 | apply oz2 | apply oz3 | apply oz4 | apply oz5 | apply oz6 | apply oz7 | apply oz8 | apply oz9 | apply ozb | apply ozc | apply oze | apply ozf | apply ozg | apply ozh | apply ozi | apply ozj | apply ozk | refine ozd (by decide) ?_) | ((first | apply SO.call | apply DO.call); (iterate 3 (focus (simp (disch := omega) only [go_sem, ↓reduceIte, zn1, if_neg] <;> rfl))); (first | apply SCall.ofX | apply DCall.ofX); (focus (first | assumption)); (focus (simp (disch := omega) only [go_sem, ↓reduceIte, zn1, zn2, zn3, zn4, zn5, zn6, reduceCtorEq, zn7, zi1, zi2, if_pos, if_neg] <;> rfl))) | ((with_reducible first | apply SC.condB | apply SC.region | apply SO.run | apply DO.run); (focus (simp (disch := omega) only [go_sem, ↓reduceIte, zn1, zn3, zn4, reduceCtorEq] <;> rfl)); (first | refine pickT ?_ | refine pickF ?_ | fail_if_success with_reducible refine pickA ?_)) | ((with_reducible refine SC.draw Tab.mixed ?_ ?_); (focus rfl)) | (with_reducible apply SC.ops)))
  (refine SO.inlQ (by simp (disch := omega) only [go_sem] <;> rfl) Tab.go84 (by simp (disch := omega) only [go_sem, ↓reduceIte, zn1] <;> rfl) (by simp (disch := omega) only [go_sem] <;> rfl) (SInlQ.rdk (c2) k (by simp (disch := omega) only [go_sem, ↓reduceIte, if_neg] <;> rfl) rfl (by first | omega | (dsimp only; omega) | (simp (disch := omega) only [go_sem] <;> omega)) (by simp (disch := omega) only [go_sem, ↓reduceIte, if_neg] <;> rfl) ?_))
  (repeat (first | refine DO.nilF (fun i => i + 1 - nx) (by simp (disch := omega) only [go_sem, ↓reduceIte, zn1, zn2, zn3, zn4, zn5, zn6, reduceCtorEq, zn7, zi1, zi2, if_pos, if_neg, List.map_cons, List.map_nil, Option.map_some, Option.map_none, Nat.add_sub_cancel_left, Nat.sub_eq_zero_of_le, Nat.add_assoc, zn4] <;> rfl) (by kernel_rfl) ?_ | (with_reducible first | apply oz1 | apply oz2 | apply oz3 | apply oz4 | apply oz5 | apply oz6 | apply oz7 | apply oz8 | apply oz9 | apply ozb | apply ozc | apply oze | apply ozf | apply ozg | apply ozh | apply ozi | apply ozj | apply ozk | refine ozd (by decide) ?_) | ((with_reducible first | apply SC.condB | apply SC.region | apply SO.run | apply DO.run); (focus (simp (disch := omega) only [go_sem, ↓reduceIte, zn1, zn2, zn3, zn4, reduceCtorEq, if_neg] <;> rfl)); (first | refine pickT ?_ | refine pickF ?_ | fail_if_success with_reducible refine pickA ?_)) | ((with_reducible refine SC.draw Tab.mixed ?_ ?_); (focus rfl)) | (with_reducible apply SC.ops)))
  exact rd_ret hB hk ho rfl Try.results61 (by simp (disch := omega) only [go_sem, ↓reduceIte, zn1, zn3, zn4, if_neg] <;> rfl) (by simp (disch := omega) only [go_sem, ↓reduceIte, if_neg] <;> rfl)
def Rd.step (b : List Int) (n : Nat) (s : Rd) (log : List Chg) : Bool × Rd × List Chg :=
  if (s.flag b n).1 = true ∧ (s.flag b n).2.e = 0 then
    if log.length = 4000 then (false, (s.flag b n).2.fail 2, log)
    else if ((s.flag b n).2.chg b n).2.e = 0 then (true, ((s.flag b n).2.chg b n).2, log ++ [((s.flag b n).2.chg b n).1]) else (false, ((s.flag b n).2.chg b n).2, log)
  else (false, (s.flag b n).2, log)
theorem step_at {b : List Int} {n : Nat} {s : Rd} {log : List Chg} (h : s.at_ ≤ n) : (s.step b n log).2.1.at_ ≤ n := by
  have h1 := flag_at (b := b) h
  have h2 := chg_at (b := b) h1
  unfold Rd.step
  generalize (s.flag b n).2.chg b n = rc at *
  generalize s.flag b n = rf at *
  obtain ⟨f, s1⟩ := rf
  obtain ⟨x, s2⟩ := rc
  simp only at h1 h2 ⊢
  split
  · split
    · show (s1.fail 2).at_ ≤ n
      rw [fail_at]; exact h1
    · split <;> exact h2
  · exact h1
theorem step_len {b : List Int} {n : Nat} {s : Rd} {log : List Chg} (h : (s.step b n log).1 = true) : (s.step b n log).2.2.length = log.length + 1 ∧ log.length ≠ 4000 := by
  unfold Rd.step at *
  generalize (s.flag b n).2.chg b n = rc at *
  generalize s.flag b n = rf at *
  obtain ⟨f, s1⟩ := rf
  obtain ⟨x, s2⟩ := rc
  simp only at h ⊢
  by_cases h1 : f = true ∧ s1.e = 0
  · rw [if_pos h1] at h ⊢
    by_cases h2 : log.length = 4000
    · rw [if_pos h2] at h; cases h
    · rw [if_neg h2] at h ⊢
      by_cases h3 : s2.e = 0
      · rw [if_pos h3]; exact ⟨List.length_append, h2⟩
      · rw [if_neg h3] at h; cases h
  · rw [if_neg h1] at h; cases h
theorem step_same {b : List Int} {n : Nat} {s : Rd} {log : List Chg} (h : (s.step b n log).1 = false) : (s.step b n log).2.2 = log := by
  unfold Rd.step at *
  generalize (s.flag b n).2.chg b n = rc at *
  generalize s.flag b n = rf at *
  obtain ⟨f, s1⟩ := rf
  obtain ⟨x, s2⟩ := rc
  simp only at h ⊢
  by_cases h1 : f = true ∧ s1.e = 0
  · rw [if_pos h1] at h ⊢
    by_cases h2 : log.length = 4000
    · rw [if_pos h2]
    · rw [if_neg h2] at h ⊢
      by_cases h3 : s2.e = 0
      · rw [if_pos h3] at h; cases h
      · rw [if_neg h3]
  · rw [if_neg h1]
def StepQ (b : List Int) (n k h q nx : Nat) (st bs : V) (r : Bool × Rd × List Chg) (y : V) (hp' : List (Nat × Blk)) (nx' : Nat) : Prop :=
  y = .sc (.bool r.1) ∧ ∃ q', (q' = q ∧ nx ≤ nx' ∨ nx ≤ q' ∧ q' < nx') ∧ hp' = [(k, rdB b n r.2.1), (h, ⟨52, [st, bs, .sl q' 0 r.2.2.length 8 none], false⟩), (q', ⟨67, chgs r.2.2, false⟩)]
theorem chgs_clo (l : List Chg) : (chgs l).all clo = true := by
  rw [List.all_eq_true]; intro y hy; obtain ⟨x, _, hx⟩ := List.mem_flatMap.1 hy
  simp only [chgC, celC, List.cons_append, List.nil_append, List.mem_cons, List.not_mem_nil, or_false] at hx
  rcases hx with rfl | rfl | rfl | rfl | rfl | rfl | rfl | rfl <;> rfl
set_option maxHeartbeats 8000000 in
theorem rstep_s (b : List Int) (n : Nat) (s : Rd) (hu : U8s b) (hn : n ≤ b.length) (hb : n ≤ 1000000000) (ha : s.at_ ≤ n) (log : List Chg) (hlog : log.length ≤ 4000) (x0 : Int) (cs : List V) (m : Nat) (k h q nx : Nat) (hk : k < nx) (hh : h < nx) (hq : q < nx) (hkh : k ≠ h) (hkq : k ≠ q) (hhq : h ≠ q) :
    InlQ Try.prog 62 [.pt k 0, .pt h 0] [(k, rdB b n s), (h, ⟨52, [.sc (.int .i64 x0), .im cs m, .sl q 0 log.length 8 none], false⟩), (q, ⟨67, chgs log, false⟩)] nx (StepQ b n k h q nx (.sc (.int .i64 x0)) (.im cs m) (s.step b n log)) := by
  refine InlQ.run Try.func62 rfl Try.ntmps62 (by simp) (by simp (disch := omega) only [go_sem, zn4]; rfl) fun B hB => ?_
  have c1 := rflag_s b n s hu hn hb
  have hat := flag_at (b := b) ha
  unfold Rd.step
  generalize s.flag b n = r at *
  obtain ⟨f, s1⟩ := r
  simp only at c1 hat ⊢
  have c2 := rchg_s b n s1 hu hn hb hat
  have c3 := fail_s b n s1 2
  have gl := chgs_len log
  have gt : (chgs log).take (log.length * 8) = chgs log := List.take_of_length_le (by omega)
  have k1 : (k = h) = False := eq_false hkh
  have k2 : (k = q) = False := eq_false hkq
  have k3 : (h = q) = False := eq_false hhq
  have k4 : (h = k) = False := eq_false (Ne.symm hkh)
  have k5 : (q = k) = False := eq_false (Ne.symm hkq)
  have k6 : (q = h) = False := eq_false (Ne.symm hhq)
  by_cases hf : f = true ∧ s1.e = 0
  · rw [if_pos hf]
    obtain ⟨rfl, he⟩ := hf
    have q3 : ((s1.e : Int) != 0) = false := by rw [he]; rfl
    by_cases hl : log.length = 4000
    · rw [if_pos hl]
      have q4 : ((log.length : Int) == 4000) = true := by rw [hl]; rfl
      unfold rdB at *
      (repeat (first | refine DO.nilF (fun i => i + 1 - nx) (by simp (disch := omega) only [go_sem, ↓reduceIte, zn1, zn2, zn3, zn4, zn5, zn6, reduceCtorEq, zn7, zi1, zi2, if_pos, if_neg, List.map_cons, List.map_nil, Option.map_some, Option.map_none, Nat.add_sub_cancel_left, Nat.sub_eq_zero_of_le, Nat.add_assoc, zn4] <;> rfl) (by kernel_rfl) ?_ | (with_reducible first | apply oz1 | apply oz2 | apply oz3 | apply oz4 | apply oz5 | apply oz6 | apply oz7 | apply oz8 | apply oz9 | apply ozb | apply ozc | apply oze | apply ozf | apply ozg | apply ozh | apply ozi | apply ozj | apply ozk | refine ozd (by decide) ?_) | ((first | apply SO.call | apply DO.call); (iterate 3 (focus (simp (disch := omega) only [go_sem, ↓reduceIte] <;> rfl))); (first | apply SCall.ofX | apply DCall.ofX); (focus (first | assumption)); (focus (simp (disch := omega) only [go_sem, ↓reduceIte, zn1, zn2, zn3, zn4, zn5, zn6, reduceCtorEq, zn7, zi1, zi2, if_pos, if_neg, k1, k2, k3, k4, k5, k6] <;> rfl))) | ((with_reducible first | apply SC.condB | apply SC.region | apply SO.run | apply DO.run); (focus (simp (disch := omega) only [go_sem, ↓reduceIte, reduceCtorEq] <;> rfl)); (first | refine pickT ?_ | refine pickF ?_ | fail_if_success with_reducible refine pickA ?_)) | ((with_reducible refine SC.draw Tab.mixed ?_ ?_); (focus rfl)) | (with_reducible apply SC.ops)))
      (refine SO.inlQ (by simp (disch := omega) only [go_sem] <;> rfl) Tab.go86 (by simp (disch := omega) only [go_sem, ↓reduceIte] <;> rfl) (by simp (disch := omega) only [go_sem] <;> rfl) (SInlQ.rd (c1) (by simp (disch := omega) only [go_sem, ↓reduceIte] <;> rfl) rfl (by first | omega | (dsimp only; omega) | (simp (disch := omega) only [go_sem] <;> omega)) (by simp (disch := omega) only [go_sem, ↓reduceIte] <;> rfl) ?_))
      (repeat (first | refine DO.nilF (fun i => i + 1 - nx) (by simp (disch := omega) only [go_sem, ↓reduceIte, zn1, zn2, zn3, zn4, zn5, zn6, reduceCtorEq, zn7, zi1, zi2, if_pos, if_neg, List.map_cons, List.map_nil, Option.map_some, Option.map_none, Nat.add_sub_cancel_left, Nat.sub_eq_zero_of_le, Nat.add_assoc, zn4] <;> rfl) (by kernel_rfl) ?_ | (with_reducible first | apply oz1 | apply oz2 | apply oz3 | apply oz4 | apply oz5 | apply oz6 | apply oz7 | apply oz8 | apply oz9 | apply ozb | apply ozc | apply oze | apply ozf | apply ozg | apply ozh | apply ozi | apply ozj | apply ozk | refine ozd (by decide) ?_) | ((first | apply SO.call | apply DO.call); (iterate 3 (focus (simp (disch := omega) only [go_sem, ↓reduceIte] <;> rfl))); (first | apply SCall.ofX | apply DCall.ofX); (focus (first | assumption)); (focus (simp (disch := omega) only [go_sem, ↓reduceIte, zn1, zn2, zn3, zn4, zn5, zn6, reduceCtorEq, zn7, zi1, zi2, if_pos, if_neg, q3, q4, k1, k2, k3, k4, k5, k6] <;> rfl))) | ((with_reducible first | apply SC.condB | apply SC.region | apply SO.run | apply DO.run); (focus (simp (disch := omega) only [go_sem, ↓reduceIte, zn1, reduceCtorEq, q3, q4, k4] <;> rfl)); (first | refine pickT ?_ | refine pickF ?_ | fail_if_success with_reducible refine pickA ?_)) | ((with_reducible refine SC.draw Tab.mixed ?_ ?_); (focus rfl)) | (with_reducible apply SC.ops)))
      (refine SO.inlQ (by simp (disch := omega) only [go_sem] <;> rfl) Tab.go76 (by simp (disch := omega) only [go_sem, ↓reduceIte] <;> rfl) (by simp (disch := omega) only [go_sem] <;> rfl) (SInlQ.rd (c3) (by simp (disch := omega) only [go_sem, ↓reduceIte] <;> rfl) rfl (by first | omega | (dsimp only; omega) | (simp (disch := omega) only [go_sem] <;> omega)) (by simp (disch := omega) only [go_sem, ↓reduceIte] <;> rfl) ?_))
      (repeat (first | refine DO.nilF (fun i => i + 1 - nx) (by simp (disch := omega) only [go_sem, ↓reduceIte, zn1, zn2, zn3, zn4, zn5, zn6, reduceCtorEq, zn7, zi1, zi2, if_pos, if_neg, List.map_cons, List.map_nil, Option.map_some, Option.map_none, Nat.add_sub_cancel_left, Nat.sub_eq_zero_of_le, Nat.add_assoc, zn4] <;> rfl) (by kernel_rfl) ?_ | (with_reducible first | apply oz1 | apply oz2 | apply oz3 | apply oz4 | apply oz5 | apply oz6 | apply oz7 | apply oz8 | apply oz9 | apply ozb | apply ozc | apply oze | apply ozf | apply ozg | apply ozh | apply ozi | apply ozj | apply ozk | refine ozd (by decide) ?_) | ((with_reducible first | apply SC.condB | apply SC.region | apply SO.run | apply DO.run); (focus (simp (disch := omega) only [go_sem, ↓reduceIte] <;> rfl)); (first | refine pickT ?_ | refine pickF ?_ | fail_if_success with_reducible refine pickA ?_)) | ((with_reducible refine SC.draw Tab.mixed ?_ ?_); (focus rfl)) | (with_reducible apply SC.ops)))
      refine retIQ_ret (.sc (.bool false)) _ nx Try.results62 (by simp (disch := omega) only [go_sem, ↓reduceIte]; rfl) ⟨rfl, q, .inl ⟨rfl, by omega⟩, rfl⟩ ?_
      unfold rdB
      (refine Le.slots ?_ ?_ ?_ <;> (repeat' (first | (exact fun _ _ h => h) | exact Nat.le_refl _ | exact leSl_nil | refine leSl_cons (by simp (disch := omega) only [go_sem, ↓reduceIte] <;> rfl) ?_ ?_ | exact VLe.junk _ | exact VLe.refl rfl | exact VLe.nil_sl _ _ _ | exact VLe.int (by first | rfl | omega | (dsimp only; omega)) | exact VLe.bool rfl | exact VLe.sl rfl (by first | rfl | omega) | exact VLe.cap rfl (by first | rfl | omega) | exact VLe.im rfl rfl | omega | (refine fun id k h => ?_; simp only [hget] at h ⊢; (repeat' (split at h)) <;> first | (cases h; done) | (simp (disch := omega) only [if_pos, if_neg]; exact h)))))
    · rw [if_neg hl]
      have q4 : ((log.length : Int) == 4000) = false := by rw [beq_eq_false_iff_ne]; omega
      generalize s1.chg b n = r at *
      obtain ⟨x, s2⟩ := r
      simp only at c2 ⊢
      have e4 : chgs (log ++ [x]) = chgs log ++ chgC x := by unfold chgs; simp only [List.flatMap_append, List.flatMap_cons, List.flatMap_nil, List.append_nil]
      by_cases he2 : s2.e = 0
      · rw [if_pos he2]
        have q5 : ((s2.e : Int) != 0) = false := by rw [he2]; rfl
        unfold chgC celC at *
        unfold rdB at *
        simp only [List.cons_append, List.nil_append] at c2 e4
        (repeat (first | refine DO.nilF (fun i => i + 1 - nx) (by simp (disch := omega) only [go_sem, ↓reduceIte, zn1, zn2, zn3, zn4, zn5, zn6, reduceCtorEq, zn7, zi1, zi2, if_pos, if_neg, List.map_cons, List.map_nil, Option.map_some, Option.map_none, Nat.add_sub_cancel_left, Nat.sub_eq_zero_of_le, Nat.add_assoc, zn4] <;> rfl) (by kernel_rfl) ?_ | (with_reducible first | apply oz1 | apply oz2 | apply oz3 | apply oz4 | apply oz5 | apply oz6 | apply oz7 | apply oz8 | apply oz9 | apply ozb | apply ozc | apply oze | apply ozf | apply ozg | apply ozh | apply ozi | apply ozj | apply ozk | refine ozd (by decide) ?_) | ((first | apply SO.call | apply DO.call); (iterate 3 (focus (simp (disch := omega) only [go_sem, ↓reduceIte] <;> rfl))); (first | apply SCall.ofX | apply DCall.ofX); (focus (first | assumption)); (focus (simp (disch := omega) only [go_sem, ↓reduceIte, zn1, zn2, zn3, zn4, zn5, zn6, reduceCtorEq, zn7, zi1, zi2, if_pos, if_neg, k1, k2, k3, k4, k5, k6] <;> rfl))) | ((with_reducible first | apply SC.condB | apply SC.region | apply SO.run | apply DO.run); (focus (simp (disch := omega) only [go_sem, ↓reduceIte, reduceCtorEq] <;> rfl)); (first | refine pickT ?_ | refine pickF ?_ | fail_if_success with_reducible refine pickA ?_)) | ((with_reducible refine SC.draw Tab.mixed ?_ ?_); (focus rfl)) | (with_reducible apply SC.ops)))
        (refine SO.inlQ (by simp (disch := omega) only [go_sem] <;> rfl) Tab.go86 (by simp (disch := omega) only [go_sem, ↓reduceIte] <;> rfl) (by simp (disch := omega) only [go_sem] <;> rfl) (SInlQ.rd (c1) (by simp (disch := omega) only [go_sem, ↓reduceIte] <;> rfl) rfl (by first | omega | (dsimp only; omega) | (simp (disch := omega) only [go_sem] <;> omega)) (by simp (disch := omega) only [go_sem, ↓reduceIte] <;> rfl) ?_))
        (repeat (first | refine DO.nilF (fun i => i + 1 - nx) (by simp (disch := omega) only [go_sem, ↓reduceIte, zn1, zn2, zn3, zn4, zn5, zn6, reduceCtorEq, zn7, zi1, zi2, if_pos, if_neg, List.map_cons, List.map_nil, Option.map_some, Option.map_none, Nat.add_sub_cancel_left, Nat.sub_eq_zero_of_le, Nat.add_assoc, zn4] <;> rfl) (by kernel_rfl) ?_ | (with_reducible first | apply oz1 | apply oz2 | apply oz3 | apply oz4 | apply oz5 | apply oz6 | apply oz7 | apply oz8 | apply oz9 | apply ozb | apply ozc | apply oze | apply ozf | apply ozg | apply ozh | apply ozi | apply ozj | apply ozk | refine ozd (by decide) ?_) | ((first | apply SO.call | apply DO.call); (iterate 3 (focus (simp (disch := omega) only [go_sem, ↓reduceIte] <;> rfl))); (first | apply SCall.ofX | apply DCall.ofX); (focus (first | assumption)); (focus (simp (disch := omega) only [go_sem, ↓reduceIte, zn1, zn2, zn3, zn4, zn5, zn6, reduceCtorEq, zn7, zi1, zi2, if_pos, if_neg, q3, q4, k1, k2, k3, k4, k5, k6] <;> rfl))) | ((with_reducible first | apply SC.condB | apply SC.region | apply SO.run | apply DO.run); (focus (simp (disch := omega) only [go_sem, ↓reduceIte, zn1, reduceCtorEq, q3, q4, k4] <;> rfl)); (first | refine pickT ?_ | refine pickF ?_ | fail_if_success with_reducible refine pickA ?_)) | ((with_reducible refine SC.draw Tab.mixed ?_ ?_); (focus rfl)) | (with_reducible apply SC.ops)))
        (refine SO.inlQ (by simp (disch := omega) only [go_sem] <;> rfl) Tab.go87 (by simp (disch := omega) only [go_sem, ↓reduceIte] <;> rfl) (by simp (disch := omega) only [go_sem] <;> rfl) (SInlQ.rd (c2) (by simp (disch := omega) only [go_sem, ↓reduceIte] <;> rfl) rfl (by first | omega | (dsimp only; omega) | (simp (disch := omega) only [go_sem] <;> omega)) (by simp (disch := omega) only [go_sem, ↓reduceIte] <;> rfl) ?_))
        (repeat (first | refine DO.nilF (fun i => i + 1 - nx) (by simp (disch := omega) only [go_sem, zn4, List.map_cons, List.map_nil, Option.map_some, Option.map_none, Nat.add_sub_cancel_left, Nat.sub_eq_zero_of_le, Nat.add_assoc, zn4] <;> rfl) (by kernel_rfl) ?_ | (with_reducible first | apply oz1 | apply oz2 | apply oz3 | apply oz4 | apply oz5 | apply oz6 | apply oz7 | apply oz8 | apply oz9 | apply ozb | apply ozc | apply oze | apply ozf | apply ozg | apply ozh | apply ozi | apply ozj | apply ozk | refine ozd (by decide) ?_) | ((with_reducible first | apply SC.condB | apply SC.region | apply SO.run | apply DO.run); (focus (simp (disch := omega) only [go_sem, ↓reduceIte, zn1, zn2, zn3, zn4, reduceCtorEq, if_pos, if_neg, q5, gl, gt, List.drop_zero, List.take_succ_cons, List.take_zero, Nat.one_mul, Nat.zero_add, k2, k3, k4, k5, k6] <;> rfl)); (first | refine pickT ?_ | refine pickF ?_ | fail_if_success with_reducible refine pickA ?_)) | ((with_reducible refine SC.draw Tab.mixed ?_ ?_); (focus (first | rfl | simp (disch := omega) only [go_sem, ↓reduceIte, if_pos]))) | (with_reducible apply SC.ops)))
        refine retIQ_ret (.sc (.bool true)) [(k, ⟨108, [.im (bw b) n, .sc (.int .i64 s2.at_), .sc (.int .i64 s2.e)], false⟩), (h, ⟨52, [.sc (.int .i64 x0), .im cs m, .sl (nx + 1 + 1) 0 (log.length + 1) 8 none], false⟩), (nx + 1 + 1, ⟨67, chgs (log ++ [x]), false⟩)] (nx + 3) Try.results62 (by simp (disch := omega) only [go_sem, ↓reduceIte]; rfl) ⟨rfl, nx + 1 + 1, .inr ⟨by omega, by omega⟩, ?_⟩ ?_
        · unfold rdB
          simp only [List.length_append, List.length_cons, List.length_nil]
        · rw [e4]
          (refine Le.slots ?_ ?_ ?_ <;> (repeat' (first | (exact fun _ _ h => h) | exact Nat.le_refl _ | exact leSl_nil | refine leSl_cons (by simp (disch := omega) only [go_sem, ↓reduceIte] <;> rfl) ?_ ?_ | exact VLe.junk _ | exact VLe.refl rfl | exact VLe.nil_sl _ _ _ | exact VLe.int (by first | rfl | omega | (dsimp only; omega)) | exact VLe.bool rfl | exact VLe.sl rfl (by first | rfl | omega) | exact VLe.cap rfl (by first | rfl | omega) | exact VLe.im rfl rfl | omega | (refine fun id k h => ?_; simp only [hget] at h ⊢; (repeat' (split at h)) <;> first | (cases h; done) | (simp (disch := omega) only [if_pos, if_neg]; exact h)))))
      · rw [if_neg he2]
        have q5 : ((s2.e : Int) != 0) = true := by rw [bne_iff_ne]; omega
        unfold chgC celC at *
        unfold rdB at *
        simp only [List.cons_append, List.nil_append] at c2
        (repeat (first | refine DO.nilF (fun i => i + 1 - nx) (by simp (disch := omega) only [go_sem, ↓reduceIte, zn1, zn2, zn3, zn4, zn5, zn6, reduceCtorEq, zn7, zi1, zi2, if_pos, if_neg, List.map_cons, List.map_nil, Option.map_some, Option.map_none, Nat.add_sub_cancel_left, Nat.sub_eq_zero_of_le, Nat.add_assoc, zn4] <;> rfl) (by kernel_rfl) ?_ | (with_reducible first | apply oz1 | apply oz2 | apply oz3 | apply oz4 | apply oz5 | apply oz6 | apply oz7 | apply oz8 | apply oz9 | apply ozb | apply ozc | apply oze | apply ozf | apply ozg | apply ozh | apply ozi | apply ozj | apply ozk | refine ozd (by decide) ?_) | ((first | apply SO.call | apply DO.call); (iterate 3 (focus (simp (disch := omega) only [go_sem, ↓reduceIte] <;> rfl))); (first | apply SCall.ofX | apply DCall.ofX); (focus (first | assumption)); (focus (simp (disch := omega) only [go_sem, ↓reduceIte, zn1, zn2, zn3, zn4, zn5, zn6, reduceCtorEq, zn7, zi1, zi2, if_pos, if_neg, k1, k2, k3, k4, k5, k6] <;> rfl))) | ((with_reducible first | apply SC.condB | apply SC.region | apply SO.run | apply DO.run); (focus (simp (disch := omega) only [go_sem, ↓reduceIte, reduceCtorEq] <;> rfl)); (first | refine pickT ?_ | refine pickF ?_ | fail_if_success with_reducible refine pickA ?_)) | ((with_reducible refine SC.draw Tab.mixed ?_ ?_); (focus rfl)) | (with_reducible apply SC.ops)))
        (refine SO.inlQ (by simp (disch := omega) only [go_sem] <;> rfl) Tab.go86 (by simp (disch := omega) only [go_sem, ↓reduceIte] <;> rfl) (by simp (disch := omega) only [go_sem] <;> rfl) (SInlQ.rd (c1) (by simp (disch := omega) only [go_sem, ↓reduceIte] <;> rfl) rfl (by first | omega | (dsimp only; omega) | (simp (disch := omega) only [go_sem] <;> omega)) (by simp (disch := omega) only [go_sem, ↓reduceIte] <;> rfl) ?_))
        (repeat (first | refine DO.nilF (fun i => i + 1 - nx) (by simp (disch := omega) only [go_sem, ↓reduceIte, zn1, zn2, zn3, zn4, zn5, zn6, reduceCtorEq, zn7, zi1, zi2, if_pos, if_neg, List.map_cons, List.map_nil, Option.map_some, Option.map_none, Nat.add_sub_cancel_left, Nat.sub_eq_zero_of_le, Nat.add_assoc, zn4] <;> rfl) (by kernel_rfl) ?_ | (with_reducible first | apply oz1 | apply oz2 | apply oz3 | apply oz4 | apply oz5 | apply oz6 | apply oz7 | apply oz8 | apply oz9 | apply ozb | apply ozc | apply oze | apply ozf | apply ozg | apply ozh | apply ozi | apply ozj | apply ozk | refine ozd (by decide) ?_) | ((first | apply SO.call | apply DO.call); (iterate 3 (focus (simp (disch := omega) only [go_sem, ↓reduceIte] <;> rfl))); (first | apply SCall.ofX | apply DCall.ofX); (focus (first | assumption)); (focus (simp (disch := omega) only [go_sem, ↓reduceIte, zn1, zn2, zn3, zn4, zn5, zn6, reduceCtorEq, zn7, zi1, zi2, if_pos, if_neg, q3, q4, k1, k2, k3, k4, k5, k6] <;> rfl))) | ((with_reducible first | apply SC.condB | apply SC.region | apply SO.run | apply DO.run); (focus (simp (disch := omega) only [go_sem, ↓reduceIte, zn1, reduceCtorEq, q3, q4, k4] <;> rfl)); (first | refine pickT ?_ | refine pickF ?_ | fail_if_success with_reducible refine pickA ?_)) | ((with_reducible refine SC.draw Tab.mixed ?_ ?_); (focus rfl)) | (with_reducible apply SC.ops)))
        (refine SO.inlQ (by simp (disch := omega) only [go_sem] <;> rfl) Tab.go87 (by simp (disch := omega) only [go_sem, ↓reduceIte] <;> rfl) (by simp (disch := omega) only [go_sem] <;> rfl) (SInlQ.rd (c2) (by simp (disch := omega) only [go_sem, ↓reduceIte] <;> rfl) rfl (by first | omega | (dsimp only; omega) | (simp (disch := omega) only [go_sem] <;> omega)) (by simp (disch := omega) only [go_sem, ↓reduceIte] <;> rfl) ?_))
        (repeat (first | refine DO.nilF (fun i => i + 1 - nx) (by simp (disch := omega) only [go_sem, ↓reduceIte, zn1, zn2, zn3, zn4, zn5, zn6, reduceCtorEq, zn7, zi1, zi2, if_pos, if_neg, List.map_cons, List.map_nil, Option.map_some, Option.map_none, Nat.add_sub_cancel_left, Nat.sub_eq_zero_of_le, Nat.add_assoc, zn4] <;> rfl) (by kernel_rfl) ?_ | (with_reducible first | apply oz1 | apply oz2 | apply oz3 | apply oz4 | apply oz5 | apply oz6 | apply oz7 | apply oz8 | apply oz9 | apply ozb | apply ozc | apply oze | apply ozf | apply ozg | apply ozh | apply ozi | apply ozj | apply ozk | refine ozd (by decide) ?_) | ((with_reducible first | apply SC.condB | apply SC.region | apply SO.run | apply DO.run); (focus (simp (disch := omega) only [go_sem, ↓reduceIte, zn1, zn3, zn4, reduceCtorEq, if_neg, q5] <;> rfl)); (first | refine pickT ?_ | refine pickF ?_ | fail_if_success with_reducible refine pickA ?_)) | ((with_reducible refine SC.draw Tab.mixed ?_ ?_); (focus rfl)) | (with_reducible apply SC.ops)))
        refine retIQ_ret (.sc (.bool false)) _ (nx + 1) Try.results62 (by simp (disch := omega) only [go_sem, ↓reduceIte]; rfl) ⟨rfl, q, .inl ⟨rfl, by omega⟩, rfl⟩ ?_
        unfold rdB
        (refine Le.slots ?_ ?_ ?_ <;> (repeat' (first | (exact fun _ _ h => h) | exact Nat.le_refl _ | exact leSl_nil | refine leSl_cons (by simp (disch := omega) only [go_sem, ↓reduceIte] <;> rfl) ?_ ?_ | exact VLe.junk _ | exact VLe.refl rfl | exact VLe.nil_sl _ _ _ | exact VLe.int (by first | rfl | omega | (dsimp only; omega)) | exact VLe.bool rfl | exact VLe.sl rfl (by first | rfl | omega) | exact VLe.cap rfl (by first | rfl | omega) | exact VLe.im rfl rfl | omega | (refine fun id k h => ?_; simp only [hget] at h ⊢; (repeat' (split at h)) <;> first | (cases h; done) | (simp (disch := omega) only [if_pos, if_neg]; exact h)))))
  · rw [if_neg hf]
    unfold rdB at *
    by_cases hf1 : f = true
    · subst hf1
      have q3 : ((s1.e : Int) != 0) = true := by rw [bne_iff_ne]; intro h; exact hf ⟨rfl, by omega⟩
      (repeat (first | refine DO.nilF (fun i => i + 1 - nx) (by simp (disch := omega) only [go_sem, ↓reduceIte, zn1, zn2, zn3, zn4, zn5, zn6, reduceCtorEq, zn7, zi1, zi2, if_pos, if_neg, List.map_cons, List.map_nil, Option.map_some, Option.map_none, Nat.add_sub_cancel_left, Nat.sub_eq_zero_of_le, Nat.add_assoc, zn4] <;> rfl) (by kernel_rfl) ?_ | (with_reducible first | apply oz1 | apply oz2 | apply oz3 | apply oz4 | apply oz5 | apply oz6 | apply oz7 | apply oz8 | apply oz9 | apply ozb | apply ozc | apply oze | apply ozf | apply ozg | apply ozh | apply ozi | apply ozj | apply ozk | refine ozd (by decide) ?_) | ((first | apply SO.call | apply DO.call); (iterate 3 (focus (simp (disch := omega) only [go_sem, ↓reduceIte] <;> rfl))); (first | apply SCall.ofX | apply DCall.ofX); (focus (first | assumption)); (focus (simp (disch := omega) only [go_sem, ↓reduceIte, zn1, zn2, zn3, zn4, zn5, zn6, reduceCtorEq, zn7, zi1, zi2, if_pos, if_neg, k1, k2, k3, k4, k5, k6] <;> rfl))) | ((with_reducible first | apply SC.condB | apply SC.region | apply SO.run | apply DO.run); (focus (simp (disch := omega) only [go_sem, ↓reduceIte, reduceCtorEq] <;> rfl)); (first | refine pickT ?_ | refine pickF ?_ | fail_if_success with_reducible refine pickA ?_)) | ((with_reducible refine SC.draw Tab.mixed ?_ ?_); (focus rfl)) | (with_reducible apply SC.ops)))
      (refine SO.inlQ (by simp (disch := omega) only [go_sem] <;> rfl) Tab.go86 (by simp (disch := omega) only [go_sem, ↓reduceIte] <;> rfl) (by simp (disch := omega) only [go_sem] <;> rfl) (SInlQ.rd (c1) (by simp (disch := omega) only [go_sem, ↓reduceIte] <;> rfl) rfl (by first | omega | (dsimp only; omega) | (simp (disch := omega) only [go_sem] <;> omega)) (by simp (disch := omega) only [go_sem, ↓reduceIte] <;> rfl) ?_))
      (repeat (first | refine DO.nilF (fun i => i + 1 - nx) (by simp (disch := omega) only [go_sem, ↓reduceIte, zn1, zn2, zn3, zn4, zn5, zn6, reduceCtorEq, zn7, zi1, zi2, if_pos, if_neg, List.map_cons, List.map_nil, Option.map_some, Option.map_none, Nat.add_sub_cancel_left, Nat.sub_eq_zero_of_le, Nat.add_assoc, zn4] <;> rfl) (by kernel_rfl) ?_ | (with_reducible first | apply oz1 | apply oz2 | apply oz3 | apply oz4 | apply oz5 | apply oz6 | apply oz7 | apply oz8 | apply oz9 | apply ozb | apply ozc | apply oze | apply ozf | apply ozg | apply ozh | apply ozi | apply ozj | apply ozk | refine ozd (by decide) ?_) | ((with_reducible first | apply SC.condB | apply SC.region | apply SO.run | apply DO.run); (focus (simp (disch := omega) only [go_sem, ↓reduceIte, zn1, reduceCtorEq, q3] <;> rfl)); (first | refine pickT ?_ | refine pickF ?_ | fail_if_success with_reducible refine pickA ?_)) | ((with_reducible refine SC.draw Tab.mixed ?_ ?_); (focus rfl)) | (with_reducible apply SC.ops)))
      refine retIQ_ret (.sc (.bool false)) _ nx Try.results62 (by simp (disch := omega) only [go_sem, ↓reduceIte]; rfl) ⟨rfl, q, .inl ⟨rfl, by omega⟩, rfl⟩ ?_
      unfold rdB
      (refine Le.slots ?_ ?_ ?_ <;> (repeat' (first | (exact fun _ _ h => h) | exact Nat.le_refl _ | exact leSl_nil | refine leSl_cons (by simp (disch := omega) only [go_sem, ↓reduceIte] <;> rfl) ?_ ?_ | exact VLe.junk _ | exact VLe.refl rfl | exact VLe.nil_sl _ _ _ | exact VLe.int (by first | rfl | omega | (dsimp only; omega)) | exact VLe.bool rfl | exact VLe.sl rfl (by first | rfl | omega) | exact VLe.cap rfl (by first | rfl | omega) | exact VLe.im rfl rfl | omega | (refine fun id k h => ?_; simp only [hget] at h ⊢; (repeat' (split at h)) <;> first | (cases h; done) | (simp (disch := omega) only [if_pos, if_neg]; exact h)))))
    · have hf2 : f = false := by simpa using hf1
      subst hf2
      (repeat (first | refine DO.nilF (fun i => i + 1 - nx) (by simp (disch := omega) only [go_sem, ↓reduceIte, zn1, zn2, zn3, zn4, zn5, zn6, reduceCtorEq, zn7, zi1, zi2, if_pos, if_neg, List.map_cons, List.map_nil, Option.map_some, Option.map_none, Nat.add_sub_cancel_left, Nat.sub_eq_zero_of_le, Nat.add_assoc, zn4] <;> rfl) (by kernel_rfl) ?_ | (with_reducible first | apply oz1 | apply oz2 | apply oz3 | apply oz4 | apply oz5 | apply oz6 | apply oz7 | apply oz8 | apply oz9 | apply ozb | apply ozc | apply oze | apply ozf | apply ozg | apply ozh | apply ozi | apply ozj | apply ozk | refine ozd (by decide) ?_) | ((first | apply SO.call | apply DO.call); (iterate 3 (focus (simp (disch := omega) only [go_sem, ↓reduceIte] <;> rfl))); (first | apply SCall.ofX | apply DCall.ofX); (focus (first | assumption)); (focus (simp (disch := omega) only [go_sem, ↓reduceIte, zn1, zn2, zn3, zn4, zn5, zn6, reduceCtorEq, zn7, zi1, zi2, if_pos, if_neg, k1, k2, k3, k4, k5, k6] <;> rfl))) | ((with_reducible first | apply SC.condB | apply SC.region | apply SO.run | apply DO.run); (focus (simp (disch := omega) only [go_sem, ↓reduceIte, reduceCtorEq] <;> rfl)); (first | refine pickT ?_ | refine pickF ?_ | fail_if_success with_reducible refine pickA ?_)) | ((with_reducible refine SC.draw Tab.mixed ?_ ?_); (focus rfl)) | (with_reducible apply SC.ops)))
      (refine SO.inlQ (by simp (disch := omega) only [go_sem] <;> rfl) Tab.go86 (by simp (disch := omega) only [go_sem, ↓reduceIte] <;> rfl) (by simp (disch := omega) only [go_sem] <;> rfl) (SInlQ.rd (c1) (by simp (disch := omega) only [go_sem, ↓reduceIte] <;> rfl) rfl (by first | omega | (dsimp only; omega) | (simp (disch := omega) only [go_sem] <;> omega)) (by simp (disch := omega) only [go_sem, ↓reduceIte] <;> rfl) ?_))
      (repeat (first | refine DO.nilF (fun i => i + 1 - nx) (by simp (disch := omega) only [go_sem, ↓reduceIte, zn1, zn2, zn3, zn4, zn5, zn6, reduceCtorEq, zn7, zi1, zi2, if_pos, if_neg, List.map_cons, List.map_nil, Option.map_some, Option.map_none, Nat.add_sub_cancel_left, Nat.sub_eq_zero_of_le, Nat.add_assoc, zn4] <;> rfl) (by kernel_rfl) ?_ | (with_reducible first | apply oz1 | apply oz2 | apply oz3 | apply oz4 | apply oz5 | apply oz6 | apply oz7 | apply oz8 | apply oz9 | apply ozb | apply ozc | apply oze | apply ozf | apply ozg | apply ozh | apply ozi | apply ozj | apply ozk | refine ozd (by decide) ?_) | ((with_reducible first | apply SC.condB | apply SC.region | apply SO.run | apply DO.run); (focus (simp (disch := omega) only [go_sem, ↓reduceIte, zn1, reduceCtorEq] <;> rfl)); (first | refine pickT ?_ | refine pickF ?_ | fail_if_success with_reducible refine pickA ?_)) | ((with_reducible refine SC.draw Tab.mixed ?_ ?_); (focus rfl)) | (with_reducible apply SC.ops)))
      refine retIQ_ret (.sc (.bool false)) _ nx Try.results62 (by simp (disch := omega) only [go_sem, ↓reduceIte]; rfl) ⟨rfl, q, .inl ⟨rfl, by omega⟩, rfl⟩ ?_
      unfold rdB
      (refine Le.slots ?_ ?_ ?_ <;> (repeat' (first | (exact fun _ _ h => h) | exact Nat.le_refl _ | exact leSl_nil | refine leSl_cons (by simp (disch := omega) only [go_sem, ↓reduceIte] <;> rfl) ?_ ?_ | exact VLe.junk _ | exact VLe.refl rfl | exact VLe.nil_sl _ _ _ | exact VLe.int (by first | rfl | omega | (dsimp only; omega)) | exact VLe.bool rfl | exact VLe.sl rfl (by first | rfl | omega) | exact VLe.cap rfl (by first | rfl | omega) | exact VLe.im rfl rfl | omega | (refine fun id k h => ?_; simp only [hget] at h ⊢; (repeat' (split at h)) <;> first | (cases h; done) | (simp (disch := omega) only [if_pos, if_neg]; exact h)))))
end Go.Proofs.Ytphilljhfdlfdaa
namespace Go.Proofs.Ytphilljhfdlfdaa
open Go.RowKit
structure RCg where
  kind : Int
  cell : RCl
  a : Int
  b : Int
  w0 : Int
  w1 : Int
structure RHs where
  start : Int
  base : List RCl
  log : List RCg
def rgC (x : RCg) : List V := .sc (.int .i64 x.kind) :: rcC x.cell ++ [.sc (.int .i64 x.a), .sc (.int .i64 x.b), .sc (.int .i64 x.w0), .sc (.int .i64 x.w1)]
def rcs (l : List RCl) : List V := l.flatMap rcC
def rgs (l : List RCg) : List V := l.flatMap rgC
theorem rcs_len (l : List RCl) : (rcs l).length = l.length * 3 := by
  induction l with
  | nil => rfl
  | cons x r ih =>
    show (rcC x ++ rcs r).length = _
    rw [List.length_append, ih]
    show 3 + r.length * 3 = (r.length + 1) * 3
    omega
theorem rcs_drop : ∀ (l : List RCl) (i : Nat) (h : i < l.length), (rcs l).drop (i * 3) = rcC l[i] ++ rcs (l.drop (i + 1))
  | x :: r, 0, _ => rfl
  | x :: r, i + 1, h => by
    have e : rcs (x :: r) = rcC x ++ rcs r := rfl
    have e0 : (rcC x).length = 3 := rfl
    have e2 : (i + 1) * 3 - 3 = i * 3 := by omega
    rw [e, List.drop_append, e0, e2, List.drop_of_length_le (by rw [e0]; omega), List.nil_append, rcs_drop r i (by simpa using h)]
    rfl
theorem rgs_len (l : List RCg) : (rgs l).length = l.length * 8 := by
  induction l with
  | nil => rfl
  | cons x r ih =>
    show (rgC x ++ rgs r).length = _
    rw [List.length_append, ih]
    show 8 + r.length * 8 = (r.length + 1) * 8
    omega
theorem rgs_drop : ∀ (l : List RCg) (i : Nat) (h : i < l.length), (rgs l).drop (i * 8) = rgC l[i] ++ rgs (l.drop (i + 1))
  | x :: r, 0, _ => rfl
  | x :: r, i + 1, h => by
    have e : rgs (x :: r) = rgC x ++ rgs r := rfl
    have e0 : (rgC x).length = 8 := rfl
    have e2 : (i + 1) * 8 - 8 = i * 8 := by omega
    rw [e, List.drop_append, e0, e2, List.drop_of_length_le (by rw [e0]; omega), List.nil_append, rgs_drop r i (by simpa using h)]
    rfl
def RClOk (x : RCl) : Prop := (∀ y ∈ x.B, RFcOk y) ∧ x.B.length ≤ 9223372036854775807
def RHsOk (x : RHs) : Prop := (∀ y ∈ x.base, RClOk y) ∧ x.base.length ≤ 9223372036854775807 ∧ (∀ y ∈ x.log, RClOk y.cell) ∧ x.log.length ≤ 9223372036854775807
def RCg.made (x : RCg) : Chg := ⟨x.kind, x.cell.made, x.a, x.b, x.w0, x.w1⟩
def RHs.made (x : RHs) : Hst := ⟨x.start, (x.base.take 3).map RCl.made, (x.log.take 4).map RCg.made⟩
def rhC (x : RHs) : V := .ag [.sc (.int .i64 x.start), .im (rcs x.base) x.base.length, .im (rgs x.log) x.log.length]
theorem cels_snoc (l : List Cel) (x : Cel) : cels (l ++ [x]) = cels l ++ celC x := by
  unfold cels; simp only [List.flatMap_append, List.flatMap_cons, List.flatMap_nil, List.append_nil]
theorem chgs_snoc (l : List Chg) (x : Chg) : chgs (l ++ [x]) = chgs l ++ chgC x := by
  unfold chgs; simp only [List.flatMap_append, List.flatMap_cons, List.flatMap_nil, List.append_nil]
theorem take_min {α : Type} (l : List α) {i k : Nat} (h1 : ¬ (i < l.length ∧ i < k)) (hi : i ≤ l.length) (hk : i ≤ k) : l.take k = l.take i := by
  rcases Nat.lt_or_ge i l.length with h | h
  · rw [show i = k by omega]
  · rw [List.take_of_length_le (by omega), List.take_of_length_le (by omega)]
set_option maxHeartbeats 8000000 in
theorem mkhist_s (x : RHs) (hx : RHsOk x) : Spec Try.prog 19 [rhC x] (hstC x.made) := by
  obtain ⟨hb, hbl, hg, hgl⟩ := hx
  unfold RHs.made rhC hstC
  simp only
  refine Spec.run Try.func19 rfl Try.ntmps19 (by simp) (by simp (disch := omega) only [go_sem]; rfl) fun B hB => ?_
  (repeat (first | refine DO.nil (by kernel_rfl) ?_ | (with_reducible first | apply oz1 | apply oz2 | apply oz3 | apply oz4 | apply oz5 | apply oz6 | apply oz7 | apply oz8 | apply oz9 | apply ozb | apply ozc | apply oze | apply ozf | apply ozg | apply ozh | apply ozi | apply ozj | apply ozk | refine ozd (by decide) ?_) | ((with_reducible first | apply SC.condB | apply SC.region | apply SO.run | apply DO.run); (focus (simp (disch := omega) only [go_sem, ↓reduceIte, zn1, zn3, zn4, reduceCtorEq] <;> rfl)); (first | refine pickT ?_ | refine pickF ?_ | fail_if_success with_reducible refine pickA ?_)) | ((with_reducible refine SC.draw Tab.mixed ?_ ?_); (focus rfl)) | (with_reducible apply SC.ops)))
  refine SC.weak (by simp) (nilSl (tO := 64) (sl' := [(1, .pt 0 0), (2, .pt 1 0), (3, .pt 2 0), (4, .sc (.int .i64 0))]) (hp' := [(0, ⟨52, [.sc (.int .i64 x.start), .im (rcs x.base) x.base.length, .im (rgs x.log) x.log.length], false⟩), (1, ⟨52, [.sc (.int .i64 0), .sc (.slice none 0 0), .sc (.slice none 0 0)], false⟩), (2, ⟨52, [.sc (.int .i64 x.start), .sl 3 0 0 3 none, .sc (.slice none 0 0)], false⟩)]) 3 hB (by omega) ?_ ?_) ?_
  · (repeat' (first | exact trivial | refine mapSl_cons (by simp (disch := omega) only [go_sem, ↓reduceIte, zn1] <;> rfl) ?_ ?_ | exact VMap.junk _ | exact VMap.sc _ | exact VMap.clo rfl | exact VMap.sl rfl (by omega) | exact VMap.cap rfl (by omega) | exact VMap.pt rfl (by omega) | exact VMap.nil_sl _ _ _ | exact VMap.int (by first | rfl | omega | (dsimp only; omega))))
  · (repeat' (first | exact mapHp_nil | refine mapHp_cons (by simp (disch := omega) only [go_sem, ↓reduceIte, zn1, reduceCtorEq] <;> rfl) ?_ ?_ | exact BMap.clo (by first | rfl | assumption | exact wv_clo _ | exact imR_clo _ _ | exact nv_clo _) | refine BMap.list ?_ | exact mapL_nil | refine mapL_cons ?_ ?_ | exact VMap.junk _ | exact VMap.sc _ | exact VMap.clo rfl | exact VMap.sl rfl (by omega) | exact VMap.cap rfl (by omega) | exact VMap.pt rfl (by omega) | exact VMap.nil_sl _ _ _ | exact VMap.int (by first | rfl | omega | (dsimp only; omega))))
  generalize hL : (x.base.take 3).map RCl.made = L
  refine SC.meet (fun _ : Unit => ⟨[(1, .pt 0 0), (2, .pt 1 0), (3, .pt 2 0)], [(3, ⟨64, cels L, false⟩), (0, ⟨52, [.sc (.int .i64 x.start), .im (rcs x.base) x.base.length, .im (rgs x.log) x.log.length], false⟩), (1, ⟨52, [.sc (.int .i64 0), .sc (.slice none 0 0), .sc (.slice none 0 0)], false⟩), (2, ⟨52, [.sc (.int .i64 x.start), .sl 3 0 L.length 3 none, .sc (.slice none 0 0)], false⟩)], 4, 59⟩) (fun _ => True) ?_ ?_
  · intro K0 hK0
    refine SC.loop (fun i : Nat => ⟨[(1, .pt 0 0), (2, .pt 1 0), (3, .pt 2 0), (4, .sc (.int .i64 i))], [(3, ⟨64, cels ((x.base.take i).map RCl.made), false⟩), (0, ⟨52, [.sc (.int .i64 x.start), .im (rcs x.base) x.base.length, .im (rgs x.log) x.log.length], false⟩), (1, ⟨52, [.sc (.int .i64 0), .sc (.slice none 0 0), .sc (.slice none 0 0)], false⟩), (2, ⟨52, [.sc (.int .i64 x.start), .sl 3 0 i 3 none, .sc (.slice none 0 0)], false⟩)], 4, 59⟩)
      (fun i => i ≤ x.base.length ∧ i ≤ 3) (fun i => 3 - i) 0 ?_ ?_ ?_
    · simp only [List.take_zero, List.map_nil]
      unfold cels
      (refine Le.slots ?_ ?_ ?_ <;> (repeat' (first | (exact fun _ _ h => h) | exact Nat.le_refl _ | exact leSl_nil | refine leSl_cons (by simp (disch := omega) only [go_sem, ↓reduceIte, zn1] <;> rfl) ?_ ?_ | exact VLe.junk _ | exact VLe.refl rfl | exact VLe.nil_sl _ _ _ | exact VLe.int (by first | rfl | omega | (dsimp only; omega)) | exact VLe.bool rfl | exact VLe.sl rfl (by first | rfl | omega) | exact VLe.cap rfl (by first | rfl | omega) | exact VLe.im rfl rfl | omega | (refine fun id k h => ?_; simp only [hget] at h ⊢; (repeat' (split at h)) <;> first | (cases h; done) | (simp (disch := omega) only [if_pos, if_neg]; exact h)))))
    · exact ⟨Nat.zero_le _, Nat.zero_le _⟩
    · intro i ⟨hi, hi3⟩ K hK
      have gl := cels_len ((x.base.take i).map RCl.made)
      rw [List.length_map, List.length_take, Nat.min_eq_left hi] at gl
      have gt : (cels ((x.base.take i).map RCl.made)).take (i * 3) = cels ((x.base.take i).map RCl.made) := List.take_of_length_le (by omega)
      by_cases hlt : i < x.base.length ∧ i < 3
      · have q2 : decide ((i : Int) < (x.base.length : Int)) = true := by rw [decide_eq_true_iff]; omega
        have q3 : decide ((i : Int) < 3) = true := by rw [decide_eq_true_iff]; omega
        have x0 : ((i : Int)).toNat = i := rfl
        have gx := rcs_drop x.base i hlt.1
        have grl := rcs_len x.base
        have hok := hb x.base[i] (List.getElem_mem hlt.1)
        have c1 := mkcell_s x.base[i] hok.1 hok.2
        have e4 := cels_snoc ((x.base.take i).map RCl.made) x.base[i].made
        rw [← map_snoc RCl.made x.base hlt.1] at e4
        have cl := cels_clo ((x.base.take (i + 1)).map RCl.made)
        unfold rcC at gx c1
        unfold celC at c1 e4
        (repeat (first | refine DO.nil (by kernel_rfl) ?_ | (with_reducible first | apply oz1 | apply oz2 | apply oz3 | apply oz4 | apply oz5 | apply oz6 | apply oz7 | apply oz8 | apply oz9 | apply ozb | apply ozc | apply oze | apply ozf | apply ozg | apply ozh | apply ozi | apply ozj | apply ozk | refine ozd (by decide) ?_) | ((first | apply SO.call | apply DO.call); (iterate 3 (focus (simp (disch := omega) only [go_sem, ↓reduceIte, List.nil_append] <;> rfl))); (first | apply SCall.ofX | apply DCall.ofX); (focus (first | assumption)); (focus (simp (disch := omega) only [go_sem] <;> rfl))) | ((with_reducible first | apply SC.condB | apply SC.region | apply SO.run | apply DO.run); (focus (simp (disch := omega) only [go_sem, ↓reduceIte, zn1, zn3, zn4, reduceCtorEq, if_pos, q2, q3, x0, gx, grl, gl, gt, List.cons_append, List.nil_append, List.drop_zero, List.take_succ_cons, List.take_zero, Nat.one_mul, Nat.zero_add] <;> rfl)); (first | refine pickT ?_ | refine pickF ?_ | fail_if_success with_reducible refine pickA ?_)) | ((with_reducible refine SC.draw Tab.mixed ?_ ?_); (focus rfl)) | (with_reducible apply SC.ops)))
        refine hK _ (i + 1) (Le.ren 3 5 hB (by omega) (by omega) (by omega) ?_ ?_) ⟨by omega, by omega⟩ (by omega)
        · (repeat' (first | exact trivial | refine mapSl_cons (by simp (disch := omega) only [go_sem, ↓reduceIte, zn1] <;> rfl) ?_ ?_ | exact VMap.junk _ | exact VMap.sc _ | exact VMap.clo rfl | exact VMap.sl rfl (by omega) | exact VMap.cap rfl (by omega) | exact VMap.pt rfl (by omega) | exact VMap.nil_sl _ _ _ | exact VMap.int (by first | rfl | omega | (dsimp only; omega))))
        · rw [e4] at cl ⊢
          refine mapHp_cons (by simp (disch := omega) only [go_sem, ↓reduceIte] <;> rfl) (BMap.clo cl) ?_
          refine mapHp_cons (by simp (disch := omega) only [go_sem, ↓reduceIte, reduceCtorEq] <;> rfl) (BMap.clo rfl) ?_
          refine mapHp_cons (by simp (disch := omega) only [go_sem, ↓reduceIte, zn1, reduceCtorEq] <;> rfl) (BMap.cloN rfl) ?_
          exact mapHp_cons (by simp (disch := omega) only [go_sem, ↓reduceIte, zn1, reduceCtorEq] <;> rfl) (BMap.list (mapL_cons (VMap.sc _) (mapL_cons (VMap.sl (if_pos rfl) (by omega)) (mapL_cons (VMap.sc _) mapL_nil)))) mapHp_nil
      · have e9 := take_min x.base hlt hi hi3
        have e10 : ((x.base.take i).map RCl.made).length = i := by rw [List.length_map, List.length_take, Nat.min_eq_left hi]
        rw [e9] at hL
        rw [hL] at e10 ⊢
        subst e10
        by_cases h1 : L.length < x.base.length
        · have q2 : decide ((L.length : Int) < (x.base.length : Int)) = true := by rw [decide_eq_true_iff]; omega
          have q3 : decide ((L.length : Int) < 3) = false := by rw [decide_eq_false_iff_not]; omega
          (repeat (first | refine DO.nil (by kernel_rfl) ?_ | (with_reducible first | apply oz1 | apply oz2 | apply oz3 | apply oz4 | apply oz5 | apply oz6 | apply oz7 | apply oz8 | apply oz9 | apply ozb | apply ozc | apply oze | apply ozf | apply ozg | apply ozh | apply ozi | apply ozj | apply ozk | refine ozd (by decide) ?_) | ((with_reducible first | apply SC.condB | apply SC.region | apply SO.run | apply DO.run); (focus (simp (disch := omega) only [go_sem, ↓reduceIte, zn1, reduceCtorEq, q2, q3] <;> rfl)); (first | refine pickT ?_ | refine pickF ?_ | fail_if_success with_reducible refine pickA ?_)) | ((with_reducible refine SC.draw Tab.mixed ?_ ?_); (focus rfl)) | (with_reducible apply SC.ops)))
          refine hK0 _ () ?_ trivial
          (refine Le.slots ?_ ?_ ?_ <;> (repeat' (first | (exact fun _ _ h => h) | exact Nat.le_refl _ | exact leSl_nil | refine leSl_cons (by simp (disch := omega) only [go_sem, ↓reduceIte, zn1] <;> rfl) ?_ ?_ | exact VLe.junk _ | exact VLe.refl rfl | exact VLe.nil_sl _ _ _ | exact VLe.int (by first | rfl | omega | (dsimp only; omega)) | exact VLe.bool rfl | exact VLe.sl rfl (by first | rfl | omega) | exact VLe.cap rfl (by first | rfl | omega) | exact VLe.im rfl rfl | omega | (refine fun id k h => ?_; simp only [hget] at h ⊢; (repeat' (split at h)) <;> first | (cases h; done) | (simp (disch := omega) only [if_pos, if_neg]; exact h)))))
        · have q2 : decide ((L.length : Int) < (x.base.length : Int)) = false := by rw [decide_eq_false_iff_not]; omega
          (repeat (first | refine DO.nil (by kernel_rfl) ?_ | (with_reducible first | apply oz1 | apply oz2 | apply oz3 | apply oz4 | apply oz5 | apply oz6 | apply oz7 | apply oz8 | apply oz9 | apply ozb | apply ozc | apply oze | apply ozf | apply ozg | apply ozh | apply ozi | apply ozj | apply ozk | refine ozd (by decide) ?_) | ((with_reducible first | apply SC.condB | apply SC.region | apply SO.run | apply DO.run); (focus (simp (disch := omega) only [go_sem, ↓reduceIte, zn1, reduceCtorEq, q2] <;> rfl)); (first | refine pickT ?_ | refine pickF ?_ | fail_if_success with_reducible refine pickA ?_)) | ((with_reducible refine SC.draw Tab.mixed ?_ ?_); (focus rfl)) | (with_reducible apply SC.ops)))
          refine hK0 _ () ?_ trivial
          (refine Le.slots ?_ ?_ ?_ <;> (repeat' (first | (exact fun _ _ h => h) | exact Nat.le_refl _ | exact leSl_nil | refine leSl_cons (by simp (disch := omega) only [go_sem, ↓reduceIte, zn1] <;> rfl) ?_ ?_ | exact VLe.junk _ | exact VLe.refl rfl | exact VLe.nil_sl _ _ _ | exact VLe.int (by first | rfl | omega | (dsimp only; omega)) | exact VLe.bool rfl | exact VLe.sl rfl (by first | rfl | omega) | exact VLe.cap rfl (by first | rfl | omega) | exact VLe.im rfl rfl | omega | (refine fun id k h => ?_; simp only [hget] at h ⊢; (repeat' (split at h)) <;> first | (cases h; done) | (simp (disch := omega) only [if_pos, if_neg]; exact h)))))
  · intro _ _
    have cL := cels_clo L
    have lL := cels_len L
    (repeat (first | refine DO.nil (by kernel_rfl) ?_ | (with_reducible first | apply oz1 | apply oz2 | apply oz3 | apply oz4 | apply oz5 | apply oz6 | apply oz7 | apply oz8 | apply oz9 | apply ozb | apply ozc | apply oze | apply ozf | apply ozg | apply ozh | apply ozi | apply ozj | apply ozk | refine ozd (by decide) ?_) | ((with_reducible first | apply SC.condB | apply SC.region | apply SO.run | apply DO.run); (focus (simp (disch := omega) only [go_sem, ↓reduceIte] <;> rfl)); (first | refine pickT ?_ | refine pickF ?_ | fail_if_success with_reducible refine pickA ?_)) | ((with_reducible refine SC.draw Tab.mixed ?_ ?_); (focus rfl)) | (with_reducible apply SC.ops)))
    refine SC.weak (by simp) (nilSl (tO := 67) (sl' := [(1, .pt 0 0), (2, .pt 1 0), (3, .pt 2 0), (5, .sc (.int .i64 0))]) (hp' := [(3, ⟨64, cels L, false⟩), (0, ⟨52, [.sc (.int .i64 x.start), .im (rcs x.base) x.base.length, .im (rgs x.log) x.log.length], false⟩), (1, ⟨52, [.sc (.int .i64 0), .sc (.slice none 0 0), .sc (.slice none 0 0)], false⟩), (2, ⟨52, [.sc (.int .i64 x.start), .sl 3 0 L.length 3 none, .sl 4 0 0 8 none], false⟩)]) 4 hB (by omega) ?_ ?_) ?_
    · (repeat' (first | exact trivial | refine mapSl_cons (by simp (disch := omega) only [go_sem, ↓reduceIte, zn1] <;> rfl) ?_ ?_ | exact VMap.junk _ | exact VMap.sc _ | exact VMap.clo rfl | exact VMap.sl rfl (by omega) | exact VMap.cap rfl (by omega) | exact VMap.pt rfl (by omega) | exact VMap.nil_sl _ _ _ | exact VMap.int (by first | rfl | omega | (dsimp only; omega))))
    · (repeat' (first | exact mapHp_nil | refine mapHp_cons (by simp (disch := omega) only [go_sem, ↓reduceIte, zn1, reduceCtorEq] <;> rfl) ?_ ?_ | exact BMap.clo (by first | rfl | assumption | exact wv_clo _ | exact imR_clo _ _ | exact nv_clo _) | refine BMap.list ?_ | exact mapL_nil | refine mapL_cons ?_ ?_ | exact VMap.junk _ | exact VMap.sc _ | exact VMap.clo rfl | exact VMap.sl rfl (by omega) | exact VMap.cap rfl (by omega) | exact VMap.pt rfl (by omega) | exact VMap.nil_sl _ _ _ | exact VMap.int (by first | rfl | omega | (dsimp only; omega))))
    refine SC.loop (fun i : Nat => ⟨[(1, .pt 0 0), (2, .pt 1 0), (3, .pt 2 0), (5, .sc (.int .i64 i))], [(4, ⟨67, chgs ((x.log.take i).map RCg.made), false⟩), (3, ⟨64, cels L, false⟩), (0, ⟨52, [.sc (.int .i64 x.start), .im (rcs x.base) x.base.length, .im (rgs x.log) x.log.length], false⟩), (1, ⟨52, [.sc (.int .i64 0), .sc (.slice none 0 0), .sc (.slice none 0 0)], false⟩), (2, ⟨52, [.sc (.int .i64 x.start), .sl 3 0 L.length 3 none, .sl 4 0 i 8 none], false⟩)], 5, 59⟩)
      (fun i => i ≤ x.log.length ∧ i ≤ 4) (fun i => 4 - i) 0 ?_ ?_ ?_
    · simp only [List.take_zero, List.map_nil]
      unfold chgs
      (refine Le.slots ?_ ?_ ?_ <;> (repeat' (first | (exact fun _ _ h => h) | exact Nat.le_refl _ | exact leSl_nil | refine leSl_cons (by simp (disch := omega) only [go_sem, ↓reduceIte, zn1] <;> rfl) ?_ ?_ | exact VLe.junk _ | exact VLe.refl rfl | exact VLe.nil_sl _ _ _ | exact VLe.int (by first | rfl | omega | (dsimp only; omega)) | exact VLe.bool rfl | exact VLe.sl rfl (by first | rfl | omega) | exact VLe.cap rfl (by first | rfl | omega) | exact VLe.im rfl rfl | omega | (refine fun id k h => ?_; simp only [hget] at h ⊢; (repeat' (split at h)) <;> first | (cases h; done) | (simp (disch := omega) only [if_pos, if_neg]; exact h)))))
    · exact ⟨Nat.zero_le _, Nat.zero_le _⟩
    · intro i ⟨hi, hi3⟩ K hK
      have gl := chgs_len ((x.log.take i).map RCg.made)
      rw [List.length_map, List.length_take, Nat.min_eq_left hi] at gl
      have gt : (chgs ((x.log.take i).map RCg.made)).take (i * 8) = chgs ((x.log.take i).map RCg.made) := List.take_of_length_le (by omega)
      by_cases hlt : i < x.log.length ∧ i < 4
      · have q2 : decide ((i : Int) < (x.log.length : Int)) = true := by rw [decide_eq_true_iff]; omega
        have q3 : decide ((i : Int) < 4) = true := by rw [decide_eq_true_iff]; omega
        have x0 : ((i : Int)).toNat = i := rfl
        have gx := rgs_drop x.log i hlt.1
        have grl := rgs_len x.log
        have hok := hg x.log[i] (List.getElem_mem hlt.1)
        have c1 := mkcell_s x.log[i].cell hok.1 hok.2
        have e4 := chgs_snoc ((x.log.take i).map RCg.made) x.log[i].made
        rw [← map_snoc RCg.made x.log hlt.1] at e4
        have cl := chgs_clo ((x.log.take (i + 1)).map RCg.made)
        unfold rgC rcC at gx
        unfold rcC at c1
        unfold chgC celC RCg.made at e4
        unfold celC at c1
        simp only [List.cons_append, List.nil_append] at gx e4
        (repeat (first | refine DO.nil (by kernel_rfl) ?_ | (with_reducible first | apply oz1 | apply oz2 | apply oz3 | apply oz4 | apply oz5 | apply oz6 | apply oz7 | apply oz8 | apply oz9 | apply ozb | apply ozc | apply oze | apply ozf | apply ozg | apply ozh | apply ozi | apply ozj | apply ozk | refine ozd (by decide) ?_) | ((first | apply SO.call | apply DO.call); (iterate 3 (focus (simp (disch := omega) only [go_sem, ↓reduceIte, List.nil_append] <;> rfl))); (first | apply SCall.ofX | apply DCall.ofX); (focus (first | assumption)); (focus (simp (disch := omega) only [go_sem] <;> rfl))) | ((with_reducible first | apply SC.condB | apply SC.region | apply SO.run | apply DO.run); (focus (simp (disch := omega) only [go_sem, ↓reduceIte, zn1, zn3, zn4, reduceCtorEq, if_pos, q2, q3, x0, gx, grl, gl, gt, List.cons_append, List.nil_append, List.drop_zero, List.take_succ_cons, List.take_zero, Nat.one_mul, Nat.zero_add] <;> rfl)); (first | refine pickT ?_ | refine pickF ?_ | fail_if_success with_reducible refine pickA ?_)) | ((with_reducible refine SC.draw Tab.mixed ?_ ?_); (focus rfl)) | (with_reducible apply SC.ops)))
        refine hK _ (i + 1) (Le.ren 4 7 hB (by omega) (by omega) (by omega) ?_ ?_) ⟨by omega, by omega⟩ (by omega)
        · (repeat' (first | exact trivial | refine mapSl_cons (by simp (disch := omega) only [go_sem, ↓reduceIte, zn1] <;> rfl) ?_ ?_ | exact VMap.junk _ | exact VMap.sc _ | exact VMap.clo rfl | exact VMap.sl rfl (by omega) | exact VMap.cap rfl (by omega) | exact VMap.pt rfl (by omega) | exact VMap.nil_sl _ _ _ | exact VMap.int (by first | rfl | omega | (dsimp only; omega))))
        · unfold RCg.made at cl ⊢
          rw [e4] at cl ⊢
          refine mapHp_cons (by simp (disch := omega) only [go_sem, ↓reduceIte] <;> rfl) (BMap.clo cl) ?_
          refine mapHp_cons (by simp (disch := omega) only [go_sem, ↓reduceIte, zn1] <;> rfl) (BMap.clo cL) ?_
          refine mapHp_cons (by simp (disch := omega) only [go_sem, ↓reduceIte, reduceCtorEq] <;> rfl) (BMap.clo rfl) ?_
          refine mapHp_cons (by simp (disch := omega) only [go_sem, ↓reduceIte, zn1, reduceCtorEq] <;> rfl) (BMap.cloN rfl) ?_
          exact mapHp_cons (by simp (disch := omega) only [go_sem, ↓reduceIte, zn1, reduceCtorEq] <;> rfl) (BMap.list (mapL_cons (VMap.sc _) (mapL_cons (VMap.sl (if_neg (by omega)) (by omega)) (mapL_cons (VMap.sl (if_pos rfl) (by omega)) mapL_nil)))) mapHp_nil
      · have e9 := take_min x.log hlt hi hi3
        have e10 : ((x.log.take i).map RCg.made).length = i := by rw [List.length_map, List.length_take, Nat.min_eq_left hi]
        rw [e9, e10]
        have cl := chgs_clo ((x.log.take i).map RCg.made)
        have tL : (cels L).take (L.length * 3) = cels L := List.take_of_length_le (by omega)
        by_cases h1 : i < x.log.length
        · have q2 : decide ((i : Int) < (x.log.length : Int)) = true := by rw [decide_eq_true_iff]; omega
          have q3 : decide ((i : Int) < 4) = false := by rw [decide_eq_false_iff_not]; omega
          (repeat (first | refine DO.nil (by kernel_rfl) ?_ | (with_reducible first | apply oz1 | apply oz2 | apply oz3 | apply oz4 | apply oz5 | apply oz6 | apply oz7 | apply oz8 | apply oz9 | apply ozb | apply ozc | apply oze | apply ozf | apply ozg | apply ozh | apply ozi | apply ozj | apply ozk | refine ozd (by decide) ?_) | ((with_reducible first | apply SC.condB | apply SC.region | apply SO.run | apply DO.run); (focus (simp (disch := omega) only [go_sem, ↓reduceIte, zn1, zn2, zn3, zn4, reduceCtorEq, q2, q3] <;> rfl)); (first | refine pickT ?_ | refine pickF ?_ | fail_if_success with_reducible refine pickA ?_)) | ((with_reducible refine SC.draw Tab.mixed ?_ ?_); (focus rfl)) | (with_reducible apply SC.ops)))
          exact retQ_ret Try.results19 (by simp (disch := omega) only [go_sem, ↓reduceIte, zn1, zn3, zn4, reduceCtorEq] <;> rfl) (by simp (disch := omega) only [go_sem, ↓reduceIte, zn1, if_pos, gl, gt, cl, lL, tL, cL, List.drop_zero] <;> rfl) rfl
        · have q2 : decide ((i : Int) < (x.log.length : Int)) = false := by rw [decide_eq_false_iff_not]; omega
          (repeat (first | refine DO.nil (by kernel_rfl) ?_ | (with_reducible first | apply oz1 | apply oz2 | apply oz3 | apply oz4 | apply oz5 | apply oz6 | apply oz7 | apply oz8 | apply oz9 | apply ozb | apply ozc | apply oze | apply ozf | apply ozg | apply ozh | apply ozi | apply ozj | apply ozk | refine ozd (by decide) ?_) | ((with_reducible first | apply SC.condB | apply SC.region | apply SO.run | apply DO.run); (focus (simp (disch := omega) only [go_sem, ↓reduceIte, zn1, zn2, zn3, zn4, reduceCtorEq, q2] <;> rfl)); (first | refine pickT ?_ | refine pickF ?_ | fail_if_success with_reducible refine pickA ?_)) | ((with_reducible refine SC.draw Tab.mixed ?_ ?_); (focus rfl)) | (with_reducible apply SC.ops)))
          exact retQ_ret Try.results19 (by simp (disch := omega) only [go_sem, ↓reduceIte, zn1, zn3, zn4, reduceCtorEq] <;> rfl) (by simp (disch := omega) only [go_sem, ↓reduceIte, zn1, if_pos, gl, gt, cl, lL, tL, cL, List.drop_zero] <;> rfl) rfl
end Go.Proofs.Ytphilljhfdlfdaa
namespace Go.Proofs.Ytphilljhfdlfdaa
open Go.RowKit
def histR (b : List Int) (n : Nat) : Nat → Rd → List Chg → List Chg × Rd
  | 0, s, log => (log, s)
  | f + 1, s, log => if (s.step b n log).1 = true then histR b n f (s.step b n log).2.1 (s.step b n log).2.2 else (log, (s.step b n log).2.1)
def Rd.hist (b : List Int) (n : Nat) (s : Rd) : Hst × Rd :=
  (⟨(s.begin b n).1.1, (s.begin b n).1.2, (histR b n 4001 (s.begin b n).2 []).1⟩, (histR b n 4001 (s.begin b n).2 []).2)
theorem hst_only (x : Hst) : Only (fun _ => False) (hstC x) := by
  refine .ag fun y hy => ?_
  simp only [List.mem_cons, List.not_mem_nil, or_false] at hy
  rcases hy with rfl | rfl | rfl
  · exact .sc _
  · exact .im _ _
  · exact .im _ _
theorem rstep_part {b : List Int} {n k h q nx z : Nat} {x0 : Int} {cs : List V} {m : Nat} {r : Bool × Rd × List Chg} (hz1 : z < nx) (hzk : k ≠ z) (hzh : h ≠ z) (hzq : q ≠ z) : ∀ y hp' nx', StepQ b n k h q nx (.sc (.int .i64 x0)) (.im cs m) r y hp' nx' →
    Only (fun i => i ≠ z) y ∧ OnlyH (fun i => i ≠ z) hp' ∧ ∀ id kk, hget hp' id = some kk → id ≠ z := by
  rintro y hp' nx' ⟨rfl, q', hq, rfl⟩
  have hq' : q' ≠ z := by omega
  refine ⟨.sc _, ⟨fun w hw => Only.clo (List.all_eq_true.1 (rdB_clo _ _ _) w hw), ⟨fun w hw => ?_, ⟨fun w hw => Only.clo (List.all_eq_true.1 (chgs_clo _) w hw), trivial⟩⟩⟩, fun id kk hg => ?_⟩
  · simp only [List.mem_cons, List.not_mem_nil, or_false] at hw
    rcases hw with rfl | rfl | rfl
    · exact .sc _
    · exact .im _ _
    · exact .sl hq'
  · simp only [hget] at hg
    repeat' split at hg
    · omega
    · omega
    · omega
    · cases hg
set_option maxHeartbeats 8000000 in
theorem rhistory_s (b : List Int) (n : Nat) (s : Rd) (hu : U8s b) (hn : n ≤ b.length) (hb : n ≤ 1000000000) (ha : s.at_ ≤ n) :
    RdQ Try.prog 57 [] (rdB b n s) (rdB b n (s.hist b n).2) (hstC (s.hist b n).1) := by
  refine ⟨hst_only _, rdB_clo _ _ _, fun k nx hk => ?_⟩
  refine InlQ.run Try.func57 rfl Try.ntmps57 (by simp) (by simp (disch := omega) only [go_sem]; rfl) fun B hB => ?_
  have c1 := rbegin_s b n s hu hn hb ha
  have hat := begin_at (b := b) ha
  unfold Rd.hist
  generalize s.begin b n = r at *
  obtain ⟨⟨st, bs⟩, s1⟩ := r
  simp only at c1 hat ⊢
  generalize hL : histR b n 4001 s1 [] = L
  obtain ⟨lg, s9⟩ := L
  simp only
  unfold begC rdB at c1
  unfold rdB
  simp only at c1
  (repeat (first | refine DO.nilF (fun i => i + 1 - nx) (by simp (disch := omega) only [go_sem, ↓reduceIte, zn1, zn2, zn3, zn4, zn5, zn6, reduceCtorEq, zn7, zi1, zi2, if_pos, if_neg, List.map_cons, List.map_nil, Option.map_some, Option.map_none, Nat.add_sub_cancel_left, Nat.sub_eq_zero_of_le, Nat.add_assoc, zn4] <;> rfl) (by kernel_rfl) ?_ | (with_reducible first | apply oz1 | apply oz2 | apply oz3 | apply oz4 | apply oz5 | apply oz6 | apply oz7 | apply oz8 | apply oz9 | apply ozb | apply ozc | apply oze | apply ozf | apply ozg | apply ozh | apply ozi | apply ozj | apply ozk | refine ozd (by decide) ?_) | ((first | apply SO.call | apply DO.call); (iterate 3 (focus (simp (disch := omega) only [go_sem, ↓reduceIte, if_neg] <;> rfl))); (first | apply SCall.ofX | apply DCall.ofX); (focus (first | assumption)); (focus (simp (disch := omega) only [go_sem, ↓reduceIte, zn1, zn2, zn3, zn4, zn5, zn6, reduceCtorEq, zn7, zi1, zi2, if_pos, if_neg] <;> rfl))) | ((with_reducible first | apply SC.condB | apply SC.region | apply SO.run | apply DO.run); (focus (simp (disch := omega) only [go_sem, ↓reduceIte, reduceCtorEq] <;> rfl)); (first | refine pickT ?_ | refine pickF ?_ | fail_if_success with_reducible refine pickA ?_)) | ((with_reducible refine SC.draw Tab.mixed ?_ ?_); (focus rfl)) | (with_reducible apply SC.ops)))
  (refine SO.inlQ (by simp (disch := omega) only [go_sem] <;> rfl) Tab.go61 (by simp (disch := omega) only [go_sem, ↓reduceIte] <;> rfl) (by simp (disch := omega) only [go_sem] <;> rfl) (SInlQ.rd (c1) (by simp (disch := omega) only [go_sem, ↓reduceIte, if_neg] <;> rfl) rfl (by first | omega | (dsimp only; omega) | (simp (disch := omega) only [go_sem] <;> omega)) (by simp (disch := omega) only [go_sem, ↓reduceIte, if_neg] <;> rfl) ?_))
  (repeat (first | refine DO.nilF (fun i => i + 1 - nx) (by simp (disch := omega) only [go_sem, ↓reduceIte, zn1, zn2, zn3, zn4, zn5, zn6, reduceCtorEq, zn7, zi1, zi2, if_pos, if_neg, List.map_cons, List.map_nil, Option.map_some, Option.map_none, Nat.add_sub_cancel_left, Nat.sub_eq_zero_of_le, Nat.add_assoc, zn4] <;> rfl) (by kernel_rfl) ?_ | (with_reducible first | apply oz1 | apply oz2 | apply oz3 | apply oz4 | apply oz5 | apply oz6 | apply oz7 | apply oz8 | apply oz9 | apply ozb | apply ozc | apply oze | apply ozf | apply ozg | apply ozh | apply ozi | apply ozj | apply ozk | refine ozd (by decide) ?_) | ((with_reducible first | apply SC.condB | apply SC.region | apply SO.run | apply DO.run); (focus (simp (disch := omega) only [go_sem, ↓reduceIte, zn1, zn3, zn4] <;> rfl)); (first | refine pickT ?_ | refine pickF ?_ | fail_if_success with_reducible refine pickA ?_)) | ((with_reducible refine SC.draw Tab.mixed ?_ ?_); (focus rfl)) | (with_reducible apply SC.ops)))
  refine SC.weak (by simp) (nilRowZ (z := 8) (tO := 67) (sl' := [(0, .pt k 0), (2, .pt nx 0), (3, .pt (nx + 1) 0)]) (rest := [(nx, ⟨52, [.sc (.int .i64 0), .sc (.slice none 0 0), .sc (.slice none 0 0)], false⟩), (k, rdB b n s1)]) (pre := [.sc (.int .i64 st), .im (cels bs) bs.length]) (nx + 1) (nx + 2) hB (by simp (disch := omega) only [go_sem, ↓reduceIte] <;> rfl) rfl (by omega) ?_ (by omega) ?_) ?_
  · exact ⟨⟨by omega, by omega, by omega, by simp, by simp (disch := omega) only [go_sem, ↓reduceIte, if_neg] <;> rfl, rfl⟩, ⟨by omega, by omega, by omega, by simp, by simp (disch := omega) only [go_sem, ↓reduceIte, if_neg] <;> rfl, rfl⟩, trivial⟩
  · (repeat' (first | exact trivial | refine mapSl_cons (by simp (disch := omega) only [go_sem, ↓reduceIte, zn1, reduceCtorEq] <;> rfl) ?_ ?_ | exact VMap.junk _ | exact VMap.sc _ | exact VMap.clo rfl | exact VMap.sl rfl (by omega) | exact VMap.cap rfl (by omega) | exact VMap.pt rfl (by omega) | exact VMap.nil_sl _ _ _ | exact VMap.int (by first | rfl | omega | (dsimp only; omega))))
  simp only [List.cons_append, List.nil_append]
  refine SC.loop (fun z : Rd × List Chg × Nat × Nat => ⟨[(0, .pt k 0), (2, .pt nx 0), (3, .pt (nx + 1) 0)], [(nx, ⟨52, [.sc (.int .i64 0), .sc (.slice none 0 0), .sc (.slice none 0 0)], false⟩), (k, rdB b n z.1), (nx + 1, ⟨52, [.sc (.int .i64 st), .im (cels bs) bs.length, .sl z.2.2.1 0 z.2.1.length 8 none], false⟩), (z.2.2.1, ⟨67, chgs z.2.1, false⟩)], z.2.2.2, 9⟩)
    (fun z => z.2.1.length ≤ 4000 ∧ histR b n (4001 - z.2.1.length) z.1 z.2.1 = (lg, s9) ∧ z.1.at_ ≤ n ∧ nx + 2 ≤ z.2.2.1 ∧ z.2.2.1 < z.2.2.2) (fun z => 4001 - z.2.1.length) (s1, [], nx + 2, nx + 3) ?_ ?_ ?_
  · unfold chgs
    (refine Le.slots ?_ ?_ ?_ <;> (repeat' (first | (exact fun _ _ h => h) | exact Nat.le_refl _ | exact leSl_nil | refine leSl_cons (by simp (disch := omega) only [go_sem, ↓reduceIte, zn1, reduceCtorEq] <;> rfl) ?_ ?_ | exact VLe.junk _ | exact VLe.refl rfl | exact VLe.nil_sl _ _ _ | exact VLe.int (by first | rfl | omega | (dsimp only; omega)) | exact VLe.bool rfl | exact VLe.sl rfl (by first | rfl | omega) | exact VLe.cap rfl (by first | rfl | omega) | exact VLe.im rfl rfl | omega | (refine fun id k h => ?_; simp only [hget] at h ⊢; (repeat' (split at h)) <;> first | (cases h; done) | (simp (disch := omega) only [if_pos, if_neg]; exact h)))))
  · exact ⟨Nat.zero_le _, hL, hat, by simp only; omega, by simp only; omega⟩
  · rintro ⟨s, log, q, m⟩ ⟨hl4, hh, has, hq1, hq2⟩ K hK
    simp only at hl4 hh has hq1 hq2 ⊢
    have c5 := rstep_s b n s hu hn hb has log hl4 st (cels bs) bs.length k (nx + 1) q m (by omega) (by omega) (by omega) (by omega) (by omega) (by omega)
    have hs1 := step_at (b := b) (log := log) has
    have hs2 := @step_len b n s log
    have h40 : 4001 - log.length = (4000 - log.length) + 1 := by omega
    rw [h40] at hh
    unfold histR at hh
    have hss := @step_same b n s log
    generalize s.step b n log = r at *
    obtain ⟨f, s2, log2⟩ := r
    simp only at hs1 hs2 hh hss
    (repeat (first | refine DO.nilF (fun i => i + 1 - nx) (by simp (disch := omega) only [go_sem, ↓reduceIte, zn1, zn2, zn3, zn4, zn5, zn6, reduceCtorEq, zn7, zi1, zi2, if_pos, if_neg, List.map_cons, List.map_nil, Option.map_some, Option.map_none, Nat.add_sub_cancel_left, Nat.sub_eq_zero_of_le, Nat.add_assoc, zn4] <;> rfl) (by kernel_rfl) ?_ | (with_reducible first | apply oz1 | apply oz2 | apply oz3 | apply oz4 | apply oz5 | apply oz6 | apply oz7 | apply oz8 | apply oz9 | apply ozb | apply ozc | apply oze | apply ozf | apply ozg | apply ozh | apply ozi | apply ozj | apply ozk | refine ozd (by decide) ?_) | ((first | apply SO.call | apply DO.call); (iterate 3 (focus (simp (disch := omega) only [go_sem, ↓reduceIte, zn1, reduceCtorEq, if_neg] <;> rfl))); (first | apply SCall.ofX | apply DCall.ofX); (focus (first | assumption)); (focus (simp (disch := omega) only [go_sem, ↓reduceIte, zn1, zn2, zn3, zn4, zn5, zn6, reduceCtorEq, zn7, zi1, zi2, if_pos, if_neg] <;> rfl))) | ((with_reducible first | apply SC.condB | apply SC.region | apply SO.run | apply DO.run); (focus (simp (disch := omega) only [go_sem, ↓reduceIte] <;> rfl)); (first | refine pickT ?_ | refine pickF ?_ | fail_if_success with_reducible refine pickA ?_)) | ((with_reducible refine SC.draw Tab.mixed ?_ ?_); (focus rfl)) | (with_reducible apply SC.ops)))
    refine SO.inlQ (by simp (disch := omega) only [go_sem] <;> rfl) Tab.go62 (by simp (disch := omega) only [go_sem, ↓reduceIte, zn1, reduceCtorEq] <;> rfl) (by simp (disch := omega) only [go_sem] <;> rfl) (SInlQ.part [(nx, _)] (fun i => i ≠ nx) c5 ?_ ?_ (rstep_part (by omega) (by omega) (by omega) (by omega)) ?_)
    · intro id kk hg
      simp only [hget] at hg
      split at hg
      · rename_i e; exact fun h => h e
      · cases hg
    · intro id kk hg
      simp only [hget] at hg
      repeat' split at hg
      · omega
      · omega
      · omega
      · cases hg
    rintro y hp' nx' ⟨rfl, q', hq', rfl⟩
    simp only [List.cons_append, List.nil_append]
    cases f with
    | true =>
      rw [if_pos rfl] at hh
      obtain ⟨hl2, hl3⟩ := hs2 rfl
      (repeat (first | refine DO.nilF (fun i => i + 1 - nx) (by simp (disch := omega) only [go_sem, ↓reduceIte, zn1, zn2, zn3, zn4, zn5, zn6, reduceCtorEq, zn7, zi1, zi2, if_pos, if_neg, List.map_cons, List.map_nil, Option.map_some, Option.map_none, Nat.add_sub_cancel_left, Nat.sub_eq_zero_of_le, Nat.add_assoc, zn4] <;> rfl) (by kernel_rfl) ?_ | (with_reducible first | apply oz1 | apply oz2 | apply oz3 | apply oz4 | apply oz5 | apply oz6 | apply oz7 | apply oz8 | apply oz9 | apply ozb | apply ozc | apply oze | apply ozf | apply ozg | apply ozh | apply ozi | apply ozj | apply ozk | refine ozd (by decide) ?_) | ((with_reducible first | apply SC.condB | apply SC.region | apply SO.run | apply DO.run); (focus (simp (disch := omega) only [go_sem, ↓reduceIte] <;> rfl)); (first | refine pickT ?_ | refine pickF ?_ | fail_if_success with_reducible refine pickA ?_)) | ((with_reducible refine SC.draw Tab.mixed ?_ ?_); (focus rfl)) | (with_reducible apply SC.ops)))
      refine hK _ (s2, log2, q', nx') ?_ ⟨by simp only; omega, ?_, hs1, by simp only; omega, by simp only; omega⟩ (by simp only; omega)
      · simp only
        (refine Le.slots ?_ ?_ ?_ <;> (repeat' (first | (exact fun _ _ h => h) | exact Nat.le_refl _ | exact leSl_nil | refine leSl_cons (by simp (disch := omega) only [go_sem, ↓reduceIte, zn1, reduceCtorEq] <;> rfl) ?_ ?_ | exact VLe.junk _ | exact VLe.refl rfl | exact VLe.nil_sl _ _ _ | exact VLe.int (by first | rfl | omega | (dsimp only; omega)) | exact VLe.bool rfl | exact VLe.sl rfl (by first | rfl | omega) | exact VLe.cap rfl (by first | rfl | omega) | exact VLe.im rfl rfl | omega | (refine fun id k h => ?_; simp only [hget] at h ⊢; (repeat' (split at h)) <;> first | (cases h; done) | (simp (disch := omega) only [if_pos, if_neg]; exact h)))))
      · simp only
        rw [hl2, show 4001 - (log.length + 1) = 4000 - log.length by omega]
        exact hh
    | false =>
      rw [if_neg (by simp)] at hh
      have := hss rfl
      subst this
      cases hh
      have gl := chgs_len lg
      have gt : (chgs lg).take (lg.length * 8) = chgs lg := List.take_of_length_le (by omega)
      have gcl := chgs_clo lg
      have kb : (k == q') = false := by rw [beq_eq_false_iff_ne]; omega
      have kb1 : (nx == q') = false := by rw [beq_eq_false_iff_ne]; omega
      unfold rdB
      (repeat (first | refine DO.nilF (fun i => i + 1 - nx) (by simp (disch := omega) only [go_sem, ↓reduceIte, zn1, zn2, zn3, zn4, zn5, zn6, reduceCtorEq, zn7, zi1, zi2, if_pos, if_neg, List.map_cons, List.map_nil, Option.map_some, Option.map_none, Nat.add_sub_cancel_left, Nat.sub_eq_zero_of_le, Nat.add_assoc, zn4] <;> rfl) (by kernel_rfl) ?_ | (with_reducible first | apply oz1 | apply oz2 | apply oz3 | apply oz4 | apply oz5 | apply oz6 | apply oz7 | apply oz8 | apply oz9 | apply ozb | apply ozc | apply oze | apply ozf | apply ozg | apply ozh | apply ozi | apply ozj | apply ozk | refine ozd (by decide) ?_) | ((with_reducible first | apply SC.condB | apply SC.region | apply SO.run | apply DO.run); (focus (simp (disch := omega) only [go_sem, ↓reduceIte, zn1, zn2, zn3, zn4, reduceCtorEq, if_neg] <;> rfl)); (first | refine pickT ?_ | refine pickF ?_ | fail_if_success with_reducible refine pickA ?_)) | ((with_reducible refine SC.draw Tab.mixed ?_ ?_); (focus rfl)) | (with_reducible apply SC.ops)))
      exact rd_retF hB hk Try.results57 (by simp (disch := omega) only [go_sem, ↓reduceIte, zn1, zn3, zn4, reduceCtorEq] <;> rfl) (by simp (disch := omega) only [go_sem, ↓reduceIte, if_pos, if_neg, gl, gt, gcl, List.drop_zero] <;> rfl) (hst_only ⟨st, bs, lg⟩) rfl (by simp (disch := omega) only [go_sem, ↓reduceIte, if_neg, kb, kb1, Bool.false_eq_true] <;> rfl)
end Go.Proofs.Ytphilljhfdlfdaa
namespace Go.Proofs.Ytphilljhfdlfdaa
def At (b : List Int) (n p : Nat) (l : List Int) : Prop := ∀ i, i < l.length → p + i < n → b[p + i]? = l[i]?
theorem At.left {b : List Int} {n p : Nat} {l m : List Int} (h : At b n p (l ++ m)) : At b n p l := fun i hi hn => by
  rw [h i (by rw [List.length_append]; omega) hn, List.getElem?_append_left hi]
theorem At.right {b : List Int} {n p : Nat} {l m : List Int} (h : At b n p (l ++ m)) : At b n (p + l.length) m := fun i hi hn => by
  have := h (l.length + i) (by rw [List.length_append]; omega) (by omega)
  rw [List.getElem?_append_right (by omega), Nat.add_sub_cancel_left, ← Nat.add_assoc] at this
  exact this
theorem At.head {b : List Int} {n p : Nat} {x : Int} {l : List Int} (h : At b n p (x :: l)) (hn : p < n) : b.getD p 0 = x := by
  have := h 0 (by simp) hn
  simp at this
  simp [List.getD, this]
theorem At.tail {b : List Int} {n p : Nat} {x : Int} {l : List Int} (h : At b n p (x :: l)) : At b n (p + 1) l := fun i hi hn => by
  have := h (i + 1) (by simp; omega) (by omega)
  rw [List.getElem?_cons_succ] at this
  rw [← this]; congr 1; omega
theorem At.getD {b : List Int} {n p : Nat} {l : List Int} (h : At b n p l) {i : Nat} (hi : i < l.length) (hn : p + i < n) : b.getD (p + i) 0 = l.getD i 0 := by
  simp [List.getD, h i hi hn]
theorem At.of (b l : List Int) (n : Nat) : At ((b ++ l).take n) n b.length l := fun i hi hn => by
  rw [List.getElem?_take, if_pos hn, List.getElem?_append_right (by omega), Nat.add_sub_cancel_left]
def Rds {α : Type} (b : List Int) (n : Nat) (one : Rd → α × Rd) (l : List Int) (x : α) : Prop :=
  ∀ p, At b n p l → p ≤ n → (p + l.length ≤ n → one ⟨p, 0⟩ = (x, ⟨p + l.length, 0⟩)) ∧ (n < p + l.length → (one ⟨p, 0⟩).2.e = 5)
def Stk {α : Type} (one : Rd → α × Rd) : Prop := ∀ s : Rd, s.e ≠ 0 → (one s).2.e = s.e
def seqR {α β γ : Type} (mk : α → β → γ) (f : Rd → α × Rd) (g : Rd → β × Rd) (s : Rd) : γ × Rd := (mk (f s).1 (g (f s).2).1, (g (f s).2).2)
theorem Stk.seq {α β γ : Type} {mk : α → β → γ} {f : Rd → α × Rd} {g : Rd → β × Rd} (h1 : Stk f) (h2 : Stk g) : Stk (seqR mk f g) := fun s hs => by
  show (g (f s).2).2.e = s.e
  have h := h1 s hs
  rw [h2 _ (by rw [h]; exact hs), h]
theorem Rds.seq {α β γ : Type} {b : List Int} {n : Nat} {mk : α → β → γ} {f : Rd → α × Rd} {g : Rd → β × Rd} {l m : List Int} {x : α} {y : β} (h1 : Rds b n f l x) (h2 : Rds b n g m y) (hg : Stk g) : Rds b n (seqR mk f g) (l ++ m) (mk x y) := fun p ha hp => by
  obtain ⟨f1, f2⟩ := h1 p ha.left hp
  rw [List.length_append]
  unfold seqR
  by_cases hl : p + l.length ≤ n
  · rw [f1 hl]
    obtain ⟨g1, g2⟩ := h2 (p + l.length) ha.right hl
    simp only
    refine ⟨fun h => ?_, fun h => g2 (by omega)⟩
    rw [g1 (by omega), Nat.add_assoc]
  · refine ⟨fun h => by omega, fun _ => ?_⟩
    have h5 := f2 (by omega)
    simp only
    rw [hg _ (by rw [h5]; decide), h5]
theorem fail_e (s : Rd) (e : Nat) (h : s.e ≠ 0) : s.fail e = s := by unfold Rd.fail; rw [if_neg h]
theorem number_stk (b : List Int) (n : Nat) : Stk (Rd.number b n) := fun s hs => by unfold Rd.number; rw [if_neg hs]
theorem whole_stk (b : List Int) (n : Nat) : Stk (Rd.whole b n) := number_stk b n
theorem flag_stk (b : List Int) (n : Nat) : Stk (Rd.flag b n) := fun s hs => by
  have h : (s.next b n) = (0, s) := by unfold Rd.next; rw [if_neg hs]
  unfold Rd.flag
  rw [h]; simp
theorem size_stk (b : List Int) (n lim : Nat) : Stk (Rd.size b n lim) := fun s hs => by
  have h : (s.number b n) = (0, s) := by unfold Rd.number; rw [if_neg hs]
  unfold Rd.size
  rw [h]; simp
theorem int_stk (b : List Int) (n : Nat) : Stk (Rd.int b n) := fun s hs => by
  have h : (s.number b n) = (0, s) := by unfold Rd.number; rw [if_neg hs]
  unfold Rd.int
  rw [h]
  simp [hs]
theorem listR_stk {α : Type} (one : Rd → α × Rd) : ∀ (f : Nat) (s : Rd) (acc : List α), s.e ≠ 0 → listR one f s acc = (acc, s)
  | 0, _, _, _ => rfl
  | f + 1, s, acc, h => by unfold listR; rw [if_neg h]
theorem list_stk {α : Type} (b : List Int) (n : Nat) (one : Rd → α × Rd) : Stk (Rd.list b n one) := fun s hs => by
  have h := size_stk b n 4000 s hs
  unfold Rd.list
  rw [listR_stk _ _ _ _ (by rw [h]; exact hs), h]
theorem next_rds {b : List Int} {n p : Nat} {x : Int} {l : List Int} (ha : At b n p (x :: l)) : (p + 1 ≤ n → Rd.next b n ⟨p, 0⟩ = (x, ⟨p + 1, 0⟩)) ∧ (n < p + 1 → Rd.next b n ⟨p, 0⟩ = (0, ⟨p, 5⟩)) := by
  unfold Rd.next
  rw [if_pos rfl]
  refine ⟨fun h => ?_, fun h => ?_⟩
  · rw [if_pos (show p < n by omega)]; simp only; rw [ha.head (by omega)]
  · rw [if_neg (by simp only; omega)]
theorem numR_short {b : List Int} {n p i f acc : Nat} (h : Rd.next b n ⟨p, 0⟩ = (0, ⟨p, 5⟩)) (hf : 0 < f) : (Rd.numR b n f i acc ⟨p, 0⟩).2.e = 5 := by
  obtain ⟨f, rfl⟩ : ∃ g, f = g + 1 := ⟨f - 1, by omega⟩
  rw [numR_step _ _ _ h, if_pos (by decide)]
  simp only
  split
  · rw [fail_e _ _ (by simp)]
  · rfl
theorem numR_rds (b : List Int) (n : Nat) : ∀ (u i f acc p : Nat), i + f = 10 → u * 128 ^ i < 18446744073709551616 → (0 < i → 0 < u) → At b n p (num u) → p ≤ n →
    (p + (num u).length ≤ n → Rd.numR b n f i acc ⟨p, 0⟩ = (acc + u * 128 ^ i, ⟨p + (num u).length, 0⟩)) ∧ (n < p + (num u).length → (Rd.numR b n f i acc ⟨p, 0⟩).2.e = 5) := by
  intro u
  induction u using Nat.strongRecOn with
  | _ u ih =>
    intro i f acc p hi hu h0 ha hp
    have c9 : (128 : Nat) ^ 9 = 9223372036854775808 := by decide
    have c10 : (128 : Nat) ^ 10 = 1180591620717411303424 := by decide
    have hf : 0 < f := by
      rcases Nat.eq_zero_or_pos f with h | h
      · have : i = 10 := by omega
        subst this
        rw [c10] at hu
        have := h0 (by omega)
        omega
      · exact h
    obtain ⟨f, rfl⟩ : ∃ g, f = g + 1 := ⟨f - 1, by omega⟩
    by_cases h1 : u < 128
    · rw [num_lt h1] at ha ⊢
      obtain ⟨n1, n2⟩ := next_rds (n := n) ha
      simp only [List.length_cons, List.length_nil, Nat.zero_add]
      refine ⟨fun h => ?_, fun h => numR_short (n2 h) hf⟩
      have hb : ¬ badN i (u : Int) := by
        rintro (⟨h9, hx⟩ | ⟨hi0, hx⟩)
        · subst h9; rw [c9] at hu; omega
        · have := h0 hi0; omega
      rw [numR_step _ _ _ (n1 h), if_pos (by omega), if_neg hb]
      have : ((u : Int)).toNat % 128 = u := by rw [Int.toNat_natCast]; omega
      rw [this]
    · rw [num_ge h1] at ha ⊢
      obtain ⟨n1, n2⟩ := next_rds (n := n) ha
      have ht := ha.tail
      simp only [List.length_cons]
      by_cases hpn : p + 1 ≤ n
      · have hpos : 128 ^ i > 0 := Nat.pow_pos (by omega)
        have hi9 : i ≠ 9 := by
          intro h9; subst h9; rw [c9] at hu; omega
        have hb : ¬ badN i ((u % 128 + 128 : Nat) : Int) := by
          rintro (⟨h9, hx⟩ | ⟨hi0, hx⟩)
          · exact hi9 h9
          · omega
        have e1 : (((u % 128 + 128 : Nat) : Int)).toNat % 128 = u % 128 := by rw [Int.toNat_natCast]; omega
        have hq : u / 128 * 128 ^ (i + 1) ≤ u * 128 ^ i := by
          rw [Nat.pow_succ, Nat.mul_comm (128 ^ i) 128, ← Nat.mul_assoc]
          exact Nat.mul_le_mul_right _ (by omega)
        obtain ⟨r1, r2⟩ := ih (u / 128) (by omega) (i + 1) f (acc + u % 128 * 128 ^ i) (p + 1) (by omega) (by omega) (fun _ => by omega) ht hpn
        rw [numR_step _ _ _ (n1 hpn), if_neg (by omega), if_neg hb, if_pos rfl, e1]
        refine ⟨fun h => ?_, fun h => r2 (by omega)⟩
        rw [r1 (by omega)]
        have e2 : u % 128 * 128 ^ i + u / 128 * 128 ^ (i + 1) = u * 128 ^ i := by
          rw [Nat.pow_succ, Nat.mul_comm (128 ^ i) 128, ← Nat.mul_assoc, ← Nat.add_mul]
          congr 1; omega
        rw [Nat.add_assoc, e2]
        congr 2; omega
      · exact ⟨fun h => by omega, fun _ => numR_short (n2 (by omega)) hf⟩
theorem number_rds (b : List Int) (n u : Nat) (hu : u < 18446744073709551616) : Rds b n (Rd.number b n) (num u) u := fun p ha hp => by
  obtain ⟨h1, h2⟩ := numR_rds b n u 0 10 0 p rfl (by simpa using hu) (fun h => by omega) ha hp
  unfold Rd.number outR
  rw [if_pos rfl]
  refine ⟨fun h => ?_, fun h => ?_⟩
  · rw [h1 h, if_pos rfl]; simp
  · have h5 := h2 h
    rw [if_neg (by rw [h5]; decide)]
    exact h5
theorem zag_zig {z : Int} (h : I64 z) : zag (zig z) = z := by
  unfold zag zig
  unfold I64 at h
  by_cases h0 : z < 0
  · rw [if_pos h0, if_pos (by omega)]; omega
  · rw [if_neg h0, if_neg (by omega)]; omega
theorem whole_rds (b : List Int) (n : Nat) {z : Int} (h : I64 z) : Rds b n (Rd.whole b n) (whl z) z := fun p ha hp => by
  obtain ⟨h1, h2⟩ := number_rds b n (zig z) (zig_lt h) p ha hp
  unfold Rd.whole
  refine ⟨fun hl => ?_, fun hl => h2 hl⟩
  rw [h1 hl, zag_zig h]; rfl
theorem size_rds (b : List Int) (n lim u : Nat) (hu : u ≤ lim) (hl : lim ≤ 1000000) : Rds b n (Rd.size b n lim) (num u) u := fun p ha hp => by
  obtain ⟨h1, h2⟩ := number_rds b n u (by omega) p ha hp
  unfold Rd.size
  refine ⟨fun hl => ?_, fun hl => ?_⟩
  · rw [h1 hl, if_neg (by simp only; omega)]
  · have h5 := h2 hl
    split
    · rw [fail_e _ _ (by rw [h5]; decide)]; exact h5
    · exact h5
theorem flag_rds (b : List Int) (n : Nat) (x : Bool) : Rds b n (Rd.flag b n) (flg x) x := fun p ha hp => by
  obtain ⟨n1, n2⟩ := next_rds (n := n) ha
  have hl : (flg x).length = 1 := rfl
  unfold Rd.flag
  rw [hl]
  refine ⟨fun h => ?_, fun h => ?_⟩
  · rw [n1 h]
    cases x <;> rfl
  · rw [n2 h]; rfl
theorem b4_le4 {b : List Int} {n p x : Nat} (ha : At b n p (b4 x)) (hx : x < 4294967296) (hn : p + 4 ≤ n) : le4 b p = x := by
  have h0 := ha.getD (i := 0) (by simp [b4]) (by omega)
  have h1 := ha.getD (i := 1) (by simp [b4]) (by omega)
  have h2 := ha.getD (i := 2) (by simp [b4]) (by omega)
  have h3 := ha.getD (i := 3) (by simp [b4]) (by omega)
  unfold b4 at h0 h1 h2 h3
  simp only [List.getD_cons_zero, List.getD_cons_succ, Nat.add_zero] at h0 h1 h2 h3
  unfold le4
  rw [h0, h1, h2, h3]
  simp only [Int.toNat_natCast]
  omega
theorem lims_at {b : List Int} {n : Nat} : ∀ {l : List Nat} {p : Nat}, At b n p (lbs l) → limbs l → p + 4 * l.length ≤ n → lims b p l.length = l
  | [], _, _, _, _ => rfl
  | x :: l, p, ha, hl, hn => by
    rw [List.length_cons] at hn
    have e : lbs (x :: l) = b4 x ++ lbs l := rfl
    rw [e] at ha
    have h1 := b4_le4 ha.left (hl x (by simp)) (by omega)
    have h2 := lims_at (l := l) ha.right (fun y hy => hl y (by simp [hy])) (by show p + 4 + 4 * l.length ≤ n; omega)
    have e2 : lims b p (x :: l).length = le4 b p :: lims b (p + 4) l.length := by
      unfold lims
      rw [List.length_cons, List.range_succ_eq_map, List.map_cons, List.map_map]
      congr 1
      apply List.map_congr_left
      intro j _
      show le4 b (p + 4 * (j + 1)) = le4 b (p + 4 + 4 * j)
      congr 1; omega
    rw [e2, h1, show (p + 4) = p + (b4 x).length from rfl, h2]
theorem vlim_of (z : Int) : vLim (decide (z < 0)) (limbsOf z.natAbs) = true := by
  unfold vLim
  by_cases h : (limbsOf z.natAbs).length = 0
  · rw [if_pos h]
    have h0 : limbsOf z.natAbs = [] := List.eq_nil_of_length_eq_zero h
    have := limbsOf_val z.natAbs
    rw [h0] at this
    have hz : z.natAbs = 0 := this.symm
    simp; omega
  · rw [if_neg h]
    have hc := limbsOf_canon z.natAbs
    have hn : limbsOf z.natAbs ≠ [] := fun e => h (by rw [e]; rfl)
    have := hc hn
    rw [List.getLast_eq_getElem] at this
    rw [bne_iff_ne]
    rw [List.getD_eq_getElem?_getD, List.getElem?_eq_getElem (by omega), Option.getD_some]
    omega
theorem int_rds (b : List Int) (n : Nat) {z : Int} (hz : (limbsOf z.natAbs).length ≤ 4000) : Rds b n (Rd.int b n) (int_ z) z := fun p ha hp => by
  have hh : hdI z = 2 * (limbsOf z.natAbs).length + (if z < 0 then 1 else 0) := rfl
  have hm : hdI z / 2 = (limbsOf z.natAbs).length := by rw [hh]; split <;> omega
  have hn : (hdI z % 2 == 1) = decide (z < 0) := by
    rw [hh]; split
    · rename_i h; rw [decide_eq_true h]; simp <;> omega
    · rename_i h; rw [decide_eq_false h]; simp <;> omega
  obtain ⟨h1, h2⟩ := number_rds b n (hdI z) (by rw [hh]; split <;> omega) p ha.left hp
  have hl : (int_ z).length = (num (hdI z)).length + 4 * (limbsOf z.natAbs).length := by unfold int_; rw [List.length_append, lbs_len]
  unfold Rd.int
  rw [hl]
  by_cases hc : p + (num (hdI z)).length ≤ n
  · rw [h1 hc]
    have h40 : ¬ (limbsOf z.natAbs).length > 4000 := by omega
    simp only [hm, hn, if_neg h40]
    by_cases hd : p + (num (hdI z)).length + 4 * (limbsOf z.natAbs).length ≤ n
    · have hx : ¬ (True ∧ (n - (p + (num (hdI z)).length)) / 4 < (limbsOf z.natAbs).length) := by omega
      simp only [if_neg hx, if_true]
      rw [lims_at ha.right (limbsOf_limbs _) hd, if_pos (vlim_of z), limbsOf_val]
      refine ⟨fun _ => ?_, fun h => by omega⟩
      have : sgn (decide (z < 0)) z.natAbs = z := by
        by_cases h : z < 0
        · simp [sgn, h]; omega
        · simp [sgn, h]; omega
      rw [this, Nat.add_assoc]
    · have hx : True ∧ (n - (p + (num (hdI z)).length)) / 4 < (limbsOf z.natAbs).length := ⟨trivial, by omega⟩
      simp only [if_pos hx]
      refine ⟨fun h => by omega, fun _ => ?_⟩
      rw [if_neg (by simp [Rd.fail])]
      rfl
  · have h5 := h2 (by omega)
    refine ⟨fun h => by omega, fun _ => ?_⟩
    generalize (Rd.number b n ⟨p, 0⟩) = r at *
    obtain ⟨u, s⟩ := r
    simp only at h5 ⊢
    have hs : s.e ≠ 0 := by omega
    simp [fail_e _ _ hs, h5]
theorem listR_rds {α : Type} {b : List Int} {n : Nat} {one : Rd → α × Rd} {E : α → List Int} (hs : Stk one) : ∀ (l : List α) (acc : List α) (p : Nat), (∀ x ∈ l, Rds b n one (E x) x) → At b n p (l.flatMap E) → p ≤ n →
    (p + (l.flatMap E).length ≤ n → listR one l.length ⟨p, 0⟩ acc = (acc ++ l, ⟨p + (l.flatMap E).length, 0⟩)) ∧ (n < p + (l.flatMap E).length → (listR one l.length ⟨p, 0⟩ acc).2.e = 5)
  | [], acc, p, _, _, hp => ⟨fun _ => by simp [listR], fun h => by simp at h; omega⟩
  | x :: l, acc, p, h, ha, hp => by
    rw [List.flatMap_cons] at ha ⊢
    rw [List.length_append, List.length_cons]
    obtain ⟨h1, h2⟩ := h x (by simp) p ha.left hp
    unfold listR
    rw [if_pos rfl]
    by_cases hc : p + (E x).length ≤ n
    · rw [h1 hc]
      obtain ⟨r1, r2⟩ := listR_rds hs l (acc ++ [x]) (p + (E x).length) (fun y hy => h y (by simp [hy])) ha.right hc
      simp only
      refine ⟨fun hl => ?_, fun hl => r2 (by omega)⟩
      rw [r1 (by omega)]
      simp [Nat.add_assoc]
    · have h5 := h2 (by omega)
      refine ⟨fun h => by omega, fun _ => ?_⟩
      rw [listR_stk _ _ _ _ (by rw [h5]; decide)]
      exact h5
theorem list_rds {α : Type} {b : List Int} {n : Nat} {one : Rd → α × Rd} {E : α → List Int} (hs : Stk one) (l : List α) (hl : l.length ≤ 4000) (h : ∀ x ∈ l, Rds b n one (E x) x) : Rds b n (Rd.list b n one) (lst E l) l := fun p ha hp => by
  obtain ⟨h1, h2⟩ := size_rds b n 4000 l.length hl (by omega) p ha.left hp
  have hL : (lst E l).length = (num l.length).length + (l.flatMap E).length := List.length_append
  unfold Rd.list
  rw [hL]
  by_cases hc : p + (num l.length).length ≤ n
  · rw [h1 hc]
    obtain ⟨r1, r2⟩ := listR_rds hs l [] (p + (num l.length).length) h ha.right hc
    simp only
    refine ⟨fun h => ?_, fun h => r2 (by omega)⟩
    rw [r1 (by omega), List.nil_append, Nat.add_assoc]
  · have h5 := h2 (by omega)
    refine ⟨fun h => by omega, fun _ => ?_⟩
    rw [listR_stk _ _ _ _ (by rw [h5]; decide)]
    exact h5
theorem face_rds (b : List Int) (n : Nat) {x : Int × Int} (h1 : I64 x.1) (h2 : (limbsOf x.2.natAbs).length ≤ 4000) : Rds b n (Rd.face b n) (fc_ x) x :=
  (whole_rds b n h1).seq (mk := Prod.mk) (int_rds b n h2) (int_stk b n)
theorem face_stk (b : List Int) (n : Nat) : Stk (Rd.face b n) := (whole_stk b n).seq (mk := Prod.mk) (int_stk b n)
def CelFit (x : Cel) : Prop := I64 x.id ∧ I64 x.dim ∧ x.B.length ≤ 4000 ∧ ∀ y ∈ x.B, I64 y.1 ∧ (limbsOf y.2.natAbs).length ≤ 4000
theorem cell_rds (b : List Int) (n : Nat) {x : Cel} (h : CelFit x) : Rds b n (Rd.cell b n) (cel_ x) x := by
  have h1 := (whole_rds b n h.1).seq (mk := fun a (y : Int × List (Int × Int)) => (⟨a, y.1, y.2⟩ : Cel)) ((whole_rds b n h.2.1).seq (mk := Prod.mk) (list_rds (face_stk b n) x.B h.2.2.1 (fun y hy => face_rds b n (h.2.2.2 y hy).1 (h.2.2.2 y hy).2)) (list_stk b n _)) ((whole_stk b n).seq (list_stk b n _))
  rw [← List.append_assoc] at h1
  exact h1
theorem cell_stk (b : List Int) (n : Nat) : Stk (Rd.cell b n) :=
  (whole_stk b n).seq (mk := fun a (y : Int × List (Int × Int)) => (⟨a, y.1, y.2⟩ : Cel)) ((whole_stk b n).seq (mk := Prod.mk) (list_stk b n (Rd.face b n)))
def ChgFit (x : Chg) : Prop := I64 x.kind ∧ CelFit x.cell ∧ I64 x.a ∧ I64 x.b ∧ I64 x.w0 ∧ I64 x.w1
def mkCh (k : Int) (y : Cel × Int × Int × Int × Int) : Chg := ⟨k, y.1, y.2.1, y.2.2.1, y.2.2.2.1, y.2.2.2.2⟩
theorem chg_seq (b : List Int) (n : Nat) : Rd.chg b n = seqR mkCh (Rd.whole b n) (seqR Prod.mk (Rd.cell b n) (seqR Prod.mk (Rd.whole b n) (seqR Prod.mk (Rd.whole b n) (seqR Prod.mk (Rd.whole b n) (Rd.whole b n))))) := by
  funext s
  simp only [Rd.chg, seqR, mkCh]
theorem chg_rds (b : List Int) (n : Nat) {x : Chg} (h : ChgFit x) : Rds b n (Rd.chg b n) (chg_ x) x := by
  obtain ⟨h1, h2, h3, h4, h5, h6⟩ := h
  have s := whole_stk b n
  have k2 := (s.seq (mk := Prod.mk) s)
  have k3 := (s.seq (mk := Prod.mk) k2)
  have k4 := (s.seq (mk := Prod.mk) k3)
  have r := (whole_rds b n h1).seq (mk := mkCh) ((cell_rds b n h2).seq (mk := Prod.mk) ((whole_rds b n h3).seq (mk := Prod.mk) ((whole_rds b n h4).seq (mk := Prod.mk) ((whole_rds b n h5).seq (mk := Prod.mk) (whole_rds b n h6) s) k2) k3) k4) ((cell_stk b n).seq (mk := Prod.mk) k4)
  have e : chg_ x = whl x.kind ++ (cel_ x.cell ++ (whl x.a ++ (whl x.b ++ (whl x.w0 ++ whl x.w1)))) := by unfold chg_; simp only [List.append_assoc]
  rw [e, chg_seq]
  exact r
end Go.Proofs.Ytphilljhfdlfdaa
namespace Go.Proofs.Ytphilljhfdlfdaa
open Go.RowKit
def getR (z : Int) (s : Rd) : Int × Nat × Nat := if s.e = 0 then (z, s.at_, 0) else (0, 0, s.e)
def getI (b : List Int) (n : Nat) (at_ : Int) : Int × Nat × Nat := if at_ < 0 ∨ at_ > n then (0, 0, 1) else getR (Rd.int b n ⟨at_.toNat, 0⟩).1 (Rd.int b n ⟨at_.toNat, 0⟩).2
def tuI (r : Int × Nat × Nat) : V := .tu [iv r.1, .sc (.int .i64 r.2.1), .sc (.int .i64 r.2.2)]
theorem Spec.mono {P : Program} {f : Nat} {args : List V} {x x' : V} (h : Spec P f args x) (hx : ∀ (S : Nat → Prop) (rho : Nat → Nat) (w : World) (A : Nat → Prop) (v : Value), R S rho w A x v → R S rho w A x' v) : Spec P f args x' :=
  fun S w vs hS hT ha => (h S w vs hS hT ha).mono fun e w' ⟨v, he, g, hr⟩ => ⟨v, he, g, hx _ _ _ _ _ hr⟩
theorem getI_s (b : List Int) (n : Nat) (at_ : Int) (hu : U8s b) (hn : n ≤ b.length) (hb : n ≤ 1000000000) :
    Spec Try.prog 41 [.im (bw b) n, .sc (.int .i64 at_), .sc (.func (.func 42) #[] #[])] (tuI (getI b n at_)) := by
  unfold getI
  by_cases h0 : at_ < 0
  · have q1 : decide (at_ < 0) = true := decide_eq_true h0
    rw [if_pos (.inl h0)]
    refine Spec.run Try.func41 rfl Try.ntmps41 (by simp) (by simp (disch := omega) only [go_sem, zn4]; rfl) fun B hB => ?_
    (repeat (first | refine DO.nil (by kernel_rfl) ?_ | (with_reducible first | apply oz1 | apply oz2 | apply oz3 | apply oz4 | apply oz5 | apply oz6 | apply oz7 | apply oz8 | apply oz9 | apply ozb | apply ozc | apply oze | apply ozf | apply ozg | apply ozh | apply ozi | apply ozj | apply ozk | refine ozd (by decide) ?_) | ((with_reducible first | apply SC.condB | apply SC.region | apply SO.run | apply DO.run); (focus (simp (disch := omega) only [go_sem, ↓reduceIte, zn1, zn3, zn4, reduceCtorEq, q1] <;> rfl)); (first | refine pickT ?_ | refine pickF ?_ | fail_if_success with_reducible refine pickA ?_)) | ((with_reducible refine SC.draw Tab.mixed ?_ ?_); (focus rfl)) | (with_reducible apply SC.ops)))
    exact retQ_ret Try.results41 (by simp (disch := omega) only [go_sem, ↓reduceIte, zn1, zn3, zn4, reduceCtorEq] <;> rfl) (by simp (disch := omega) only [go_sem, ↓reduceIte] <;> rfl) rfl
  · have q1 : decide (at_ < 0) = false := decide_eq_false h0
    by_cases h1 : at_ > n
    · have q2 : decide (at_ > (n : Int)) = true := decide_eq_true h1
      rw [if_pos (.inr h1)]
      refine Spec.run Try.func41 rfl Try.ntmps41 (by simp) (by simp (disch := omega) only [go_sem, zn4]; rfl) fun B hB => ?_
      (repeat (first | refine DO.nil (by kernel_rfl) ?_ | (with_reducible first | apply oz1 | apply oz2 | apply oz3 | apply oz4 | apply oz5 | apply oz6 | apply oz7 | apply oz8 | apply oz9 | apply ozb | apply ozc | apply oze | apply ozf | apply ozg | apply ozh | apply ozi | apply ozj | apply ozk | refine ozd (by decide) ?_) | ((with_reducible first | apply SC.condB | apply SC.region | apply SO.run | apply DO.run); (focus (simp (disch := omega) only [go_sem, ↓reduceIte, zn1, zn3, zn4, reduceCtorEq, q1, q2] <;> rfl)); (first | refine pickT ?_ | refine pickF ?_ | fail_if_success with_reducible refine pickA ?_)) | ((with_reducible refine SC.draw Tab.mixed ?_ ?_); (focus rfl)) | (with_reducible apply SC.ops)))
      exact retQ_ret Try.results41 (by simp (disch := omega) only [go_sem, ↓reduceIte, zn1, zn3, zn4, reduceCtorEq] <;> rfl) (by simp (disch := omega) only [go_sem, ↓reduceIte] <;> rfl) rfl
    · have q2 : decide (at_ > (n : Int)) = false := decide_eq_false h1
      rw [if_neg (by omega)]
      obtain ⟨a, rfl⟩ : ∃ a : Nat, at_ = a := ⟨at_.toNat, by omega⟩
      have c1 := rint_s b n ⟨a, 0⟩ hu hn hb (by simp only; omega)
      rw [show ((a : Int)).toNat = a from rfl]
      generalize Rd.int b n ⟨a, 0⟩ = r at *
      obtain ⟨z, s⟩ := r
      simp only at c1 ⊢
      unfold rdB at c1
      unfold getR
      by_cases he : s.e = 0
      · have q3 : ((s.e : Int) != 0) = false := by rw [he]; rfl
        rw [if_pos he]
        unfold tuI
        simp only
        unfold iv sv at c1 ⊢
        refine Spec.run Try.func41 rfl Try.ntmps41 (by simp) (by simp (disch := omega) only [go_sem, zn4]; rfl) fun B hB => ?_
        (repeat (first | refine DO.nil (by kernel_rfl) ?_ | (with_reducible first | apply oz1 | apply oz2 | apply oz3 | apply oz4 | apply oz5 | apply oz6 | apply oz7 | apply oz8 | apply oz9 | apply ozb | apply ozc | apply oze | apply ozf | apply ozg | apply ozh | apply ozi | apply ozj | apply ozk | refine ozd (by decide) ?_) | ((with_reducible first | apply SC.condB | apply SC.region | apply SO.run | apply DO.run); (focus (simp (disch := omega) only [go_sem, ↓reduceIte, zn1, zn3, zn4, reduceCtorEq, q1, q2] <;> rfl)); (first | refine pickT ?_ | refine pickF ?_ | fail_if_success with_reducible refine pickA ?_)) | ((with_reducible refine SC.draw Tab.mixed ?_ ?_); (focus rfl)) | (with_reducible apply SC.ops)))
        (refine SO.inlQ (by simp (disch := omega) only [go_sem, ↓reduceIte, zn1] <;> rfl) Tab.go42 (by simp (disch := omega) only [go_sem, ↓reduceIte] <;> rfl) (by simp (disch := omega) only [go_sem] <;> rfl) (SInlQ.rd (c1) (by simp (disch := omega) only [go_sem, ↓reduceIte] <;> rfl) rfl (by first | omega | (dsimp only; omega)) (by simp (disch := omega) only [go_sem, ↓reduceIte] <;> rfl) ?_))
        (repeat (first | refine DO.nil (by kernel_rfl) ?_ | (with_reducible first | apply oz1 | apply oz2 | apply oz3 | apply oz4 | apply oz5 | apply oz6 | apply oz7 | apply oz8 | apply oz9 | apply ozb | apply ozc | apply oze | apply ozf | apply ozg | apply ozh | apply ozi | apply ozj | apply ozk | refine ozd (by decide) ?_) | ((with_reducible first | apply SC.condB | apply SC.region | apply SO.run | apply DO.run); (focus (simp (disch := omega) only [go_sem, ↓reduceIte, zn1, zn2, zn3, zn4, reduceCtorEq, q3] <;> rfl)); (first | refine pickT ?_ | refine pickF ?_ | fail_if_success with_reducible refine pickA ?_)) | ((with_reducible refine SC.draw Tab.mixed ?_ ?_); (focus rfl)) | (with_reducible apply SC.ops)))
        exact retQ_ret Try.results41 (by simp (disch := omega) only [go_sem, ↓reduceIte, zn1, zn3, zn4, reduceCtorEq] <;> rfl) (by simp (disch := omega) only [go_sem, ↓reduceIte] <;> rfl) rfl
      · have q3 : ((s.e : Int) != 0) = true := by rw [bne_iff_ne]; omega
        rw [if_neg he]
        unfold iv sv at c1
        refine Spec.run Try.func41 rfl Try.ntmps41 (by simp) (by simp (disch := omega) only [go_sem, zn4]; rfl) fun B hB => ?_
        (repeat (first | refine DO.nil (by kernel_rfl) ?_ | (with_reducible first | apply oz1 | apply oz2 | apply oz3 | apply oz4 | apply oz5 | apply oz6 | apply oz7 | apply oz8 | apply oz9 | apply ozb | apply ozc | apply oze | apply ozf | apply ozg | apply ozh | apply ozi | apply ozj | apply ozk | refine ozd (by decide) ?_) | ((with_reducible first | apply SC.condB | apply SC.region | apply SO.run | apply DO.run); (focus (simp (disch := omega) only [go_sem, ↓reduceIte, zn1, zn3, zn4, reduceCtorEq, q1, q2] <;> rfl)); (first | refine pickT ?_ | refine pickF ?_ | fail_if_success with_reducible refine pickA ?_)) | ((with_reducible refine SC.draw Tab.mixed ?_ ?_); (focus rfl)) | (with_reducible apply SC.ops)))
        (refine SO.inlQ (by simp (disch := omega) only [go_sem, ↓reduceIte, zn1] <;> rfl) Tab.go42 (by simp (disch := omega) only [go_sem, ↓reduceIte] <;> rfl) (by simp (disch := omega) only [go_sem] <;> rfl) (SInlQ.rd (c1) (by simp (disch := omega) only [go_sem, ↓reduceIte] <;> rfl) rfl (by first | omega | (dsimp only; omega)) (by simp (disch := omega) only [go_sem, ↓reduceIte] <;> rfl) ?_))
        (repeat (first | refine DO.nil (by kernel_rfl) ?_ | (with_reducible first | apply oz1 | apply oz2 | apply oz3 | apply oz4 | apply oz5 | apply oz6 | apply oz7 | apply oz8 | apply oz9 | apply ozb | apply ozc | apply oze | apply ozf | apply ozg | apply ozh | apply ozi | apply ozj | apply ozk | refine ozd (by decide) ?_) | ((with_reducible first | apply SC.condB | apply SC.region | apply SO.run | apply DO.run); (focus (simp (disch := omega) only [go_sem, ↓reduceIte, zn1, zn3, zn4, reduceCtorEq, q3] <;> rfl)); (first | refine pickT ?_ | refine pickF ?_ | fail_if_success with_reducible refine pickA ?_)) | ((with_reducible refine SC.draw Tab.mixed ?_ ?_); (focus rfl)) | (with_reducible apply SC.ops)))
        exact retQ_ret Try.results41 (by simp (disch := omega) only [go_sem, ↓reduceIte, zn1, zn3, zn4, reduceCtorEq] <;> rfl) (by simp (disch := omega) only [go_sem, ↓reduceIte] <;> rfl) rfl
end Go.Proofs.Ytphilljhfdlfdaa
namespace Go.Proofs.Ytphilljhfdlfdaa
open Go.RowKit
theorem idleGI : Idle Try.prog 40 := Idle.of Tab.go40 Try.func40 rfl rfl rfl rfl Try.ntmps40 Try.results40
theorem GetInt_s (b : List Int) (n : Nat) (at_ : Int) (hu : U8s b) (hn : n ≤ b.length) (hb : n ≤ 1000000000) :
    Spec Try.prog 15 [.im (bw b) n, .sc (.int .i64 at_)] (tuI (getI b n at_)) := by
  have c1 := getI_s b n at_ hu hn hb
  generalize getI b n at_ = r at *
  obtain ⟨z, i, e⟩ := r
  unfold tuI iv sv at c1 ⊢
  simp only at c1 ⊢
  refine Spec.runD Try.func15 rfl rfl rfl rfl idleGI Try.ntmps15 (by simp) (by simp (disch := omega) only [go_sem, zn4]; rfl) (by simp (disch := omega) only [go_sem, ↓reduceIte]; rfl) fun B hB => ?_
  (repeat (first | refine DO.nil (by kernel_rfl) ?_ | (with_reducible first | apply oz1 | apply oz2 | apply oz3 | apply oz4 | apply oz5 | apply oz6 | apply oz7 | apply oz8 | apply oz9 | apply ozb | apply ozc | apply oze | apply ozf | apply ozg | apply ozh | apply ozi | apply ozj | apply ozk | refine ozd (by decide) ?_) | ((first | apply SO.call | apply DO.call); (iterate 3 (focus (simp (disch := omega) only [go_sem, ↓reduceIte, zn1] <;> rfl))); (first | apply SCall.ofX | apply DCall.ofX); (focus (first | assumption | exact c1)); (focus (simp (disch := omega) only [go_sem] <;> rfl))) | ((with_reducible first | apply SC.condB | apply SC.region | apply SO.run | apply DO.run); (focus (simp (disch := omega) only [go_sem, ↓reduceIte, zn1, zn2, zn3, zn4, reduceCtorEq] <;> rfl)); (first | refine pickT ?_ | refine pickF ?_ | fail_if_success with_reducible refine pickA ?_)) | ((with_reducible refine SC.draw Tab.mixed ?_ ?_); (focus rfl)) | (with_reducible apply SC.ops)))
  exact retQ_ret Try.results15 (by simp (disch := omega) only [go_sem, ↓reduceIte, zn1, zn3, zn4] <;> rfl) (by simp (disch := omega) only [go_sem, ↓reduceIte] <;> rfl) rfl
end Go.Proofs.Ytphilljhfdlfdaa
namespace Go.Proofs.Ytphilljhfdlfdaa
open Go.RowKit
def salR (b : List Int) (n : Nat) : Nat → Rd → List Chg → Nat → List Chg × Rd × Nat
  | 0, s, log, e => (log, s, e)
  | f + 1, s, log, e => if (s.step b n log).1 = true then salR b n f (s.step b n log).2.1 (s.step b n log).2.2 (s.step b n log).2.1.at_ else (log, (s.step b n log).2.1, e)
def salH (b : List Int) (n : Nat) : Hst × Nat :=
  let r := Rd.begin b n ⟨0, 0⟩
  if r.2.e = 0 then
    let l := salR b n 4001 r.2 [] r.2.at_
    (⟨r.1.1, r.1.2, l.1⟩, if l.2.1.e = 0 then l.2.1.at_ else l.2.2)
  else (⟨0, [], []⟩, 0)
theorem idleSV : Idle Try.prog 60 := Idle.of Tab.go60 Try.func60 rfl rfl rfl rfl Try.ntmps60 Try.results60
def tuS (r : Hst × Nat) : V := .tu [hstC r.1, .sc (.int .i64 r.2)]
set_option maxHeartbeats 8000000 in
theorem Salvage_s (b : List Int) (n : Nat) (hu : U8s b) (hn : n ≤ b.length) (hb : n ≤ 1000000000) :
    Spec Try.prog 24 [.im (bw b) n] (tuS (salH b n)) := by
  refine Spec.runD Try.func24 rfl rfl rfl rfl idleSV Try.ntmps24 (by simp) (by simp (disch := omega) only [go_sem]; rfl) (by simp (disch := omega) only [go_sem, ↓reduceIte]; rfl) fun B hB => ?_
  have c1 := rbegin_s b n ⟨0, 0⟩ hu hn hb (Nat.zero_le _)
  have hat := begin_at (b := b) (n := n) (s := ⟨0, 0⟩) (Nat.zero_le _)
  unfold salH
  generalize Rd.begin b n ⟨0, 0⟩ = r at *
  obtain ⟨⟨st, bs⟩, s1⟩ := r
  simp only at c1 hat ⊢
  unfold begC rdB at c1
  simp only at c1
  by_cases he : s1.e = 0
  · rw [if_pos he]
    have q1 : ((s1.e : Int) != 0) = false := by rw [he]; rfl
    generalize hL : salR b n 4001 s1 [] s1.at_ = L
    obtain ⟨lg, s9, en⟩ := L
    simp only
    (repeat (first | refine DO.nilF (fun i => i + 1 - nx) (by simp (disch := omega) only [go_sem, ↓reduceIte, zn1, zn2, zn3, zn4, zn5, zn6, reduceCtorEq, zn7, zi1, zi2, if_pos, if_neg, List.map_cons, List.map_nil, Option.map_some, Option.map_none, Nat.add_sub_cancel_left, Nat.sub_eq_zero_of_le, Nat.add_assoc, zn4] <;> rfl) (by kernel_rfl) ?_ | (with_reducible first | apply oz1 | apply oz2 | apply oz3 | apply oz4 | apply oz5 | apply oz6 | apply oz7 | apply oz8 | apply oz9 | apply ozb | apply ozc | apply oze | apply ozf | apply ozg | apply ozh | apply ozi | apply ozj | apply ozk | refine ozd (by decide) ?_) | ((first | apply SO.call | apply DO.call); (iterate 3 (focus (simp (disch := omega) only [go_sem, ↓reduceIte] <;> rfl))); (first | apply SCall.ofX | apply DCall.ofX); (focus (first | assumption)); (focus (simp (disch := omega) only [go_sem, ↓reduceIte, zn1, zn2, zn3, zn4, zn5, zn6, reduceCtorEq, zn7, zi1, zi2, if_pos, if_neg] <;> rfl))) | ((with_reducible first | apply SC.condB | apply SC.region | apply SO.run | apply DO.run); (focus (simp (disch := omega) only [go_sem, ↓reduceIte, zn3, zn4, reduceCtorEq] <;> rfl)); (first | refine pickT ?_ | refine pickF ?_ | fail_if_success with_reducible refine pickA ?_)) | ((with_reducible refine SC.draw Tab.mixed ?_ ?_); (focus rfl)) | (with_reducible apply SC.ops)))
    (refine SO.inlQ (by simp (disch := omega) only [go_sem] <;> rfl) Tab.go61 (by simp (disch := omega) only [go_sem, ↓reduceIte] <;> rfl) (by simp (disch := omega) only [go_sem] <;> rfl) (SInlQ.rd (c1) (by simp (disch := omega) only [go_sem, ↓reduceIte] <;> rfl) rfl (by first | omega | (dsimp only; omega) | (simp (disch := omega) only [go_sem] <;> omega)) (by simp (disch := omega) only [go_sem, ↓reduceIte] <;> rfl) ?_))
    (repeat (first | refine DO.nilF (fun i => i + 1 - nx) (by simp (disch := omega) only [go_sem, ↓reduceIte, zn1, zn2, zn3, zn4, zn5, zn6, reduceCtorEq, zn7, zi1, zi2, if_pos, if_neg, List.map_cons, List.map_nil, Option.map_some, Option.map_none, Nat.add_sub_cancel_left, Nat.sub_eq_zero_of_le, Nat.add_assoc, zn4] <;> rfl) (by kernel_rfl) ?_ | (with_reducible first | apply oz1 | apply oz2 | apply oz3 | apply oz4 | apply oz5 | apply oz6 | apply oz7 | apply oz8 | apply oz9 | apply ozb | apply ozc | apply oze | apply ozf | apply ozg | apply ozh | apply ozi | apply ozj | apply ozk | refine ozd (by decide) ?_) | ((with_reducible first | apply SC.condB | apply SC.region | apply SO.run | apply DO.run); (focus (simp (disch := omega) only [go_sem, ↓reduceIte, zn1, zn3, zn4, reduceCtorEq, q1] <;> rfl)); (first | refine pickT ?_ | refine pickF ?_ | fail_if_success with_reducible refine pickA ?_)) | ((with_reducible refine SC.draw Tab.mixed ?_ ?_); (focus rfl)) | (with_reducible apply SC.ops)))
    refine SC.weak (by simp) (nilRowZ (z := 8) (tO := 67) (sl' := [(2, .pt 0 0), (3, .sc (.int .i64 0)), (4, .pt 1 0), (5, .pt 2 0), (6, .sc (.int .i64 s1.at_))]) (rest := [(0, ⟨52, [.sc (.int .i64 0), .sc (.slice none 0 0), .sc (.slice none 0 0)], false⟩), (1, rdB b n s1)]) (pre := [.sc (.int .i64 st), .im (cels bs) bs.length]) 2 3 hB (by simp (disch := omega) only [go_sem, ↓reduceIte] <;> rfl) rfl (by omega) ?_ (by omega) ?_) ?_
    · exact ⟨⟨by omega, by omega, by omega, by simp, by simp (disch := omega) only [go_sem, ↓reduceIte, reduceCtorEq] <;> rfl, rfl⟩, ⟨by omega, by omega, by omega, by simp, by simp (disch := omega) only [go_sem, ↓reduceIte, zn1] <;> rfl, rfl⟩, trivial⟩
    · (repeat' (first | exact trivial | refine mapSl_cons (by simp (disch := omega) only [go_sem, ↓reduceIte, zn1] <;> rfl) ?_ ?_ | exact VMap.junk _ | exact VMap.sc _ | exact VMap.clo rfl | exact VMap.sl rfl (by omega) | exact VMap.cap rfl (by omega) | exact VMap.pt rfl (by omega) | exact VMap.nil_sl _ _ _ | exact VMap.int (by first | rfl | omega | (dsimp only; omega))))
    simp only [List.cons_append, List.nil_append]
    refine SC.loop (fun z : Rd × List Chg × Nat × Nat × Nat => ⟨[(2, .pt 0 0), (3, .sc (.int .i64 0)), (4, .pt 1 0), (5, .pt 2 0), (6, .sc (.int .i64 z.2.2.2.2))], [(0, ⟨52, [.sc (.int .i64 0), .sc (.slice none 0 0), .sc (.slice none 0 0)], false⟩), (1, rdB b n z.1), (2, ⟨52, [.sc (.int .i64 st), .im (cels bs) bs.length, .sl z.2.2.1 0 z.2.1.length 8 none], false⟩), (z.2.2.1, ⟨67, chgs z.2.1, false⟩)], z.2.2.2.1, 39⟩)
      (fun z => z.2.1.length ≤ 4000 ∧ salR b n (4001 - z.2.1.length) z.1 z.2.1 z.2.2.2.2 = (lg, s9, en) ∧ z.1.at_ ≤ n ∧ 3 ≤ z.2.2.1 ∧ z.2.2.1 < z.2.2.2.1) (fun z => 4001 - z.2.1.length) (s1, [], 3, 4, s1.at_) ?_ ?_ ?_
    · unfold chgs
      (refine Le.slots ?_ ?_ ?_ <;> (repeat' (first | (exact fun _ _ h => h) | exact Nat.le_refl _ | exact leSl_nil | refine leSl_cons (by simp (disch := omega) only [go_sem, ↓reduceIte, zn1] <;> rfl) ?_ ?_ | exact VLe.junk _ | exact VLe.refl rfl | exact VLe.nil_sl _ _ _ | exact VLe.int (by first | rfl | omega | (dsimp only; omega)) | exact VLe.bool rfl | exact VLe.sl rfl (by first | rfl | omega) | exact VLe.cap rfl (by first | rfl | omega) | exact VLe.im rfl rfl | omega | (refine fun id k h => ?_; simp only [hget] at h ⊢; (repeat' (split at h)) <;> first | (cases h; done) | (simp (disch := omega) only [if_pos, if_neg]; exact h)))))
    · exact ⟨Nat.zero_le _, hL, hat, by simp only; omega, by simp only; omega⟩
    · rintro ⟨s, log, q, m, ed⟩ ⟨hl4, hh, has, hq1, hq2⟩ K hK
      simp only at hl4 hh has hq1 hq2 ⊢
      have c5 := rstep_s b n s hu hn hb has log hl4 st (cels bs) bs.length 1 2 q m (by omega) (by omega) (by omega) (by omega) (by omega) (by omega)
      have hs1 := step_at (b := b) (log := log) has
      have hs2 := @step_len b n s log
      have h40 : 4001 - log.length = (4000 - log.length) + 1 := by omega
      rw [h40] at hh
      unfold salR at hh
      have hss := @step_same b n s log
      generalize s.step b n log = r at *
      obtain ⟨f, s2, log2⟩ := r
      simp only at hs1 hs2 hh hss
      (repeat (first | refine DO.nilF (fun i => i + 1 - nx) (by simp (disch := omega) only [go_sem, ↓reduceIte, zn1, zn2, zn3, zn4, zn5, zn6, reduceCtorEq, zn7, zi1, zi2, if_pos, if_neg, List.map_cons, List.map_nil, Option.map_some, Option.map_none, Nat.add_sub_cancel_left, Nat.sub_eq_zero_of_le, Nat.add_assoc, zn4] <;> rfl) (by kernel_rfl) ?_ | (with_reducible first | apply oz1 | apply oz2 | apply oz3 | apply oz4 | apply oz5 | apply oz6 | apply oz7 | apply oz8 | apply oz9 | apply ozb | apply ozc | apply oze | apply ozf | apply ozg | apply ozh | apply ozi | apply ozj | apply ozk | refine ozd (by decide) ?_) | ((first | apply SO.call | apply DO.call); (iterate 3 (focus (simp (disch := omega) only [go_sem, ↓reduceIte, zn1, reduceCtorEq] <;> rfl))); (first | apply SCall.ofX | apply DCall.ofX); (focus (first | assumption)); (focus (simp (disch := omega) only [go_sem, ↓reduceIte, zn1, zn2, zn3, zn4, zn5, zn6, reduceCtorEq, zn7, zi1, zi2, if_pos, if_neg] <;> rfl))) | ((with_reducible first | apply SC.condB | apply SC.region | apply SO.run | apply DO.run); (focus (simp (disch := omega) only [go_sem, ↓reduceIte, zn1] <;> rfl)); (first | refine pickT ?_ | refine pickF ?_ | fail_if_success with_reducible refine pickA ?_)) | ((with_reducible refine SC.draw Tab.mixed ?_ ?_); (focus rfl)) | (with_reducible apply SC.ops)))
      refine SO.inlQ (by simp (disch := omega) only [go_sem] <;> rfl) Tab.go62 (by simp (disch := omega) only [go_sem, ↓reduceIte, zn1] <;> rfl) (by simp (disch := omega) only [go_sem] <;> rfl) (SInlQ.part [(0, _)] (fun i => i ≠ 0) c5 ?_ ?_ (rstep_part (by omega) (by omega) (by omega) (by omega)) ?_)
      · intro id kk hg
        simp only [hget] at hg
        split at hg
        · rename_i e; exact fun h => h e
        · cases hg
      · intro id kk hg
        simp only [hget] at hg
        repeat' split at hg
        · omega
        · omega
        · omega
        · cases hg
      rintro y hp' nx' ⟨rfl, q', hq', rfl⟩
      simp only [List.cons_append, List.nil_append]
      have kb : (1 = q') = False := by simp only [eq_iff_iff, iff_false]; omega
      have kb1 : (2 = q') = False := by simp only [eq_iff_iff, iff_false]; omega
      have kb2 : (0 = q') = False := by simp only [eq_iff_iff, iff_false]; omega
      cases f with
      | true =>
        rw [if_pos rfl] at hh
        obtain ⟨hl2, hl3⟩ := hs2 rfl
        unfold rdB
        (repeat (first | refine DO.nilF (fun i => i + 1 - nx) (by simp (disch := omega) only [go_sem, ↓reduceIte, zn1, zn2, zn3, zn4, zn5, zn6, reduceCtorEq, zn7, zi1, zi2, if_pos, if_neg, List.map_cons, List.map_nil, Option.map_some, Option.map_none, Nat.add_sub_cancel_left, Nat.sub_eq_zero_of_le, Nat.add_assoc, zn4] <;> rfl) (by kernel_rfl) ?_ | (with_reducible first | apply oz1 | apply oz2 | apply oz3 | apply oz4 | apply oz5 | apply oz6 | apply oz7 | apply oz8 | apply oz9 | apply ozb | apply ozc | apply oze | apply ozf | apply ozg | apply ozh | apply ozi | apply ozj | apply ozk | refine ozd (by decide) ?_) | ((with_reducible first | apply SC.condB | apply SC.region | apply SO.run | apply DO.run); (focus (simp (disch := omega) only [go_sem, ↓reduceIte, zn1, reduceCtorEq] <;> rfl)); (first | refine pickT ?_ | refine pickF ?_ | fail_if_success with_reducible refine pickA ?_)) | ((with_reducible refine SC.draw Tab.mixed ?_ ?_); (focus rfl)) | (with_reducible apply SC.ops)))
        refine hK _ (s2, log2, q', nx', s2.at_) ?_ ⟨by simp only; omega, ?_, hs1, by simp only; omega, by simp only; omega⟩ (by simp only; omega)
        · simp only
          unfold rdB
          (refine Le.slots ?_ ?_ ?_ <;> (repeat' (first | (exact fun _ _ h => h) | exact Nat.le_refl _ | exact leSl_nil | refine leSl_cons (by simp (disch := omega) only [go_sem, ↓reduceIte, zn1] <;> rfl) ?_ ?_ | exact VLe.junk _ | exact VLe.refl rfl | exact VLe.nil_sl _ _ _ | exact VLe.int (by first | rfl | omega | (dsimp only; omega)) | exact VLe.bool rfl | exact VLe.sl rfl (by first | rfl | omega) | exact VLe.cap rfl (by first | rfl | omega) | exact VLe.im rfl rfl | omega | (refine fun id k h => ?_; simp only [hget] at h ⊢; (repeat' (split at h)) <;> first | (cases h; done) | (simp (disch := omega) only [if_pos, if_neg]; exact h)))))
        · simp only
          rw [hl2, show 4001 - (log.length + 1) = 4000 - log.length by omega]
          exact hh
      | false =>
        rw [if_neg (by simp)] at hh
        have := hss rfl
        subst this
        cases hh
        have gl := chgs_len lg
        have gt : (chgs lg).take (lg.length * 8) = chgs lg := List.take_of_length_le (by omega)
        have gcl := chgs_clo lg
        unfold rdB
        by_cases h9 : s9.e = 0
        · rw [if_pos h9]
          have q9 : ((s9.e : Int) == 0) = true := by rw [h9]; rfl
          (repeat (first | refine DO.nilF (fun i => i + 1 - nx) (by simp (disch := omega) only [go_sem, ↓reduceIte, zn1, zn2, zn3, zn4, zn5, zn6, reduceCtorEq, zn7, zi1, zi2, if_pos, if_neg, List.map_cons, List.map_nil, Option.map_some, Option.map_none, Nat.add_sub_cancel_left, Nat.sub_eq_zero_of_le, Nat.add_assoc, zn4] <;> rfl) (by kernel_rfl) ?_ | (with_reducible first | apply oz1 | apply oz2 | apply oz3 | apply oz4 | apply oz5 | apply oz6 | apply oz7 | apply oz8 | apply oz9 | apply ozb | apply ozc | apply oze | apply ozf | apply ozg | apply ozh | apply ozi | apply ozj | apply ozk | refine ozd (by decide) ?_) | ((with_reducible first | apply SC.condB | apply SC.region | apply SO.run | apply DO.run); (focus (simp (disch := omega) only [go_sem, ↓reduceIte, zn1, zn2, zn3, zn4, reduceCtorEq, q9] <;> rfl)); (first | refine pickT ?_ | refine pickF ?_ | fail_if_success with_reducible refine pickA ?_)) | ((with_reducible refine SC.draw Tab.mixed ?_ ?_); (focus rfl)) | (with_reducible apply SC.ops)))
          exact retQ_ret Try.results24 (by simp (disch := omega) only [go_sem, ↓reduceIte, zn1, zn3, zn4] <;> rfl) (by simp (disch := omega) only [go_sem, ↓reduceIte, if_pos, if_neg, gl, gt, gcl, List.drop_zero] <;> rfl) rfl
        · rw [if_neg h9]
          have q9 : ((s9.e : Int) == 0) = false := by rw [beq_eq_false_iff_ne]; omega
          (repeat (first | refine DO.nilF (fun i => i + 1 - nx) (by simp (disch := omega) only [go_sem, ↓reduceIte, zn1, zn2, zn3, zn4, zn5, zn6, reduceCtorEq, zn7, zi1, zi2, if_pos, if_neg, List.map_cons, List.map_nil, Option.map_some, Option.map_none, Nat.add_sub_cancel_left, Nat.sub_eq_zero_of_le, Nat.add_assoc, zn4] <;> rfl) (by kernel_rfl) ?_ | (with_reducible first | apply oz1 | apply oz2 | apply oz3 | apply oz4 | apply oz5 | apply oz6 | apply oz7 | apply oz8 | apply oz9 | apply ozb | apply ozc | apply oze | apply ozf | apply ozg | apply ozh | apply ozi | apply ozj | apply ozk | refine ozd (by decide) ?_) | ((with_reducible first | apply SC.condB | apply SC.region | apply SO.run | apply DO.run); (focus (simp (disch := omega) only [go_sem, ↓reduceIte, zn1, zn2, zn3, zn4, reduceCtorEq, q9] <;> rfl)); (first | refine pickT ?_ | refine pickF ?_ | fail_if_success with_reducible refine pickA ?_)) | ((with_reducible refine SC.draw Tab.mixed ?_ ?_); (focus rfl)) | (with_reducible apply SC.ops)))
          exact retQ_ret Try.results24 (by simp (disch := omega) only [go_sem, ↓reduceIte, zn1, zn3, zn4] <;> rfl) (by simp (disch := omega) only [go_sem, ↓reduceIte, if_pos, if_neg, gl, gt, gcl, List.drop_zero] <;> rfl) rfl
  · rw [if_neg he]
    have q1 : ((s1.e : Int) != 0) = true := by rw [bne_iff_ne]; omega
    (repeat (first | refine DO.nilF (fun i => i + 1 - nx) (by simp (disch := omega) only [go_sem, ↓reduceIte, zn1, zn2, zn3, zn4, zn5, zn6, reduceCtorEq, zn7, zi1, zi2, if_pos, if_neg, List.map_cons, List.map_nil, Option.map_some, Option.map_none, Nat.add_sub_cancel_left, Nat.sub_eq_zero_of_le, Nat.add_assoc, zn4] <;> rfl) (by kernel_rfl) ?_ | (with_reducible first | apply oz1 | apply oz2 | apply oz3 | apply oz4 | apply oz5 | apply oz6 | apply oz7 | apply oz8 | apply oz9 | apply ozb | apply ozc | apply oze | apply ozf | apply ozg | apply ozh | apply ozi | apply ozj | apply ozk | refine ozd (by decide) ?_) | ((first | apply SO.call | apply DO.call); (iterate 3 (focus (simp (disch := omega) only [go_sem, ↓reduceIte] <;> rfl))); (first | apply SCall.ofX | apply DCall.ofX); (focus (first | assumption)); (focus (simp (disch := omega) only [go_sem, ↓reduceIte, zn1, zn2, zn3, zn4, zn5, zn6, reduceCtorEq, zn7, zi1, zi2, if_pos, if_neg] <;> rfl))) | ((with_reducible first | apply SC.condB | apply SC.region | apply SO.run | apply DO.run); (focus (simp (disch := omega) only [go_sem, ↓reduceIte, zn3, zn4, reduceCtorEq] <;> rfl)); (first | refine pickT ?_ | refine pickF ?_ | fail_if_success with_reducible refine pickA ?_)) | ((with_reducible refine SC.draw Tab.mixed ?_ ?_); (focus rfl)) | (with_reducible apply SC.ops)))
    (refine SO.inlQ (by simp (disch := omega) only [go_sem] <;> rfl) Tab.go61 (by simp (disch := omega) only [go_sem, ↓reduceIte] <;> rfl) (by simp (disch := omega) only [go_sem] <;> rfl) (SInlQ.rd (c1) (by simp (disch := omega) only [go_sem, ↓reduceIte] <;> rfl) rfl (by first | omega | (dsimp only; omega) | (simp (disch := omega) only [go_sem] <;> omega)) (by simp (disch := omega) only [go_sem, ↓reduceIte] <;> rfl) ?_))
    (repeat (first | refine DO.nilF (fun i => i + 1 - nx) (by simp (disch := omega) only [go_sem, ↓reduceIte, zn1, zn2, zn3, zn4, zn5, zn6, reduceCtorEq, zn7, zi1, zi2, if_pos, if_neg, List.map_cons, List.map_nil, Option.map_some, Option.map_none, Nat.add_sub_cancel_left, Nat.sub_eq_zero_of_le, Nat.add_assoc, zn4] <;> rfl) (by kernel_rfl) ?_ | (with_reducible first | apply oz1 | apply oz2 | apply oz3 | apply oz4 | apply oz5 | apply oz6 | apply oz7 | apply oz8 | apply oz9 | apply ozb | apply ozc | apply oze | apply ozf | apply ozg | apply ozh | apply ozi | apply ozj | apply ozk | refine ozd (by decide) ?_) | ((with_reducible first | apply SC.condB | apply SC.region | apply SO.run | apply DO.run); (focus (simp (disch := omega) only [go_sem, ↓reduceIte, zn1, zn3, zn4, reduceCtorEq, q1] <;> rfl)); (first | refine pickT ?_ | refine pickF ?_ | fail_if_success with_reducible refine pickA ?_)) | ((with_reducible refine SC.draw Tab.mixed ?_ ?_); (focus rfl)) | (with_reducible apply SC.ops)))
    exact retQ_ret Try.results24 (by simp (disch := omega) only [go_sem, ↓reduceIte, zn1, zn3, zn4, reduceCtorEq] <;> rfl) (by simp (disch := omega) only [go_sem, ↓reduceIte] <;> rfl) rfl
end Go.Proofs.Ytphilljhfdlfdaa
namespace Go.Proofs.Ytphilljhfdlfdaa
theorem begin_rds (b : List Int) (n : Nat) {st : Int} {bs : List Cel} (h1 : I64 st) (h2 : ∀ x ∈ bs, CelFit x) (h3 : bs.length ≤ 4000) : Rds b n (Rd.begin b n) (whl st ++ lst cel_ bs) (st, bs) :=
  (whole_rds b n h1).seq (mk := Prod.mk) (list_rds (cell_stk b n) bs h3 (fun x hx => cell_rds b n (h2 x hx))) (list_stk b n _)
theorem logE_len (x : Chg) : (logE x).length = 1 + (chg_ x).length := by unfold logE; rw [List.length_append]; rfl
theorem step_cut {b : List Int} {n p : Nat} {log : List Chg} (hp : n < p + 1) (hpn : p ≤ n) : (Rd.step b n ⟨p, 0⟩ log).1 = false ∧ (Rd.step b n ⟨p, 0⟩ log).2.1.e = 5 := by
  have h : Rd.next b n ⟨p, 0⟩ = (0, ⟨p, 5⟩) := by unfold Rd.next; rw [if_pos rfl, if_neg (by simp only; omega)]
  have hf : Rd.flag b n ⟨p, 0⟩ = (false, ⟨p, 5⟩) := by unfold Rd.flag; rw [h]; rfl
  unfold Rd.step
  rw [hf]
  exact ⟨rfl, rfl⟩
theorem step_rds {b : List Int} {n p : Nat} {x : Chg} {log : List Chg} (hx : ChgFit x) (ha : At b n p (logE x)) (hp : p ≤ n) (hl : log.length < 4000) :
    (p + (logE x).length ≤ n → Rd.step b n ⟨p, 0⟩ log = (true, ⟨p + (logE x).length, 0⟩, log ++ [x])) ∧ (n < p + (logE x).length → (Rd.step b n ⟨p, 0⟩ log).1 = false ∧ (Rd.step b n ⟨p, 0⟩ log).2.1.e = 5) := by
  rw [logE_len]
  by_cases hc : p + 1 ≤ n
  · have h1 := (flag_rds b n true p ha.left hp).1 hc
    obtain ⟨c1, c2⟩ := chg_rds b n hx (p + 1) ha.right hc
    have h1' : Rd.flag b n ⟨p, 0⟩ = (true, ⟨p + 1, 0⟩) := h1
    have c1' : p + 1 + (chg_ x).length ≤ n → Rd.chg b n ⟨p + 1, 0⟩ = (x, ⟨p + 1 + (chg_ x).length, 0⟩) := c1
    have c2' : n < p + 1 + (chg_ x).length → (Rd.chg b n ⟨p + 1, 0⟩).2.e = 5 := c2
    clear c1 c2 h1
    unfold Rd.step
    rw [h1']
    simp only [and_self, if_true]
    generalize Rd.chg b n ⟨p + 1, 0⟩ = rc at *
    rw [if_neg (show ¬ log.length = 4000 by omega)]
    refine ⟨fun h => ?_, fun h => ?_⟩
    · rw [c1' (by omega)]
      simp only [if_true]
      rw [show p + (1 + (chg_ x).length) = p + 1 + (chg_ x).length by omega]
    · have h5 := c2' (by omega)
      rw [if_neg (by rw [h5]; decide)]
      exact ⟨rfl, h5⟩
  · exact ⟨fun h => by omega, fun _ => step_cut (by omega) hp⟩
theorem step_end {b : List Int} {n p : Nat} {log : List Chg} (ha : At b n p (flg false)) (hp : p + 1 ≤ n) : Rd.step b n ⟨p, 0⟩ log = (false, ⟨p + 1, 0⟩, log) := by
  have h1 := (flag_rds b n false p ha (by omega)).1 hp
  unfold Rd.step
  rw [h1]
  rfl
theorem histR_rds {b : List Int} {n : Nat} : ∀ (l acc : List Chg) (f p : Nat), (∀ x ∈ l, ChgFit x) → acc.length + l.length ≤ 4000 → l.length < f → At b n p (l.flatMap logE ++ flg false) → p ≤ n →
    (p + (l.flatMap logE).length + 1 ≤ n → histR b n f ⟨p, 0⟩ acc = (acc ++ l, ⟨p + (l.flatMap logE).length + 1, 0⟩)) ∧ (n < p + (l.flatMap logE).length + 1 → (histR b n f ⟨p, 0⟩ acc).2.e = 5)
  | [], acc, f, p, _, _, hf, ha, hp => by
    obtain ⟨f, rfl⟩ : ∃ g, f = g + 1 := ⟨f - 1, by simp at hf; omega⟩
    unfold histR
    refine ⟨fun h => ?_, fun h => ?_⟩
    · simp only [List.flatMap_nil, List.length_nil, Nat.add_zero] at h
      rw [step_end (log := acc) (by simpa using ha) h]
      simp
    · simp only [List.flatMap_nil, List.length_nil, Nat.add_zero] at h
      obtain ⟨s1, s2⟩ := step_cut (b := b) (log := acc) h hp
      rw [if_neg (by rw [s1]; simp)]
      exact s2
  | x :: l, acc, f, p, hx, hl, hf, ha, hp => by
    obtain ⟨f, rfl⟩ : ∃ g, f = g + 1 := ⟨f - 1, by simp at hf; omega⟩
    simp only [List.length_cons] at hl hf
    rw [List.flatMap_cons] at ha ⊢
    rw [List.append_assoc] at ha
    rw [List.length_append]
    obtain ⟨s1, s2⟩ := step_rds (log := acc) (hx x (by simp)) ha.left hp (by omega)
    unfold histR
    by_cases hc : p + (logE x).length ≤ n
    · rw [s1 hc, if_pos rfl]
      obtain ⟨r1, r2⟩ := histR_rds l (acc ++ [x]) f (p + (logE x).length) (fun y hy => hx y (by simp [hy])) (by rw [List.length_append, List.length_singleton]; omega) (by omega) ha.right hc
      simp only
      refine ⟨fun h => ?_, fun h => r2 (by omega)⟩
      rw [r1 (by omega)]
      simp [Nat.add_assoc]
    · obtain ⟨t1, t2⟩ := s2 (by omega)
      rw [if_neg (by rw [t1]; simp)]
      exact ⟨fun h => by omega, fun _ => t2⟩
theorem histR_stk (b : List Int) (n f : Nat) {s : Rd} {log : List Chg} (hs : s.e ≠ 0) (hf : 0 < f) : (histR b n f s log).2.e = s.e := by
  obtain ⟨f, rfl⟩ : ∃ g, f = g + 1 := ⟨f - 1, by omega⟩
  have h := flag_stk b n s hs
  unfold histR
  have h2 : s.step b n log = (false, (s.flag b n).2, log) := by
    unfold Rd.step
    rw [if_neg (by rw [h]; exact fun hh => hs hh.2)]
  rw [h2, if_neg (by simp)]
  exact h
def HstFit (x : Hst) : Prop := I64 x.start ∧ (∀ y ∈ x.base, CelFit y) ∧ x.base.length ≤ 4000 ∧ (∀ y ∈ x.log, ChgFit y) ∧ x.log.length ≤ 4000
theorem hist_rds (b : List Int) (n : Nat) {x : Hst} (h : HstFit x) : Rds b n (Rd.hist b n) (hst_ x) x := fun p ha hp => by
  obtain ⟨h1, h2, h3, h4, h5⟩ := h
  have hl : (hst_ x).length = (hed_ x).length + (x.log.flatMap logE).length + 1 := by unfold hst_; simp only [List.length_append]; rfl
  have e : hst_ x = hed_ x ++ (x.log.flatMap logE ++ flg false) := by unfold hst_; rw [List.append_assoc]
  rw [hl]
  rw [e] at ha
  obtain ⟨b1, b2⟩ := begin_rds b n h1 h2 h3 p ha.left hp
  have e2 : whl x.start ++ lst cel_ x.base = hed_ x := rfl
  rw [e2] at b1 b2
  unfold Rd.hist
  by_cases hc : p + (hed_ x).length ≤ n
  · rw [b1 hc]
    obtain ⟨r1, r2⟩ := histR_rds x.log [] 4001 (p + (hed_ x).length) h4 (by simpa using h5) (by omega) ha.right hc
    simp only
    refine ⟨fun h => ?_, fun h => r2 (by omega)⟩
    rw [r1 (by omega)]
    simp [Nat.add_assoc]
  · have hb5 := b2 (by omega)
    refine ⟨fun h => by omega, fun _ => ?_⟩
    simp only
    rw [histR_stk b n 4001 (by rw [hb5]; decide) (by omega)]
    exact hb5
def cutR (n : Nat) : List Chg → Nat → List Chg × Nat
  | [], e => ([], e)
  | x :: l, e => if e + (logE x).length > n then ([], e) else (x :: (cutR n l (e + (logE x).length)).1, (cutR n l (e + (logE x).length)).2)
theorem salR_rds {b : List Int} {n : Nat} : ∀ (l acc : List Chg) (f p : Nat), (∀ x ∈ l, ChgFit x) → acc.length + l.length ≤ 4000 → l.length < f → At b n p (l.flatMap logE ++ flg false) → p ≤ n →
    (p + (l.flatMap logE).length + 1 ≤ n → salR b n f ⟨p, 0⟩ acc p = (acc ++ l, ⟨p + (l.flatMap logE).length + 1, 0⟩, p + (l.flatMap logE).length) ∧ (cutR n l p).1 = l) ∧
    (n < p + (l.flatMap logE).length + 1 → (salR b n f ⟨p, 0⟩ acc p).2.1.e = 5 ∧ (salR b n f ⟨p, 0⟩ acc p).1 = acc ++ (cutR n l p).1 ∧ (salR b n f ⟨p, 0⟩ acc p).2.2 = (cutR n l p).2)
  | [], acc, f, p, _, _, hf, ha, hp => by
    obtain ⟨f, rfl⟩ : ∃ g, f = g + 1 := ⟨f - 1, by simp at hf; omega⟩
    unfold salR cutR
    refine ⟨fun h => ?_, fun h => ?_⟩
    · simp only [List.flatMap_nil, List.length_nil, Nat.add_zero] at h
      rw [step_end (log := acc) (by simpa using ha) h]
      simp
    · simp only [List.flatMap_nil, List.length_nil, Nat.add_zero] at h
      obtain ⟨s1, s2⟩ := step_cut (b := b) (log := acc) h hp
      rw [if_neg (by rw [s1]; simp)]
      exact ⟨s2, by simp, rfl⟩
  | x :: l, acc, f, p, hx, hl, hf, ha, hp => by
    obtain ⟨f, rfl⟩ : ∃ g, f = g + 1 := ⟨f - 1, by simp at hf; omega⟩
    simp only [List.length_cons] at hl hf
    rw [List.flatMap_cons] at ha ⊢
    rw [List.append_assoc] at ha
    rw [List.length_append]
    obtain ⟨s1, s2⟩ := step_rds (log := acc) (hx x (by simp)) ha.left hp (by omega)
    unfold salR cutR
    by_cases hc : p + (logE x).length ≤ n
    · rw [s1 hc, if_pos rfl, if_neg (by omega)]
      obtain ⟨r1, r2⟩ := salR_rds l (acc ++ [x]) f (p + (logE x).length) (fun y hy => hx y (by simp [hy])) (by rw [List.length_append, List.length_singleton]; omega) (by omega) ha.right hc
      simp only
      refine ⟨fun h => ?_, fun h => ?_⟩
      · obtain ⟨q1, q2⟩ := r1 (by omega)
        rw [q1, q2]
        simp [Nat.add_assoc]
      · obtain ⟨q1, q2, q3⟩ := r2 (by omega)
        exact ⟨q1, by rw [q2]; simp, q3⟩
    · obtain ⟨t1, t2⟩ := s2 (by omega)
      rw [if_neg (by rw [t1]; simp), if_pos (by omega)]
      exact ⟨fun h => by omega, fun _ => ⟨t2, by simp, rfl⟩⟩
theorem at_self (l : List Int) (n : Nat) : At (l.take n) n 0 l := fun i _ hn => by rw [List.getElem?_take, if_pos hn, Nat.zero_add]
theorem salH_rds {x : Hst} (h : HstFit x) {n : Nat} (hn : n ≤ (hst_ x).length) :
    salH ((hst_ x).take n) n = if n < (hed_ x).length then (⟨0, [], []⟩, 0) else (⟨x.start, x.base, (cutR n x.log (hed_ x).length).1⟩, if n = (hst_ x).length then n else (cutR n x.log (hed_ x).length).2) := by
  obtain ⟨h1, h2, h3, h4, h5⟩ := h
  have hl : (hst_ x).length = (hed_ x).length + (x.log.flatMap logE).length + 1 := by unfold hst_; simp only [List.length_append]; rfl
  have e : hst_ x = hed_ x ++ (x.log.flatMap logE ++ flg false) := by unfold hst_; rw [List.append_assoc]
  have ha := at_self (hst_ x) n
  have ha2 : At ((hst_ x).take n) n 0 (hed_ x ++ (x.log.flatMap logE ++ flg false)) := by rw [← e]; exact ha
  obtain ⟨b1, b2⟩ := begin_rds ((hst_ x).take n) n h1 h2 h3 0 ha2.left (Nat.zero_le _)
  have e2 : whl x.start ++ lst cel_ x.base = hed_ x := rfl
  rw [e2, Nat.zero_add] at b1 b2
  unfold salH
  by_cases hc : n < (hed_ x).length
  · have hb5 := b2 hc
    rw [if_pos hc]
    simp only
    rw [if_neg (by rw [hb5]; decide)]
  · rw [if_neg hc, b1 (by omega)]
    have har := ha2.right
    rw [Nat.zero_add] at har
    obtain ⟨r1, r2⟩ := salR_rds (n := n) x.log [] 4001 (hed_ x).length h4 (by simpa using h5) (by omega) har (by omega)
    simp only [if_true]
    by_cases hf : n = (hst_ x).length
    · obtain ⟨q1, q2⟩ := r1 (by omega)
      rw [q1, q2, if_pos hf]
      simp only [if_true]
      rw [List.nil_append, hf, hl]
    · obtain ⟨q1, q2, q3⟩ := r2 (by omega)
      rw [if_neg hf, q2, q3, if_neg (by rw [q1]; decide), List.nil_append]
end Go.Proofs.Ytphilljhfdlfdaa
namespace Go.Proofs.Ytphilljhfdlfdaa
open Go.RowKit
theorem b4_bw4 (X : List V) (x : Nat) : X ++ bw (b4 x) = X ++ [.sc (.int .u8 ((x : Int).fdiv 1 % 256))] ++ [.sc (.int .u8 ((x : Int).fdiv 256 % 256))] ++ [.sc (.int .u8 ((x : Int).fdiv 65536 % 256))] ++ [.sc (.int .u8 ((x : Int).fdiv 16777216 % 256))] := by
  have d0 : (x : Int).fdiv 1 = (x : Int) := by rw [Int.fdiv_eq_ediv_of_nonneg _ (by omega)]; omega
  rw [b4_bw, d0]; simp only [List.append_assoc, List.cons_append, List.nil_append]
set_option maxHeartbeats 2000000 in
theorem rputint_s (z : Int) (hz : (limbsOf z.natAbs).length ≤ 100000000) : PutA 13 [iv z] (int_ z) := by
  refine PutA.of (int_pos z) fun id c cap nx hc hi => ?_
  have ge : (int_ z).length = (num (hdI z)).length + 4 * (limbsOf z.natAbs).length := by unfold int_; rw [List.length_append, lbs_len]
  have hh : hdI z = 2 * (limbsOf z.natAbs).length + (if z < 0 then 1 else 0) := rfl
  have hlim := limbsOf_limbs z.natAbs
  unfold iv sv
  generalize hl : limbsOf z.natAbs = l at *
  have hb : hdI z < 18446744073709551616 := by rw [hh]; split <;> omega
  have c1 := rnumber_s (hdI z) hb id c cap (by omega)
  have gl := lv_len l
  refine InlQ.run Try.func13 rfl Try.ntmps13 (by simp) (by simp (disch := omega) only [go_sem, zn4]; rfl) fun B hB => ?_
  by_cases hn : z < 0
  · have q1 : decide (z < 0) = true := decide_eq_true hn
    have hu : (hdI z : Int) = 2 * (l.length : Int) + 1 := by rw [hh, if_pos hn]; omega
    (repeat (first | refine DO.nil (by kernel_rfl) ?_ | (with_reducible first | apply oz1 | apply oz2 | apply oz3 | apply oz4 | apply oz5 | apply oz6 | apply oz7 | apply oz8 | apply oz9 | apply ozb | apply ozc | apply oze | apply ozf | apply ozg | apply ozh | apply ozi | apply ozj | apply ozk | refine ozd (by decide) ?_) | ((first | apply SO.call | apply DO.call); (iterate 3 (focus (simp (disch := omega) only [go_sem, ↓reduceIte, zn1, if_neg] <;> rfl))); (first | apply SCall.ofX | apply DCall.ofX); (focus (first | assumption)); (focus (simp (disch := omega) only [go_sem, ↓reduceIte, zn1, zn2, zn3, zn4, zn5, zn6, reduceCtorEq, zn7, zi1, zi2, if_pos, if_neg, q1, gl] <;> rfl))) | ((with_reducible first | apply SC.condB | apply SC.region | apply SO.run | apply DO.run); (focus (simp (disch := omega) only [go_sem, ↓reduceIte, zn1, reduceCtorEq, q1] <;> rfl)); (first | refine pickT ?_ | refine pickF ?_ | fail_if_success with_reducible refine pickA ?_)) | ((with_reducible refine SC.draw Tab.mixed ?_ ?_); (focus rfl)) | (with_reducible apply SC.ops) | (with_reducible apply SR.next) | refine SC.loopN 5 ?_))
    rw [hu] at c1
    (first | refine SO.callA Tab.go39 (by simp (disch := omega) only [go_sem, ↓reduceIte, zn1] <;> rfl) (by simp (disch := omega) only [go_sem] <;> rfl) (SApp.of (c1) (by simp (disch := omega) only [go_sem, ↓reduceIte, if_neg] <;> rfl) rfl (by simp (disch := omega) only [go_sem, ↓reduceIte, if_neg] <;> rfl) ?_) | refine DO.callA Tab.go39 (by simp (disch := omega) only [go_sem, ↓reduceIte, zn1, zn2, zn3, zn4, zn5, zn6, reduceCtorEq, zn7, zi1, zi2, if_pos, if_neg] <;> rfl) (by simp (disch := omega) only [go_sem, ↓reduceIte, zn1, zn2, zn3, zn4, zn5, zn6, reduceCtorEq, zn7, zi1, zi2, if_pos, if_neg] <;> rfl) (DApp.of (c1) (by simp (disch := omega) only [go_sem, ↓reduceIte, zn1, zn2, zn3, zn4, zn5, zn6, reduceCtorEq, zn7, zi1, zi2, if_pos, if_neg] <;> rfl) rfl (by simp (disch := omega) only [go_sem, ↓reduceIte, zn1, zn2, zn3, zn4, zn5, zn6, reduceCtorEq, zn7, zi1, zi2, if_pos, if_neg] <;> rfl) ?_))
    (repeat (refine SO.run (by simp (disch := omega) only [go_sem, ↓reduceIte]; rfl) ?_))
    (repeat (first | refine DO.nil (by kernel_rfl) ?_ | (with_reducible refine SC.condB (by simp (disch := omega) only [go_sem, ↓reduceIte, zn1, zn2, zn3, zn4, zn5, zn6, reduceCtorEq, zn7, zi1, zi2, if_pos, if_neg, gl]; rfl) ?_; first | with_reducible refine pickT ?_ | with_reducible refine pickF ?_) | (with_reducible first | apply oz1 | apply oz2 | apply oz3 | apply oz4 | apply oz5 | apply oz6 | apply oz7 | apply oz8 | apply oz9 | apply ozb | apply ozc | apply oze | apply ozf | apply ozg | apply ozh | apply ozi | apply ozj | apply ozk | refine ozd (by decide) ?_) | ((with_reducible apply SC.region); (focus (simp (disch := omega) only [go_sem, ↓reduceIte]; rfl))) | (with_reducible refine SC.draw Tab.mixed rfl ?_; (repeat (refine DO.run (by simp (disch := omega) only [go_sem, ↓reduceIte, zn1, zn2, zn3, zn4, zn5, zn6, reduceCtorEq, zn7, zi1, zi2, if_pos, if_neg, gl]; rfl) ?_)); refine DO.nil (by kernel_rfl) ?_)))
    refine SC.loop (fun x : Nat × Nat × Nat => ⟨[(0, .sl x.2.1 0 (c ++ num (hdI z) ++ lbs (l.take x.1)).length 1 none), (3, .pt nx 0), (6, .sc (.int .i64 x.1))], [(x.2.1, ⟨5, bw (c ++ num (hdI z) ++ lbs (l.take x.1)), false⟩), (nx, ⟨31, [.sc (.bool true), .im (lv l) l.length], false⟩)], x.2.2, 44⟩)
      (fun x => x.1 ≤ l.length ∧ nx < x.2.1 ∧ x.2.1 < x.2.2) (fun x => l.length - x.1) (0, nx + 1, nx + 2) ?_ ?_ ?_
    · simp only [List.take_zero, lbs, List.flatMap_nil, List.append_nil, List.length_append]
      (refine Le.slots ?_ ?_ ?_ <;> (repeat' (first | (exact fun _ _ h => h) | exact Nat.le_refl _ | exact leSl_nil | refine leSl_cons (by simp (disch := omega) only [go_sem, ↓reduceIte, zn1, reduceCtorEq] <;> rfl) ?_ ?_ | exact VLe.junk _ | exact VLe.refl rfl | exact VLe.nil_sl _ _ _ | exact VLe.int (by first | rfl | omega | (dsimp only; omega)) | exact VLe.bool rfl | exact VLe.sl rfl (by first | rfl | omega) | exact VLe.cap rfl (by first | rfl | omega) | exact VLe.im rfl rfl | omega | (refine fun id k h => ?_; simp only [hget] at h ⊢; (repeat' (split at h)) <;> first | (cases h; done) | (simp (disch := omega) only [if_pos, if_neg]; exact h)))))
    · exact ⟨Nat.zero_le _, by simp only; omega, by simp only; omega⟩
    · rintro ⟨i, q, m⟩ ⟨hi1, hq1, hq2⟩ K hK
      simp only at hi1 hq1 hq2 ⊢
      have gw := bw_len (c ++ num (hdI z) ++ lbs (l.take i))
      have gt : (bw (c ++ num (hdI z) ++ lbs (l.take i))).take (c ++ num (hdI z) ++ lbs (l.take i)).length = bw (c ++ num (hdI z) ++ lbs (l.take i)) := List.take_of_length_le (by omega)
      have gm : (c ++ num (hdI z) ++ lbs (l.take i)).length = c.length + (num (hdI z)).length + 4 * i := by
        rw [List.length_append, List.length_append, lbs_len, List.length_take, Nat.min_eq_left hi1]
      by_cases hlt : i < l.length
      · have gx := lv_get hlt
        have hx : l.getD i 0 < 4294967296 := lim_getD hlim hlt
        have n24 : min 24 32 = 24 := rfl
        have n16 : min 16 32 = 16 := rfl
        have n8 : min 8 32 = 8 := rfl
        have q2 : decide ((i : Int) < (l.length : Int)) = true := by rw [decide_eq_true_iff]; omega
        have x0 : ((i : Int)).toNat = i := rfl
        rw [gm] at gw gt
        have n0 : min 0 32 = 0 := rfl
        have l1 : ∀ y, (bw (c ++ num (hdI z) ++ lbs (l.take i)) ++ [y]).length = c.length + (num (hdI z)).length + 4 * i + 1 := fun y => by rw [List.length_append, gw]; rfl
        have l2 : ∀ y y2, (bw (c ++ num (hdI z) ++ lbs (l.take i)) ++ [y] ++ [y2]).length = c.length + (num (hdI z)).length + 4 * i + 1 + 1 := fun y y2 => by rw [List.length_append, l1]; rfl
        have l3 : ∀ y y2 y3, (bw (c ++ num (hdI z) ++ lbs (l.take i)) ++ [y] ++ [y2] ++ [y3]).length = c.length + (num (hdI z)).length + 4 * i + 1 + 1 + 1 := fun y y2 y3 => by rw [List.length_append, l2]; rfl
        have t1 := fun y => List.take_of_length_le (Nat.le_of_eq (l1 y))
        have t2 := fun y y2 => List.take_of_length_le (Nat.le_of_eq (l2 y y2))
        have t3 := fun y y2 y3 => List.take_of_length_le (Nat.le_of_eq (l3 y y2 y3))
        (repeat (first | refine DO.nil (by kernel_rfl) ?_ | (with_reducible first | apply oz1 | apply oz2 | apply oz3 | apply oz4 | apply oz5 | apply oz6 | apply oz7 | apply oz8 | apply oz9 | apply ozb | apply ozc | apply oze | apply ozf | apply ozg | apply ozh | apply ozi | apply ozj | apply ozk | refine ozd (by decide) ?_) | ((with_reducible first | apply SC.condB | apply SC.region | apply SO.run | apply DO.run); (focus (simp (disch := omega) only [go_sem, ↓reduceIte, zn1, zn3, reduceCtorEq, zi1, zi2, if_pos, if_neg, n0, l1, l2, l3, t1, t2, t3, Int.reduceMul, Int.reduceAdd, q2, gx, x0, gw, gt, gm, List.getElem?_drop, Nat.add_zero, n24, n16, n8, Nat.mul_one, Nat.one_mul, List.drop_zero, List.take_succ_cons, List.take_zero] <;> rfl)); (first | refine pickT ?_ | refine pickF ?_ | fail_if_success with_reducible refine pickA ?_)) | ((with_reducible refine SC.draw Tab.mixed ?_ ?_); (focus rfl)) | (with_reducible apply SC.ops) | (with_reducible apply SR.next) | refine SC.loopN 5 ?_))
        have e4 : bw (c ++ num (hdI z) ++ lbs (l.take (i + 1))) = bw (c ++ num (hdI z) ++ lbs (l.take i)) ++ [.sc (.int .u8 (((l.getD i 0 : Nat) : Int).fdiv 1 % 256))] ++ [.sc (.int .u8 (((l.getD i 0 : Nat) : Int).fdiv 256 % 256))] ++ [.sc (.int .u8 (((l.getD i 0 : Nat) : Int).fdiv 65536 % 256))] ++ [.sc (.int .u8 (((l.getD i 0 : Nat) : Int).fdiv 16777216 % 256))] := by
          rw [← b4_bw4, ← bw_app, lbs_snoc hlt]; congr 1; exact (List.append_assoc ..).symm
        have e5 : (c ++ num (hdI z) ++ lbs (l.take (i + 1))).length = c.length + (num (hdI z)).length + 4 * i + 4 := by
          rw [List.length_append, List.length_append, lbs_len, List.length_take, Nat.min_eq_left (by omega : i + 1 ≤ l.length)]; omega
        refine hK _ (i + 1, m + 7, m + 8) ?_ ⟨by simp only; omega, by simp only; omega, by simp only; omega⟩ (by simp only; omega)
        simp only [e4, e5]
        (refine Le.slots ?_ ?_ ?_ <;> (repeat' (first | (exact fun _ _ h => h) | exact Nat.le_refl _ | exact leSl_nil | refine leSl_cons (by simp (disch := omega) only [go_sem, ↓reduceIte, zn1, reduceCtorEq] <;> rfl) ?_ ?_ | exact VLe.junk _ | exact VLe.refl rfl | exact VLe.nil_sl _ _ _ | exact VLe.int (by first | rfl | omega | (dsimp only; omega)) | exact VLe.bool rfl | exact VLe.sl rfl (by first | rfl | omega) | exact VLe.cap rfl (by first | rfl | omega) | exact VLe.im rfl rfl | omega | (refine fun id k h => ?_; simp only [hget] at h ⊢; (repeat' (split at h)) <;> first | (cases h; done) | (simp (disch := omega) only [if_pos, if_neg]; exact h)))))
      · have q2 : decide ((i : Int) < (l.length : Int)) = false := by rw [decide_eq_false_iff_not]; omega
        have hie : i = l.length := by omega
        have e6 : c ++ num (hdI z) ++ lbs (l.take i) = c ++ int_ z := by rw [hie, List.take_length, List.append_assoc]; unfold int_; rw [hl]
        have e7 : (c ++ num (hdI z) ++ lbs (l.take i)).length = c.length + (int_ z).length := by rw [e6, List.length_append]
        rw [e6] at gw gt ⊢
        rw [e6] at e7
        rw [e7]
        (repeat (first | refine DO.nil (by kernel_rfl) ?_ | (with_reducible first | apply oz1 | apply oz2 | apply oz3 | apply oz4 | apply oz5 | apply oz6 | apply oz7 | apply oz8 | apply oz9 | apply ozb | apply ozc | apply oze | apply ozf | apply ozg | apply ozh | apply ozi | apply ozj | apply ozk | refine ozd (by decide) ?_) | ((with_reducible first | apply SC.condB | apply SC.region | apply SO.run | apply DO.run); (focus (simp (disch := omega) only [go_sem, ↓reduceIte, zn1, zn2, reduceCtorEq, if_neg, q2] <;> rfl)); (first | refine pickT ?_ | refine pickF ?_ | fail_if_success with_reducible refine pickA ?_)) | ((with_reducible refine SC.draw Tab.mixed ?_ ?_); (focus rfl)) | (with_reducible apply SC.ops) | (with_reducible apply SR.next) | refine SC.loopN 5 ?_))
        refine retIQ_ret (.sl q 0 (c.length + (int_ z).length) 1 none) [(q, ⟨5, bw (c ++ int_ z), false⟩)] m Try.results13 (by simp (disch := omega) only [go_sem, ↓reduceIte]; rfl) ⟨q, by omega, rfl, rfl⟩ ?_
        (refine Le.slots ?_ ?_ ?_ <;> (repeat' (first | (exact fun _ _ h => h) | exact Nat.le_refl _ | exact leSl_nil | refine leSl_cons (by simp (disch := omega) only [go_sem, ↓reduceIte] <;> rfl) ?_ ?_ | exact VLe.junk _ | exact VLe.refl rfl | exact VLe.nil_sl _ _ _ | exact VLe.int (by first | rfl | omega | (dsimp only; omega)) | exact VLe.bool rfl | exact VLe.sl rfl (by first | rfl | omega) | exact VLe.cap rfl (by first | rfl | omega) | exact VLe.im rfl rfl | omega | (refine fun id k h => ?_; simp only [hget] at h ⊢; (repeat' (split at h)) <;> first | (cases h; done) | (simp (disch := omega) only [if_pos]; exact h)))))
  · have q1 : decide (z < 0) = false := decide_eq_false hn
    have hu : (hdI z : Int) = 2 * (l.length : Int) := by rw [hh, if_neg hn]; omega
    (repeat (first | refine DO.nil (by kernel_rfl) ?_ | (with_reducible first | apply oz1 | apply oz2 | apply oz3 | apply oz4 | apply oz5 | apply oz6 | apply oz7 | apply oz8 | apply oz9 | apply ozb | apply ozc | apply oze | apply ozf | apply ozg | apply ozh | apply ozi | apply ozj | apply ozk | refine ozd (by decide) ?_) | ((first | apply SO.call | apply DO.call); (iterate 3 (focus (simp (disch := omega) only [go_sem, ↓reduceIte, zn1, if_neg] <;> rfl))); (first | apply SCall.ofX | apply DCall.ofX); (focus (first | assumption)); (focus (simp (disch := omega) only [go_sem, ↓reduceIte, zn1, zn2, zn3, zn4, zn5, zn6, reduceCtorEq, zn7, zi1, zi2, if_pos, if_neg, q1, gl] <;> rfl))) | ((with_reducible first | apply SC.condB | apply SC.region | apply SO.run | apply DO.run); (focus (simp (disch := omega) only [go_sem, ↓reduceIte, zn1, reduceCtorEq, q1] <;> rfl)); (first | refine pickT ?_ | refine pickF ?_ | fail_if_success with_reducible refine pickA ?_)) | ((with_reducible refine SC.draw Tab.mixed ?_ ?_); (focus rfl)) | (with_reducible apply SC.ops) | (with_reducible apply SR.next) | refine SC.loopN 5 ?_))
    rw [hu] at c1
    (first | refine SO.callA Tab.go39 (by simp (disch := omega) only [go_sem, ↓reduceIte, zn1] <;> rfl) (by simp (disch := omega) only [go_sem] <;> rfl) (SApp.of (c1) (by simp (disch := omega) only [go_sem, ↓reduceIte, if_neg] <;> rfl) rfl (by simp (disch := omega) only [go_sem, ↓reduceIte, if_neg] <;> rfl) ?_) | refine DO.callA Tab.go39 (by simp (disch := omega) only [go_sem, ↓reduceIte, zn1, zn2, zn3, zn4, zn5, zn6, reduceCtorEq, zn7, zi1, zi2, if_pos, if_neg] <;> rfl) (by simp (disch := omega) only [go_sem, ↓reduceIte, zn1, zn2, zn3, zn4, zn5, zn6, reduceCtorEq, zn7, zi1, zi2, if_pos, if_neg] <;> rfl) (DApp.of (c1) (by simp (disch := omega) only [go_sem, ↓reduceIte, zn1, zn2, zn3, zn4, zn5, zn6, reduceCtorEq, zn7, zi1, zi2, if_pos, if_neg] <;> rfl) rfl (by simp (disch := omega) only [go_sem, ↓reduceIte, zn1, zn2, zn3, zn4, zn5, zn6, reduceCtorEq, zn7, zi1, zi2, if_pos, if_neg] <;> rfl) ?_))
    (repeat (refine SO.run (by simp (disch := omega) only [go_sem, ↓reduceIte]; rfl) ?_))
    (repeat (first | refine DO.nil (by kernel_rfl) ?_ | (with_reducible refine SC.condB (by simp (disch := omega) only [go_sem, ↓reduceIte, zn1, zn2, zn3, zn4, zn5, zn6, reduceCtorEq, zn7, zi1, zi2, if_pos, if_neg, gl]; rfl) ?_; first | with_reducible refine pickT ?_ | with_reducible refine pickF ?_) | (with_reducible first | apply oz1 | apply oz2 | apply oz3 | apply oz4 | apply oz5 | apply oz6 | apply oz7 | apply oz8 | apply oz9 | apply ozb | apply ozc | apply oze | apply ozf | apply ozg | apply ozh | apply ozi | apply ozj | apply ozk | refine ozd (by decide) ?_) | ((with_reducible apply SC.region); (focus (simp (disch := omega) only [go_sem, ↓reduceIte]; rfl))) | (with_reducible refine SC.draw Tab.mixed rfl ?_; (repeat (refine DO.run (by simp (disch := omega) only [go_sem, ↓reduceIte, zn1, zn2, zn3, zn4, zn5, zn6, reduceCtorEq, zn7, zi1, zi2, if_pos, if_neg, gl]; rfl) ?_)); refine DO.nil (by kernel_rfl) ?_)))
    refine SC.loop (fun x : Nat × Nat × Nat => ⟨[(0, .sl x.2.1 0 (c ++ num (hdI z) ++ lbs (l.take x.1)).length 1 none), (3, .pt nx 0), (6, .sc (.int .i64 x.1))], [(x.2.1, ⟨5, bw (c ++ num (hdI z) ++ lbs (l.take x.1)), false⟩), (nx, ⟨31, [.sc (.bool false), .im (lv l) l.length], false⟩)], x.2.2, 44⟩)
      (fun x => x.1 ≤ l.length ∧ nx < x.2.1 ∧ x.2.1 < x.2.2) (fun x => l.length - x.1) (0, nx + 1, nx + 2) ?_ ?_ ?_
    · simp only [List.take_zero, lbs, List.flatMap_nil, List.append_nil, List.length_append]
      (refine Le.slots ?_ ?_ ?_ <;> (repeat' (first | (exact fun _ _ h => h) | exact Nat.le_refl _ | exact leSl_nil | refine leSl_cons (by simp (disch := omega) only [go_sem, ↓reduceIte, zn1, reduceCtorEq] <;> rfl) ?_ ?_ | exact VLe.junk _ | exact VLe.refl rfl | exact VLe.nil_sl _ _ _ | exact VLe.int (by first | rfl | omega | (dsimp only; omega)) | exact VLe.bool rfl | exact VLe.sl rfl (by first | rfl | omega) | exact VLe.cap rfl (by first | rfl | omega) | exact VLe.im rfl rfl | omega | (refine fun id k h => ?_; simp only [hget] at h ⊢; (repeat' (split at h)) <;> first | (cases h; done) | (simp (disch := omega) only [if_pos, if_neg]; exact h)))))
    · exact ⟨Nat.zero_le _, by simp only; omega, by simp only; omega⟩
    · rintro ⟨i, q, m⟩ ⟨hi1, hq1, hq2⟩ K hK
      simp only at hi1 hq1 hq2 ⊢
      have gw := bw_len (c ++ num (hdI z) ++ lbs (l.take i))
      have gt : (bw (c ++ num (hdI z) ++ lbs (l.take i))).take (c ++ num (hdI z) ++ lbs (l.take i)).length = bw (c ++ num (hdI z) ++ lbs (l.take i)) := List.take_of_length_le (by omega)
      have gm : (c ++ num (hdI z) ++ lbs (l.take i)).length = c.length + (num (hdI z)).length + 4 * i := by
        rw [List.length_append, List.length_append, lbs_len, List.length_take, Nat.min_eq_left hi1]
      by_cases hlt : i < l.length
      · have gx := lv_get hlt
        have hx : l.getD i 0 < 4294967296 := lim_getD hlim hlt
        have n24 : min 24 32 = 24 := rfl
        have n16 : min 16 32 = 16 := rfl
        have n8 : min 8 32 = 8 := rfl
        have q2 : decide ((i : Int) < (l.length : Int)) = true := by rw [decide_eq_true_iff]; omega
        have x0 : ((i : Int)).toNat = i := rfl
        rw [gm] at gw gt
        have n0 : min 0 32 = 0 := rfl
        have l1 : ∀ y, (bw (c ++ num (hdI z) ++ lbs (l.take i)) ++ [y]).length = c.length + (num (hdI z)).length + 4 * i + 1 := fun y => by rw [List.length_append, gw]; rfl
        have l2 : ∀ y y2, (bw (c ++ num (hdI z) ++ lbs (l.take i)) ++ [y] ++ [y2]).length = c.length + (num (hdI z)).length + 4 * i + 1 + 1 := fun y y2 => by rw [List.length_append, l1]; rfl
        have l3 : ∀ y y2 y3, (bw (c ++ num (hdI z) ++ lbs (l.take i)) ++ [y] ++ [y2] ++ [y3]).length = c.length + (num (hdI z)).length + 4 * i + 1 + 1 + 1 := fun y y2 y3 => by rw [List.length_append, l2]; rfl
        have t1 := fun y => List.take_of_length_le (Nat.le_of_eq (l1 y))
        have t2 := fun y y2 => List.take_of_length_le (Nat.le_of_eq (l2 y y2))
        have t3 := fun y y2 y3 => List.take_of_length_le (Nat.le_of_eq (l3 y y2 y3))
        (repeat (first | refine DO.nil (by kernel_rfl) ?_ | (with_reducible first | apply oz1 | apply oz2 | apply oz3 | apply oz4 | apply oz5 | apply oz6 | apply oz7 | apply oz8 | apply oz9 | apply ozb | apply ozc | apply oze | apply ozf | apply ozg | apply ozh | apply ozi | apply ozj | apply ozk | refine ozd (by decide) ?_) | ((with_reducible first | apply SC.condB | apply SC.region | apply SO.run | apply DO.run); (focus (simp (disch := omega) only [go_sem, ↓reduceIte, zn1, zn3, reduceCtorEq, zi1, zi2, if_pos, if_neg, n0, l1, l2, l3, t1, t2, t3, Int.reduceMul, Int.reduceAdd, q2, gx, x0, gw, gt, gm, List.getElem?_drop, Nat.add_zero, n24, n16, n8, Nat.mul_one, Nat.one_mul, List.drop_zero, List.take_succ_cons, List.take_zero] <;> rfl)); (first | refine pickT ?_ | refine pickF ?_ | fail_if_success with_reducible refine pickA ?_)) | ((with_reducible refine SC.draw Tab.mixed ?_ ?_); (focus rfl)) | (with_reducible apply SC.ops) | (with_reducible apply SR.next) | refine SC.loopN 5 ?_))
        have e4 : bw (c ++ num (hdI z) ++ lbs (l.take (i + 1))) = bw (c ++ num (hdI z) ++ lbs (l.take i)) ++ [.sc (.int .u8 (((l.getD i 0 : Nat) : Int).fdiv 1 % 256))] ++ [.sc (.int .u8 (((l.getD i 0 : Nat) : Int).fdiv 256 % 256))] ++ [.sc (.int .u8 (((l.getD i 0 : Nat) : Int).fdiv 65536 % 256))] ++ [.sc (.int .u8 (((l.getD i 0 : Nat) : Int).fdiv 16777216 % 256))] := by
          rw [← b4_bw4, ← bw_app, lbs_snoc hlt]; congr 1; exact (List.append_assoc ..).symm
        have e5 : (c ++ num (hdI z) ++ lbs (l.take (i + 1))).length = c.length + (num (hdI z)).length + 4 * i + 4 := by
          rw [List.length_append, List.length_append, lbs_len, List.length_take, Nat.min_eq_left (by omega : i + 1 ≤ l.length)]; omega
        refine hK _ (i + 1, m + 7, m + 8) ?_ ⟨by simp only; omega, by simp only; omega, by simp only; omega⟩ (by simp only; omega)
        simp only [e4, e5]
        (refine Le.slots ?_ ?_ ?_ <;> (repeat' (first | (exact fun _ _ h => h) | exact Nat.le_refl _ | exact leSl_nil | refine leSl_cons (by simp (disch := omega) only [go_sem, ↓reduceIte, zn1, reduceCtorEq] <;> rfl) ?_ ?_ | exact VLe.junk _ | exact VLe.refl rfl | exact VLe.nil_sl _ _ _ | exact VLe.int (by first | rfl | omega | (dsimp only; omega)) | exact VLe.bool rfl | exact VLe.sl rfl (by first | rfl | omega) | exact VLe.cap rfl (by first | rfl | omega) | exact VLe.im rfl rfl | omega | (refine fun id k h => ?_; simp only [hget] at h ⊢; (repeat' (split at h)) <;> first | (cases h; done) | (simp (disch := omega) only [if_pos, if_neg]; exact h)))))
      · have q2 : decide ((i : Int) < (l.length : Int)) = false := by rw [decide_eq_false_iff_not]; omega
        have hie : i = l.length := by omega
        have e6 : c ++ num (hdI z) ++ lbs (l.take i) = c ++ int_ z := by rw [hie, List.take_length, List.append_assoc]; unfold int_; rw [hl]
        have e7 : (c ++ num (hdI z) ++ lbs (l.take i)).length = c.length + (int_ z).length := by rw [e6, List.length_append]
        rw [e6] at gw gt ⊢
        rw [e6] at e7
        rw [e7]
        (repeat (first | refine DO.nil (by kernel_rfl) ?_ | (with_reducible first | apply oz1 | apply oz2 | apply oz3 | apply oz4 | apply oz5 | apply oz6 | apply oz7 | apply oz8 | apply oz9 | apply ozb | apply ozc | apply oze | apply ozf | apply ozg | apply ozh | apply ozi | apply ozj | apply ozk | refine ozd (by decide) ?_) | ((with_reducible first | apply SC.condB | apply SC.region | apply SO.run | apply DO.run); (focus (simp (disch := omega) only [go_sem, ↓reduceIte, zn1, zn2, reduceCtorEq, if_neg, q2] <;> rfl)); (first | refine pickT ?_ | refine pickF ?_ | fail_if_success with_reducible refine pickA ?_)) | ((with_reducible refine SC.draw Tab.mixed ?_ ?_); (focus rfl)) | (with_reducible apply SC.ops) | (with_reducible apply SR.next) | refine SC.loopN 5 ?_))
        refine retIQ_ret (.sl q 0 (c.length + (int_ z).length) 1 none) [(q, ⟨5, bw (c ++ int_ z), false⟩)] m Try.results13 (by simp (disch := omega) only [go_sem, ↓reduceIte]; rfl) ⟨q, by omega, rfl, rfl⟩ ?_
        (refine Le.slots ?_ ?_ ?_ <;> (repeat' (first | (exact fun _ _ h => h) | exact Nat.le_refl _ | exact leSl_nil | refine leSl_cons (by simp (disch := omega) only [go_sem, ↓reduceIte] <;> rfl) ?_ ?_ | exact VLe.junk _ | exact VLe.refl rfl | exact VLe.nil_sl _ _ _ | exact VLe.int (by first | rfl | omega | (dsimp only; omega)) | exact VLe.bool rfl | exact VLe.sl rfl (by first | rfl | omega) | exact VLe.cap rfl (by first | rfl | omega) | exact VLe.im rfl rfl | omega | (refine fun id k h => ?_; simp only [hget] at h ⊢; (repeat' (split at h)) <;> first | (cases h; done) | (simp (disch := omega) only [if_pos]; exact h)))))
end Go.Proofs.Ytphilljhfdlfdaa
namespace Go.Proofs.Ytphilljhfdlfdaa
open Go.RowKit
set_option maxHeartbeats 4000000 in
theorem rcell_s {x : Cel} (h : CelOk x) : PutA 59 [.ag (celC x)] (cel_ x) := by
  have hl : (cel_ x).length = (whl x.id).length + (whl x.dim).length + (lst fc_ x.B).length := by unfold cel_; rw [List.length_append, List.length_append]
  have hl2 : (lst fc_ x.B).length = (num x.B.length).length + (x.B.flatMap fc_).length := List.length_append
  refine PutA.of (by have := whl_pos x.id; omega) fun id c cap nx hc hi => ?_
  obtain ⟨h1, h2, h3, h4⟩ := h
  have a1 := rwhole_s h1 id c cap (by omega)
  have a2 := rwhole_s h2 (nx + 1) (c ++ whl x.id) none (by rw [List.length_append]; omega)
  have a3 := rnumber_s x.B.length (by omega) (nx + 2) (c ++ whl x.id ++ whl x.dim) none (by rw [List.length_append, List.length_append]; omega)
  simp only [List.length_append] at a2 a3
  unfold celC
  refine InlQ.run Try.func59 rfl Try.ntmps59 (by simp) (by simp (disch := omega) only [go_sem, zn4]; rfl) fun B hB => ?_
  (repeat (first | refine DO.nil (by kernel_rfl) ?_ | (with_reducible first | apply oz1 | apply oz2 | apply oz3 | apply oz4 | apply oz5 | apply oz6 | apply oz7 | apply oz8 | apply oz9 | apply ozb | apply ozc | apply oze | apply ozf | apply ozg | apply ozh | apply ozi | apply ozj | apply ozk | refine ozd (by decide) ?_) | ((first | apply SO.call | apply DO.call); (iterate 3 (focus (simp (disch := omega) only [go_sem, ↓reduceIte, zn1, if_neg] <;> rfl))); (first | apply SCall.ofX | apply DCall.ofX); (focus (first | assumption)); (focus (simp (disch := omega) only [go_sem, ↓reduceIte, zn1, zn2, zn3, zn4, zn5, zn6, reduceCtorEq, zn7, zi1, zi2, if_pos, if_neg] <;> rfl))) | ((with_reducible first | apply SC.condB | apply SC.region | apply SO.run | apply DO.run); (focus (simp (disch := omega) only [go_sem, ↓reduceIte, zn1, reduceCtorEq] <;> rfl)); (first | refine pickT ?_ | refine pickF ?_ | fail_if_success with_reducible refine pickA ?_)) | ((with_reducible refine SC.draw Tab.mixed ?_ ?_); (focus rfl)) | (with_reducible apply SC.ops)))
  (first | refine SO.callA Tab.go58 (by simp (disch := omega) only [go_sem, ↓reduceIte, zn1] <;> rfl) (by simp (disch := omega) only [go_sem] <;> rfl) (SApp.of (a1) (by simp (disch := omega) only [go_sem, ↓reduceIte, if_neg] <;> rfl) rfl (by simp (disch := omega) only [go_sem, ↓reduceIte, if_neg] <;> rfl) ?_) | refine DO.callA Tab.go58 (by simp (disch := omega) only [go_sem, ↓reduceIte, zn1, zn2, zn3, zn4, zn5, zn6, reduceCtorEq, zn7, zi1, zi2, if_pos, if_neg] <;> rfl) (by simp (disch := omega) only [go_sem, ↓reduceIte, zn1, zn2, zn3, zn4, zn5, zn6, reduceCtorEq, zn7, zi1, zi2, if_pos, if_neg] <;> rfl) (DApp.of (a1) (by simp (disch := omega) only [go_sem, ↓reduceIte, zn1, zn2, zn3, zn4, zn5, zn6, reduceCtorEq, zn7, zi1, zi2, if_pos, if_neg] <;> rfl) rfl (by simp (disch := omega) only [go_sem, ↓reduceIte, zn1, zn2, zn3, zn4, zn5, zn6, reduceCtorEq, zn7, zi1, zi2, if_pos, if_neg] <;> rfl) ?_))
  (repeat (first | refine DO.nil (by kernel_rfl) ?_ | (with_reducible first | apply oz1 | apply oz2 | apply oz3 | apply oz4 | apply oz5 | apply oz6 | apply oz7 | apply oz8 | apply oz9 | apply ozb | apply ozc | apply oze | apply ozf | apply ozg | apply ozh | apply ozi | apply ozj | apply ozk | refine ozd (by decide) ?_) | ((first | apply SO.call | apply DO.call); (iterate 3 (focus (simp (disch := omega) only [go_sem, ↓reduceIte, zn1] <;> rfl))); (first | apply SCall.ofX | apply DCall.ofX); (focus (first | assumption)); (focus (simp (disch := omega) only [go_sem, ↓reduceIte, zn1, zn2, zn3, zn4, zn5, zn6, reduceCtorEq, zn7, zi1, zi2, if_pos, if_neg] <;> rfl))) | ((with_reducible first | apply SC.condB | apply SC.region | apply SO.run | apply DO.run); (focus (simp (disch := omega) only [go_sem, ↓reduceIte, zn1, reduceCtorEq, if_neg] <;> rfl)); (first | refine pickT ?_ | refine pickF ?_ | fail_if_success with_reducible refine pickA ?_)) | ((with_reducible refine SC.draw Tab.mixed ?_ ?_); (focus rfl)) | (with_reducible apply SC.ops)))
  (first | refine SO.callA Tab.go58 (by simp (disch := omega) only [go_sem, ↓reduceIte, zn1] <;> rfl) (by simp (disch := omega) only [go_sem] <;> rfl) (SApp.of (a2) (by simp (disch := omega) only [go_sem, ↓reduceIte] <;> rfl) rfl (by simp (disch := omega) only [go_sem, ↓reduceIte, if_neg] <;> rfl) ?_) | refine DO.callA Tab.go58 (by simp (disch := omega) only [go_sem, ↓reduceIte, zn1, zn2, zn3, zn4, zn5, zn6, reduceCtorEq, zn7, zi1, zi2, if_pos, if_neg] <;> rfl) (by simp (disch := omega) only [go_sem, ↓reduceIte, zn1, zn2, zn3, zn4, zn5, zn6, reduceCtorEq, zn7, zi1, zi2, if_pos, if_neg] <;> rfl) (DApp.of (a2) (by simp (disch := omega) only [go_sem, ↓reduceIte, zn1, zn2, zn3, zn4, zn5, zn6, reduceCtorEq, zn7, zi1, zi2, if_pos, if_neg] <;> rfl) rfl (by simp (disch := omega) only [go_sem, ↓reduceIte, zn1, zn2, zn3, zn4, zn5, zn6, reduceCtorEq, zn7, zi1, zi2, if_pos, if_neg] <;> rfl) ?_))
  (repeat (first | refine DO.nil (by kernel_rfl) ?_ | (with_reducible first | apply oz1 | apply oz2 | apply oz3 | apply oz4 | apply oz5 | apply oz6 | apply oz7 | apply oz8 | apply oz9 | apply ozb | apply ozc | apply oze | apply ozf | apply ozg | apply ozh | apply ozi | apply ozj | apply ozk | refine ozd (by decide) ?_) | ((first | apply SO.call | apply DO.call); (iterate 3 (focus (simp (disch := omega) only [go_sem, ↓reduceIte, zn1] <;> rfl))); (first | apply SCall.ofX | apply DCall.ofX); (focus (first | assumption)); (focus (simp (disch := omega) only [go_sem, ↓reduceIte, zn1, zn2, zn3, zn4, zn5, zn6, reduceCtorEq, zn7, zi1, zi2, if_pos, if_neg] <;> rfl))) | ((with_reducible first | apply SC.condB | apply SC.region | apply SO.run | apply DO.run); (focus (simp (disch := omega) only [go_sem, ↓reduceIte, zn1, reduceCtorEq, if_neg] <;> rfl)); (first | refine pickT ?_ | refine pickF ?_ | fail_if_success with_reducible refine pickA ?_)) | ((with_reducible refine SC.draw Tab.mixed ?_ ?_); (focus rfl)) | (with_reducible apply SC.ops)))
  (first | refine SO.callA Tab.go39 (by simp (disch := omega) only [go_sem, ↓reduceIte, zn1] <;> rfl) (by simp (disch := omega) only [go_sem] <;> rfl) (SApp.of (a3) (by simp (disch := omega) only [go_sem, ↓reduceIte] <;> rfl) rfl (by simp (disch := omega) only [go_sem, ↓reduceIte, if_neg] <;> rfl) ?_) | refine DO.callA Tab.go39 (by simp (disch := omega) only [go_sem, ↓reduceIte, zn1, zn2, zn3, zn4, zn5, zn6, reduceCtorEq, zn7, zi1, zi2, if_pos, if_neg] <;> rfl) (by simp (disch := omega) only [go_sem, ↓reduceIte, zn1, zn2, zn3, zn4, zn5, zn6, reduceCtorEq, zn7, zi1, zi2, if_pos, if_neg] <;> rfl) (DApp.of (a3) (by simp (disch := omega) only [go_sem, ↓reduceIte, zn1, zn2, zn3, zn4, zn5, zn6, reduceCtorEq, zn7, zi1, zi2, if_pos, if_neg] <;> rfl) rfl (by simp (disch := omega) only [go_sem, ↓reduceIte, zn1, zn2, zn3, zn4, zn5, zn6, reduceCtorEq, zn7, zi1, zi2, if_pos, if_neg] <;> rfl) ?_))
  (repeat (first | refine DO.nil (by kernel_rfl) ?_ | (with_reducible first | apply oz1 | apply oz2 | apply oz3 | apply oz4 | apply oz5 | apply oz6 | apply oz7 | apply oz8 | apply oz9 | apply ozb | apply ozc | apply oze | apply ozf | apply ozg | apply ozh | apply ozi | apply ozj | apply ozk | refine ozd (by decide) ?_) | ((with_reducible first | apply SC.condB | apply SC.region | apply SO.run | apply DO.run); (focus (simp (disch := omega) only [go_sem, ↓reduceIte] <;> rfl)); (first | refine pickT ?_ | refine pickF ?_ | fail_if_success with_reducible refine pickA ?_)) | ((with_reducible refine SC.draw Tab.mixed ?_ ?_); (focus rfl)) | (with_reducible apply SC.ops)))
  have hh : ∀ i, (c ++ whl x.id ++ whl x.dim ++ num x.B.length ++ (x.B.take i).flatMap fc_).length = c.length + (whl x.id).length + (whl x.dim).length + (num x.B.length).length + ((x.B.take i).flatMap fc_).length := fun i => by simp only [List.length_append]
  refine SC.loop (fun z : Nat × Nat × Nat => ⟨[(0, .sl z.2.1 0 (c ++ whl x.id ++ whl x.dim ++ num x.B.length ++ (x.B.take z.1).flatMap fc_).length 1 none), (3, .pt nx 0), (5, .sc (.int .i64 z.1))], [(z.2.1, ⟨5, bw (c ++ whl x.id ++ whl x.dim ++ num x.B.length ++ (x.B.take z.1).flatMap fc_), false⟩), (nx, ⟨64, [.sc (.int .i64 x.id), .sc (.int .i64 x.dim), .im (fcs x.B) x.B.length], false⟩)], z.2.2, 44⟩)
    (fun z => z.1 ≤ x.B.length ∧ nx < z.2.1 ∧ z.2.1 < z.2.2) (fun z => x.B.length - z.1) (0, nx + 3, nx + 4) ?_ ?_ ?_
  · simp only [List.take_zero, List.flatMap_nil, List.append_nil, List.length_append]
    (refine Le.slots ?_ ?_ ?_ <;> (repeat' (first | (exact fun _ _ h => h) | exact Nat.le_refl _ | exact leSl_nil | refine leSl_cons (by simp (disch := omega) only [go_sem, ↓reduceIte, zn1, reduceCtorEq] <;> rfl) ?_ ?_ | exact VLe.junk _ | exact VLe.refl rfl | exact VLe.nil_sl _ _ _ | exact VLe.int (by first | rfl | omega | (dsimp only; omega)) | exact VLe.bool rfl | exact VLe.sl rfl (by first | rfl | omega) | exact VLe.cap rfl (by first | rfl | omega) | exact VLe.im rfl rfl | omega | (refine fun id k h => ?_; simp only [hget] at h ⊢; (repeat' (split at h)) <;> first | (cases h; done) | (simp (disch := omega) only [if_pos, if_neg]; exact h)))))
  · exact ⟨Nat.zero_le _, by simp only; omega, by simp only; omega⟩
  · rintro ⟨i, q, m⟩ ⟨hi1, hq1, hq2⟩ K hK
    simp only at hi1 hq1 hq2 ⊢
    by_cases hlt : i < x.B.length
    · have gx := fcs_drop x.B i hlt
      have gl := fcs_len x.B
      have q2 : decide ((i : Int) < (x.B.length : Int)) = true := by rw [decide_eq_true_iff]; omega
      have x0 : ((i : Int)).toNat = i := rfl
      have h12 := h4 x.B[i] (List.getElem_mem hlt)
      have hs := flat_snoc fc_ x.B hlt
      have hle := flat_le fc_ x.B (i + 1)
      rw [hs, List.length_append] at hle
      have hE : (fc_ x.B[i]).length = (whl x.B[i].1).length + (int_ x.B[i].2).length := List.length_append
      have f1 := rwhole_s h12.1 q (c ++ whl x.id ++ whl x.dim ++ num x.B.length ++ (x.B.take i).flatMap fc_) none (by rw [hh]; omega)
      have f2 := rputint_s x.B[i].2 h12.2 m (c ++ whl x.id ++ whl x.dim ++ num x.B.length ++ (x.B.take i).flatMap fc_ ++ whl x.B[i].1) none (by rw [List.length_append, hh]; omega)
      rw [List.length_append] at f2
      have e5 : (c ++ whl x.id ++ whl x.dim ++ num x.B.length ++ (x.B.take (i + 1)).flatMap fc_).length = (c ++ whl x.id ++ whl x.dim ++ num x.B.length ++ (x.B.take i).flatMap fc_).length + (whl x.B[i].1).length + (int_ x.B[i].2).length := by rw [hs, ← List.append_assoc, List.length_append, hE]; omega
      have e4 : bw (c ++ whl x.id ++ whl x.dim ++ num x.B.length ++ (x.B.take (i + 1)).flatMap fc_) = bw (c ++ whl x.id ++ whl x.dim ++ num x.B.length ++ (x.B.take i).flatMap fc_ ++ whl x.B[i].1 ++ int_ x.B[i].2) := by rw [hs]; unfold fc_; simp only [List.append_assoc]
      have hK2 := fun s q' m' h => hK s (i + 1, q', m') h
      simp only [e4, e5] at hK2
      generalize c ++ whl x.id ++ whl x.dim ++ num x.B.length ++ (x.B.take i).flatMap fc_ = pre at *
      unfold iv sv at f2
      (repeat (first | refine DO.nil (by kernel_rfl) ?_ | (with_reducible first | apply oz1 | apply oz2 | apply oz3 | apply oz4 | apply oz5 | apply oz6 | apply oz7 | apply oz8 | apply oz9 | apply ozb | apply ozc | apply oze | apply ozf | apply ozg | apply ozh | apply ozi | apply ozj | apply ozk | refine ozd (by decide) ?_) | ((first | apply SO.call | apply DO.call); (iterate 3 (focus (simp (disch := omega) only [go_sem, ↓reduceIte, zn1, List.drop_zero] <;> rfl))); (first | apply SCall.ofX | apply DCall.ofX); (focus (first | assumption)); (focus (simp (disch := omega) only [go_sem, ↓reduceIte, zn1, zn2, zn3, zn4, zn5, zn6, reduceCtorEq, zn7, zi1, zi2, if_pos, if_neg, q2, x0, gl, gx, List.cons_append, List.nil_append, List.take_succ_cons, List.take_zero, List.drop_succ_cons, List.drop_zero] <;> rfl))) | ((with_reducible first | apply SC.condB | apply SC.region | apply SO.run | apply DO.run); (focus (simp (disch := omega) only [go_sem, ↓reduceIte, zn1, reduceCtorEq, if_pos, if_neg, q2, x0, gl, gx, List.cons_append, List.nil_append, List.drop_zero] <;> rfl)); (first | refine pickT ?_ | refine pickF ?_ | fail_if_success with_reducible refine pickA ?_)) | ((with_reducible refine SC.draw Tab.mixed ?_ ?_); (focus rfl)) | (with_reducible apply SC.ops)))
      (first | refine SO.callA Tab.go58 (by simp (disch := omega) only [go_sem, ↓reduceIte, zn1] <;> rfl) (by simp (disch := omega) only [go_sem] <;> rfl) (SApp.of (f1) (by simp (disch := omega) only [go_sem, ↓reduceIte] <;> rfl) rfl (by simp (disch := omega) only [go_sem, ↓reduceIte, if_neg] <;> rfl) ?_) | refine DO.callA Tab.go58 (by simp (disch := omega) only [go_sem, ↓reduceIte, zn1, zn2, zn3, zn4, zn5, zn6, reduceCtorEq, zn7, zi1, zi2, if_pos, if_neg] <;> rfl) (by simp (disch := omega) only [go_sem, ↓reduceIte, zn1, zn2, zn3, zn4, zn5, zn6, reduceCtorEq, zn7, zi1, zi2, if_pos, if_neg] <;> rfl) (DApp.of (f1) (by simp (disch := omega) only [go_sem, ↓reduceIte, zn1, zn2, zn3, zn4, zn5, zn6, reduceCtorEq, zn7, zi1, zi2, if_pos, if_neg] <;> rfl) rfl (by simp (disch := omega) only [go_sem, ↓reduceIte, zn1, zn2, zn3, zn4, zn5, zn6, reduceCtorEq, zn7, zi1, zi2, if_pos, if_neg] <;> rfl) ?_))
      (repeat (first | refine DO.nil (by kernel_rfl) ?_ | (with_reducible first | apply oz1 | apply oz2 | apply oz3 | apply oz4 | apply oz5 | apply oz6 | apply oz7 | apply oz8 | apply oz9 | apply ozb | apply ozc | apply oze | apply ozf | apply ozg | apply ozh | apply ozi | apply ozj | apply ozk | refine ozd (by decide) ?_) | ((first | apply SO.call | apply DO.call); (iterate 3 (focus (simp (disch := omega) only [go_sem, ↓reduceIte, zn1, List.drop_zero] <;> rfl))); (first | apply SCall.ofX | apply DCall.ofX); (focus (first | assumption)); (focus (simp (disch := omega) only [go_sem, ↓reduceIte, zn1, zn2, zn3, zn4, zn5, zn6, reduceCtorEq, zn7, zi1, zi2, if_pos, if_neg, q2, x0, gl, gx, List.cons_append, List.nil_append, List.take_succ_cons, List.take_zero, List.drop_succ_cons, List.drop_zero] <;> rfl))) | ((with_reducible first | apply SC.condB | apply SC.region | apply SO.run | apply DO.run); (focus (simp (disch := omega) only [go_sem, ↓reduceIte, zn1, zn3, reduceCtorEq, if_pos, if_neg, x0, gl, gx, List.cons_append, List.nil_append, List.take_succ_cons, List.take_zero, List.drop_succ_cons, List.drop_zero] <;> rfl)); (first | refine pickT ?_ | refine pickF ?_ | fail_if_success with_reducible refine pickA ?_)) | ((with_reducible refine SC.draw Tab.mixed ?_ ?_); (focus rfl)) | (with_reducible apply SC.ops)))
      (first | refine SO.callA Tab.go13 (by simp (disch := omega) only [go_sem, ↓reduceIte, zn1] <;> rfl) (by simp (disch := omega) only [go_sem] <;> rfl) (SApp.of (f2) (by simp (disch := omega) only [go_sem, ↓reduceIte] <;> rfl) rfl (by simp (disch := omega) only [go_sem, ↓reduceIte, if_neg] <;> rfl) ?_) | refine DO.callA Tab.go13 (by simp (disch := omega) only [go_sem, ↓reduceIte, zn1, zn2, zn3, zn4, zn5, zn6, reduceCtorEq, zn7, zi1, zi2, if_pos, if_neg] <;> rfl) (by simp (disch := omega) only [go_sem, ↓reduceIte, zn1, zn2, zn3, zn4, zn5, zn6, reduceCtorEq, zn7, zi1, zi2, if_pos, if_neg] <;> rfl) (DApp.of (f2) (by simp (disch := omega) only [go_sem, ↓reduceIte, zn1, zn2, zn3, zn4, zn5, zn6, reduceCtorEq, zn7, zi1, zi2, if_pos, if_neg] <;> rfl) rfl (by simp (disch := omega) only [go_sem, ↓reduceIte, zn1, zn2, zn3, zn4, zn5, zn6, reduceCtorEq, zn7, zi1, zi2, if_pos, if_neg] <;> rfl) ?_))
      (repeat (first | refine DO.nil (by kernel_rfl) ?_ | (with_reducible first | apply oz1 | apply oz2 | apply oz3 | apply oz4 | apply oz5 | apply oz6 | apply oz7 | apply oz8 | apply oz9 | apply ozb | apply ozc | apply oze | apply ozf | apply ozg | apply ozh | apply ozi | apply ozj | apply ozk | refine ozd (by decide) ?_) | ((with_reducible first | apply SC.condB | apply SC.region | apply SO.run | apply DO.run); (focus (simp (disch := omega) only [go_sem, ↓reduceIte, zn1, reduceCtorEq] <;> rfl)); (first | refine pickT ?_ | refine pickF ?_ | fail_if_success with_reducible refine pickA ?_)) | ((with_reducible refine SC.draw Tab.mixed ?_ ?_); (focus rfl)) | (with_reducible apply SC.ops)))
      refine hK2 _ (m + 1) (m + 2) ?_ ⟨by omega, by omega, by omega⟩ (by omega)
      (refine Le.slots ?_ ?_ ?_ <;> (repeat' (first | (exact fun _ _ h => h) | exact Nat.le_refl _ | exact leSl_nil | refine leSl_cons (by simp (disch := omega) only [go_sem, ↓reduceIte, zn1, reduceCtorEq] <;> rfl) ?_ ?_ | exact VLe.junk _ | exact VLe.refl rfl | exact VLe.nil_sl _ _ _ | exact VLe.int (by first | rfl | omega | (dsimp only; omega)) | exact VLe.bool rfl | exact VLe.sl rfl (by first | rfl | omega) | exact VLe.cap rfl (by first | rfl | omega) | exact VLe.im rfl rfl | omega | (refine fun id k h => ?_; simp only [hget] at h ⊢; (repeat' (split at h)) <;> first | (cases h; done) | (simp (disch := omega) only [if_pos, if_neg]; exact h)))))
    · have q2 : decide ((i : Int) < (x.B.length : Int)) = false := by rw [decide_eq_false_iff_not]; omega
      have hie : i = x.B.length := by omega
      subst hie
      rw [List.take_length] at *
      (repeat (first | refine DO.nil (by kernel_rfl) ?_ | (with_reducible first | apply oz1 | apply oz2 | apply oz3 | apply oz4 | apply oz5 | apply oz6 | apply oz7 | apply oz8 | apply oz9 | apply ozb | apply ozc | apply oze | apply ozf | apply ozg | apply ozh | apply ozi | apply ozj | apply ozk | refine ozd (by decide) ?_) | ((with_reducible first | apply SC.condB | apply SC.region | apply SO.run | apply DO.run); (focus (simp (disch := omega) only [go_sem, ↓reduceIte, zn1, zn2, reduceCtorEq, if_neg, q2] <;> rfl)); (first | refine pickT ?_ | refine pickF ?_ | fail_if_success with_reducible refine pickA ?_)) | ((with_reducible refine SC.draw Tab.mixed ?_ ?_); (focus rfl)) | (with_reducible apply SC.ops)))
      have e : bw (c ++ cel_ x) = bw (c ++ whl x.id ++ whl x.dim ++ num x.B.length ++ x.B.flatMap fc_) := by unfold cel_ lst; simp only [List.append_assoc]
      have e2 : (c ++ whl x.id ++ whl x.dim ++ num x.B.length ++ x.B.flatMap fc_).length = c.length + (cel_ x).length := by simp only [List.length_append]; omega
      rw [e2]
      refine retIQ_ret (.sl q 0 (c.length + (cel_ x).length) 1 none) [(q, ⟨5, bw (c ++ cel_ x), false⟩)] m Try.results59 (by simp (disch := omega) only [go_sem, ↓reduceIte]; rfl) ⟨q, by omega, rfl, rfl⟩ ?_
      rw [e]
      (refine Le.slots ?_ ?_ ?_ <;> (repeat' (first | (exact fun _ _ h => h) | exact Nat.le_refl _ | exact leSl_nil | refine leSl_cons (by simp (disch := omega) only [go_sem, ↓reduceIte] <;> rfl) ?_ ?_ | exact VLe.junk _ | exact VLe.refl rfl | exact VLe.nil_sl _ _ _ | exact VLe.int (by first | rfl | omega | (dsimp only; omega)) | exact VLe.bool rfl | exact VLe.sl rfl (by first | rfl | omega) | exact VLe.cap rfl (by first | rfl | omega) | exact VLe.im rfl rfl | omega | (refine fun id k h => ?_; simp only [hget] at h ⊢; (repeat' (split at h)) <;> first | (cases h; done) | (simp (disch := omega) only [if_pos]; exact h)))))
end Go.Proofs.Ytphilljhfdlfdaa
namespace Go.Proofs.Ytphilljhfdlfdaa
open Go.RowKit
set_option maxHeartbeats 4000000 in
theorem head_s {x : Hst} (hx : HstOk x) : PutA 23 [hstC x] (hed_ x) := by
  obtain ⟨h1, h2, h3, h4, h5⟩ := hx
  have hl : (hed_ x).length = (whl x.start).length + (num x.base.length).length + (x.base.flatMap cel_).length := by unfold hed_ lst; simp only [List.length_append]; omega
  refine PutA.of (by have := whl_pos x.start; omega) fun id c cap nx hc hi => ?_
  have a1 := rwhole_s h1 id c cap (by omega)
  have a2 := rnumber_s x.base.length (by omega) (nx + 1) (c ++ whl x.start) none (by rw [List.length_append]; omega)
  simp only [List.length_append] at a2
  unfold hstC
  refine InlQ.run Try.func23 rfl Try.ntmps23 (by simp) (by simp (disch := omega) only [go_sem, zn4]; rfl) fun B hB => ?_
  (repeat (first | refine DO.nil (by kernel_rfl) ?_ | (with_reducible first | apply oz1 | apply oz2 | apply oz3 | apply oz4 | apply oz5 | apply oz6 | apply oz7 | apply oz8 | apply oz9 | apply ozb | apply ozc | apply oze | apply ozf | apply ozg | apply ozh | apply ozi | apply ozj | apply ozk | refine ozd (by decide) ?_) | ((first | apply SO.call | apply DO.call); (iterate 3 (focus (simp (disch := omega) only [go_sem, ↓reduceIte, zn1, if_neg] <;> rfl))); (first | apply SCall.ofX | apply DCall.ofX); (focus (first | assumption)); (focus (simp (disch := omega) only [go_sem, ↓reduceIte, zn1, zn2, zn3, zn4, zn5, zn6, reduceCtorEq, zn7, zi1, zi2, if_pos, if_neg] <;> rfl))) | ((with_reducible first | apply SC.condB | apply SC.region | apply SO.run | apply DO.run); (focus (simp (disch := omega) only [go_sem, ↓reduceIte, zn1, reduceCtorEq] <;> rfl)); (first | refine pickT ?_ | refine pickF ?_ | fail_if_success with_reducible refine pickA ?_)) | ((with_reducible refine SC.draw Tab.mixed ?_ ?_); (focus rfl)) | (with_reducible apply SC.ops)))
  (first | refine SO.callA Tab.go58 (by simp (disch := omega) only [go_sem, ↓reduceIte, zn1] <;> rfl) (by simp (disch := omega) only [go_sem] <;> rfl) (SApp.of (a1) (by simp (disch := omega) only [go_sem, ↓reduceIte, if_neg] <;> rfl) rfl (by simp (disch := omega) only [go_sem, ↓reduceIte, if_neg] <;> rfl) ?_) | refine DO.callA Tab.go58 (by simp (disch := omega) only [go_sem, ↓reduceIte, zn1, zn2, zn3, zn4, zn5, zn6, reduceCtorEq, zn7, zi1, zi2, if_pos, if_neg] <;> rfl) (by simp (disch := omega) only [go_sem, ↓reduceIte, zn1, zn2, zn3, zn4, zn5, zn6, reduceCtorEq, zn7, zi1, zi2, if_pos, if_neg] <;> rfl) (DApp.of (a1) (by simp (disch := omega) only [go_sem, ↓reduceIte, zn1, zn2, zn3, zn4, zn5, zn6, reduceCtorEq, zn7, zi1, zi2, if_pos, if_neg] <;> rfl) rfl (by simp (disch := omega) only [go_sem, ↓reduceIte, zn1, zn2, zn3, zn4, zn5, zn6, reduceCtorEq, zn7, zi1, zi2, if_pos, if_neg] <;> rfl) ?_))
  (repeat (first | refine DO.nil (by kernel_rfl) ?_ | (with_reducible first | apply oz1 | apply oz2 | apply oz3 | apply oz4 | apply oz5 | apply oz6 | apply oz7 | apply oz8 | apply oz9 | apply ozb | apply ozc | apply oze | apply ozf | apply ozg | apply ozh | apply ozi | apply ozj | apply ozk | refine ozd (by decide) ?_) | ((first | apply SO.call | apply DO.call); (iterate 3 (focus (simp (disch := omega) only [go_sem, ↓reduceIte, zn1] <;> rfl))); (first | apply SCall.ofX | apply DCall.ofX); (focus (first | assumption)); (focus (simp (disch := omega) only [go_sem, ↓reduceIte, zn1, zn2, zn3, zn4, zn5, zn6, reduceCtorEq, zn7, zi1, zi2, if_pos, if_neg] <;> rfl))) | ((with_reducible first | apply SC.condB | apply SC.region | apply SO.run | apply DO.run); (focus (simp (disch := omega) only [go_sem, ↓reduceIte, zn1, reduceCtorEq, if_neg] <;> rfl)); (first | refine pickT ?_ | refine pickF ?_ | fail_if_success with_reducible refine pickA ?_)) | ((with_reducible refine SC.draw Tab.mixed ?_ ?_); (focus rfl)) | (with_reducible apply SC.ops)))
  (first | refine SO.callA Tab.go39 (by simp (disch := omega) only [go_sem, ↓reduceIte, zn1] <;> rfl) (by simp (disch := omega) only [go_sem] <;> rfl) (SApp.of (a2) (by simp (disch := omega) only [go_sem, ↓reduceIte] <;> rfl) rfl (by simp (disch := omega) only [go_sem, ↓reduceIte, if_neg] <;> rfl) ?_) | refine DO.callA Tab.go39 (by simp (disch := omega) only [go_sem, ↓reduceIte, zn1, zn2, zn3, zn4, zn5, zn6, reduceCtorEq, zn7, zi1, zi2, if_pos, if_neg] <;> rfl) (by simp (disch := omega) only [go_sem, ↓reduceIte, zn1, zn2, zn3, zn4, zn5, zn6, reduceCtorEq, zn7, zi1, zi2, if_pos, if_neg] <;> rfl) (DApp.of (a2) (by simp (disch := omega) only [go_sem, ↓reduceIte, zn1, zn2, zn3, zn4, zn5, zn6, reduceCtorEq, zn7, zi1, zi2, if_pos, if_neg] <;> rfl) rfl (by simp (disch := omega) only [go_sem, ↓reduceIte, zn1, zn2, zn3, zn4, zn5, zn6, reduceCtorEq, zn7, zi1, zi2, if_pos, if_neg] <;> rfl) ?_))
  (repeat (first | refine DO.nil (by kernel_rfl) ?_ | (with_reducible first | apply oz1 | apply oz2 | apply oz3 | apply oz4 | apply oz5 | apply oz6 | apply oz7 | apply oz8 | apply oz9 | apply ozb | apply ozc | apply oze | apply ozf | apply ozg | apply ozh | apply ozi | apply ozj | apply ozk | refine ozd (by decide) ?_) | ((with_reducible first | apply SC.condB | apply SC.region | apply SO.run | apply DO.run); (focus (simp (disch := omega) only [go_sem, ↓reduceIte] <;> rfl)); (first | refine pickT ?_ | refine pickF ?_ | fail_if_success with_reducible refine pickA ?_)) | ((with_reducible refine SC.draw Tab.mixed ?_ ?_); (focus rfl)) | (with_reducible apply SC.ops)))
  have hh : ∀ i, (c ++ whl x.start ++ num x.base.length ++ (x.base.take i).flatMap cel_).length = c.length + (whl x.start).length + (num x.base.length).length + ((x.base.take i).flatMap cel_).length := fun i => by simp only [List.length_append]
  refine SC.loop (fun z : Nat × Nat × Nat => ⟨[(0, .sl z.2.1 0 (c ++ whl x.start ++ num x.base.length ++ (x.base.take z.1).flatMap cel_).length 1 none), (3, .pt nx 0), (5, .sc (.int .i64 z.1))], [(z.2.1, ⟨5, bw (c ++ whl x.start ++ num x.base.length ++ (x.base.take z.1).flatMap cel_), false⟩), (nx, ⟨52, [.sc (.int .i64 x.start), .im (cels x.base) x.base.length, .im (chgs x.log) x.log.length], false⟩)], z.2.2, 31⟩)
    (fun z => z.1 ≤ x.base.length ∧ nx < z.2.1 ∧ z.2.1 < z.2.2) (fun z => x.base.length - z.1) (0, nx + 2, nx + 3) ?_ ?_ ?_
  · simp only [List.take_zero, List.flatMap_nil, List.append_nil, List.length_append]
    (refine Le.slots ?_ ?_ ?_ <;> (repeat' (first | (exact fun _ _ h => h) | exact Nat.le_refl _ | exact leSl_nil | refine leSl_cons (by simp (disch := omega) only [go_sem, ↓reduceIte, zn1, reduceCtorEq] <;> rfl) ?_ ?_ | exact VLe.junk _ | exact VLe.refl rfl | exact VLe.nil_sl _ _ _ | exact VLe.int (by first | rfl | omega | (dsimp only; omega)) | exact VLe.bool rfl | exact VLe.sl rfl (by first | rfl | omega) | exact VLe.cap rfl (by first | rfl | omega) | exact VLe.im rfl rfl | omega | (refine fun id k h => ?_; simp only [hget] at h ⊢; (repeat' (split at h)) <;> first | (cases h; done) | (simp (disch := omega) only [if_pos, if_neg]; exact h)))))
  · exact ⟨Nat.zero_le _, by simp only; omega, by simp only; omega⟩
  · rintro ⟨i, q, m⟩ ⟨hi1, hq1, hq2⟩ K hK
    simp only at hi1 hq1 hq2 ⊢
    by_cases hlt : i < x.base.length
    · have gx := cels_drop x.base i hlt
      have gl := cels_len x.base
      have q2 : decide ((i : Int) < (x.base.length : Int)) = true := by rw [decide_eq_true_iff]; omega
      have x0 : ((i : Int)).toNat = i := rfl
      have h12 := h2 x.base[i] (List.getElem_mem hlt)
      have hs := flat_snoc cel_ x.base hlt
      have hle := flat_le cel_ x.base (i + 1)
      rw [hs, List.length_append] at hle
      have f1 := rcell_s h12 q (c ++ whl x.start ++ num x.base.length ++ (x.base.take i).flatMap cel_) none (by rw [hh]; omega)
      have e5 : (c ++ whl x.start ++ num x.base.length ++ (x.base.take (i + 1)).flatMap cel_).length = (c ++ whl x.start ++ num x.base.length ++ (x.base.take i).flatMap cel_).length + (cel_ x.base[i]).length := by rw [hs, ← List.append_assoc, List.length_append]
      have e4 : bw (c ++ whl x.start ++ num x.base.length ++ (x.base.take (i + 1)).flatMap cel_) = bw (c ++ whl x.start ++ num x.base.length ++ (x.base.take i).flatMap cel_ ++ cel_ x.base[i]) := by rw [hs]; simp only [List.append_assoc]
      have hK2 := fun s q' m' h => hK s (i + 1, q', m') h
      simp only [e4, e5] at hK2
      generalize c ++ whl x.start ++ num x.base.length ++ (x.base.take i).flatMap cel_ = pre at *
      unfold celC at gx f1
      (repeat (first | refine DO.nil (by kernel_rfl) ?_ | (with_reducible first | apply oz1 | apply oz2 | apply oz3 | apply oz4 | apply oz5 | apply oz6 | apply oz7 | apply oz8 | apply oz9 | apply ozb | apply ozc | apply oze | apply ozf | apply ozg | apply ozh | apply ozi | apply ozj | apply ozk | refine ozd (by decide) ?_) | ((first | apply SO.call | apply DO.call); (iterate 3 (focus (simp (disch := omega) only [go_sem, ↓reduceIte, zn1, List.drop_zero] <;> rfl))); (first | apply SCall.ofX | apply DCall.ofX); (focus (first | assumption)); (focus (simp (disch := omega) only [go_sem, ↓reduceIte, zn1, zn2, zn3, zn4, zn5, zn6, reduceCtorEq, zn7, zi1, zi2, if_pos, if_neg, q2, x0, gl, gx, List.cons_append, List.nil_append, List.take_succ_cons, List.take_zero, List.drop_succ_cons, List.drop_zero] <;> rfl))) | ((with_reducible first | apply SC.condB | apply SC.region | apply SO.run | apply DO.run); (focus (simp (disch := omega) only [go_sem, ↓reduceIte, zn1, zn3, reduceCtorEq, if_pos, if_neg, q2, x0, gl, gx, List.cons_append, List.nil_append, List.take_succ_cons, List.take_zero, List.drop_zero] <;> rfl)); (first | refine pickT ?_ | refine pickF ?_ | fail_if_success with_reducible refine pickA ?_)) | ((with_reducible refine SC.draw Tab.mixed ?_ ?_); (focus rfl)) | (with_reducible apply SC.ops)))
      (first | refine SO.callA Tab.go59 (by simp (disch := omega) only [go_sem, ↓reduceIte, zn1] <;> rfl) (by simp (disch := omega) only [go_sem] <;> rfl) (SApp.of (f1) (by simp (disch := omega) only [go_sem, ↓reduceIte] <;> rfl) rfl (by simp (disch := omega) only [go_sem, ↓reduceIte, if_neg] <;> rfl) ?_) | refine DO.callA Tab.go59 (by simp (disch := omega) only [go_sem, ↓reduceIte, zn1, zn2, zn3, zn4, zn5, zn6, reduceCtorEq, zn7, zi1, zi2, if_pos, if_neg] <;> rfl) (by simp (disch := omega) only [go_sem, ↓reduceIte, zn1, zn2, zn3, zn4, zn5, zn6, reduceCtorEq, zn7, zi1, zi2, if_pos, if_neg] <;> rfl) (DApp.of (f1) (by simp (disch := omega) only [go_sem, ↓reduceIte, zn1, zn2, zn3, zn4, zn5, zn6, reduceCtorEq, zn7, zi1, zi2, if_pos, if_neg] <;> rfl) rfl (by simp (disch := omega) only [go_sem, ↓reduceIte, zn1, zn2, zn3, zn4, zn5, zn6, reduceCtorEq, zn7, zi1, zi2, if_pos, if_neg] <;> rfl) ?_))
      (repeat (first | refine DO.nil (by kernel_rfl) ?_ | (with_reducible first | apply oz1 | apply oz2 | apply oz3 | apply oz4 | apply oz5 | apply oz6 | apply oz7 | apply oz8 | apply oz9 | apply ozb | apply ozc | apply oze | apply ozf | apply ozg | apply ozh | apply ozi | apply ozj | apply ozk | refine ozd (by decide) ?_) | ((with_reducible first | apply SC.condB | apply SC.region | apply SO.run | apply DO.run); (focus (simp (disch := omega) only [go_sem, ↓reduceIte, zn1, reduceCtorEq] <;> rfl)); (first | refine pickT ?_ | refine pickF ?_ | fail_if_success with_reducible refine pickA ?_)) | ((with_reducible refine SC.draw Tab.mixed ?_ ?_); (focus rfl)) | (with_reducible apply SC.ops)))
      refine hK2 _ m (m + 1) ?_ ⟨by omega, by omega, by omega⟩ (by omega)
      (refine Le.slots ?_ ?_ ?_ <;> (repeat' (first | (exact fun _ _ h => h) | exact Nat.le_refl _ | exact leSl_nil | refine leSl_cons (by simp (disch := omega) only [go_sem, ↓reduceIte, zn1, reduceCtorEq] <;> rfl) ?_ ?_ | exact VLe.junk _ | exact VLe.refl rfl | exact VLe.nil_sl _ _ _ | exact VLe.int (by first | rfl | omega | (dsimp only; omega)) | exact VLe.bool rfl | exact VLe.sl rfl (by first | rfl | omega) | exact VLe.cap rfl (by first | rfl | omega) | exact VLe.im rfl rfl | omega | (refine fun id k h => ?_; simp only [hget] at h ⊢; (repeat' (split at h)) <;> first | (cases h; done) | (simp (disch := omega) only [if_pos, if_neg]; exact h)))))
    · have q2 : decide ((i : Int) < (x.base.length : Int)) = false := by rw [decide_eq_false_iff_not]; omega
      have hie : i = x.base.length := by omega
      subst hie
      rw [List.take_length] at *
      (repeat (first | refine DO.nil (by kernel_rfl) ?_ | (with_reducible first | apply oz1 | apply oz2 | apply oz3 | apply oz4 | apply oz5 | apply oz6 | apply oz7 | apply oz8 | apply oz9 | apply ozb | apply ozc | apply oze | apply ozf | apply ozg | apply ozh | apply ozi | apply ozj | apply ozk | refine ozd (by decide) ?_) | ((with_reducible first | apply SC.condB | apply SC.region | apply SO.run | apply DO.run); (focus (simp (disch := omega) only [go_sem, ↓reduceIte, zn1, zn2, reduceCtorEq, if_neg, q2] <;> rfl)); (first | refine pickT ?_ | refine pickF ?_ | fail_if_success with_reducible refine pickA ?_)) | ((with_reducible refine SC.draw Tab.mixed ?_ ?_); (focus rfl)) | (with_reducible apply SC.ops)))
      have e : bw (c ++ hed_ x) = bw (c ++ whl x.start ++ num x.base.length ++ x.base.flatMap cel_) := by unfold hed_ lst; simp only [List.append_assoc]
      have e2 : (c ++ whl x.start ++ num x.base.length ++ x.base.flatMap cel_).length = c.length + (hed_ x).length := by simp only [List.length_append]; omega
      rw [e2]
      refine retIQ_ret (.sl q 0 (c.length + (hed_ x).length) 1 none) [(q, ⟨5, bw (c ++ hed_ x), false⟩)] m Try.results23 (by simp (disch := omega) only [go_sem, ↓reduceIte]; rfl) ⟨q, by omega, rfl, rfl⟩ ?_
      rw [e]
      (refine Le.slots ?_ ?_ ?_ <;> (repeat' (first | (exact fun _ _ h => h) | exact Nat.le_refl _ | exact leSl_nil | refine leSl_cons (by simp (disch := omega) only [go_sem, ↓reduceIte] <;> rfl) ?_ ?_ | exact VLe.junk _ | exact VLe.refl rfl | exact VLe.nil_sl _ _ _ | exact VLe.int (by first | rfl | omega | (dsimp only; omega)) | exact VLe.bool rfl | exact VLe.sl rfl (by first | rfl | omega) | exact VLe.cap rfl (by first | rfl | omega) | exact VLe.im rfl rfl | omega | (refine fun id k h => ?_; simp only [hget] at h ⊢; (repeat' (split at h)) <;> first | (cases h; done) | (simp (disch := omega) only [if_pos]; exact h)))))
end Go.Proofs.Ytphilljhfdlfdaa
namespace Go.Proofs.Ytphilljhfdlfdaa
open Go.RowKit
set_option maxHeartbeats 4000000 in
theorem rchange_s {x : Chg} (h : ChgOk x) : PutA 25 [.ag (chgC x)] (logE x) := by
  have hl : (logE x).length = 1 + (whl x.kind).length + (cel_ x.cell).length + (whl x.a).length + (whl x.b).length + (whl x.w0).length + (whl x.w1).length := by unfold logE chg_; simp only [List.length_append]; show 1 + _ = _; omega
  refine PutA.of (by omega) fun id c cap nx hc hi => ?_
  obtain ⟨h1, h2, h3, h4, h5, h6⟩ := h
  have f1l : (flg true).length = 1 := rfl
  have a1 := rwhole_s h1 (nx + 2) (c ++ flg true) none (by simp only [List.length_append]; omega)
  have a2 := rcell_s h2 (nx + 3) (c ++ flg true ++ whl x.kind) none (by simp only [List.length_append]; omega)
  have a3 := rwhole_s h3 (nx + 4) (c ++ flg true ++ whl x.kind ++ cel_ x.cell) none (by simp only [List.length_append]; omega)
  have a4 := rwhole_s h4 (nx + 5) (c ++ flg true ++ whl x.kind ++ cel_ x.cell ++ whl x.a) none (by simp only [List.length_append]; omega)
  have a5 := rwhole_s h5 (nx + 6) (c ++ flg true ++ whl x.kind ++ cel_ x.cell ++ whl x.a ++ whl x.b) none (by simp only [List.length_append]; omega)
  have a6 := rwhole_s h6 (nx + 7) (c ++ flg true ++ whl x.kind ++ cel_ x.cell ++ whl x.a ++ whl x.b ++ whl x.w0) none (by simp only [List.length_append]; omega)
  simp only [List.length_append, f1l] at a1 a2 a3 a4 a5 a6
  have ef : bw (c ++ flg true) = bw c ++ [.sc (.int .u8 1)] := by rw [bw_app]; rfl
  have gl := bw_len c
  have gt : (bw c).take c.length = bw c := List.take_of_length_le (by omega)
  rw [ef] at a1
  unfold chgC
  unfold celC at a2 ⊢
  simp only [List.cons_append, List.nil_append]
  refine InlQ.run Try.func25 rfl Try.ntmps25 (by simp) (by simp (disch := omega) only [go_sem, zn4]; rfl) fun B hB => ?_
  (repeat (first | refine DO.nil (by kernel_rfl) ?_ | (with_reducible first | apply oz1 | apply oz2 | apply oz3 | apply oz4 | apply oz5 | apply oz6 | apply oz7 | apply oz8 | apply oz9 | apply ozb | apply ozc | apply oze | apply ozf | apply ozg | apply ozh | apply ozi | apply ozj | apply ozk | refine ozd (by decide) ?_) | ((first | apply SO.call | apply DO.call); (iterate 3 (focus (simp (disch := omega) only [go_sem, ↓reduceIte, zn1, List.drop_zero, Nat.mul_one] <;> rfl))); (first | apply SCall.ofX | apply DCall.ofX); (focus (first | assumption)); (focus (simp (disch := omega) only [go_sem, ↓reduceIte, zn1, zn2, zn3, zn4, zn5, zn6, reduceCtorEq, zn7, zi1, zi2, if_pos, if_neg, gl, gt, List.drop_zero, Nat.mul_one] <;> rfl))) | ((with_reducible first | apply SC.condB | apply SC.region | apply SO.run | apply DO.run); (focus (simp (disch := omega) only [go_sem, ↓reduceIte, zn1, zn3, reduceCtorEq, if_pos, if_neg, gl, gt, List.drop_zero, Nat.mul_one] <;> rfl)); (first | refine pickT ?_ | refine pickF ?_ | fail_if_success with_reducible refine pickA ?_)) | ((with_reducible refine SC.draw Tab.mixed ?_ ?_); (focus rfl)) | (with_reducible apply SC.ops)))
  (first | refine SO.callA Tab.go58 (by simp (disch := omega) only [go_sem, ↓reduceIte, zn1] <;> rfl) (by simp (disch := omega) only [go_sem] <;> rfl) (SApp.of (a1) (by simp (disch := omega) only [go_sem, ↓reduceIte] <;> rfl) rfl (by simp (disch := omega) only [go_sem, ↓reduceIte, zn1, if_pos, if_neg] <;> rfl) ?_) | refine DO.callA Tab.go58 (by simp (disch := omega) only [go_sem, ↓reduceIte, zn1, zn2, zn3, zn4, zn5, zn6, reduceCtorEq, zn7, zi1, zi2, if_pos, if_neg] <;> rfl) (by simp (disch := omega) only [go_sem, ↓reduceIte, zn1, zn2, zn3, zn4, zn5, zn6, reduceCtorEq, zn7, zi1, zi2, if_pos, if_neg] <;> rfl) (DApp.of (a1) (by simp (disch := omega) only [go_sem, ↓reduceIte, zn1, zn2, zn3, zn4, zn5, zn6, reduceCtorEq, zn7, zi1, zi2, if_pos, if_neg] <;> rfl) rfl (by simp (disch := omega) only [go_sem, ↓reduceIte, zn1, zn2, zn3, zn4, zn5, zn6, reduceCtorEq, zn7, zi1, zi2, if_pos, if_neg] <;> rfl) ?_))
  (repeat (first | refine DO.nil (by kernel_rfl) ?_ | (with_reducible first | apply oz1 | apply oz2 | apply oz3 | apply oz4 | apply oz5 | apply oz6 | apply oz7 | apply oz8 | apply oz9 | apply ozb | apply ozc | apply oze | apply ozf | apply ozg | apply ozh | apply ozi | apply ozj | apply ozk | refine ozd (by decide) ?_) | ((first | apply SO.call | apply DO.call); (iterate 3 (focus (simp (disch := omega) only [go_sem, ↓reduceIte, zn1] <;> rfl))); (first | apply SCall.ofX | apply DCall.ofX); (focus (first | assumption)); (focus (simp (disch := omega) only [go_sem, ↓reduceIte, zn1, zn2, zn3, zn4, zn5, zn6, reduceCtorEq, zn7, zi1, zi2, if_pos, if_neg] <;> rfl))) | ((with_reducible first | apply SC.condB | apply SC.region | apply SO.run | apply DO.run); (focus (simp (disch := omega) only [go_sem, ↓reduceIte, zn1, zn3, zn4, reduceCtorEq, if_neg] <;> rfl)); (first | refine pickT ?_ | refine pickF ?_ | fail_if_success with_reducible refine pickA ?_)) | ((with_reducible refine SC.draw Tab.mixed ?_ ?_); (focus rfl)) | (with_reducible apply SC.ops)))
  (first | refine SO.callA Tab.go59 (by simp (disch := omega) only [go_sem, ↓reduceIte, zn1] <;> rfl) (by simp (disch := omega) only [go_sem] <;> rfl) (SApp.of (a2) (by simp (disch := omega) only [go_sem, ↓reduceIte] <;> rfl) rfl (by simp (disch := omega) only [go_sem, ↓reduceIte, zn1, if_pos, if_neg] <;> rfl) ?_) | refine DO.callA Tab.go59 (by simp (disch := omega) only [go_sem, ↓reduceIte, zn1, zn2, zn3, zn4, zn5, zn6, reduceCtorEq, zn7, zi1, zi2, if_pos, if_neg] <;> rfl) (by simp (disch := omega) only [go_sem, ↓reduceIte, zn1, zn2, zn3, zn4, zn5, zn6, reduceCtorEq, zn7, zi1, zi2, if_pos, if_neg] <;> rfl) (DApp.of (a2) (by simp (disch := omega) only [go_sem, ↓reduceIte, zn1, zn2, zn3, zn4, zn5, zn6, reduceCtorEq, zn7, zi1, zi2, if_pos, if_neg] <;> rfl) rfl (by simp (disch := omega) only [go_sem, ↓reduceIte, zn1, zn2, zn3, zn4, zn5, zn6, reduceCtorEq, zn7, zi1, zi2, if_pos, if_neg] <;> rfl) ?_))
  (repeat (first | refine DO.nil (by kernel_rfl) ?_ | (with_reducible first | apply oz1 | apply oz2 | apply oz3 | apply oz4 | apply oz5 | apply oz6 | apply oz7 | apply oz8 | apply oz9 | apply ozb | apply ozc | apply oze | apply ozf | apply ozg | apply ozh | apply ozi | apply ozj | apply ozk | refine ozd (by decide) ?_) | ((first | apply SO.call | apply DO.call); (iterate 3 (focus (simp (disch := omega) only [go_sem, ↓reduceIte, zn1] <;> rfl))); (first | apply SCall.ofX | apply DCall.ofX); (focus (first | assumption)); (focus (simp (disch := omega) only [go_sem, ↓reduceIte, zn1, zn2, zn3, zn4, zn5, zn6, reduceCtorEq, zn7, zi1, zi2, if_pos, if_neg, Int.reduceAdd] <;> rfl))) | ((with_reducible first | apply SC.condB | apply SC.region | apply SO.run | apply DO.run); (focus (simp (disch := omega) only [go_sem, ↓reduceIte, zn1, reduceCtorEq, if_neg] <;> rfl)); (first | refine pickT ?_ | refine pickF ?_ | fail_if_success with_reducible refine pickA ?_)) | ((with_reducible refine SC.draw Tab.mixed ?_ ?_); (focus rfl)) | (with_reducible apply SC.ops)))
  (first | refine SO.callA Tab.go58 (by simp (disch := omega) only [go_sem, ↓reduceIte, zn1] <;> rfl) (by simp (disch := omega) only [go_sem] <;> rfl) (SApp.of (a3) (by simp (disch := omega) only [go_sem, ↓reduceIte] <;> rfl) rfl (by simp (disch := omega) only [go_sem, ↓reduceIte, zn1, if_pos, if_neg] <;> rfl) ?_) | refine DO.callA Tab.go58 (by simp (disch := omega) only [go_sem, ↓reduceIte, zn1, zn2, zn3, zn4, zn5, zn6, reduceCtorEq, zn7, zi1, zi2, if_pos, if_neg] <;> rfl) (by simp (disch := omega) only [go_sem, ↓reduceIte, zn1, zn2, zn3, zn4, zn5, zn6, reduceCtorEq, zn7, zi1, zi2, if_pos, if_neg] <;> rfl) (DApp.of (a3) (by simp (disch := omega) only [go_sem, ↓reduceIte, zn1, zn2, zn3, zn4, zn5, zn6, reduceCtorEq, zn7, zi1, zi2, if_pos, if_neg] <;> rfl) rfl (by simp (disch := omega) only [go_sem, ↓reduceIte, zn1, zn2, zn3, zn4, zn5, zn6, reduceCtorEq, zn7, zi1, zi2, if_pos, if_neg] <;> rfl) ?_))
  (repeat (first | refine DO.nil (by kernel_rfl) ?_ | (with_reducible first | apply oz1 | apply oz2 | apply oz3 | apply oz4 | apply oz5 | apply oz6 | apply oz7 | apply oz8 | apply oz9 | apply ozb | apply ozc | apply oze | apply ozf | apply ozg | apply ozh | apply ozi | apply ozj | apply ozk | refine ozd (by decide) ?_) | ((first | apply SO.call | apply DO.call); (iterate 3 (focus (simp (disch := omega) only [go_sem, ↓reduceIte, zn1] <;> rfl))); (first | apply SCall.ofX | apply DCall.ofX); (focus (first | assumption)); (focus (simp (disch := omega) only [go_sem, ↓reduceIte, zn1, zn2, zn3, zn4, zn5, zn6, reduceCtorEq, zn7, zi1, zi2, if_pos, if_neg, Int.reduceAdd] <;> rfl))) | ((with_reducible first | apply SC.condB | apply SC.region | apply SO.run | apply DO.run); (focus (simp (disch := omega) only [go_sem, ↓reduceIte, zn1, reduceCtorEq, if_neg] <;> rfl)); (first | refine pickT ?_ | refine pickF ?_ | fail_if_success with_reducible refine pickA ?_)) | ((with_reducible refine SC.draw Tab.mixed ?_ ?_); (focus rfl)) | (with_reducible apply SC.ops)))
  (first | refine SO.callA Tab.go58 (by simp (disch := omega) only [go_sem, ↓reduceIte, zn1] <;> rfl) (by simp (disch := omega) only [go_sem] <;> rfl) (SApp.of (a4) (by simp (disch := omega) only [go_sem, ↓reduceIte] <;> rfl) rfl (by simp (disch := omega) only [go_sem, ↓reduceIte, zn1, if_pos, if_neg] <;> rfl) ?_) | refine DO.callA Tab.go58 (by simp (disch := omega) only [go_sem, ↓reduceIte, zn1, zn2, zn3, zn4, zn5, zn6, reduceCtorEq, zn7, zi1, zi2, if_pos, if_neg] <;> rfl) (by simp (disch := omega) only [go_sem, ↓reduceIte, zn1, zn2, zn3, zn4, zn5, zn6, reduceCtorEq, zn7, zi1, zi2, if_pos, if_neg] <;> rfl) (DApp.of (a4) (by simp (disch := omega) only [go_sem, ↓reduceIte, zn1, zn2, zn3, zn4, zn5, zn6, reduceCtorEq, zn7, zi1, zi2, if_pos, if_neg] <;> rfl) rfl (by simp (disch := omega) only [go_sem, ↓reduceIte, zn1, zn2, zn3, zn4, zn5, zn6, reduceCtorEq, zn7, zi1, zi2, if_pos, if_neg] <;> rfl) ?_))
  (repeat (first | refine DO.nil (by kernel_rfl) ?_ | (with_reducible first | apply oz1 | apply oz2 | apply oz3 | apply oz4 | apply oz5 | apply oz6 | apply oz7 | apply oz8 | apply oz9 | apply ozb | apply ozc | apply oze | apply ozf | apply ozg | apply ozh | apply ozi | apply ozj | apply ozk | refine ozd (by decide) ?_) | ((first | apply SO.call | apply DO.call); (iterate 3 (focus (simp (disch := omega) only [go_sem, ↓reduceIte, zn1] <;> rfl))); (first | apply SCall.ofX | apply DCall.ofX); (focus (first | assumption)); (focus (simp (disch := omega) only [go_sem, ↓reduceIte, zn1, zn2, zn3, zn4, zn5, zn6, reduceCtorEq, zn7, zi1, zi2, if_pos, if_neg, Int.reduceAdd] <;> rfl))) | ((with_reducible first | apply SC.condB | apply SC.region | apply SO.run | apply DO.run); (focus (simp (disch := omega) only [go_sem, ↓reduceIte, zn1, reduceCtorEq, zi1, if_pos, if_neg] <;> rfl)); (first | refine pickT ?_ | refine pickF ?_ | fail_if_success with_reducible refine pickA ?_)) | ((with_reducible refine SC.draw Tab.mixed ?_ ?_); (focus rfl)) | (with_reducible apply SC.ops)))
  (first | refine SO.callA Tab.go58 (by simp (disch := omega) only [go_sem, ↓reduceIte, zn1] <;> rfl) (by simp (disch := omega) only [go_sem] <;> rfl) (SApp.of (a5) (by simp (disch := omega) only [go_sem, ↓reduceIte] <;> rfl) rfl (by simp (disch := omega) only [go_sem, ↓reduceIte, zn1, if_pos, if_neg] <;> rfl) ?_) | refine DO.callA Tab.go58 (by simp (disch := omega) only [go_sem, ↓reduceIte, zn1, zn2, zn3, zn4, zn5, zn6, reduceCtorEq, zn7, zi1, zi2, if_pos, if_neg] <;> rfl) (by simp (disch := omega) only [go_sem, ↓reduceIte, zn1, zn2, zn3, zn4, zn5, zn6, reduceCtorEq, zn7, zi1, zi2, if_pos, if_neg] <;> rfl) (DApp.of (a5) (by simp (disch := omega) only [go_sem, ↓reduceIte, zn1, zn2, zn3, zn4, zn5, zn6, reduceCtorEq, zn7, zi1, zi2, if_pos, if_neg] <;> rfl) rfl (by simp (disch := omega) only [go_sem, ↓reduceIte, zn1, zn2, zn3, zn4, zn5, zn6, reduceCtorEq, zn7, zi1, zi2, if_pos, if_neg] <;> rfl) ?_))
  (repeat (first | refine DO.nil (by kernel_rfl) ?_ | (with_reducible first | apply oz1 | apply oz2 | apply oz3 | apply oz4 | apply oz5 | apply oz6 | apply oz7 | apply oz8 | apply oz9 | apply ozb | apply ozc | apply oze | apply ozf | apply ozg | apply ozh | apply ozi | apply ozj | apply ozk | refine ozd (by decide) ?_) | ((first | apply SO.call | apply DO.call); (iterate 3 (focus (simp (disch := omega) only [go_sem, ↓reduceIte, zn1] <;> rfl))); (first | apply SCall.ofX | apply DCall.ofX); (focus (first | assumption)); (focus (simp (disch := omega) only [go_sem, ↓reduceIte, zn1, zn2, zn3, zn4, zn5, zn6, reduceCtorEq, zn7, zi1, zi2, if_pos, if_neg, Int.reduceAdd] <;> rfl))) | ((with_reducible first | apply SC.condB | apply SC.region | apply SO.run | apply DO.run); (focus (simp (disch := omega) only [go_sem, ↓reduceIte, zn1, zn2, zn4, reduceCtorEq, zi1, if_pos, if_neg] <;> rfl)); (first | refine pickT ?_ | refine pickF ?_ | fail_if_success with_reducible refine pickA ?_)) | ((with_reducible refine SC.draw Tab.mixed ?_ ?_); (focus rfl)) | (with_reducible apply SC.ops)))
  (first | refine SO.callA Tab.go58 (by simp (disch := omega) only [go_sem, ↓reduceIte, zn1] <;> rfl) (by simp (disch := omega) only [go_sem, zn2] <;> rfl) (SApp.of (a6) (by simp (disch := omega) only [go_sem, ↓reduceIte] <;> rfl) rfl (by simp (disch := omega) only [go_sem, ↓reduceIte, zn1, if_pos, if_neg] <;> rfl) ?_) | refine DO.callA Tab.go58 (by simp (disch := omega) only [go_sem, ↓reduceIte, zn1, zn2, zn3, zn4, zn5, zn6, reduceCtorEq, zn7, zi1, zi2, if_pos, if_neg] <;> rfl) (by simp (disch := omega) only [go_sem, ↓reduceIte, zn1, zn2, zn3, zn4, zn5, zn6, reduceCtorEq, zn7, zi1, zi2, if_pos, if_neg] <;> rfl) (DApp.of (a6) (by simp (disch := omega) only [go_sem, ↓reduceIte, zn1, zn2, zn3, zn4, zn5, zn6, reduceCtorEq, zn7, zi1, zi2, if_pos, if_neg] <;> rfl) rfl (by simp (disch := omega) only [go_sem, ↓reduceIte, zn1, zn2, zn3, zn4, zn5, zn6, reduceCtorEq, zn7, zi1, zi2, if_pos, if_neg] <;> rfl) ?_))
  (repeat (first | refine DO.nil (by kernel_rfl) ?_ | (with_reducible first | apply oz1 | apply oz2 | apply oz3 | apply oz4 | apply oz5 | apply oz6 | apply oz7 | apply oz8 | apply oz9 | apply ozb | apply ozc | apply oze | apply ozf | apply ozg | apply ozh | apply ozi | apply ozj | apply ozk | refine ozd (by decide) ?_) | ((with_reducible first | apply SC.condB | apply SC.region | apply SO.run | apply DO.run); (focus (simp (disch := omega) only [go_sem, ↓reduceIte] <;> rfl)); (first | refine pickT ?_ | refine pickF ?_ | fail_if_success with_reducible refine pickA ?_)) | ((with_reducible refine SC.draw Tab.mixed ?_ ?_); (focus rfl)) | (with_reducible apply SC.ops)))
  have e : bw (c ++ logE x) = bw (c ++ flg true ++ whl x.kind ++ cel_ x.cell ++ whl x.a ++ whl x.b ++ whl x.w0 ++ whl x.w1) := by unfold logE chg_; simp only [List.append_assoc]
  have e2 : c.length + (logE x).length = c.length + 1 + (whl x.kind).length + (cel_ x.cell).length + (whl x.a).length + (whl x.b).length + (whl x.w0).length + (whl x.w1).length := by omega
  refine retIQ_ret (.sl (nx + 8) 0 (c.length + (logE x).length) 1 none) [(nx + 8, ⟨5, bw (c ++ logE x), false⟩)] (nx + 9) Try.results25 (by simp (disch := omega) only [go_sem, ↓reduceIte]; rfl) ⟨nx + 8, by omega, rfl, rfl⟩ ?_
  rw [e, e2]
  (refine Le.slots ?_ ?_ ?_ <;> (repeat' (first | (exact fun _ _ h => h) | exact Nat.le_refl _ | exact leSl_nil | refine leSl_cons (by simp (disch := omega) only [go_sem, ↓reduceIte] <;> rfl) ?_ ?_ | exact VLe.junk _ | exact VLe.refl rfl | exact VLe.nil_sl _ _ _ | exact VLe.int (by first | rfl | omega | (dsimp only; omega)) | exact VLe.bool rfl | exact VLe.sl rfl (by first | rfl | omega) | exact VLe.cap rfl (by first | rfl | omega) | exact VLe.im rfl rfl | omega | (refine fun id k h => ?_; simp only [hget] at h ⊢; (repeat' (split at h)) <;> first | (cases h; done) | (simp (disch := omega) only [if_pos]; exact h)))))
end Go.Proofs.Ytphilljhfdlfdaa
namespace Go.Proofs.Ytphilljhfdlfdaa
open Go.RowKit
set_option maxHeartbeats 4000000 in
theorem rhist_s {x : Hst} (hx : HstOk x) : PutA 21 [hstC x] (hst_ x) := by
  have hl : (hst_ x).length = (hed_ x).length + (x.log.flatMap logE).length + 1 := by unfold hst_; simp only [List.length_append]; rfl
  have ch := head_s hx
  obtain ⟨h1, h2, h3, h4, h5⟩ := hx
  refine PutA.of (by omega) fun id c cap nx hc hi => ?_
  have a1 := ch id c cap (by omega)
  unfold hstC at a1 ⊢
  refine InlQ.run Try.func21 rfl Try.ntmps21 (by simp) (by simp (disch := omega) only [go_sem, zn4]; rfl) fun B hB => ?_
  (repeat (first | refine DO.nil (by kernel_rfl) ?_ | (with_reducible first | apply oz1 | apply oz2 | apply oz3 | apply oz4 | apply oz5 | apply oz6 | apply oz7 | apply oz8 | apply oz9 | apply ozb | apply ozc | apply oze | apply ozf | apply ozg | apply ozh | apply ozi | apply ozj | apply ozk | refine ozd (by decide) ?_) | ((first | apply SO.call | apply DO.call); (iterate 3 (focus (simp (disch := omega) only [go_sem, ↓reduceIte, zn1, if_neg] <;> rfl))); (first | apply SCall.ofX | apply DCall.ofX); (focus (first | assumption)); (focus (simp (disch := omega) only [go_sem, ↓reduceIte, zn1, zn2, zn3, zn4, zn5, zn6, reduceCtorEq, zn7, zi1, zi2, if_pos, if_neg] <;> rfl))) | ((with_reducible first | apply SC.condB | apply SC.region | apply SO.run | apply DO.run); (focus (simp (disch := omega) only [go_sem, ↓reduceIte, zn1, zn3, zn4, reduceCtorEq] <;> rfl)); (first | refine pickT ?_ | refine pickF ?_ | fail_if_success with_reducible refine pickA ?_)) | ((with_reducible refine SC.draw Tab.mixed ?_ ?_); (focus rfl)) | (with_reducible apply SC.ops)))
  (first | refine SO.callA Tab.go23 (by simp (disch := omega) only [go_sem, ↓reduceIte, zn1] <;> rfl) (by simp (disch := omega) only [go_sem] <;> rfl) (SApp.of (a1) (by simp (disch := omega) only [go_sem, ↓reduceIte, if_neg] <;> rfl) rfl (by simp (disch := omega) only [go_sem, ↓reduceIte, if_neg] <;> rfl) ?_) | refine DO.callA Tab.go23 (by simp (disch := omega) only [go_sem, ↓reduceIte, zn1, zn2, zn3, zn4, zn5, zn6, reduceCtorEq, zn7, zi1, zi2, if_pos, if_neg] <;> rfl) (by simp (disch := omega) only [go_sem, ↓reduceIte, zn1, zn2, zn3, zn4, zn5, zn6, reduceCtorEq, zn7, zi1, zi2, if_pos, if_neg] <;> rfl) (DApp.of (a1) (by simp (disch := omega) only [go_sem, ↓reduceIte, zn1, zn2, zn3, zn4, zn5, zn6, reduceCtorEq, zn7, zi1, zi2, if_pos, if_neg] <;> rfl) rfl (by simp (disch := omega) only [go_sem, ↓reduceIte, zn1, zn2, zn3, zn4, zn5, zn6, reduceCtorEq, zn7, zi1, zi2, if_pos, if_neg] <;> rfl) ?_))
  (repeat (first | refine DO.nil (by kernel_rfl) ?_ | (with_reducible first | apply oz1 | apply oz2 | apply oz3 | apply oz4 | apply oz5 | apply oz6 | apply oz7 | apply oz8 | apply oz9 | apply ozb | apply ozc | apply oze | apply ozf | apply ozg | apply ozh | apply ozi | apply ozj | apply ozk | refine ozd (by decide) ?_) | ((with_reducible first | apply SC.condB | apply SC.region | apply SO.run | apply DO.run); (focus (simp (disch := omega) only [go_sem, ↓reduceIte] <;> rfl)); (first | refine pickT ?_ | refine pickF ?_ | fail_if_success with_reducible refine pickA ?_)) | ((with_reducible refine SC.draw Tab.mixed ?_ ?_); (focus rfl)) | (with_reducible apply SC.ops)))
  have hh : ∀ i, (c ++ hed_ x ++ (x.log.take i).flatMap logE).length = c.length + (hed_ x).length + ((x.log.take i).flatMap logE).length := fun i => by simp only [List.length_append]
  refine SC.loop (fun z : Nat × Nat × Nat => ⟨[(0, .sl z.2.1 0 (c ++ hed_ x ++ (x.log.take z.1).flatMap logE).length 1 none), (3, .pt nx 0), (5, .sc (.int .i64 z.1))], [(z.2.1, ⟨5, bw (c ++ hed_ x ++ (x.log.take z.1).flatMap logE), false⟩), (nx, ⟨52, [.sc (.int .i64 x.start), .im (cels x.base) x.base.length, .im (chgs x.log) x.log.length], false⟩)], z.2.2, 26⟩)
    (fun z => z.1 ≤ x.log.length ∧ nx < z.2.1 ∧ z.2.1 < z.2.2) (fun z => x.log.length - z.1) (0, nx + 1, nx + 2) ?_ ?_ ?_
  · simp only [List.take_zero, List.flatMap_nil, List.append_nil, List.length_append]
    (refine Le.slots ?_ ?_ ?_ <;> (repeat' (first | (exact fun _ _ h => h) | exact Nat.le_refl _ | exact leSl_nil | refine leSl_cons (by simp (disch := omega) only [go_sem, ↓reduceIte, zn1, reduceCtorEq] <;> rfl) ?_ ?_ | exact VLe.junk _ | exact VLe.refl rfl | exact VLe.nil_sl _ _ _ | exact VLe.int (by first | rfl | omega | (dsimp only; omega)) | exact VLe.bool rfl | exact VLe.sl rfl (by first | rfl | omega) | exact VLe.cap rfl (by first | rfl | omega) | exact VLe.im rfl rfl | omega | (refine fun id k h => ?_; simp only [hget] at h ⊢; (repeat' (split at h)) <;> first | (cases h; done) | (simp (disch := omega) only [if_pos, if_neg]; exact h)))))
  · exact ⟨Nat.zero_le _, by simp only; omega, by simp only; omega⟩
  · rintro ⟨i, q, m⟩ ⟨hi1, hq1, hq2⟩ K hK
    simp only at hi1 hq1 hq2 ⊢
    by_cases hlt : i < x.log.length
    · have gx := chgs_drop x.log i hlt
      have gl := chgs_len x.log
      have q2 : decide ((i : Int) < (x.log.length : Int)) = true := by rw [decide_eq_true_iff]; omega
      have x0 : ((i : Int)).toNat = i := rfl
      have h12 := h4 x.log[i] (List.getElem_mem hlt)
      have hs := flat_snoc logE x.log hlt
      have hle := flat_le logE x.log (i + 1)
      rw [hs, List.length_append] at hle
      have f1 := rchange_s h12 q (c ++ hed_ x ++ (x.log.take i).flatMap logE) none (by rw [hh]; omega)
      have e5 : (c ++ hed_ x ++ (x.log.take (i + 1)).flatMap logE).length = (c ++ hed_ x ++ (x.log.take i).flatMap logE).length + (logE x.log[i]).length := by rw [hs, ← List.append_assoc, List.length_append]
      have e4 : bw (c ++ hed_ x ++ (x.log.take (i + 1)).flatMap logE) = bw (c ++ hed_ x ++ (x.log.take i).flatMap logE ++ logE x.log[i]) := by rw [hs]; simp only [List.append_assoc]
      have hK2 := fun s q' m' h => hK s (i + 1, q', m') h
      simp only [e4, e5] at hK2
      generalize c ++ hed_ x ++ (x.log.take i).flatMap logE = pre at *
      unfold chgC celC at gx f1
      simp only [List.cons_append, List.nil_append] at gx f1
      (repeat (first | refine DO.nil (by kernel_rfl) ?_ | (with_reducible first | apply oz1 | apply oz2 | apply oz3 | apply oz4 | apply oz5 | apply oz6 | apply oz7 | apply oz8 | apply oz9 | apply ozb | apply ozc | apply oze | apply ozf | apply ozg | apply ozh | apply ozi | apply ozj | apply ozk | refine ozd (by decide) ?_) | ((first | apply SO.call | apply DO.call); (iterate 3 (focus (simp (disch := omega) only [go_sem, ↓reduceIte, zn1, List.drop_zero] <;> rfl))); (first | apply SCall.ofX | apply DCall.ofX); (focus (first | assumption)); (focus (simp (disch := omega) only [go_sem, ↓reduceIte, zn1, zn2, zn3, zn4, zn5, zn6, reduceCtorEq, zn7, zi1, zi2, if_pos, if_neg, q2, x0, gl, gx, List.cons_append, List.nil_append, List.take_succ_cons, List.take_zero, List.drop_succ_cons, List.drop_zero] <;> rfl))) | ((with_reducible first | apply SC.condB | apply SC.region | apply SO.run | apply DO.run); (focus (simp (disch := omega) only [go_sem, ↓reduceIte, zn1, zn3, reduceCtorEq, if_pos, if_neg, q2, x0, gl, gx, List.take_succ_cons, List.take_zero, List.drop_zero] <;> rfl)); (first | refine pickT ?_ | refine pickF ?_ | fail_if_success with_reducible refine pickA ?_)) | ((with_reducible refine SC.draw Tab.mixed ?_ ?_); (focus rfl)) | (with_reducible apply SC.ops)))
      (first | refine SO.callA Tab.go25 (by simp (disch := omega) only [go_sem, ↓reduceIte, zn1] <;> rfl) (by simp (disch := omega) only [go_sem] <;> rfl) (SApp.of (f1) (by simp (disch := omega) only [go_sem, ↓reduceIte] <;> rfl) rfl (by simp (disch := omega) only [go_sem, ↓reduceIte, if_neg] <;> rfl) ?_) | refine DO.callA Tab.go25 (by simp (disch := omega) only [go_sem, ↓reduceIte, zn1, zn2, zn3, zn4, zn5, zn6, reduceCtorEq, zn7, zi1, zi2, if_pos, if_neg] <;> rfl) (by simp (disch := omega) only [go_sem, ↓reduceIte, zn1, zn2, zn3, zn4, zn5, zn6, reduceCtorEq, zn7, zi1, zi2, if_pos, if_neg] <;> rfl) (DApp.of (f1) (by simp (disch := omega) only [go_sem, ↓reduceIte, zn1, zn2, zn3, zn4, zn5, zn6, reduceCtorEq, zn7, zi1, zi2, if_pos, if_neg] <;> rfl) rfl (by simp (disch := omega) only [go_sem, ↓reduceIte, zn1, zn2, zn3, zn4, zn5, zn6, reduceCtorEq, zn7, zi1, zi2, if_pos, if_neg] <;> rfl) ?_))
      (repeat (first | refine DO.nil (by kernel_rfl) ?_ | (with_reducible first | apply oz1 | apply oz2 | apply oz3 | apply oz4 | apply oz5 | apply oz6 | apply oz7 | apply oz8 | apply oz9 | apply ozb | apply ozc | apply oze | apply ozf | apply ozg | apply ozh | apply ozi | apply ozj | apply ozk | refine ozd (by decide) ?_) | ((with_reducible first | apply SC.condB | apply SC.region | apply SO.run | apply DO.run); (focus (simp (disch := omega) only [go_sem, ↓reduceIte, zn1, reduceCtorEq] <;> rfl)); (first | refine pickT ?_ | refine pickF ?_ | fail_if_success with_reducible refine pickA ?_)) | ((with_reducible refine SC.draw Tab.mixed ?_ ?_); (focus rfl)) | (with_reducible apply SC.ops)))
      refine hK2 _ m (m + 1) ?_ ⟨by omega, by omega, by omega⟩ (by omega)
      (refine Le.slots ?_ ?_ ?_ <;> (repeat' (first | (exact fun _ _ h => h) | exact Nat.le_refl _ | exact leSl_nil | refine leSl_cons (by simp (disch := omega) only [go_sem, ↓reduceIte, zn1, reduceCtorEq] <;> rfl) ?_ ?_ | exact VLe.junk _ | exact VLe.refl rfl | exact VLe.nil_sl _ _ _ | exact VLe.int (by first | rfl | omega | (dsimp only; omega)) | exact VLe.bool rfl | exact VLe.sl rfl (by first | rfl | omega) | exact VLe.cap rfl (by first | rfl | omega) | exact VLe.im rfl rfl | omega | (refine fun id k h => ?_; simp only [hget] at h ⊢; (repeat' (split at h)) <;> first | (cases h; done) | (simp (disch := omega) only [if_pos, if_neg]; exact h)))))
    · have q2 : decide ((i : Int) < (x.log.length : Int)) = false := by rw [decide_eq_false_iff_not]; omega
      have hie : i = x.log.length := by omega
      subst hie
      rw [List.take_length] at *
      have gl := bw_len (c ++ hed_ x ++ x.log.flatMap logE)
      have gt : (bw (c ++ hed_ x ++ x.log.flatMap logE)).take (c ++ hed_ x ++ x.log.flatMap logE).length = bw (c ++ hed_ x ++ x.log.flatMap logE) := List.take_of_length_le (by omega)
      have e : bw (c ++ hst_ x) = bw (c ++ hed_ x ++ x.log.flatMap logE) ++ [.sc (.int .u8 0)] := by unfold hst_; rw [← List.append_assoc, ← List.append_assoc, bw_app]; rfl
      have e2 : c.length + (hst_ x).length = (c ++ hed_ x ++ x.log.flatMap logE).length + 1 := by simp only [List.length_append]; omega
      generalize c ++ hed_ x ++ x.log.flatMap logE = pre at *
      (repeat (first | refine DO.nil (by kernel_rfl) ?_ | (with_reducible first | apply oz1 | apply oz2 | apply oz3 | apply oz4 | apply oz5 | apply oz6 | apply oz7 | apply oz8 | apply oz9 | apply ozb | apply ozc | apply oze | apply ozf | apply ozg | apply ozh | apply ozi | apply ozj | apply ozk | refine ozd (by decide) ?_) | ((with_reducible first | apply SC.condB | apply SC.region | apply SO.run | apply DO.run); (focus (simp (disch := omega) only [go_sem, ↓reduceIte, zn1, zn2, zn3, reduceCtorEq, if_pos, if_neg, q2, gl, gt, List.drop_zero, Nat.mul_one] <;> rfl)); (first | refine pickT ?_ | refine pickF ?_ | fail_if_success with_reducible refine pickA ?_)) | ((with_reducible refine SC.draw Tab.mixed ?_ ?_); (focus rfl)) | (with_reducible apply SC.ops)))
      refine retIQ_ret (.sl (m + 1) 0 (c.length + (hst_ x).length) 1 none) [(m + 1, ⟨5, bw (c ++ hst_ x), false⟩)] (m + 2) Try.results21 (by simp (disch := omega) only [go_sem, ↓reduceIte]; rfl) ⟨m + 1, by omega, rfl, rfl⟩ ?_
      rw [e, e2]
      (refine Le.slots ?_ ?_ ?_ <;> (repeat' (first | (exact fun _ _ h => h) | exact Nat.le_refl _ | exact leSl_nil | refine leSl_cons (by simp (disch := omega) only [go_sem, ↓reduceIte] <;> rfl) ?_ ?_ | exact VLe.junk _ | exact VLe.refl rfl | exact VLe.nil_sl _ _ _ | exact VLe.int (by first | rfl | omega | (dsimp only; omega)) | exact VLe.bool rfl | exact VLe.sl rfl (by first | rfl | omega) | exact VLe.cap rfl (by first | rfl | omega) | exact VLe.im rfl rfl | omega | (refine fun id k h => ?_; simp only [hget] at h ⊢; (repeat' (split at h)) <;> first | (cases h; done) | (simp (disch := omega) only [if_pos]; exact h)))))
end Go.Proofs.Ytphilljhfdlfdaa
namespace Go.Proofs.Ytphilljhfdlfdaa
open Go.RowKit
theorem AppC.nil {P : Program} {f id len : Nat} {xs : List V} {ty : TypeId} {k' : Blk} (h : AppC P f (.sl id 0 0 1 none :: xs) id ⟨ty, [], false⟩ 0 len 1 none k') (hl : k'.cs.length = len) : Spec P f (.sc (.slice none 0 0) :: xs) (.im k'.cs len) := by
  intro S w vs hS hT ha
  have hm : Mem (Base.inner S (fun _ => 0) (fun _ => False) [] w) S (fun _ => 0) (fun _ => False) [(id, ⟨ty, [], false⟩)] w :=
    { cells := fun _ _ _ h => h.elim, fz := fun _ _ _ h => h.elim, own := fun _ _ _ h => h.elim, inj := fun _ _ _ _ _ _ h => h.elim, slt := hS, sub := fun _ h => h, base := fun _ h => .inl h,
      frame := ⟨rfl, rfl, rfl, Nat.le_refl _, fun _ _ _ => rfl, fun _ _ => rfl, fun _ _ h => h, hS, hT⟩, keep := fun _ h => ⟨h, rfl⟩ }
  have hv : All S (fun _ => 0) (fun _ => False) w (.sl id 0 0 1 none :: xs) vs.toList := by
    refine ⟨ha.1, fun i x u hx hu => ?_⟩
    cases i with
    | zero =>
      cases hx
      have := ha.2 0 _ u rfl hu
      cases this
      exact .sln (by simp)
    | succ i => exact ha.2 (i + 1) x u hx hu
  refine (h _ S _ _ w vs 0 hm (fun _ h => h.elim) hv).mono ?_
  rintro e w' ⟨v, b, rfl, g, hSb, hb, hnb, hc, hr⟩
  have hb2 : w.heap.size ≤ b := hb.elim (fun h => h) (fun h => h.1.elim)
  refine ⟨v, rfl, ⟨g.os, g.tape, g.output, g.size, fun b hb => g.block b hb (fun h => h.1)⟩, ?_⟩
  obtain ⟨cells, h1, h2⟩ := hc
  have hbs : b < w'.heap.size := by
    rcases Nat.lt_or_ge b w'.heap.size with h | h
    · exact h
    · rw [Array.getElem?_eq_none h] at h1; cases h1
  cases hr with
  | sln h =>
    have : k'.cs = [] := List.eq_nil_of_length_eq_zero hl
    rw [this]
    exact .im0 (Nat.le_refl _) (by unfold maxLen; omega) (fun _ => rfl)
  | sl h0 hl' hm' hc hz =>
    refine .im1 (fun i => cells.getD i default) hl' hm' (.inr ⟨hb2, hbs⟩) (fun i x hx => ?_) (fun i x hx => ?_)
    · obtain ⟨u, hu, _⟩ := h2 i x hx
      have e : cells.getD i default = u := by simp [Array.getD_eq_getD_getElem?, hu]
      simp only [e]
      simp [World.cell?, h1, hu]
    · obtain ⟨u, hu, hr⟩ := h2 i x hx
      have e : cells.getD i default = u := by simp [Array.getD_eq_getD_getElem?, hu]
      rw [e]
      exact hr.mono (fun _ h => h.elim) (fun _ h => h.elim)
theorem AppC.nilA {P : Program} {f i0 len : Nat} {xs : List V} {ty : TypeId} {k' : Blk} (h : AppC P f (.sl i0 0 0 1 none :: xs) i0 ⟨ty, [], false⟩ 0 len 1 none k') (hx : ∀ x ∈ xs, Only (fun _ => False) x) (id : Nat) (k : Blk) : AppC P f (.sc (.slice none 0 0) :: xs) id k 0 len 1 none k' := by
  intro B S rho A w vs m hm hA ha
  have hm2 : Mem (Base.inner S rho (fun _ => False) [] w) S rho (fun _ => False) [(i0, ⟨ty, [], false⟩)] w :=
    { cells := fun _ _ _ h => h.elim, fz := fun _ _ _ h => h.elim, own := fun _ _ _ h => h.elim, inj := fun _ _ _ _ _ _ h => h.elim, slt := hm.slt, sub := fun _ h => h, base := fun _ h => .inl h,
      frame := ⟨rfl, rfl, rfl, Nat.le_refl _, fun _ _ _ => rfl, fun _ _ => rfl, fun _ _ h => h, hm.slt, hm.tab⟩, keep := fun _ h => ⟨h, rfl⟩ }
  have hv : All S rho (fun _ => False) w (.sl i0 0 0 1 none :: xs) vs.toList := by
    refine ⟨ha.1, fun i x u hi hu => ?_⟩
    cases i with
    | zero =>
      cases hi
      have := ha.2 0 _ u rfl hu
      cases this
      exact .sln (by simp)
    | succ i =>
      have hr := ha.2 (i + 1) x u hi hu
      have hmem : x ∈ xs := by
        simp only [List.getElem?_cons_succ] at hi
        exact List.mem_of_getElem? hi
      exact hr.only (hx x hmem) (A' := fun _ => False) (fun _ h => h.elim)
  refine (h _ S rho _ w vs 0 hm2 (fun _ h => h.elim) hv).mono ?_
  rintro e w' ⟨v, b, rfl, g, hSb, hb, hnb, hc, hr⟩
  exact ⟨v, b, rfl, ⟨g.os, g.tape, g.output, g.size, fun b hb _ => g.block b hb (fun h => h.1), g.sz⟩, hSb, .inl (hb.elim (fun h => h) (fun h => h.1.elim)), hnb, hc, hr⟩
theorem hst_only2 (x : Hst) : ∀ y ∈ [hstC x], Only (fun _ => False) y := fun y hy => by
  rw [List.mem_singleton.1 hy]
  refine .ag fun y hy => ?_
  simp only [List.mem_cons, List.not_mem_nil, or_false] at hy
  rcases hy with rfl | rfl | rfl
  · exact .sc _
  · exact .im _ _
  · exact .im _ _
theorem chg_only2 (x : Chg) : ∀ y ∈ [V.ag (chgC x)], Only (fun _ => False) y := fun y hy => by
  rw [List.mem_singleton.1 hy]
  refine .ag fun y hy => ?_
  simp only [chgC, celC, List.cons_append, List.nil_append, List.mem_cons, List.not_mem_nil, or_false] at hy
  rcases hy with rfl | rfl | rfl | rfl | rfl | rfl | rfl | rfl
  · exact .sc _
  · exact .sc _
  · exact .sc _
  · exact .im _ _
  · exact .sc _
  · exact .sc _
  · exact .sc _
  · exact .sc _
theorem rhist0_s {x : Hst} (hx : HstOk x) (hl : (hst_ x).length ≤ 1000000000) (id : Nat) (k : Blk) : AppC Try.prog 21 [.sc (.slice none 0 0), hstC x] id k 0 (hst_ x).length 1 none ⟨5, bw (hst_ x), false⟩ := by
  have h := rhist_s hx 0 [] none (by simpa using hl)
  simp only [List.nil_append, List.length_nil, Nat.zero_add] at h
  exact AppC.nilA h (hst_only2 x) id k
theorem head0_s {x : Hst} (hx : HstOk x) (hl : (hed_ x).length ≤ 1000000000) (id : Nat) (k : Blk) : AppC Try.prog 23 [.sc (.slice none 0 0), hstC x] id k 0 (hed_ x).length 1 none ⟨5, bw (hed_ x), false⟩ := by
  have h := head_s hx 0 [] none (by simpa using hl)
  simp only [List.nil_append, List.length_nil, Nat.zero_add] at h
  exact AppC.nilA h (hst_only2 x) id k
theorem change0_s {x : Chg} (hx : ChgOk x) (hl : (logE x).length ≤ 1000000000) (id : Nat) (k : Blk) : AppC Try.prog 25 [.sc (.slice none 0 0), .ag (chgC x)] id k 0 (logE x).length 1 none ⟨5, bw (logE x), false⟩ := by
  have h := rchange_s hx 0 [] none (by simpa using hl)
  simp only [List.nil_append, List.length_nil, Nat.zero_add] at h
  exact AppC.nilA h (chg_only2 x) id k
end Go.Proofs.Ytphilljhfdlfdaa
namespace Go.Proofs.Ytphilljhfdlfdaa
open Go.RowKit
def noH : Hst := ⟨0, [], []⟩
def getH (b : List Int) (n : Nat) (at_ : Int) : Hst × Nat × Nat := if at_ < 0 ∨ at_ > n then (noH, 0, 1) else if (Rd.hist b n ⟨at_.toNat, 0⟩).2.e = 0 then ((Rd.hist b n ⟨at_.toNat, 0⟩).1, (Rd.hist b n ⟨at_.toNat, 0⟩).2.at_, 0) else (noH, 0, (Rd.hist b n ⟨at_.toNat, 0⟩).2.e)
def tuH (r : Hst × Nat × Nat) : V := .tu [hstC r.1, .sc (.int .i64 r.2.1), .sc (.int .i64 r.2.2)]
set_option maxHeartbeats 4000000 in
theorem getH_s (b : List Int) (n : Nat) (at_ : Int) (hu : U8s b) (hn : n ≤ b.length) (hb : n ≤ 1000000000) :
    Spec Try.prog 56 [.im (bw b) n, .sc (.int .i64 at_), .sc (.func (.func 57) #[] #[])] (tuH (getH b n at_)) := by
  unfold getH
  by_cases h0 : at_ < 0
  · have q1 : decide (at_ < 0) = true := decide_eq_true h0
    rw [if_pos (.inl h0)]
    refine Spec.run Try.func56 rfl Try.ntmps56 (by simp) (by simp (disch := omega) only [go_sem, zn4]; rfl) fun B hB => ?_
    (repeat (first | refine DO.nil (by kernel_rfl) ?_ | (with_reducible first | apply oz1 | apply oz2 | apply oz3 | apply oz4 | apply oz5 | apply oz6 | apply oz7 | apply oz8 | apply oz9 | apply ozb | apply ozc | apply oze | apply ozf | apply ozg | apply ozh | apply ozi | apply ozj | apply ozk | refine ozd (by decide) ?_) | ((with_reducible first | apply SC.condB | apply SC.region | apply SO.run | apply DO.run); (focus (simp (disch := omega) only [go_sem, ↓reduceIte, zn1, zn3, zn4, reduceCtorEq, q1] <;> rfl)); (first | refine pickT ?_ | refine pickF ?_ | fail_if_success with_reducible refine pickA ?_)) | ((with_reducible refine SC.draw Tab.mixed ?_ ?_); (focus rfl)) | (with_reducible apply SC.ops)))
    exact retQ_ret Try.results56 (by simp (disch := omega) only [go_sem, ↓reduceIte, zn1, zn3, zn4, reduceCtorEq] <;> rfl) (by simp (disch := omega) only [go_sem, ↓reduceIte] <;> rfl) rfl
  · have q1 : decide (at_ < 0) = false := decide_eq_false h0
    by_cases h1 : at_ > n
    · have q2 : decide (at_ > (n : Int)) = true := decide_eq_true h1
      rw [if_pos (.inr h1)]
      refine Spec.run Try.func56 rfl Try.ntmps56 (by simp) (by simp (disch := omega) only [go_sem, zn4]; rfl) fun B hB => ?_
      (repeat (first | refine DO.nil (by kernel_rfl) ?_ | (with_reducible first | apply oz1 | apply oz2 | apply oz3 | apply oz4 | apply oz5 | apply oz6 | apply oz7 | apply oz8 | apply oz9 | apply ozb | apply ozc | apply oze | apply ozf | apply ozg | apply ozh | apply ozi | apply ozj | apply ozk | refine ozd (by decide) ?_) | ((with_reducible first | apply SC.condB | apply SC.region | apply SO.run | apply DO.run); (focus (simp (disch := omega) only [go_sem, ↓reduceIte, zn1, zn3, zn4, reduceCtorEq, q1, q2] <;> rfl)); (first | refine pickT ?_ | refine pickF ?_ | fail_if_success with_reducible refine pickA ?_)) | ((with_reducible refine SC.draw Tab.mixed ?_ ?_); (focus rfl)) | (with_reducible apply SC.ops)))
      exact retQ_ret Try.results56 (by simp (disch := omega) only [go_sem, ↓reduceIte, zn1, zn3, zn4, reduceCtorEq] <;> rfl) (by simp (disch := omega) only [go_sem, ↓reduceIte] <;> rfl) rfl
    · have q2 : decide (at_ > (n : Int)) = false := decide_eq_false h1
      rw [if_neg (by omega)]
      obtain ⟨a, rfl⟩ : ∃ a : Nat, at_ = a := ⟨at_.toNat, by omega⟩
      have c1 := rhistory_s b n ⟨a, 0⟩ hu hn hb (by simp only; omega)
      rw [show ((a : Int)).toNat = a from rfl]
      generalize Rd.hist b n ⟨a, 0⟩ = r at *
      obtain ⟨z, s⟩ := r
      simp only at c1 ⊢
      unfold rdB at c1
      by_cases he : s.e = 0
      · have q3 : ((s.e : Int) != 0) = false := by rw [he]; rfl
        rw [if_pos he]
        unfold tuH
        simp only
        unfold hstC at c1 ⊢
        refine Spec.run Try.func56 rfl Try.ntmps56 (by simp) (by simp (disch := omega) only [go_sem, zn4]; rfl) fun B hB => ?_
        (repeat (first | refine DO.nil (by kernel_rfl) ?_ | (with_reducible first | apply oz1 | apply oz2 | apply oz3 | apply oz4 | apply oz5 | apply oz6 | apply oz7 | apply oz8 | apply oz9 | apply ozb | apply ozc | apply oze | apply ozf | apply ozg | apply ozh | apply ozi | apply ozj | apply ozk | refine ozd (by decide) ?_) | ((with_reducible first | apply SC.condB | apply SC.region | apply SO.run | apply DO.run); (focus (simp (disch := omega) only [go_sem, ↓reduceIte, zn1, zn3, zn4, reduceCtorEq, q1, q2] <;> rfl)); (first | refine pickT ?_ | refine pickF ?_ | fail_if_success with_reducible refine pickA ?_)) | ((with_reducible refine SC.draw Tab.mixed ?_ ?_); (focus rfl)) | (with_reducible apply SC.ops)))
        (refine SO.inlQ (by simp (disch := omega) only [go_sem, ↓reduceIte, zn1] <;> rfl) Tab.go57 (by simp (disch := omega) only [go_sem, ↓reduceIte] <;> rfl) (by simp (disch := omega) only [go_sem] <;> rfl) (SInlQ.rd (c1) (by simp (disch := omega) only [go_sem, ↓reduceIte] <;> rfl) rfl (by first | omega | (dsimp only; omega) | (simp (disch := omega) only [go_sem] <;> omega)) (by simp (disch := omega) only [go_sem, ↓reduceIte] <;> rfl) ?_))
        (repeat (first | refine DO.nil (by kernel_rfl) ?_ | (with_reducible first | apply oz1 | apply oz2 | apply oz3 | apply oz4 | apply oz5 | apply oz6 | apply oz7 | apply oz8 | apply oz9 | apply ozb | apply ozc | apply oze | apply ozf | apply ozg | apply ozh | apply ozi | apply ozj | apply ozk | refine ozd (by decide) ?_) | ((with_reducible first | apply SC.condB | apply SC.region | apply SO.run | apply DO.run); (focus (simp (disch := omega) only [go_sem, ↓reduceIte, zn1, zn2, zn3, zn4, reduceCtorEq, q3] <;> rfl)); (first | refine pickT ?_ | refine pickF ?_ | fail_if_success with_reducible refine pickA ?_)) | ((with_reducible refine SC.draw Tab.mixed ?_ ?_); (focus rfl)) | (with_reducible apply SC.ops)))
        exact retQ_ret Try.results56 (by simp (disch := omega) only [go_sem, ↓reduceIte, zn1, zn3, zn4, reduceCtorEq] <;> rfl) (by simp (disch := omega) only [go_sem, ↓reduceIte] <;> rfl) rfl
      · have q3 : ((s.e : Int) != 0) = true := by rw [bne_iff_ne]; omega
        rw [if_neg he]
        unfold hstC at c1
        refine Spec.run Try.func56 rfl Try.ntmps56 (by simp) (by simp (disch := omega) only [go_sem, zn4]; rfl) fun B hB => ?_
        (repeat (first | refine DO.nil (by kernel_rfl) ?_ | (with_reducible first | apply oz1 | apply oz2 | apply oz3 | apply oz4 | apply oz5 | apply oz6 | apply oz7 | apply oz8 | apply oz9 | apply ozb | apply ozc | apply oze | apply ozf | apply ozg | apply ozh | apply ozi | apply ozj | apply ozk | refine ozd (by decide) ?_) | ((with_reducible first | apply SC.condB | apply SC.region | apply SO.run | apply DO.run); (focus (simp (disch := omega) only [go_sem, ↓reduceIte, zn1, zn3, zn4, reduceCtorEq, q1, q2] <;> rfl)); (first | refine pickT ?_ | refine pickF ?_ | fail_if_success with_reducible refine pickA ?_)) | ((with_reducible refine SC.draw Tab.mixed ?_ ?_); (focus rfl)) | (with_reducible apply SC.ops)))
        (refine SO.inlQ (by simp (disch := omega) only [go_sem, ↓reduceIte, zn1] <;> rfl) Tab.go57 (by simp (disch := omega) only [go_sem, ↓reduceIte] <;> rfl) (by simp (disch := omega) only [go_sem] <;> rfl) (SInlQ.rd (c1) (by simp (disch := omega) only [go_sem, ↓reduceIte] <;> rfl) rfl (by first | omega | (dsimp only; omega) | (simp (disch := omega) only [go_sem] <;> omega)) (by simp (disch := omega) only [go_sem, ↓reduceIte] <;> rfl) ?_))
        (repeat (first | refine DO.nil (by kernel_rfl) ?_ | (with_reducible first | apply oz1 | apply oz2 | apply oz3 | apply oz4 | apply oz5 | apply oz6 | apply oz7 | apply oz8 | apply oz9 | apply ozb | apply ozc | apply oze | apply ozf | apply ozg | apply ozh | apply ozi | apply ozj | apply ozk | refine ozd (by decide) ?_) | ((with_reducible first | apply SC.condB | apply SC.region | apply SO.run | apply DO.run); (focus (simp (disch := omega) only [go_sem, ↓reduceIte, zn1, zn3, zn4, reduceCtorEq, q3] <;> rfl)); (first | refine pickT ?_ | refine pickF ?_ | fail_if_success with_reducible refine pickA ?_)) | ((with_reducible refine SC.draw Tab.mixed ?_ ?_); (focus rfl)) | (with_reducible apply SC.ops)))
        exact retQ_ret Try.results56 (by simp (disch := omega) only [go_sem, ↓reduceIte, zn1, zn3, zn4, reduceCtorEq] <;> rfl) (by simp (disch := omega) only [go_sem, ↓reduceIte] <;> rfl) rfl
theorem idleGH : Idle Try.prog 55 := Idle.of Tab.go55 Try.func55 rfl rfl rfl rfl Try.ntmps55 Try.results55
theorem GetHistory_s (b : List Int) (n : Nat) (at_ : Int) (hu : U8s b) (hn : n ≤ b.length) (hb : n ≤ 1000000000) :
    Spec Try.prog 22 [.im (bw b) n, .sc (.int .i64 at_)] (tuH (getH b n at_)) := by
  have c1 := getH_s b n at_ hu hn hb
  generalize getH b n at_ = r at *
  obtain ⟨z, i, e⟩ := r
  unfold tuH hstC at c1 ⊢
  simp only at c1 ⊢
  refine Spec.runD Try.func22 rfl rfl rfl rfl idleGH Try.ntmps22 (by simp) (by simp (disch := omega) only [go_sem, zn4]; rfl) (by simp (disch := omega) only [go_sem, ↓reduceIte]; rfl) fun B hB => ?_
  (repeat (first | refine DO.nil (by kernel_rfl) ?_ | (with_reducible first | apply oz1 | apply oz2 | apply oz3 | apply oz4 | apply oz5 | apply oz6 | apply oz7 | apply oz8 | apply oz9 | apply ozb | apply ozc | apply oze | apply ozf | apply ozg | apply ozh | apply ozi | apply ozj | apply ozk | refine ozd (by decide) ?_) | ((first | apply SO.call | apply DO.call); (iterate 3 (focus (simp (disch := omega) only [go_sem, ↓reduceIte, zn1] <;> rfl))); (first | apply SCall.ofX | apply DCall.ofX); (focus (first | assumption | exact c1)); (focus (simp (disch := omega) only [go_sem] <;> rfl))) | ((with_reducible first | apply SC.condB | apply SC.region | apply SO.run | apply DO.run); (focus (simp (disch := omega) only [go_sem, ↓reduceIte, zn1, zn2, zn3, zn4, reduceCtorEq] <;> rfl)); (first | refine pickT ?_ | refine pickF ?_ | fail_if_success with_reducible refine pickA ?_)) | ((with_reducible refine SC.draw Tab.mixed ?_ ?_); (focus rfl)) | (with_reducible apply SC.ops)))
  exact retQ_ret Try.results22 (by simp (disch := omega) only [go_sem, ↓reduceIte, zn1, zn3, zn4] <;> rfl) (by simp (disch := omega) only [go_sem, ↓reduceIte] <;> rfl) rfl
end Go.Proofs.Ytphilljhfdlfdaa
namespace Go.Proofs.Ytphilljhfdlfdaa
open Go.RowKit
def RFcI (x : RFc) : Prop := I64 x.id
def RClI (x : RCl) : Prop := I64 x.id ∧ I64 x.dim ∧ ∀ y ∈ x.B, RFcI y
def RCgI (x : RCg) : Prop := I64 x.kind ∧ RClI x.cell ∧ I64 x.a ∧ I64 x.b ∧ I64 x.w0 ∧ I64 x.w1
def RHsI (x : RHs) : Prop := I64 x.start ∧ (∀ y ∈ x.base, RClI y) ∧ ∀ y ∈ x.log, RCgI y
theorem flat_bound {α : Type} (f : α → List Int) (m : Nat) : ∀ (l : List α), (∀ x ∈ l, (f x).length ≤ m) → (l.flatMap f).length ≤ l.length * m
  | [], _ => by simp
  | x :: l, h => by
    rw [List.flatMap_cons, List.length_append, List.length_cons, Nat.add_mul, Nat.one_mul]
    have h1 := h x (by simp)
    have h2 := flat_bound f m l fun y hy => h y (by simp [hy])
    omega
theorem int_len {z : Int} {k : Nat} (h : (limbsOf z.natAbs).length ≤ k) (hk : k ≤ 1000000) : (int_ z).length ≤ 10 + 4 * k := by
  have hh : hdI z = 2 * (limbsOf z.natAbs).length + (if z < 0 then 1 else 0) := rfl
  have := num_10 (n := hdI z) (by rw [hh]; split <;> omega)
  unfold int_
  rw [List.length_append, lbs_len]
  omega
theorem sgn_limbs {l : List Nat} (hl : limbs l) {k : Nat} (neg : Bool) : (limbsOf (sgn neg (val (l.take k))).natAbs).length ≤ k := by
  rw [sgn_natAbs]
  refine canon_len (limbsOf_canon _) ?_
  rw [limbsOf_val]
  have h := val_lt (limbs_take hl k)
  refine Nat.lt_of_lt_of_le h (Nat.pow_le_pow_right (by omega) (by simp; omega))
theorem mfc_fit {x : RFc} (h : RFcOk x) (hi : RFcI x) : I64 x.made.1 ∧ (limbsOf x.made.2.natAbs).length ≤ 2 := ⟨hi, sgn_limbs h.1 x.neg⟩
theorem mfc_len {x : RFc} (h : RFcOk x) (hi : RFcI x) : (fc_ x.made).length ≤ 28 := by
  obtain ⟨h1, h2⟩ := mfc_fit h hi
  have := whl_10 h1
  have := int_len h2 (by omega)
  unfold fc_
  rw [List.length_append]
  omega
theorem mcl_fit {x : RCl} (h : RClOk x) (hi : RClI x) : CelFit x.made ∧ CelOk x.made ∧ (cel_ x.made).length ≤ 114 := by
  have hB : x.made.B = (x.B.take 3).map RFc.made := rfl
  have hl : x.made.B.length ≤ 3 := by rw [hB]; simp; omega
  have hf : ∀ y ∈ x.made.B, I64 y.1 ∧ (limbsOf y.2.natAbs).length ≤ 2 ∧ (fc_ y).length ≤ 28 := by
    intro y hy
    rw [hB] at hy
    obtain ⟨z, hz, rfl⟩ := List.mem_map.1 hy
    have hz := List.mem_of_mem_take hz
    obtain ⟨h1, h2⟩ := mfc_fit (h.1 z hz) (hi.2.2 z hz)
    exact ⟨h1, h2, mfc_len (h.1 z hz) (hi.2.2 z hz)⟩
  refine ⟨⟨hi.1, hi.2.1, by omega, fun y hy => ⟨(hf y hy).1, by have := (hf y hy).2.1; omega⟩⟩, ⟨hi.1, hi.2.1, by omega, fun y hy => ⟨(hf y hy).1, by have := (hf y hy).2.1; omega⟩⟩, ?_⟩
  have h1 := whl_10 hi.1
  have h2 := whl_10 hi.2.1
  have h3 := num_10 (n := x.made.B.length) (by omega)
  have h4 := flat_bound fc_ 28 x.made.B fun y hy => (hf y hy).2.2
  have h5 := Nat.mul_le_mul_right 28 hl
  have e1 : x.made.id = x.id := rfl
  have e2 : x.made.dim = x.dim := rfl
  unfold cel_ lst
  simp only [List.length_append, e1, e2]
  omega
theorem mcg_fit {x : RCg} (h : RClOk x.cell) (hi : RCgI x) : ChgFit x.made ∧ ChgOk x.made ∧ (logE x.made).length ≤ 165 := by
  obtain ⟨h1, h2, h3⟩ := mcl_fit h hi.2.1
  refine ⟨⟨hi.1, h1, hi.2.2.1, hi.2.2.2.1, hi.2.2.2.2.1, hi.2.2.2.2.2⟩, ⟨hi.1, h2, hi.2.2.1, hi.2.2.2.1, hi.2.2.2.2.1, hi.2.2.2.2.2⟩, ?_⟩
  have g1 := whl_10 hi.1
  have g2 := whl_10 hi.2.2.1
  have g3 := whl_10 hi.2.2.2.1
  have g4 := whl_10 hi.2.2.2.2.1
  have g5 := whl_10 hi.2.2.2.2.2
  rw [logE_len]
  unfold chg_ RCg.made
  simp only [List.length_append]
  omega
theorem mhs_fit {x : RHs} (h : RHsOk x) (hi : RHsI x) : HstFit x.made ∧ HstOk x.made ∧ (hed_ x.made).length ≤ 400 ∧ (hst_ x.made).length ≤ 1100 ∧ ∀ y ∈ x.made.log, (logE y).length ≤ 165 := by
  have hB : x.made.base = (x.base.take 3).map RCl.made := rfl
  have hG : x.made.log = (x.log.take 4).map RCg.made := rfl
  have hl : x.made.base.length ≤ 3 := by rw [hB]; simp; omega
  have hg : x.made.log.length ≤ 4 := by rw [hG]; simp; omega
  have hf : ∀ y ∈ x.made.base, CelFit y ∧ CelOk y ∧ (cel_ y).length ≤ 114 := by
    intro y hy
    rw [hB] at hy
    obtain ⟨z, hz, rfl⟩ := List.mem_map.1 hy
    have hz := List.mem_of_mem_take hz
    exact mcl_fit (h.1 z hz) (hi.2.1 z hz)
  have hc : ∀ y ∈ x.made.log, ChgFit y ∧ ChgOk y ∧ (logE y).length ≤ 165 := by
    intro y hy
    rw [hG] at hy
    obtain ⟨z, hz, rfl⟩ := List.mem_map.1 hy
    have hz := List.mem_of_mem_take hz
    exact mcg_fit (h.2.2.1 z hz) (hi.2.2 z hz)
  have g1 := whl_10 hi.1
  have g2 := num_10 (n := x.made.base.length) (by omega)
  have g3 := flat_bound cel_ 114 x.made.base fun y hy => (hf y hy).2.2
  have g4 := Nat.mul_le_mul_right 114 hl
  have g5 := flat_bound logE 165 x.made.log fun y hy => (hc y hy).2.2
  have g6 := Nat.mul_le_mul_right 165 hg
  have e1 : x.made.start = x.start := rfl
  have hhd : (hed_ x.made).length ≤ 400 := by
    unfold hed_ lst
    simp only [List.length_append, e1]
    omega
  refine ⟨⟨hi.1, fun y hy => (hf y hy).1, by omega, fun y hy => (hc y hy).1, by omega⟩, ⟨hi.1, fun y hy => (hf y hy).2.1, by omega, fun y hy => (hc y hy).2.1, by omega⟩, hhd, ?_, fun y hy => (hc y hy).2.2⟩
  have e2 : (hst_ x.made).length = (hed_ x.made).length + (x.made.log.flatMap logE).length + 1 := by unfold hst_; simp only [List.length_append]; rfl
  omega
theorem u8_num : ∀ n, U8s (num n) := by
  intro n
  induction n using Nat.strongRecOn with
  | _ n ih =>
    by_cases h : n < 128
    · rw [num_lt h]
      intro x hx
      rw [List.mem_singleton.1 hx]; omega
    · rw [num_ge h]
      intro x hx
      rcases List.mem_cons.1 hx with rfl | hx
      · omega
      · exact ih _ (by omega) x hx
theorem U8s.app {a b : List Int} (h1 : U8s a) (h2 : U8s b) : U8s (a ++ b) := fun x hx => (List.mem_append.1 hx).elim (h1 x) (h2 x)
theorem U8s.flat {α : Type} {f : α → List Int} (l : List α) (h : ∀ x ∈ l, U8s (f x)) : U8s (l.flatMap f) := fun x hx => by
  obtain ⟨y, hy, hxy⟩ := List.mem_flatMap.1 hx
  exact h y hy x hxy
theorem u8_b4 (n : Nat) : U8s (b4 n) := by
  intro x hx
  unfold b4 at hx
  simp only [List.mem_cons, List.not_mem_nil, or_false] at hx
  rcases hx with rfl | rfl | rfl | rfl <;> omega
theorem u8_int (z : Int) : U8s (int_ z) := (u8_num _).app (U8s.flat _ fun n _ => u8_b4 n)
theorem u8_fc (x : Int × Int) : U8s (fc_ x) := (u8_num _).app (u8_int _)
theorem u8_lst {α : Type} {f : α → List Int} (l : List α) (h : ∀ x, U8s (f x)) : U8s (lst f l) := (u8_num _).app (U8s.flat l fun x _ => h x)
theorem u8_cel (x : Cel) : U8s (cel_ x) := ((u8_num _).app (u8_num _)).app (u8_lst _ u8_fc)
theorem u8_flg (x : Bool) : U8s (flg x) := by
  intro y hy
  rw [List.mem_singleton.1 hy]
  cases x <;> decide
theorem u8_log (x : Chg) : U8s (logE x) := (u8_flg _).app ((((((u8_num _).app (u8_cel _)).app (u8_num _)).app (u8_num _)).app (u8_num _)).app (u8_num _))
theorem u8_hed (x : Hst) : U8s (hed_ x) := (u8_num _).app (u8_lst _ u8_cel)
theorem u8_hst (x : Hst) : U8s (hst_ x) := ((u8_hed x).app (U8s.flat _ fun y _ => u8_log y)).app (u8_flg _)
theorem U8s.take {a : List Int} (h : U8s a) (n : Nat) : U8s (a.take n) := fun x hx => h x (List.mem_of_mem_take hx)
theorem getH_full {l : List Int} {x : Hst} (h : HstFit x) : getH (l ++ hst_ x) (l ++ hst_ x).length l.length = (x, (l ++ hst_ x).length, 0) := by
  have ha := At.of l (hst_ x) (l ++ hst_ x).length
  rw [List.take_length] at ha
  have hl : (l ++ hst_ x).length = l.length + (hst_ x).length := List.length_append
  have h1 := (hist_rds (l ++ hst_ x) (l ++ hst_ x).length h l.length ha (by omega)).1 (by omega)
  unfold getH
  rw [if_neg (by omega), Int.toNat_natCast, h1, if_pos rfl, hl]
theorem getH_cut {l : List Int} {x : Hst} (h : HstFit x) {n : Nat} (h1 : l.length ≤ n) (h2 : n < (l ++ hst_ x).length) : getH ((l ++ hst_ x).take n) n l.length = (noH, 0, 5) := by
  have ha := At.of l (hst_ x) n
  have hl : (l ++ hst_ x).length = l.length + (hst_ x).length := List.length_append
  have h5 := (hist_rds ((l ++ hst_ x).take n) n h l.length ha h1).2 (by omega)
  unfold getH
  rw [if_neg (by omega), Int.toNat_natCast, if_neg (by rw [h5]; decide), h5]
end Go.Proofs.Ytphilljhfdlfdaa
