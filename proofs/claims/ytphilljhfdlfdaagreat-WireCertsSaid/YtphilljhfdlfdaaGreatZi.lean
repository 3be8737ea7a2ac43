/- Texts joined: Ed Ei Ee Ej Dl Dm Eg Ek Dd Du Dv Dw Dx Eq Ef Es. -/
import Derived.Test.YtphilljhfdlfdaaGreatZc
import Derived.Test.YtphilljhfdlfdaaGreatZe
import Derived.Test.YtphilljhfdlfdaaGreatZg
import Derived.Test.YtphilljhfdlfdaaGreatZh
set_option linter.all false
open Nat renaming reduceEqDiff → zn1, reduceLT → zn2, reduceLeDiff → zn3, reduceAdd → zn4, reduceMul → zn5, reduceSub → zn6, reduceBEq → zn7, mul_one → zn8, zero_add → zn9, one_mul → zna, le_refl → znb, zero_le → znc, add_sub_cancel_left → znd, sub_eq_zero_of_le → zne, add_assoc → znf
open Int renaming reduceToNat → zi1, reducePow → zi2
open List renaming length_append → zl1, drop_zero → zl2, take_succ_cons → zl3, take_zero → zl4, getElem?_drop → zl5, append_assoc → zl6, nil_append → zl7, cons_append → zl8, drop_succ_cons → zl9, take_of_length_le → zla, getElem?_eq_getElem → zlb, getElem?_eq_some_iff → zlc, map_cons → zld, map_nil → zle, all_eq_true → zlf
namespace Go.Proofs.YtphilljhfdlfdaaGreat
open Go.RowKit
def Rd.begin (b : List Int) (n : Nat) (s : Rd) : (Int × List Cel) × Rd := (((s.whole b n).1, ((s.whole b n).2.cells b n).1), ((s.whole b n).2.cells b n).2)
theorem begin_at {b : List Int} {n : Nat} {s : Rd} (h : s.at_ ≤ n) : (s.begin b n).2.at_ ≤ n := cells_at (whole_at h)
def begC (x : Int × List Cel) : V := .ag [.sc (.int .i64 x.1), .im (cels x.2) x.2.length, .sc (.slice none 0 0)]
theorem beg_only (x : Int × List Cel) : Only (fun _ => False) (begC x) := by
  refine .ag fun y hy => ?_
  simp only [List.mem_cons, List.not_mem_nil, or_false] at hy
  rcases hy with rfl | rfl | rfl
  · exact .sc _
  · exact .im _ _
  · exact .sc _
theorem rbegin_s (b : List Int) (n : Nat) (s : Rd) (hu : U8s b) (hn : n ≤ b.length) (hb : n ≤ 1000000000) (ha : s.at_ ≤ n) : RdQ Tryz.prog 54 [] (rdB b n s) (rdB b n (s.begin b n).2) (begC (s.begin b n).1) := by
  refine ⟨beg_only _, rdB_clo _ _ _, fun k nx hk => ?_⟩
  refine InlQ.run Tryz.func54 rfl Tryz.ntmps54 (by simp) (by simp (disch := omega) only [go_sem]; rfl) fun B hB => ?_
  have c1 := rwh_s b n s hu hn hb
  have c2 := rcells_s b n (s.whole b n).2 hu hn hb (whole_at ha)
  unfold Rd.begin
  generalize s.whole b n = r at *
  obtain ⟨u, s1⟩ := r
  simp only at c1 c2 ⊢
  generalize s1.cells b n = r at *
  obtain ⟨l, s2⟩ := r
  simp only at c2 ⊢
  have ho := beg_only (u, l)
  unfold begC at *
  unfold rdB at *
  simp only at ho ⊢
  (repeat (first | (with_reducible refine oz (by constructor <;> decide) ?_) | ((with_reducible first | apply SC.region | apply SO.run); (simp (disch := omega) only [go_sem, ↓reduceIte, reduceCtorEq] <;> rfl); (fail_if_success with_reducible refine pickA ?_)) | (with_reducible apply SC.ops)))
  (refine SO.inlQ (by simp (disch := omega) only [go_sem] <;> rfl) Tab.go58 (by simp (disch := omega) only [go_sem, ↓reduceIte] <;> rfl) (by simp (disch := omega) only [go_sem] <;> rfl) (SInlQ.rd (c1) (by simp (disch := omega) only [go_sem, ↓reduceIte, if_neg] <;> rfl) rfl (by (dsimp only; omega)) (by simp (disch := omega) only [go_sem, ↓reduceIte, if_neg] <;> rfl) ?_))
  (repeat (first | (with_reducible refine oz (by constructor <;> decide) ?_) | ((with_reducible first | apply SC.region | apply SO.run); (simp (disch := omega) only [go_sem, ↓reduceIte, zn1, zn3, zn4, reduceCtorEq] <;> rfl); (fail_if_success with_reducible refine pickA ?_)) | (with_reducible apply SC.ops)))
  (refine SO.inlQ (by simp (disch := omega) only [go_sem] <;> rfl) Tab.go70 (by simp (disch := omega) only [go_sem, ↓reduceIte, zn1] <;> rfl) (by simp (disch := omega) only [go_sem] <;> rfl) (SInlQ.rdk (c2) k (by simp (disch := omega) only [go_sem, ↓reduceIte, if_neg] <;> rfl) rfl (by (dsimp only; omega)) (by simp (disch := omega) only [go_sem, ↓reduceIte, if_neg] <;> rfl) ?_))
  (repeat (first | (with_reducible refine oz (by constructor <;> decide) ?_) | ((with_reducible first | apply SC.region | apply SO.run); (simp (disch := omega) only [go_sem, ↓reduceIte, zn1, zn2, zn3, zn4, reduceCtorEq, if_neg] <;> rfl); (fail_if_success with_reducible refine pickA ?_))))
  exact rd_ret hB hk ho rfl Tryz.results54 (by simp (disch := omega) only [go_sem, ↓reduceIte, zn1, zn3, zn4, if_neg] <;> rfl) (by simp (disch := omega) only [go_sem, ↓reduceIte, if_neg] <;> rfl)
def Rd.step (b : List Int) (n : Nat) (s : Rd) (log : List Chg) : Bool × Rd × List Chg :=
  if (s.flag b n).1 = true ∧ (s.flag b n).2.e = 0 then
    if log.length = 4000 then (false, (s.flag b n).2.fail 2, log)
    else if ((s.flag b n).2.chg b n).2.e = 0 then (true, ((s.flag b n).2.chg b n).2, log ++ [((s.flag b n).2.chg b n).1]) else (false, ((s.flag b n).2.chg b n).2, log)
  else (false, (s.flag b n).2, log)
theorem step_at {b : List Int} {n : Nat} {s : Rd} {log : List Chg} (h : s.at_ ≤ n) : (s.step b n log).2.1.at_ ≤ n := by
  have h1 := flag_at (b := b) h
  have h2 := chg_at (b := b) h1
  unfold Rd.step
  generalize (s.flag b n).2.chg b n = rc at *
  generalize s.flag b n = rf at *
  obtain ⟨f, s1⟩ := rf
  obtain ⟨x, s2⟩ := rc
  simp only at h1 h2 ⊢
  split
  · split
    · show (s1.fail 2).at_ ≤ n
      rw [fail_at]; exact h1
    · split <;> exact h2
  · exact h1
theorem step_len {b : List Int} {n : Nat} {s : Rd} {log : List Chg} (h : (s.step b n log).1 = true) : (s.step b n log).2.2.length = log.length + 1 ∧ log.length ≠ 4000 := by
  unfold Rd.step at *
  generalize (s.flag b n).2.chg b n = rc at *
  generalize s.flag b n = rf at *
  obtain ⟨f, s1⟩ := rf
  obtain ⟨x, s2⟩ := rc
  simp only at h ⊢
  by_cases h1 : f = true ∧ s1.e = 0
  · rw [if_pos h1] at h ⊢
    by_cases h2 : log.length = 4000
    · rw [if_pos h2] at h; cases h
    · rw [if_neg h2] at h ⊢
      by_cases h3 : s2.e = 0
      · rw [if_pos h3]; exact ⟨zl1, h2⟩
      · rw [if_neg h3] at h; cases h
  · rw [if_neg h1] at h; cases h
theorem step_same {b : List Int} {n : Nat} {s : Rd} {log : List Chg} (h : (s.step b n log).1 = false) : (s.step b n log).2.2 = log := by
  unfold Rd.step at *
  generalize (s.flag b n).2.chg b n = rc at *
  generalize s.flag b n = rf at *
  obtain ⟨f, s1⟩ := rf
  obtain ⟨x, s2⟩ := rc
  simp only at h ⊢
  by_cases h1 : f = true ∧ s1.e = 0
  · rw [if_pos h1] at h ⊢
    by_cases h2 : log.length = 4000
    · rw [if_pos h2]
    · rw [if_neg h2] at h ⊢
      by_cases h3 : s2.e = 0
      · rw [if_pos h3] at h; cases h
      · rw [if_neg h3]
  · rw [if_neg h1]
def StepQ (b : List Int) (n k h q nx : Nat) (st bs : V) (r : Bool × Rd × List Chg) (y : V) (hp' : List (Nat × Blk)) (nx' : Nat) : Prop :=
  y = .sc (.bool r.1) ∧ ∃ q', (q' = q ∧ nx ≤ nx' ∨ nx ≤ q' ∧ q' < nx') ∧ hp' = [(k, rdB b n r.2.1), (h, ⟨60, [st, bs, .sl q' 0 r.2.2.length 8 none], false⟩), (q', ⟨124, chgs r.2.2, false⟩)]
theorem chgs_clo (l : List Chg) : (chgs l).all clo = true := by
  rw [zlf]; intro y hy; obtain ⟨x, _, hx⟩ := List.mem_flatMap.1 hy
  simp only [chgC, celC, zl8, zl7, List.mem_cons, List.not_mem_nil, or_false] at hx
  rcases hx with rfl | rfl | rfl | rfl | rfl | rfl | rfl | rfl <;> rfl
set_option maxHeartbeats 8000000 in
theorem rstep_s (b : List Int) (n : Nat) (s : Rd) (hu : U8s b) (hn : n ≤ b.length) (hb : n ≤ 1000000000) (ha : s.at_ ≤ n) (log : List Chg) (hlog : log.length ≤ 4000) (x0 : Int) (cs : List V) (m : Nat) (k h q nx : Nat) (hk : k < nx) (hh : h < nx) (hq : q < nx) (hkh : k ≠ h) (hkq : k ≠ q) (hhq : h ≠ q) :
    InlQ Tryz.prog 55 [.pt k 0, .pt h 0] [(k, rdB b n s), (h, ⟨60, [.sc (.int .i64 x0), .im cs m, .sl q 0 log.length 8 none], false⟩), (q, ⟨124, chgs log, false⟩)] nx (StepQ b n k h q nx (.sc (.int .i64 x0)) (.im cs m) (s.step b n log)) := by
  refine InlQ.run Tryz.func55 rfl Tryz.ntmps55 (by simp) (by simp (disch := omega) only [go_sem, zn4]; rfl) fun B hB => ?_
  have c1 := rflag_s b n s hu hn hb
  have hat := flag_at (b := b) ha
  unfold Rd.step
  generalize s.flag b n = r at *
  obtain ⟨f, s1⟩ := r
  simp only at c1 hat ⊢
  have c2 := rchg_s b n s1 hu hn hb hat
  have c3 := fail_s b n s1 2
  have gl := chgs_len log
  have gt : (chgs log).take (log.length * 8) = chgs log := zla (by omega)
  have k1 : (k = h) = False := eq_false hkh
  have k2 : (k = q) = False := eq_false hkq
  have k3 : (h = q) = False := eq_false hhq
  have k4 : (h = k) = False := eq_false (Ne.symm hkh)
  have k5 : (q = k) = False := eq_false (Ne.symm hkq)
  have k6 : (q = h) = False := eq_false (Ne.symm hhq)
  by_cases hf : f = true ∧ s1.e = 0
  · rw [if_pos hf]
    obtain ⟨rfl, he⟩ := hf
    have q3 : ((s1.e : Int) != 0) = false := by rw [he]; rfl
    by_cases hl : log.length = 4000
    · rw [if_pos hl]
      have q4 : ((log.length : Int) == 4000) = true := by rw [hl]; rfl
      unfold rdB at *
      (repeat (first | (with_reducible refine oz (by constructor <;> decide) ?_) | ((with_reducible first | apply SC.region | apply SO.run); (simp (disch := omega) only [go_sem, ↓reduceIte, reduceCtorEq] <;> rfl); (fail_if_success with_reducible refine pickA ?_)) | (with_reducible apply SC.ops)))
      (refine SO.inlQ (by simp (disch := omega) only [go_sem] <;> rfl) Tab.go65 (by simp (disch := omega) only [go_sem, ↓reduceIte] <;> rfl) (by simp (disch := omega) only [go_sem] <;> rfl) (SInlQ.rd (c1) (by simp (disch := omega) only [go_sem, ↓reduceIte] <;> rfl) rfl (by omega) (by simp (disch := omega) only [go_sem, ↓reduceIte] <;> rfl) ?_))
      (repeat (first | (with_reducible refine oz (by constructor <;> decide) ?_) | ((with_reducible first | apply SC.condB | apply SC.region | apply SO.run); (simp (disch := omega) only [go_sem, ↓reduceIte, zn1, reduceCtorEq, q3, q4, k4] <;> rfl); (first | refine pT ?_ | refine pF ?_ | fail_if_success with_reducible refine pA ?_)) | (with_reducible apply SC.ops)))
      (refine SO.inlQ (by simp (disch := omega) only [go_sem] <;> rfl) Tab.go66 (by simp (disch := omega) only [go_sem, ↓reduceIte] <;> rfl) (by simp (disch := omega) only [go_sem] <;> rfl) (SInlQ.rd (c3) (by simp (disch := omega) only [go_sem, ↓reduceIte] <;> rfl) rfl (by omega) (by simp (disch := omega) only [go_sem, ↓reduceIte] <;> rfl) ?_))
      (repeat (first | (with_reducible refine oz (by constructor <;> decide) ?_) | ((with_reducible apply SC.region); (simp (disch := omega) only [go_sem, ↓reduceIte] <;> rfl); (fail_if_success with_reducible refine pickA ?_))))
      refine retIQ_ret (.sc (.bool false)) _ nx Tryz.results55 (by simp (disch := omega) only [go_sem, ↓reduceIte]; rfl) ⟨rfl, q, .inl ⟨rfl, by omega⟩, rfl⟩ ?_
      unfold rdB
      (refine Le.slots ?_ ?_ ?_ <;> (repeat' (first | (exact fun _ _ h => h) | exact znb _ | exact leSl_nil | refine leSl_cons (by simp (disch := omega) only [go_sem, ↓reduceIte] <;> rfl) ?_ ?_ | exact VLe.refl rfl)))
    · rw [if_neg hl]
      have q4 : ((log.length : Int) == 4000) = false := by rw [beq_eq_false_iff_ne]; omega
      generalize s1.chg b n = r at *
      obtain ⟨x, s2⟩ := r
      simp only at c2 ⊢
      have e4 : chgs (log ++ [x]) = chgs log ++ chgC x := by unfold chgs; simp only [List.flatMap_append, List.flatMap_cons, List.flatMap_nil, List.append_nil]
      by_cases he2 : s2.e = 0
      · rw [if_pos he2]
        have q5 : ((s2.e : Int) != 0) = false := by rw [he2]; rfl
        unfold chgC celC at *
        unfold rdB at *
        simp only [zl8, zl7] at c2 e4
        (repeat (first | (with_reducible refine oz (by constructor <;> decide) ?_) | ((with_reducible first | apply SC.region | apply SO.run); (simp (disch := omega) only [go_sem, ↓reduceIte, reduceCtorEq] <;> rfl); (fail_if_success with_reducible refine pickA ?_)) | (with_reducible apply SC.ops)))
        (refine SO.inlQ (by simp (disch := omega) only [go_sem] <;> rfl) Tab.go65 (by simp (disch := omega) only [go_sem, ↓reduceIte] <;> rfl) (by simp (disch := omega) only [go_sem] <;> rfl) (SInlQ.rd (c1) (by simp (disch := omega) only [go_sem, ↓reduceIte] <;> rfl) rfl (by omega) (by simp (disch := omega) only [go_sem, ↓reduceIte] <;> rfl) ?_))
        (repeat (first | (with_reducible refine oz (by constructor <;> decide) ?_) | ((with_reducible first | apply SC.condB | apply SC.region | apply SO.run); (simp (disch := omega) only [go_sem, ↓reduceIte, zn1, reduceCtorEq, q3, q4, k4] <;> rfl); (first | refine pickF ?_ | fail_if_success with_reducible refine pickA ?_)) | (with_reducible apply SC.ops)))
        (refine SO.inlQ (by simp (disch := omega) only [go_sem] <;> rfl) Tab.go72 (by simp (disch := omega) only [go_sem, ↓reduceIte] <;> rfl) (by simp (disch := omega) only [go_sem] <;> rfl) (SInlQ.rd (c2) (by simp (disch := omega) only [go_sem, ↓reduceIte] <;> rfl) rfl (by omega) (by simp (disch := omega) only [go_sem, ↓reduceIte] <;> rfl) ?_))
        (repeat (first | refine DO.nilF (fun i => i + 1 - nx) (by simp (disch := omega) only [go_sem, zn4, zld, zle, Option.map_some, Option.map_none, znd, zne, znf, zn4] <;> rfl) (by kernel_rfl) ?_ | (with_reducible refine oz (by constructor <;> decide) ?_) | ((with_reducible first | apply wa | apply wb | apply wc | apply wd); (simp (disch := omega) only [go_sem, ↓reduceIte, zn1, zn2, zn3, zn4, reduceCtorEq, if_pos, if_neg, q5, gl, gt, zl2, zl3, zl4, zna, zn9, k2, k3, k4, k5, k6] <;> rfl); (first | refine pickF ?_ | fail_if_success with_reducible refine pickA ?_)) | ((with_reducible refine SC.draw Tab.mixed ?_ ?_); (simp (disch := omega) only [go_sem, ↓reduceIte, if_pos]))))
        refine retIQ_ret (.sc (.bool true)) [(k, ⟨100, [.im (bw b) n, .sc (.int .i64 s2.at_), .sc (.int .i64 s2.e)], false⟩), (h, ⟨60, [.sc (.int .i64 x0), .im cs m, .sl (nx + 1 + 1) 0 (log.length + 1) 8 none], false⟩), (nx + 1 + 1, ⟨124, chgs (log ++ [x]), false⟩)] (nx + 3) Tryz.results55 (by simp (disch := omega) only [go_sem, ↓reduceIte]; rfl) ⟨rfl, nx + 1 + 1, .inr ⟨by omega, by omega⟩, ?_⟩ ?_
        · unfold rdB
          simp only [zl1, List.length_cons, List.length_nil]
        · rw [e4]
          (refine Le.slots ?_ ?_ ?_ <;> (repeat' (first | exact znb _ | exact leSl_nil | refine leSl_cons (by simp (disch := omega) only [go_sem, ↓reduceIte] <;> rfl) ?_ ?_ | exact VLe.refl rfl | (refine fun id k h => ?_; simp only [hget] at h ⊢; (repeat' (split at h)) <;> first | (cases h; done) | (simp (disch := omega) only [if_pos, if_neg]; exact h)))))
      · rw [if_neg he2]
        have q5 : ((s2.e : Int) != 0) = true := by rw [bne_iff_ne]; omega
        unfold chgC celC at *
        unfold rdB at *
        simp only [zl8, zl7] at c2
        (repeat (first | (with_reducible refine oz (by constructor <;> decide) ?_) | ((with_reducible first | apply SC.region | apply SO.run); (simp (disch := omega) only [go_sem, ↓reduceIte, reduceCtorEq] <;> rfl); (fail_if_success with_reducible refine pickA ?_)) | (with_reducible apply SC.ops)))
        (refine SO.inlQ (by simp (disch := omega) only [go_sem] <;> rfl) Tab.go65 (by simp (disch := omega) only [go_sem, ↓reduceIte] <;> rfl) (by simp (disch := omega) only [go_sem] <;> rfl) (SInlQ.rd (c1) (by simp (disch := omega) only [go_sem, ↓reduceIte] <;> rfl) rfl (by omega) (by simp (disch := omega) only [go_sem, ↓reduceIte] <;> rfl) ?_))
        (repeat (first | (with_reducible refine oz (by constructor <;> decide) ?_) | ((with_reducible first | apply SC.condB | apply SC.region | apply SO.run); (simp (disch := omega) only [go_sem, ↓reduceIte, zn1, reduceCtorEq, q3, q4, k4] <;> rfl); (first | refine pickF ?_ | fail_if_success with_reducible refine pickA ?_)) | (with_reducible apply SC.ops)))
        (refine SO.inlQ (by simp (disch := omega) only [go_sem] <;> rfl) Tab.go72 (by simp (disch := omega) only [go_sem, ↓reduceIte] <;> rfl) (by simp (disch := omega) only [go_sem] <;> rfl) (SInlQ.rd (c2) (by simp (disch := omega) only [go_sem, ↓reduceIte] <;> rfl) rfl (by omega) (by simp (disch := omega) only [go_sem, ↓reduceIte] <;> rfl) ?_))
        (repeat (first | (with_reducible refine oz (by constructor <;> decide) ?_) | ((with_reducible first | apply SC.condB | apply SC.region | apply SO.run); (simp (disch := omega) only [go_sem, ↓reduceIte, zn1, zn3, zn4, reduceCtorEq, if_neg, q5] <;> rfl); (first | refine pickT ?_ | fail_if_success with_reducible refine pickA ?_))))
        refine retIQ_ret (.sc (.bool false)) _ (nx + 1) Tryz.results55 (by simp (disch := omega) only [go_sem, ↓reduceIte]; rfl) ⟨rfl, q, .inl ⟨rfl, by omega⟩, rfl⟩ ?_
        unfold rdB
        (refine Le.slots ?_ ?_ ?_ <;> (repeat' (first | exact znb _ | exact leSl_nil | refine leSl_cons (by simp (disch := omega) only [go_sem, ↓reduceIte] <;> rfl) ?_ ?_ | exact VLe.refl rfl | (refine fun id k h => ?_; simp only [hget] at h ⊢; (repeat' (split at h)) <;> first | (cases h; done) | (simp (disch := omega) only [if_pos, if_neg]; exact h)))))
  · rw [if_neg hf]
    unfold rdB at *
    by_cases hf1 : f = true
    · subst hf1
      have q3 : ((s1.e : Int) != 0) = true := by rw [bne_iff_ne]; intro h; exact hf ⟨rfl, by omega⟩
      (repeat (first | (with_reducible refine oz (by constructor <;> decide) ?_) | ((with_reducible first | apply SC.region | apply SO.run); (simp (disch := omega) only [go_sem, ↓reduceIte, reduceCtorEq] <;> rfl); (fail_if_success with_reducible refine pickA ?_)) | (with_reducible apply SC.ops)))
      (refine SO.inlQ (by simp (disch := omega) only [go_sem] <;> rfl) Tab.go65 (by simp (disch := omega) only [go_sem, ↓reduceIte] <;> rfl) (by simp (disch := omega) only [go_sem] <;> rfl) (SInlQ.rd (c1) (by simp (disch := omega) only [go_sem, ↓reduceIte] <;> rfl) rfl (by omega) (by simp (disch := omega) only [go_sem, ↓reduceIte] <;> rfl) ?_))
      (repeat (first | (with_reducible refine oz (by constructor <;> decide) ?_) | ((with_reducible first | apply SC.condB | apply SC.region | apply SO.run); (simp (disch := omega) only [go_sem, ↓reduceIte, zn1, reduceCtorEq, q3] <;> rfl); (first | refine pickT ?_ | fail_if_success with_reducible refine pickA ?_))))
      refine retIQ_ret (.sc (.bool false)) _ nx Tryz.results55 (by simp (disch := omega) only [go_sem, ↓reduceIte]; rfl) ⟨rfl, q, .inl ⟨rfl, by omega⟩, rfl⟩ ?_
      unfold rdB
      (refine Le.slots ?_ ?_ ?_ <;> (repeat' (first | (exact fun _ _ h => h) | exact znb _ | exact leSl_nil | refine leSl_cons (by simp (disch := omega) only [go_sem, ↓reduceIte] <;> rfl) ?_ ?_ | exact VLe.refl rfl)))
    · have hf2 : f = false := by simpa using hf1
      subst hf2
      (repeat (first | (with_reducible refine oz (by constructor <;> decide) ?_) | ((with_reducible first | apply SC.region | apply SO.run); (simp (disch := omega) only [go_sem, ↓reduceIte, reduceCtorEq] <;> rfl); (fail_if_success with_reducible refine pickA ?_)) | (with_reducible apply SC.ops)))
      (refine SO.inlQ (by simp (disch := omega) only [go_sem] <;> rfl) Tab.go65 (by simp (disch := omega) only [go_sem, ↓reduceIte] <;> rfl) (by simp (disch := omega) only [go_sem] <;> rfl) (SInlQ.rd (c1) (by simp (disch := omega) only [go_sem, ↓reduceIte] <;> rfl) rfl (by omega) (by simp (disch := omega) only [go_sem, ↓reduceIte] <;> rfl) ?_))
      (repeat (first | (with_reducible refine oz (by constructor <;> decide) ?_) | ((with_reducible first | apply SC.condB | apply SC.region | apply SO.run); (simp (disch := omega) only [go_sem, ↓reduceIte, zn1, reduceCtorEq] <;> rfl); (first | refine pickT ?_ | fail_if_success with_reducible refine pickA ?_))))
      refine retIQ_ret (.sc (.bool false)) _ nx Tryz.results55 (by simp (disch := omega) only [go_sem, ↓reduceIte]; rfl) ⟨rfl, q, .inl ⟨rfl, by omega⟩, rfl⟩ ?_
      unfold rdB
      (refine Le.slots ?_ ?_ ?_ <;> (repeat' (first | (exact fun _ _ h => h) | exact znb _ | exact leSl_nil | refine leSl_cons (by simp (disch := omega) only [go_sem, ↓reduceIte] <;> rfl) ?_ ?_ | exact VLe.refl rfl)))
theorem take_min {α : Type} (l : List α) {i k : Nat} (h1 : ¬ (i < l.length ∧ i < k)) (hi : i ≤ l.length) (hk : i ≤ k) : l.take k = l.take i := by
  rcases Nat.lt_or_ge i l.length with h | h
  · rw [show i = k by omega]
  · rw [zla (by omega), zla (by omega)]
def histR (b : List Int) (n : Nat) : Nat → Rd → List Chg → List Chg × Rd
  | 0, s, log => (log, s)
  | f + 1, s, log => if (s.step b n log).1 = true then histR b n f (s.step b n log).2.1 (s.step b n log).2.2 else (log, (s.step b n log).2.1)
def Rd.hist (b : List Int) (n : Nat) (s : Rd) : Hst × Rd :=
  (⟨(s.begin b n).1.1, (s.begin b n).1.2, (histR b n 4001 (s.begin b n).2 []).1⟩, (histR b n 4001 (s.begin b n).2 []).2)
theorem hst_only (x : Hst) : Only (fun _ => False) (hstC x) := by
  refine .ag fun y hy => ?_
  simp only [List.mem_cons, List.not_mem_nil, or_false] at hy
  rcases hy with rfl | rfl | rfl
  · exact .sc _
  · exact .im _ _
  · exact .im _ _
theorem rstep_part {b : List Int} {n k h q nx z : Nat} {x0 : Int} {cs : List V} {m : Nat} {r : Bool × Rd × List Chg} (hz1 : z < nx) (hzk : k ≠ z) (hzh : h ≠ z) (hzq : q ≠ z) : ∀ y hp' nx', StepQ b n k h q nx (.sc (.int .i64 x0)) (.im cs m) r y hp' nx' →
    Only (fun i => i ≠ z) y ∧ OnlyH (fun i => i ≠ z) hp' ∧ ∀ id kk, hget hp' id = some kk → id ≠ z := by
  rintro y hp' nx' ⟨rfl, q', hq, rfl⟩
  have hq' : q' ≠ z := by omega
  refine ⟨.sc _, ⟨fun w hw => Only.clo (List.all_eq_true.1 (rdB_clo _ _ _) w hw), ⟨fun w hw => ?_, ⟨fun w hw => Only.clo (List.all_eq_true.1 (chgs_clo _) w hw), trivial⟩⟩⟩, fun id kk hg => ?_⟩
  · simp only [List.mem_cons, List.not_mem_nil, or_false] at hw
    rcases hw with rfl | rfl | rfl
    · exact .sc _
    · exact .im _ _
    · exact .sl hq'
  · simp only [hget] at hg
    repeat' split at hg
    · omega
    · omega
    · omega
    · cases hg
set_option maxHeartbeats 8000000 in
theorem rhistory_s (b : List Int) (n : Nat) (s : Rd) (hu : U8s b) (hn : n ≤ b.length) (hb : n ≤ 1000000000) (ha : s.at_ ≤ n) :
    RdQ Tryz.prog 52 [] (rdB b n s) (rdB b n (s.hist b n).2) (hstC (s.hist b n).1) := by
  refine ⟨hst_only _, rdB_clo _ _ _, fun k nx hk => ?_⟩
  refine InlQ.run Tryz.func52 rfl Tryz.ntmps52 (by simp) (by simp (disch := omega) only [go_sem]; rfl) fun B hB => ?_
  have c1 := rbegin_s b n s hu hn hb ha
  have hat := begin_at (b := b) ha
  unfold Rd.hist
  generalize s.begin b n = r at *
  obtain ⟨⟨st, bs⟩, s1⟩ := r
  simp only at c1 hat ⊢
  generalize hL : histR b n 4001 s1 [] = L
  obtain ⟨lg, s9⟩ := L
  simp only
  unfold begC rdB at c1
  unfold rdB
  simp only at c1
  (repeat (first | (with_reducible refine oz (by constructor <;> decide) ?_) | ((with_reducible first | apply SC.region | apply SO.run); (simp (disch := omega) only [go_sem, ↓reduceIte, reduceCtorEq] <;> rfl); (fail_if_success with_reducible refine pickA ?_)) | (with_reducible apply SC.ops)))
  (refine SO.inlQ (by simp (disch := omega) only [go_sem] <;> rfl) Tab.go54 (by simp (disch := omega) only [go_sem, ↓reduceIte] <;> rfl) (by simp (disch := omega) only [go_sem] <;> rfl) (SInlQ.rd (c1) (by simp (disch := omega) only [go_sem, ↓reduceIte, if_neg] <;> rfl) rfl (by (dsimp only; omega)) (by simp (disch := omega) only [go_sem, ↓reduceIte, if_neg] <;> rfl) ?_))
  (repeat (first | (with_reducible refine oz (by constructor <;> decide) ?_) | ((with_reducible apply SO.run); (simp (disch := omega) only [go_sem, ↓reduceIte, zn1, zn3, zn4] <;> rfl); (fail_if_success with_reducible refine pickA ?_))))
  refine SC.weak (by simp) (nilRowZ (z := 8) (tO := 124) (sl' := [(0, .pt k 0), (2, .pt nx 0), (3, .pt (nx + 1) 0)]) (rest := [(nx, ⟨60, [.sc (.int .i64 0), .sc (.slice none 0 0), .sc (.slice none 0 0)], false⟩), (k, rdB b n s1)]) (pre := [.sc (.int .i64 st), .im (cels bs) bs.length]) (nx + 1) (nx + 2) hB (by simp (disch := omega) only [go_sem, ↓reduceIte] <;> rfl) rfl (by omega) ?_ (by omega) ?_) ?_
  · exact ⟨⟨by omega, by omega, by omega, by simp, by simp (disch := omega) only [go_sem, ↓reduceIte, if_neg] <;> rfl, rfl⟩, ⟨by omega, by omega, by omega, by simp, by simp (disch := omega) only [go_sem, ↓reduceIte, if_neg] <;> rfl, rfl⟩, trivial⟩
  · (repeat' (first | exact trivial | refine mapSl_cons (by simp (disch := omega) only [go_sem, ↓reduceIte, zn1, reduceCtorEq] <;> rfl) ?_ ?_ | exact VMap.pt rfl (by omega)))
  simp only [zl8, zl7]
  refine SC.loop (fun z : Rd × List Chg × Nat × Nat => ⟨[(0, .pt k 0), (2, .pt nx 0), (3, .pt (nx + 1) 0)], [(nx, ⟨60, [.sc (.int .i64 0), .sc (.slice none 0 0), .sc (.slice none 0 0)], false⟩), (k, rdB b n z.1), (nx + 1, ⟨60, [.sc (.int .i64 st), .im (cels bs) bs.length, .sl z.2.2.1 0 z.2.1.length 8 none], false⟩), (z.2.2.1, ⟨124, chgs z.2.1, false⟩)], z.2.2.2, 9⟩)
    (fun z => z.2.1.length ≤ 4000 ∧ histR b n (4001 - z.2.1.length) z.1 z.2.1 = (lg, s9) ∧ z.1.at_ ≤ n ∧ nx + 2 ≤ z.2.2.1 ∧ z.2.2.1 < z.2.2.2) (fun z => 4001 - z.2.1.length) (s1, [], nx + 2, nx + 3) ?_ ?_ ?_
  · unfold chgs
    (refine Le.slots ?_ ?_ ?_ <;> (repeat' (first | exact znb _ | exact leSl_nil | refine leSl_cons (by simp (disch := omega) only [go_sem, ↓reduceIte, zn1, reduceCtorEq] <;> rfl) ?_ ?_ | exact VLe.refl rfl | (refine fun id k h => ?_; simp only [hget] at h ⊢; (repeat' (split at h)) <;> first | (cases h; done) | (simp (disch := omega) only [if_pos, if_neg]; exact h)))))
  · exact ⟨znc _, hL, hat, by simp only; omega, by simp only; omega⟩
  · rintro ⟨s, log, q, m⟩ ⟨hl4, hh, has, hq1, hq2⟩ K hK
    simp only at hl4 hh has hq1 hq2 ⊢
    have c5 := rstep_s b n s hu hn hb has log hl4 st (cels bs) bs.length k (nx + 1) q m (by omega) (by omega) (by omega) (by omega) (by omega) (by omega)
    have hs1 := step_at (b := b) (log := log) has
    have hs2 := @step_len b n s log
    have h40 : 4001 - log.length = (4000 - log.length) + 1 := by omega
    rw [h40] at hh
    unfold histR at hh
    have hss := @step_same b n s log
    generalize s.step b n log = r at *
    obtain ⟨f, s2, log2⟩ := r
    simp only at hs1 hs2 hh hss
    (repeat (first | (with_reducible refine oz (by constructor <;> decide) ?_) | ((with_reducible first | apply SC.region | apply SO.run); (simp (disch := omega) only [go_sem, ↓reduceIte] <;> rfl); (fail_if_success with_reducible refine pickA ?_)) | (with_reducible apply SC.ops)))
    refine SO.inlQ (by simp (disch := omega) only [go_sem] <;> rfl) Tab.go55 (by simp (disch := omega) only [go_sem, ↓reduceIte, zn1, reduceCtorEq] <;> rfl) (by simp (disch := omega) only [go_sem] <;> rfl) (SInlQ.part [(nx, _)] (fun i => i ≠ nx) c5 ?_ ?_ (rstep_part (by omega) (by omega) (by omega) (by omega)) ?_)
    · intro id kk hg
      simp only [hget] at hg
      split at hg
      · rename_i e; exact fun h => h e
      · cases hg
    · intro id kk hg
      simp only [hget] at hg
      repeat' split at hg
      · omega
      · omega
      · omega
      · cases hg
    rintro y hp' nx' ⟨rfl, q', hq', rfl⟩
    simp only [zl8, zl7]
    cases f with
    | true =>
      rw [if_pos rfl] at hh
      obtain ⟨hl2, hl3⟩ := hs2 rfl
      (repeat (first | (with_reducible refine oz (by constructor <;> decide) ?_) | ((with_reducible apply SC.condB); (simp (disch := omega) only [go_sem, ↓reduceIte] <;> rfl); (refine pickT ?_))))
      refine hK _ (s2, log2, q', nx') ?_ ⟨by simp only; omega, ?_, hs1, by simp only; omega, by simp only; omega⟩ (by simp only; omega)
      · simp only
        (refine Le.slots ?_ ?_ ?_ <;> (repeat' (first | (exact fun _ _ h => h) | exact znb _ | exact leSl_nil | refine leSl_cons (by simp (disch := omega) only [go_sem, ↓reduceIte, zn1, reduceCtorEq] <;> rfl) ?_ ?_ | exact VLe.refl rfl)))
      · simp only
        rw [hl2, show 4001 - (log.length + 1) = 4000 - log.length by omega]
        exact hh
    | false =>
      rw [if_neg (by simp)] at hh
      have := hss rfl
      subst this
      cases hh
      have gl := chgs_len lg
      have gt : (chgs lg).take (lg.length * 8) = chgs lg := zla (by omega)
      have gcl := chgs_clo lg
      have kb : (k == q') = false := by rw [beq_eq_false_iff_ne]; omega
      have kb1 : (nx == q') = false := by rw [beq_eq_false_iff_ne]; omega
      unfold rdB
      (repeat (first | (with_reducible refine oz (by constructor <;> decide) ?_) | ((with_reducible first | apply SC.condB | apply SC.region); (simp (disch := omega) only [go_sem, ↓reduceIte, zn1, zn2, zn3, zn4, reduceCtorEq, if_neg] <;> rfl); (first | refine pickF ?_ | fail_if_success with_reducible refine pickA ?_))))
      exact rd_retF hB hk Tryz.results52 (by simp (disch := omega) only [go_sem, ↓reduceIte, zn1, zn3, zn4, reduceCtorEq] <;> rfl) (by simp (disch := omega) only [go_sem, ↓reduceIte, if_pos, if_neg, gl, gt, gcl, zl2] <;> rfl) (hst_only ⟨st, bs, lg⟩) rfl (by simp (disch := omega) only [go_sem, ↓reduceIte, if_neg, kb, kb1, Bool.false_eq_true] <;> rfl)
end Go.Proofs.YtphilljhfdlfdaaGreat
namespace Go.Proofs.YtphilljhfdlfdaaGreat
def At (b : List Int) (n p : Nat) (l : List Int) : Prop := ∀ i, i < l.length → p + i < n → b[p + i]? = l[i]?
theorem At.left {b : List Int} {n p : Nat} {l m : List Int} (h : At b n p (l ++ m)) : At b n p l := fun i hi hn => by
  rw [h i (by rw [zl1]; omega) hn, List.getElem?_append_left hi]
theorem At.right {b : List Int} {n p : Nat} {l m : List Int} (h : At b n p (l ++ m)) : At b n (p + l.length) m := fun i hi hn => by
  have := h (l.length + i) (by rw [zl1]; omega) (by omega)
  rw [List.getElem?_append_right (by omega), znd, ← znf] at this
  exact this
theorem At.head {b : List Int} {n p : Nat} {x : Int} {l : List Int} (h : At b n p (x :: l)) (hn : p < n) : b.getD p 0 = x := by
  have := h 0 (by simp) hn
  simp at this
  simp [List.getD, this]
theorem At.tail {b : List Int} {n p : Nat} {x : Int} {l : List Int} (h : At b n p (x :: l)) : At b n (p + 1) l := fun i hi hn => by
  have := h (i + 1) (by simp; omega) (by omega)
  rw [List.getElem?_cons_succ] at this
  rw [← this]; congr 1; omega
theorem At.getD {b : List Int} {n p : Nat} {l : List Int} (h : At b n p l) {i : Nat} (hi : i < l.length) (hn : p + i < n) : b.getD (p + i) 0 = l.getD i 0 := by
  simp [List.getD, h i hi hn]
theorem At.of (b l : List Int) (n : Nat) : At ((b ++ l).take n) n b.length l := fun i hi hn => by
  rw [List.getElem?_take, if_pos hn, List.getElem?_append_right (by omega), znd]
def Rds {α : Type} (b : List Int) (n : Nat) (one : Rd → α × Rd) (l : List Int) (x : α) : Prop :=
  ∀ p, At b n p l → p ≤ n → (p + l.length ≤ n → one ⟨p, 0⟩ = (x, ⟨p + l.length, 0⟩)) ∧ (n < p + l.length → (one ⟨p, 0⟩).2.e = 5)
def Stk {α : Type} (one : Rd → α × Rd) : Prop := ∀ s : Rd, s.e ≠ 0 → (one s).2.e = s.e
def seqR {α β γ : Type} (mk : α → β → γ) (f : Rd → α × Rd) (g : Rd → β × Rd) (s : Rd) : γ × Rd := (mk (f s).1 (g (f s).2).1, (g (f s).2).2)
theorem Stk.seq {α β γ : Type} {mk : α → β → γ} {f : Rd → α × Rd} {g : Rd → β × Rd} (h1 : Stk f) (h2 : Stk g) : Stk (seqR mk f g) := fun s hs => by
  show (g (f s).2).2.e = s.e
  have h := h1 s hs
  rw [h2 _ (by rw [h]; exact hs), h]
theorem Rds.seq {α β γ : Type} {b : List Int} {n : Nat} {mk : α → β → γ} {f : Rd → α × Rd} {g : Rd → β × Rd} {l m : List Int} {x : α} {y : β} (h1 : Rds b n f l x) (h2 : Rds b n g m y) (hg : Stk g) : Rds b n (seqR mk f g) (l ++ m) (mk x y) := fun p ha hp => by
  obtain ⟨f1, f2⟩ := h1 p ha.left hp
  rw [zl1]
  unfold seqR
  by_cases hl : p + l.length ≤ n
  · rw [f1 hl]
    obtain ⟨g1, g2⟩ := h2 (p + l.length) ha.right hl
    simp only
    refine ⟨fun h => ?_, fun h => g2 (by omega)⟩
    rw [g1 (by omega), znf]
  · refine ⟨fun h => by omega, fun _ => ?_⟩
    have h5 := f2 (by omega)
    simp only
    rw [hg _ (by rw [h5]; decide), h5]
theorem fail_e (s : Rd) (e : Nat) (h : s.e ≠ 0) : s.fail e = s := by unfold Rd.fail; rw [if_neg h]
theorem number_stk (b : List Int) (n : Nat) : Stk (Rd.number b n) := fun s hs => by unfold Rd.number; rw [if_neg hs]
theorem whole_stk (b : List Int) (n : Nat) : Stk (Rd.whole b n) := number_stk b n
theorem flag_stk (b : List Int) (n : Nat) : Stk (Rd.flag b n) := fun s hs => by
  have h : (s.next b n) = (0, s) := by unfold Rd.next; rw [if_neg hs]
  unfold Rd.flag
  rw [h]; simp
theorem size_stk (b : List Int) (n lim : Nat) : Stk (Rd.size b n lim) := fun s hs => by
  have h : (s.number b n) = (0, s) := by unfold Rd.number; rw [if_neg hs]
  unfold Rd.size
  rw [h]; simp
theorem int_stk (b : List Int) (n : Nat) : Stk (Rd.int b n) := fun s hs => by
  have h : (s.number b n) = (0, s) := by unfold Rd.number; rw [if_neg hs]
  unfold Rd.int
  rw [h]
  simp [hs]
theorem listR_stk {α : Type} (one : Rd → α × Rd) : ∀ (f : Nat) (s : Rd) (acc : List α), s.e ≠ 0 → listR one f s acc = (acc, s)
  | 0, _, _, _ => rfl
  | f + 1, s, acc, h => by unfold listR; rw [if_neg h]
theorem list_stk {α : Type} (b : List Int) (n : Nat) (one : Rd → α × Rd) : Stk (Rd.list b n one) := fun s hs => by
  have h := size_stk b n 4000 s hs
  unfold Rd.list
  rw [listR_stk _ _ _ _ (by rw [h]; exact hs), h]
theorem next_rds {b : List Int} {n p : Nat} {x : Int} {l : List Int} (ha : At b n p (x :: l)) : (p + 1 ≤ n → Rd.next b n ⟨p, 0⟩ = (x, ⟨p + 1, 0⟩)) ∧ (n < p + 1 → Rd.next b n ⟨p, 0⟩ = (0, ⟨p, 5⟩)) := by
  unfold Rd.next
  rw [if_pos rfl]
  refine ⟨fun h => ?_, fun h => ?_⟩
  · rw [if_pos (show p < n by omega)]; simp only; rw [ha.head (by omega)]
  · rw [if_neg (by simp only; omega)]
theorem numR_short {b : List Int} {n p i f acc : Nat} (h : Rd.next b n ⟨p, 0⟩ = (0, ⟨p, 5⟩)) (hf : 0 < f) : (Rd.numR b n f i acc ⟨p, 0⟩).2.e = 5 := by
  obtain ⟨f, rfl⟩ : ∃ g, f = g + 1 := ⟨f - 1, by omega⟩
  rw [numR_step _ _ _ h, if_pos (by decide)]
  simp only
  split
  · rw [fail_e _ _ (by simp)]
  · rfl
theorem numR_rds (b : List Int) (n : Nat) : ∀ (u i f acc p : Nat), i + f = 10 → u * 128 ^ i < 18446744073709551616 → (0 < i → 0 < u) → At b n p (num u) → p ≤ n →
    (p + (num u).length ≤ n → Rd.numR b n f i acc ⟨p, 0⟩ = (acc + u * 128 ^ i, ⟨p + (num u).length, 0⟩)) ∧ (n < p + (num u).length → (Rd.numR b n f i acc ⟨p, 0⟩).2.e = 5) := by
  intro u
  induction u using Nat.strongRecOn with
  | _ u ih =>
    intro i f acc p hi hu h0 ha hp
    have c9 : (128 : Nat) ^ 9 = 9223372036854775808 := by decide
    have c10 : (128 : Nat) ^ 10 = 1180591620717411303424 := by decide
    have hf : 0 < f := by
      rcases Nat.eq_zero_or_pos f with h | h
      · have : i = 10 := by omega
        subst this
        rw [c10] at hu
        have := h0 (by omega)
        omega
      · exact h
    obtain ⟨f, rfl⟩ : ∃ g, f = g + 1 := ⟨f - 1, by omega⟩
    by_cases h1 : u < 128
    · rw [num_lt h1] at ha ⊢
      obtain ⟨n1, n2⟩ := next_rds (n := n) ha
      simp only [List.length_cons, List.length_nil, zn9]
      refine ⟨fun h => ?_, fun h => numR_short (n2 h) hf⟩
      have hb : ¬ badN i (u : Int) := by
        rintro (⟨h9, hx⟩ | ⟨hi0, hx⟩)
        · subst h9; rw [c9] at hu; omega
        · have := h0 hi0; omega
      rw [numR_step _ _ _ (n1 h), if_pos (by omega), if_neg hb]
      have : ((u : Int)).toNat % 128 = u := by rw [Int.toNat_natCast]; omega
      rw [this]
    · rw [num_ge h1] at ha ⊢
      obtain ⟨n1, n2⟩ := next_rds (n := n) ha
      have ht := ha.tail
      simp only [List.length_cons]
      by_cases hpn : p + 1 ≤ n
      · have hpos : 128 ^ i > 0 := Nat.pow_pos (by omega)
        have hi9 : i ≠ 9 := by
          intro h9; subst h9; rw [c9] at hu; omega
        have hb : ¬ badN i ((u % 128 + 128 : Nat) : Int) := by
          rintro (⟨h9, hx⟩ | ⟨hi0, hx⟩)
          · exact hi9 h9
          · omega
        have e1 : (((u % 128 + 128 : Nat) : Int)).toNat % 128 = u % 128 := by rw [Int.toNat_natCast]; omega
        have hq : u / 128 * 128 ^ (i + 1) ≤ u * 128 ^ i := by
          rw [Nat.pow_succ, Nat.mul_comm (128 ^ i) 128, ← Nat.mul_assoc]
          exact Nat.mul_le_mul_right _ (by omega)
        obtain ⟨r1, r2⟩ := ih (u / 128) (by omega) (i + 1) f (acc + u % 128 * 128 ^ i) (p + 1) (by omega) (by omega) (fun _ => by omega) ht hpn
        rw [numR_step _ _ _ (n1 hpn), if_neg (by omega), if_neg hb, if_pos rfl, e1]
        refine ⟨fun h => ?_, fun h => r2 (by omega)⟩
        rw [r1 (by omega)]
        have e2 : u % 128 * 128 ^ i + u / 128 * 128 ^ (i + 1) = u * 128 ^ i := by
          rw [Nat.pow_succ, Nat.mul_comm (128 ^ i) 128, ← Nat.mul_assoc, ← Nat.add_mul]
          congr 1; omega
        rw [znf, e2]
        congr 2; omega
      · exact ⟨fun h => by omega, fun _ => numR_short (n2 (by omega)) hf⟩
theorem number_rds (b : List Int) (n u : Nat) (hu : u < 18446744073709551616) : Rds b n (Rd.number b n) (num u) u := fun p ha hp => by
  obtain ⟨h1, h2⟩ := numR_rds b n u 0 10 0 p rfl (by simpa using hu) (fun h => by omega) ha hp
  unfold Rd.number outR
  rw [if_pos rfl]
  refine ⟨fun h => ?_, fun h => ?_⟩
  · rw [h1 h, if_pos rfl]; simp
  · have h5 := h2 h
    rw [if_neg (by rw [h5]; decide)]
    exact h5
theorem zag_zig {z : Int} (h : I64 z) : zag (zig z) = z := by
  unfold zag zig
  unfold I64 at h
  by_cases h0 : z < 0
  · rw [if_pos h0, if_pos (by omega)]; omega
  · rw [if_neg h0, if_neg (by omega)]; omega
theorem whole_rds (b : List Int) (n : Nat) {z : Int} (h : I64 z) : Rds b n (Rd.whole b n) (whl z) z := fun p ha hp => by
  obtain ⟨h1, h2⟩ := number_rds b n (zig z) (zig_lt h) p ha hp
  unfold Rd.whole
  refine ⟨fun hl => ?_, fun hl => h2 hl⟩
  rw [h1 hl, zag_zig h]; rfl
theorem size_rds (b : List Int) (n lim u : Nat) (hu : u ≤ lim) (hl : lim ≤ 1000000) : Rds b n (Rd.size b n lim) (num u) u := fun p ha hp => by
  obtain ⟨h1, h2⟩ := number_rds b n u (by omega) p ha hp
  unfold Rd.size
  refine ⟨fun hl => ?_, fun hl => ?_⟩
  · rw [h1 hl, if_neg (by simp only; omega)]
  · have h5 := h2 hl
    split
    · rw [fail_e _ _ (by rw [h5]; decide)]; exact h5
    · exact h5
theorem flag_rds (b : List Int) (n : Nat) (x : Bool) : Rds b n (Rd.flag b n) (flg x) x := fun p ha hp => by
  obtain ⟨n1, n2⟩ := next_rds (n := n) ha
  have hl : (flg x).length = 1 := rfl
  unfold Rd.flag
  rw [hl]
  refine ⟨fun h => ?_, fun h => ?_⟩
  · rw [n1 h]
    cases x <;> rfl
  · rw [n2 h]; rfl
theorem b4_le4 {b : List Int} {n p x : Nat} (ha : At b n p (b4 x)) (hx : x < 4294967296) (hn : p + 4 ≤ n) : le4 b p = x := by
  have h0 := ha.getD (i := 0) (by simp [b4]) (by omega)
  have h1 := ha.getD (i := 1) (by simp [b4]) (by omega)
  have h2 := ha.getD (i := 2) (by simp [b4]) (by omega)
  have h3 := ha.getD (i := 3) (by simp [b4]) (by omega)
  unfold b4 at h0 h1 h2 h3
  simp only [List.getD_cons_zero, List.getD_cons_succ, Nat.add_zero] at h0 h1 h2 h3
  unfold le4
  rw [h0, h1, h2, h3]
  simp only [Int.toNat_natCast]
  omega
theorem lims_at {b : List Int} {n : Nat} : ∀ {l : List Nat} {p : Nat}, At b n p (lbs l) → limbs l → p + 4 * l.length ≤ n → lims b p l.length = l
  | [], _, _, _, _ => rfl
  | x :: l, p, ha, hl, hn => by
    rw [List.length_cons] at hn
    have e : lbs (x :: l) = b4 x ++ lbs l := rfl
    rw [e] at ha
    have h1 := b4_le4 ha.left (hl x (by simp)) (by omega)
    have h2 := lims_at (l := l) ha.right (fun y hy => hl y (by simp [hy])) (by show p + 4 + 4 * l.length ≤ n; omega)
    have e2 : lims b p (x :: l).length = le4 b p :: lims b (p + 4) l.length := by
      unfold lims
      rw [List.length_cons, List.range_succ_eq_map, zld, List.map_map]
      congr 1
      apply List.map_congr_left
      intro j _
      show le4 b (p + 4 * (j + 1)) = le4 b (p + 4 + 4 * j)
      congr 1; omega
    rw [e2, h1, show (p + 4) = p + (b4 x).length from rfl, h2]
theorem vlim_of (z : Int) : vLim (decide (z < 0)) (limbsOf z.natAbs) = true := by
  unfold vLim
  by_cases h : (limbsOf z.natAbs).length = 0
  · rw [if_pos h]
    have h0 : limbsOf z.natAbs = [] := List.eq_nil_of_length_eq_zero h
    have := limbsOf_val z.natAbs
    rw [h0] at this
    have hz : z.natAbs = 0 := this.symm
    simp; omega
  · rw [if_neg h]
    have hc := limbsOf_canon z.natAbs
    have hn : limbsOf z.natAbs ≠ [] := fun e => h (by rw [e]; rfl)
    have := hc hn
    rw [List.getLast_eq_getElem] at this
    rw [bne_iff_ne]
    rw [List.getD_eq_getElem?_getD, zlb (by omega), Option.getD_some]
    omega
theorem int_rds (b : List Int) (n : Nat) {z : Int} (hz : (limbsOf z.natAbs).length ≤ 4000) : Rds b n (Rd.int b n) (int_ z) z := fun p ha hp => by
  have hh : hdI z = 2 * (limbsOf z.natAbs).length + (if z < 0 then 1 else 0) := rfl
  have hm : hdI z / 2 = (limbsOf z.natAbs).length := by rw [hh]; split <;> omega
  have hn : (hdI z % 2 == 1) = decide (z < 0) := by
    rw [hh]; split
    · rename_i h; rw [decide_eq_true h]; simp <;> omega
    · rename_i h; rw [decide_eq_false h]; simp <;> omega
  obtain ⟨h1, h2⟩ := number_rds b n (hdI z) (by rw [hh]; split <;> omega) p ha.left hp
  have hl : (int_ z).length = (num (hdI z)).length + 4 * (limbsOf z.natAbs).length := by unfold int_; rw [zl1, lbs_len]
  unfold Rd.int
  rw [hl]
  by_cases hc : p + (num (hdI z)).length ≤ n
  · rw [h1 hc]
    have h40 : ¬ (limbsOf z.natAbs).length > 4000 := by omega
    simp only [hm, hn, if_neg h40]
    by_cases hd : p + (num (hdI z)).length + 4 * (limbsOf z.natAbs).length ≤ n
    · have hx : ¬ (True ∧ (n - (p + (num (hdI z)).length)) / 4 < (limbsOf z.natAbs).length) := by omega
      simp only [if_neg hx, if_true]
      rw [lims_at ha.right (limbsOf_limbs _) hd, if_pos (vlim_of z), limbsOf_val]
      refine ⟨fun _ => ?_, fun h => by omega⟩
      have : sgn (decide (z < 0)) z.natAbs = z := by
        by_cases h : z < 0
        · simp [sgn, h]; omega
        · simp [sgn, h]; omega
      rw [this, znf]
    · have hx : True ∧ (n - (p + (num (hdI z)).length)) / 4 < (limbsOf z.natAbs).length := ⟨trivial, by omega⟩
      simp only [if_pos hx]
      refine ⟨fun h => by omega, fun _ => ?_⟩
      rw [if_neg (by simp [Rd.fail])]
      rfl
  · have h5 := h2 (by omega)
    refine ⟨fun h => by omega, fun _ => ?_⟩
    generalize (Rd.number b n ⟨p, 0⟩) = r at *
    obtain ⟨u, s⟩ := r
    simp only at h5 ⊢
    have hs : s.e ≠ 0 := by omega
    simp [fail_e _ _ hs, h5]
theorem listR_rds {α : Type} {b : List Int} {n : Nat} {one : Rd → α × Rd} {E : α → List Int} (hs : Stk one) : ∀ (l : List α) (acc : List α) (p : Nat), (∀ x ∈ l, Rds b n one (E x) x) → At b n p (l.flatMap E) → p ≤ n →
    (p + (l.flatMap E).length ≤ n → listR one l.length ⟨p, 0⟩ acc = (acc ++ l, ⟨p + (l.flatMap E).length, 0⟩)) ∧ (n < p + (l.flatMap E).length → (listR one l.length ⟨p, 0⟩ acc).2.e = 5)
  | [], acc, p, _, _, hp => ⟨fun _ => by simp [listR], fun h => by simp at h; omega⟩
  | x :: l, acc, p, h, ha, hp => by
    rw [List.flatMap_cons] at ha ⊢
    rw [zl1, List.length_cons]
    obtain ⟨h1, h2⟩ := h x (by simp) p ha.left hp
    unfold listR
    rw [if_pos rfl]
    by_cases hc : p + (E x).length ≤ n
    · rw [h1 hc]
      obtain ⟨r1, r2⟩ := listR_rds hs l (acc ++ [x]) (p + (E x).length) (fun y hy => h y (by simp [hy])) ha.right hc
      simp only
      refine ⟨fun hl => ?_, fun hl => r2 (by omega)⟩
      rw [r1 (by omega)]
      simp [znf]
    · have h5 := h2 (by omega)
      refine ⟨fun h => by omega, fun _ => ?_⟩
      rw [listR_stk _ _ _ _ (by rw [h5]; decide)]
      exact h5
theorem list_rds {α : Type} {b : List Int} {n : Nat} {one : Rd → α × Rd} {E : α → List Int} (hs : Stk one) (l : List α) (hl : l.length ≤ 4000) (h : ∀ x ∈ l, Rds b n one (E x) x) : Rds b n (Rd.list b n one) (lst E l) l := fun p ha hp => by
  obtain ⟨h1, h2⟩ := size_rds b n 4000 l.length hl (by omega) p ha.left hp
  have hL : (lst E l).length = (num l.length).length + (l.flatMap E).length := zl1
  unfold Rd.list
  rw [hL]
  by_cases hc : p + (num l.length).length ≤ n
  · rw [h1 hc]
    obtain ⟨r1, r2⟩ := listR_rds hs l [] (p + (num l.length).length) h ha.right hc
    simp only
    refine ⟨fun h => ?_, fun h => r2 (by omega)⟩
    rw [r1 (by omega), zl7, znf]
  · have h5 := h2 (by omega)
    refine ⟨fun h => by omega, fun _ => ?_⟩
    rw [listR_stk _ _ _ _ (by rw [h5]; decide)]
    exact h5
def getR (z : Int) (s : Rd) : Int × Nat × Nat := if s.e = 0 then (z, s.at_, 0) else (0, 0, s.e)
def getI (b : List Int) (n : Nat) (at_ : Int) : Int × Nat × Nat := if at_ < 0 ∨ at_ > n then (0, 0, 1) else getR (Rd.int b n ⟨at_.toNat, 0⟩).1 (Rd.int b n ⟨at_.toNat, 0⟩).2
def tuI (r : Int × Nat × Nat) : V := .tu [iv r.1, .sc (.int .i64 r.2.1), .sc (.int .i64 r.2.2)]
theorem Spec.mono {P : Program} {f : Nat} {args : List V} {x x' : V} (h : Spec P f args x) (hx : ∀ (S : Nat → Prop) (rho : Nat → Nat) (w : World) (A : Nat → Prop) (v : Value), R S rho w A x v → R S rho w A x' v) : Spec P f args x' :=
  fun S w vs hS hT ha => (h S w vs hS hT ha).mono fun e w' ⟨v, he, g, hr⟩ => ⟨v, he, g, hx _ _ _ _ _ hr⟩
theorem getI_s (b : List Int) (n : Nat) (at_ : Int) (hu : U8s b) (hn : n ≤ b.length) (hb : n ≤ 1000000000) :
    Spec Tryz.prog 45 [.im (bw b) n, .sc (.int .i64 at_), .sc (.func (.func 46) #[] #[])] (tuI (getI b n at_)) := by
  unfold getI
  by_cases h0 : at_ < 0
  · have q1 : decide (at_ < 0) = true := decide_eq_true h0
    rw [if_pos (.inl h0)]
    refine Spec.run Tryz.func45 rfl Tryz.ntmps45 (by simp) (by simp only [go_sem, zn4]; rfl) fun B hB => ?_
    (repeat (first | (with_reducible refine oz (by constructor <;> decide) ?_) | ((with_reducible first | apply SC.condB | apply SC.region); (simp (disch := omega) only [go_sem, ↓reduceIte, zn1, zn3, zn4, reduceCtorEq, q1] <;> rfl); (first | refine pickT ?_ | fail_if_success with_reducible refine pickA ?_))))
    exact retQ_ret Tryz.results45 (by simp (disch := omega) only [go_sem, ↓reduceIte, zn1, zn3, zn4, reduceCtorEq] <;> rfl) (by simp (disch := omega) only [go_sem, ↓reduceIte] <;> rfl) rfl
  · have q1 : decide (at_ < 0) = false := decide_eq_false h0
    by_cases h1 : at_ > n
    · have q2 : decide (at_ > (n : Int)) = true := decide_eq_true h1
      rw [if_pos (.inr h1)]
      refine Spec.run Tryz.func45 rfl Tryz.ntmps45 (by simp) (by simp only [go_sem, zn4]; rfl) fun B hB => ?_
      (repeat (first | (with_reducible refine oz (by constructor <;> decide) ?_) | ((with_reducible first | apply SC.condB | apply SC.region); (simp (disch := omega) only [go_sem, ↓reduceIte, zn1, zn3, zn4, reduceCtorEq, q1, q2] <;> rfl); (first | refine pickT ?_ | fail_if_success with_reducible refine pickA ?_))))
      exact retQ_ret Tryz.results45 (by simp (disch := omega) only [go_sem, ↓reduceIte, zn1, zn3, zn4, reduceCtorEq] <;> rfl) (by simp (disch := omega) only [go_sem, ↓reduceIte] <;> rfl) rfl
    · have q2 : decide (at_ > (n : Int)) = false := decide_eq_false h1
      rw [if_neg (by omega)]
      obtain ⟨a, rfl⟩ : ∃ a : Nat, at_ = a := ⟨at_.toNat, by omega⟩
      have c1 := rint_s b n ⟨a, 0⟩ hu hn hb (by simp only; omega)
      rw [show ((a : Int)).toNat = a from rfl]
      generalize Rd.int b n ⟨a, 0⟩ = r at *
      obtain ⟨z, s⟩ := r
      simp only at c1 ⊢
      unfold rdB at c1
      unfold getR
      by_cases he : s.e = 0
      · have q3 : ((s.e : Int) != 0) = false := by rw [he]; rfl
        rw [if_pos he]
        unfold tuI
        simp only
        unfold iv sv at c1 ⊢
        refine Spec.run Tryz.func45 rfl Tryz.ntmps45 (by simp) (by simp only [go_sem, zn4]; rfl) fun B hB => ?_
        (repeat (first | (with_reducible refine oz (by constructor <;> decide) ?_) | ((with_reducible first | apply SC.condB | apply SC.region | apply SO.run); (simp (disch := omega) only [go_sem, ↓reduceIte, zn1, zn3, zn4, reduceCtorEq, q1, q2] <;> rfl); (first | refine pickF ?_ | fail_if_success with_reducible refine pickA ?_)) | (with_reducible apply SC.ops)))
        (refine SO.inlQ (by simp (disch := omega) only [go_sem, ↓reduceIte, zn1] <;> rfl) Tab.go46 (by simp (disch := omega) only [go_sem, ↓reduceIte] <;> rfl) (by simp (disch := omega) only [go_sem] <;> rfl) (SInlQ.rd (c1) (by simp (disch := omega) only [go_sem, ↓reduceIte] <;> rfl) rfl (by (dsimp only; omega)) (by simp (disch := omega) only [go_sem, ↓reduceIte] <;> rfl) ?_))
        (repeat (first | refine DO.nil (by kernel_rfl) ?_ | (with_reducible refine oz (by constructor <;> decide) ?_) | ((with_reducible first | apply wa | apply wb | apply wc | apply wd); (simp only [go_sem, ↓reduceIte, zn1, zn2, zn3, zn4, reduceCtorEq, q3] <;> rfl); (first | refine pickF ?_ | fail_if_success with_reducible refine pickA ?_)) | ((with_reducible refine SC.draw Tab.mixed ?_ ?_); rfl)))
        exact retQ_ret Tryz.results45 (by simp only [go_sem, ↓reduceIte, zn1, zn3, zn4, reduceCtorEq] <;> rfl) (by simp only [go_sem, ↓reduceIte] <;> rfl) rfl
      · have q3 : ((s.e : Int) != 0) = true := by rw [bne_iff_ne]; omega
        rw [if_neg he]
        unfold iv sv at c1
        refine Spec.run Tryz.func45 rfl Tryz.ntmps45 (by simp) (by simp only [go_sem, zn4]; rfl) fun B hB => ?_
        (repeat (first | (with_reducible refine oz (by constructor <;> decide) ?_) | ((with_reducible first | apply SC.condB | apply SC.region | apply SO.run); (simp (disch := omega) only [go_sem, ↓reduceIte, zn1, zn3, zn4, reduceCtorEq, q1, q2] <;> rfl); (first | refine pickF ?_ | fail_if_success with_reducible refine pickA ?_)) | (with_reducible apply SC.ops)))
        (refine SO.inlQ (by simp (disch := omega) only [go_sem, ↓reduceIte, zn1] <;> rfl) Tab.go46 (by simp (disch := omega) only [go_sem, ↓reduceIte] <;> rfl) (by simp (disch := omega) only [go_sem] <;> rfl) (SInlQ.rd (c1) (by simp (disch := omega) only [go_sem, ↓reduceIte] <;> rfl) rfl (by (dsimp only; omega)) (by simp (disch := omega) only [go_sem, ↓reduceIte] <;> rfl) ?_))
        (repeat (first | refine DO.nil (by kernel_rfl) ?_ | (with_reducible refine oz (by constructor <;> decide) ?_) | ((with_reducible first | apply wa | apply wb | apply wc | apply wd); (simp (disch := omega) only [go_sem, ↓reduceIte, zn1, zn3, zn4, reduceCtorEq, q3] <;> rfl); (first | refine pickT ?_ | fail_if_success with_reducible refine pickA ?_)) | ((with_reducible refine SC.draw Tab.mixed ?_ ?_); rfl)))
        exact retQ_ret Tryz.results45 (by simp only [go_sem, ↓reduceIte, zn1, zn3, zn4, reduceCtorEq] <;> rfl) (by simp only [go_sem, ↓reduceIte] <;> rfl) rfl
theorem idleGI : Idle Tryz.prog 44 := Idle.of Tab.go44 Tryz.func44 rfl rfl rfl rfl Tryz.ntmps44 Tryz.results44
theorem GetInt_s (b : List Int) (n : Nat) (at_ : Int) (hu : U8s b) (hn : n ≤ b.length) (hb : n ≤ 1000000000) :
    Spec Tryz.prog 14 [.im (bw b) n, .sc (.int .i64 at_)] (tuI (getI b n at_)) := by
  have c1 := getI_s b n at_ hu hn hb
  generalize getI b n at_ = r at *
  obtain ⟨z, i, e⟩ := r
  unfold tuI iv sv at c1 ⊢
  simp only at c1 ⊢
  refine Spec.runD Tryz.func14 rfl rfl rfl rfl idleGI Tryz.ntmps14 (by simp) (by simp only [go_sem, zn4]; rfl) (by simp only [go_sem, ↓reduceIte]; rfl) fun B hB => ?_
  (repeat (first | (with_reducible refine oz (by constructor <;> decide) ?_) | ((apply SO.call); (iterate 3 (simp (disch := omega) only [go_sem, ↓reduceIte, zn1] <;> rfl)); (apply SCall.ofX); (assumption); (simp (disch := omega) only [go_sem] <;> rfl)) | ((with_reducible first | apply SC.region | apply SO.run); (simp (disch := omega) only [go_sem, ↓reduceIte, zn1, zn2, zn3, zn4, reduceCtorEq] <;> rfl); (fail_if_success with_reducible refine pickA ?_)) | (with_reducible apply SC.ops)))
  exact retQ_ret Tryz.results14 (by simp (disch := omega) only [go_sem, ↓reduceIte, zn1, zn3, zn4] <;> rfl) (by simp (disch := omega) only [go_sem, ↓reduceIte] <;> rfl) rfl
def salR (b : List Int) (n : Nat) : Nat → Rd → List Chg → Nat → List Chg × Rd × Nat
  | 0, s, log, e => (log, s, e)
  | f + 1, s, log, e => if (s.step b n log).1 = true then salR b n f (s.step b n log).2.1 (s.step b n log).2.2 (s.step b n log).2.1.at_ else (log, (s.step b n log).2.1, e)
def salH (b : List Int) (n : Nat) : Hst × Nat :=
  let r := Rd.begin b n ⟨0, 0⟩
  if r.2.e = 0 then
    let l := salR b n 4001 r.2 [] r.2.at_
    (⟨r.1.1, r.1.2, l.1⟩, if l.2.1.e = 0 then l.2.1.at_ else l.2.2)
  else (⟨0, [], []⟩, 0)
theorem idleSV : Idle Tryz.prog 53 := Idle.of Tab.go53 Tryz.func53 rfl rfl rfl rfl Tryz.ntmps53 Tryz.results53
def tuS (r : Hst × Nat) : V := .tu [hstC r.1, .sc (.int .i64 r.2)]
set_option maxHeartbeats 8000000 in
theorem Salvage_s (b : List Int) (n : Nat) (hu : U8s b) (hn : n ≤ b.length) (hb : n ≤ 1000000000) :
    Spec Tryz.prog 17 [.im (bw b) n] (tuS (salH b n)) := by
  refine Spec.runD Tryz.func17 rfl rfl rfl rfl idleSV Tryz.ntmps17 (by simp) (by simp (disch := omega) only [go_sem]; rfl) (by simp (disch := omega) only [go_sem, ↓reduceIte]; rfl) fun B hB => ?_
  have c1 := rbegin_s b n ⟨0, 0⟩ hu hn hb (znc _)
  have hat := begin_at (b := b) (n := n) (s := ⟨0, 0⟩) (znc _)
  unfold salH
  generalize Rd.begin b n ⟨0, 0⟩ = r at *
  obtain ⟨⟨st, bs⟩, s1⟩ := r
  simp only at c1 hat ⊢
  unfold begC rdB at c1
  simp only at c1
  by_cases he : s1.e = 0
  · rw [if_pos he]
    have q1 : ((s1.e : Int) != 0) = false := by rw [he]; rfl
    generalize hL : salR b n 4001 s1 [] s1.at_ = L
    obtain ⟨lg, s9, en⟩ := L
    simp only
    (repeat (first | (with_reducible refine oz (by constructor <;> decide) ?_) | ((with_reducible first | apply SC.region | apply SO.run); (simp (disch := omega) only [go_sem, ↓reduceIte, zn3, zn4, reduceCtorEq] <;> rfl); (fail_if_success with_reducible refine pickA ?_)) | (with_reducible apply SC.ops)))
    (refine SO.inlQ (by simp (disch := omega) only [go_sem] <;> rfl) Tab.go54 (by simp (disch := omega) only [go_sem, ↓reduceIte] <;> rfl) (by simp (disch := omega) only [go_sem] <;> rfl) (SInlQ.rd (c1) (by simp (disch := omega) only [go_sem, ↓reduceIte] <;> rfl) rfl (by (dsimp only; omega)) (by simp (disch := omega) only [go_sem, ↓reduceIte] <;> rfl) ?_))
    (repeat (first | (with_reducible refine oz (by constructor <;> decide) ?_) | ((with_reducible first | apply SC.condB | apply SC.region | apply SO.run); (simp (disch := omega) only [go_sem, ↓reduceIte, zn1, zn3, zn4, reduceCtorEq, q1] <;> rfl); (first | refine pickF ?_ | fail_if_success with_reducible refine pickA ?_))))
    refine SC.weak (by simp) (nilRowZ (z := 8) (tO := 124) (sl' := [(2, .pt 0 0), (3, .sc (.int .i64 0)), (4, .pt 1 0), (5, .pt 2 0), (6, .sc (.int .i64 s1.at_))]) (rest := [(0, ⟨60, [.sc (.int .i64 0), .sc (.slice none 0 0), .sc (.slice none 0 0)], false⟩), (1, rdB b n s1)]) (pre := [.sc (.int .i64 st), .im (cels bs) bs.length]) 2 3 hB (by simp (disch := omega) only [go_sem, ↓reduceIte] <;> rfl) rfl (by omega) ?_ (by omega) ?_) ?_
    · exact ⟨⟨by omega, by omega, by omega, by simp, by simp (disch := omega) only [go_sem, ↓reduceIte, reduceCtorEq] <;> rfl, rfl⟩, ⟨by omega, by omega, by omega, by simp, by simp (disch := omega) only [go_sem, ↓reduceIte, zn1] <;> rfl, rfl⟩, trivial⟩
    · (repeat' (first | exact trivial | refine mapSl_cons (by simp (disch := omega) only [go_sem, ↓reduceIte, zn1] <;> rfl) ?_ ?_ | exact VMap.sc _ | exact VMap.pt rfl (by omega)))
    simp only [zl8, zl7]
    refine SC.loop (fun z : Rd × List Chg × Nat × Nat × Nat => ⟨[(2, .pt 0 0), (3, .sc (.int .i64 0)), (4, .pt 1 0), (5, .pt 2 0), (6, .sc (.int .i64 z.2.2.2.2))], [(0, ⟨60, [.sc (.int .i64 0), .sc (.slice none 0 0), .sc (.slice none 0 0)], false⟩), (1, rdB b n z.1), (2, ⟨60, [.sc (.int .i64 st), .im (cels bs) bs.length, .sl z.2.2.1 0 z.2.1.length 8 none], false⟩), (z.2.2.1, ⟨124, chgs z.2.1, false⟩)], z.2.2.2.1, 39⟩)
      (fun z => z.2.1.length ≤ 4000 ∧ salR b n (4001 - z.2.1.length) z.1 z.2.1 z.2.2.2.2 = (lg, s9, en) ∧ z.1.at_ ≤ n ∧ 3 ≤ z.2.2.1 ∧ z.2.2.1 < z.2.2.2.1) (fun z => 4001 - z.2.1.length) (s1, [], 3, 4, s1.at_) ?_ ?_ ?_
    · unfold chgs
      (refine Le.slots ?_ ?_ ?_ <;> (repeat' (first | exact znb _ | exact leSl_nil | refine leSl_cons (by simp (disch := omega) only [go_sem, ↓reduceIte, zn1] <;> rfl) ?_ ?_ | exact VLe.refl rfl | (refine fun id k h => ?_; simp only [hget] at h ⊢; (repeat' (split at h)) <;> first | (cases h; done) | (simp (disch := omega) only [if_pos, if_neg]; exact h)))))
    · exact ⟨znc _, hL, hat, by simp only; omega, by simp only; omega⟩
    · rintro ⟨s, log, q, m, ed⟩ ⟨hl4, hh, has, hq1, hq2⟩ K hK
      simp only at hl4 hh has hq1 hq2 ⊢
      have c5 := rstep_s b n s hu hn hb has log hl4 st (cels bs) bs.length 1 2 q m (by omega) (by omega) (by omega) (by omega) (by omega) (by omega)
      have hs1 := step_at (b := b) (log := log) has
      have hs2 := @step_len b n s log
      have h40 : 4001 - log.length = (4000 - log.length) + 1 := by omega
      rw [h40] at hh
      unfold salR at hh
      have hss := @step_same b n s log
      generalize s.step b n log = r at *
      obtain ⟨f, s2, log2⟩ := r
      simp only at hs1 hs2 hh hss
      (repeat (first | (with_reducible refine oz (by constructor <;> decide) ?_) | ((with_reducible first | apply SC.region | apply SO.run); (simp (disch := omega) only [go_sem, ↓reduceIte, zn1] <;> rfl); (fail_if_success with_reducible refine pickA ?_)) | (with_reducible apply SC.ops)))
      refine SO.inlQ (by simp (disch := omega) only [go_sem] <;> rfl) Tab.go55 (by simp (disch := omega) only [go_sem, ↓reduceIte, zn1] <;> rfl) (by simp (disch := omega) only [go_sem] <;> rfl) (SInlQ.part [(0, _)] (fun i => i ≠ 0) c5 ?_ ?_ (rstep_part (by omega) (by omega) (by omega) (by omega)) ?_)
      · intro id kk hg
        simp only [hget] at hg
        split at hg
        · rename_i e; exact fun h => h e
        · cases hg
      · intro id kk hg
        simp only [hget] at hg
        repeat' split at hg
        · omega
        · omega
        · omega
        · cases hg
      rintro y hp' nx' ⟨rfl, q', hq', rfl⟩
      simp only [zl8, zl7]
      have kb : (1 = q') = False := by simp only [eq_iff_iff, iff_false]; omega
      have kb1 : (2 = q') = False := by simp only [eq_iff_iff, iff_false]; omega
      have kb2 : (0 = q') = False := by simp only [eq_iff_iff, iff_false]; omega
      cases f with
      | true =>
        rw [if_pos rfl] at hh
        obtain ⟨hl2, hl3⟩ := hs2 rfl
        unfold rdB
        (repeat (first | (with_reducible refine oz (by constructor <;> decide) ?_) | ((with_reducible first | apply SC.condB | apply SC.region); (simp (disch := omega) only [go_sem, ↓reduceIte, zn1, reduceCtorEq] <;> rfl); (first | refine pickT ?_ | fail_if_success with_reducible refine pickA ?_))))
        refine hK _ (s2, log2, q', nx', s2.at_) ?_ ⟨by simp only; omega, ?_, hs1, by simp only; omega, by simp only; omega⟩ (by simp only; omega)
        · simp only
          unfold rdB
          (refine Le.slots ?_ ?_ ?_ <;> (repeat' (first | (exact fun _ _ h => h) | exact znb _ | exact leSl_nil | refine leSl_cons (by simp (disch := omega) only [go_sem, ↓reduceIte, zn1] <;> rfl) ?_ ?_ | exact VLe.refl rfl)))
        · simp only
          rw [hl2, show 4001 - (log.length + 1) = 4000 - log.length by omega]
          exact hh
      | false =>
        rw [if_neg (by simp)] at hh
        have := hss rfl
        subst this
        cases hh
        have gl := chgs_len lg
        have gt : (chgs lg).take (lg.length * 8) = chgs lg := zla (by omega)
        have gcl := chgs_clo lg
        unfold rdB
        by_cases h9 : s9.e = 0
        · rw [if_pos h9]
          have q9 : ((s9.e : Int) == 0) = true := by rw [h9]; rfl
          (repeat (first | (with_reducible refine oz (by constructor <;> decide) ?_) | ((with_reducible first | apply SC.condB | apply SC.region); (simp (disch := omega) only [go_sem, ↓reduceIte, zn1, zn2, zn3, zn4, reduceCtorEq, q9] <;> rfl); (first | refine pT ?_ | refine pF ?_ | fail_if_success with_reducible refine pA ?_))))
          exact retQ_ret Tryz.results17 (by simp (disch := omega) only [go_sem, ↓reduceIte, zn1, zn3, zn4] <;> rfl) (by simp (disch := omega) only [go_sem, ↓reduceIte, if_pos, if_neg, gl, gt, gcl, zl2] <;> rfl) rfl
        · rw [if_neg h9]
          have q9 : ((s9.e : Int) == 0) = false := by rw [beq_eq_false_iff_ne]; omega
          (repeat (first | (with_reducible refine oz (by constructor <;> decide) ?_) | ((with_reducible first | apply SC.condB | apply SC.region); (simp (disch := omega) only [go_sem, ↓reduceIte, zn1, zn2, zn3, zn4, reduceCtorEq, q9] <;> rfl); (first | refine pickF ?_ | fail_if_success with_reducible refine pickA ?_))))
          exact retQ_ret Tryz.results17 (by simp (disch := omega) only [go_sem, ↓reduceIte, zn1, zn3, zn4] <;> rfl) (by simp (disch := omega) only [go_sem, ↓reduceIte, if_pos, if_neg, gl, gt, gcl, zl2] <;> rfl) rfl
  · rw [if_neg he]
    have q1 : ((s1.e : Int) != 0) = true := by rw [bne_iff_ne]; omega
    (repeat (first | (with_reducible refine oz (by constructor <;> decide) ?_) | ((with_reducible first | apply SC.region | apply SO.run); (simp (disch := omega) only [go_sem, ↓reduceIte, zn3, zn4, reduceCtorEq] <;> rfl); (fail_if_success with_reducible refine pickA ?_)) | (with_reducible apply SC.ops)))
    (refine SO.inlQ (by simp (disch := omega) only [go_sem] <;> rfl) Tab.go54 (by simp (disch := omega) only [go_sem, ↓reduceIte] <;> rfl) (by simp (disch := omega) only [go_sem] <;> rfl) (SInlQ.rd (c1) (by simp (disch := omega) only [go_sem, ↓reduceIte] <;> rfl) rfl (by (dsimp only; omega)) (by simp (disch := omega) only [go_sem, ↓reduceIte] <;> rfl) ?_))
    (repeat (first | (with_reducible refine oz (by constructor <;> decide) ?_) | ((with_reducible first | apply SC.condB | apply SC.region | apply SO.run); (simp (disch := omega) only [go_sem, ↓reduceIte, zn1, zn3, zn4, reduceCtorEq, q1] <;> rfl); (first | refine pickT ?_ | fail_if_success with_reducible refine pickA ?_))))
    exact retQ_ret Tryz.results17 (by simp (disch := omega) only [go_sem, ↓reduceIte, zn1, zn3, zn4, reduceCtorEq] <;> rfl) (by simp (disch := omega) only [go_sem, ↓reduceIte] <;> rfl) rfl
end Go.Proofs.YtphilljhfdlfdaaGreat
namespace Go.Proofs.YtphilljhfdlfdaaGreat
theorem at_self (l : List Int) (n : Nat) : At (l.take n) n 0 l := fun i _ hn => by rw [List.getElem?_take, if_pos hn, zn9]
theorem b4_bw4 (X : List V) (x : Nat) : X ++ bw (b4 x) = X ++ [.sc (.int .u8 ((x : Int).fdiv 1 % 256))] ++ [.sc (.int .u8 ((x : Int).fdiv 256 % 256))] ++ [.sc (.int .u8 ((x : Int).fdiv 65536 % 256))] ++ [.sc (.int .u8 ((x : Int).fdiv 16777216 % 256))] := by
  have d0 : (x : Int).fdiv 1 = (x : Int) := by rw [Int.fdiv_eq_ediv_of_nonneg _ (by omega)]; omega
  rw [b4_bw, d0]; simp only [zl6, zl8, zl7]
set_option maxHeartbeats 2000000 in
theorem rputint_s (z : Int) (hz : (limbsOf z.natAbs).length ≤ 100000000) : PutA 34 [iv z] (int_ z) := by
  refine PutA.of (int_pos z) fun id c cap nx hc hi => ?_
  have ge : (int_ z).length = (num (hdI z)).length + 4 * (limbsOf z.natAbs).length := by unfold int_; rw [zl1, lbs_len]
  have hh : hdI z = 2 * (limbsOf z.natAbs).length + (if z < 0 then 1 else 0) := rfl
  have hlim := limbsOf_limbs z.natAbs
  unfold iv sv
  generalize hl : limbsOf z.natAbs = l at *
  have hb : hdI z < 18446744073709551616 := by rw [hh]; split <;> omega
  have c1 := rnumber_s (hdI z) hb id c cap (by omega)
  have gl := lv_len l
  refine InlQ.run Tryz.func34 rfl Tryz.ntmps34 (by simp) (by simp (disch := omega) only [go_sem, zn4]; rfl) fun B hB => ?_
  by_cases hn : z < 0
  · have q1 : decide (z < 0) = true := decide_eq_true hn
    have hu : (hdI z : Int) = 2 * (l.length : Int) + 1 := by rw [hh, if_pos hn]; omega
    (repeat (first | (with_reducible refine oz (by constructor <;> decide) ?_) | ((with_reducible first | apply SC.condB | apply SC.region | apply SO.run); (simp (disch := omega) only [go_sem, ↓reduceIte, zn1, reduceCtorEq, q1] <;> rfl); (first | refine pickT ?_ | fail_if_success with_reducible refine pickA ?_)) | (with_reducible apply SC.ops)))
    rw [hu] at c1
    (refine SO.callA Tab.go35 (by simp (disch := omega) only [go_sem, ↓reduceIte, zn1] <;> rfl) (by simp (disch := omega) only [go_sem] <;> rfl) (SApp.of (c1) (by simp (disch := omega) only [go_sem, ↓reduceIte, if_neg] <;> rfl) rfl (by simp (disch := omega) only [go_sem, ↓reduceIte, if_neg] <;> rfl) ?_))
    (repeat (refine SO.run (by simp (disch := omega) only [go_sem, ↓reduceIte]; rfl) ?_))
    (repeat (first | (with_reducible refine oz (by constructor <;> decide) ?_) | ((with_reducible apply SC.region); (simp (disch := omega) only [go_sem, ↓reduceIte]; rfl))))
    refine SC.loop (fun x : Nat × Nat × Nat => ⟨[(0, .sl x.2.1 0 (c ++ num (hdI z) ++ lbs (l.take x.1)).length 1 none), (3, .pt nx 0), (6, .sc (.int .i64 x.1))], [(x.2.1, ⟨5, bw (c ++ num (hdI z) ++ lbs (l.take x.1)), false⟩), (nx, ⟨24, [.sc (.bool true), .im (lv l) l.length], false⟩)], x.2.2, 44⟩)
      (fun x => x.1 ≤ l.length ∧ nx < x.2.1 ∧ x.2.1 < x.2.2) (fun x => l.length - x.1) (0, nx + 1, nx + 2) ?_ ?_ ?_
    · simp only [zl4, lbs, List.flatMap_nil, List.append_nil, zl1]
      (refine Le.slots ?_ ?_ ?_ <;> (repeat' (first | (exact fun _ _ h => h) | exact znb _ | exact leSl_nil | refine leSl_cons (by simp (disch := omega) only [go_sem, ↓reduceIte, zn1, reduceCtorEq] <;> rfl) ?_ ?_ | exact VLe.refl rfl)))
    · exact ⟨znc _, by simp only; omega, by simp only; omega⟩
    · rintro ⟨i, q, m⟩ ⟨hi1, hq1, hq2⟩ K hK
      simp only at hi1 hq1 hq2 ⊢
      have gw := bw_len (c ++ num (hdI z) ++ lbs (l.take i))
      have gt : (bw (c ++ num (hdI z) ++ lbs (l.take i))).take (c ++ num (hdI z) ++ lbs (l.take i)).length = bw (c ++ num (hdI z) ++ lbs (l.take i)) := zla (by omega)
      have gm : (c ++ num (hdI z) ++ lbs (l.take i)).length = c.length + (num (hdI z)).length + 4 * i := by
        rw [zl1, zl1, lbs_len, List.length_take, Nat.min_eq_left hi1]
      by_cases hlt : i < l.length
      · have gx := lv_get hlt
        have hx : l.getD i 0 < 4294967296 := lim_getD hlim hlt
        have n24 : min 24 32 = 24 := rfl
        have n16 : min 16 32 = 16 := rfl
        have n8 : min 8 32 = 8 := rfl
        have q2 : decide ((i : Int) < (l.length : Int)) = true := by rw [decide_eq_true_iff]; omega
        have x0 : ((i : Int)).toNat = i := rfl
        rw [gm] at gw gt
        have n0 : min 0 32 = 0 := rfl
        have l1 : ∀ y, (bw (c ++ num (hdI z) ++ lbs (l.take i)) ++ [y]).length = c.length + (num (hdI z)).length + 4 * i + 1 := fun y => by rw [zl1, gw]; rfl
        have l2 : ∀ y y2, (bw (c ++ num (hdI z) ++ lbs (l.take i)) ++ [y] ++ [y2]).length = c.length + (num (hdI z)).length + 4 * i + 1 + 1 := fun y y2 => by rw [zl1, l1]; rfl
        have l3 : ∀ y y2 y3, (bw (c ++ num (hdI z) ++ lbs (l.take i)) ++ [y] ++ [y2] ++ [y3]).length = c.length + (num (hdI z)).length + 4 * i + 1 + 1 + 1 := fun y y2 y3 => by rw [zl1, l2]; rfl
        have t1 := fun y => zla (Nat.le_of_eq (l1 y))
        have t2 := fun y y2 => zla (Nat.le_of_eq (l2 y y2))
        have t3 := fun y y2 y3 => zla (Nat.le_of_eq (l3 y y2 y3))
        (repeat (first | (with_reducible refine oz (by constructor <;> decide) ?_) | ((with_reducible first | apply SC.condB | apply SC.region); (simp (disch := omega) only [go_sem, ↓reduceIte, zn1, zn3, reduceCtorEq, zi1, zi2, if_pos, if_neg, n0, l1, l2, l3, t1, t2, t3, Int.reduceMul, Int.reduceAdd, q2, gx, x0, gw, gt, gm, zl5, Nat.add_zero, n24, n16, n8, zn8, zna, zl2, zl3, zl4] <;> rfl); (first | refine pT ?_ | refine pF ?_ | fail_if_success with_reducible refine pA ?_)) | (with_reducible apply SR.next) | refine SC.loopN 5 ?_))
        have e4 : bw (c ++ num (hdI z) ++ lbs (l.take (i + 1))) = bw (c ++ num (hdI z) ++ lbs (l.take i)) ++ [.sc (.int .u8 (((l.getD i 0 : Nat) : Int).fdiv 1 % 256))] ++ [.sc (.int .u8 (((l.getD i 0 : Nat) : Int).fdiv 256 % 256))] ++ [.sc (.int .u8 (((l.getD i 0 : Nat) : Int).fdiv 65536 % 256))] ++ [.sc (.int .u8 (((l.getD i 0 : Nat) : Int).fdiv 16777216 % 256))] := by
          rw [← b4_bw4, ← bw_app, lbs_snoc hlt]; congr 1; exact (zl6 ..).symm
        have e5 : (c ++ num (hdI z) ++ lbs (l.take (i + 1))).length = c.length + (num (hdI z)).length + 4 * i + 4 := by
          rw [zl1, zl1, lbs_len, List.length_take, Nat.min_eq_left (by omega : i + 1 ≤ l.length)]; omega
        refine hK _ (i + 1, m + 7, m + 8) ?_ ⟨by simp only; omega, by simp only; omega, by simp only; omega⟩ (by simp only; omega)
        simp only [e4, e5]
        (refine Le.slots ?_ ?_ ?_ <;> (repeat' (first | exact znb _ | exact leSl_nil | refine leSl_cons (by simp (disch := omega) only [go_sem, ↓reduceIte, zn1, reduceCtorEq] <;> rfl) ?_ ?_ | exact VLe.refl rfl | (refine fun id k h => ?_; simp only [hget] at h ⊢; (repeat' (split at h)) <;> first | (cases h; done) | (simp (disch := omega) only [if_pos, if_neg]; exact h)))))
      · have q2 : decide ((i : Int) < (l.length : Int)) = false := by rw [decide_eq_false_iff_not]; omega
        have hie : i = l.length := by omega
        have e6 : c ++ num (hdI z) ++ lbs (l.take i) = c ++ int_ z := by rw [hie, List.take_length, zl6]; unfold int_; rw [hl]
        have e7 : (c ++ num (hdI z) ++ lbs (l.take i)).length = c.length + (int_ z).length := by rw [e6, zl1]
        rw [e6] at gw gt ⊢
        rw [e6] at e7
        rw [e7]
        (repeat (first | (with_reducible refine oz (by constructor <;> decide) ?_) | ((with_reducible first | apply SC.condB | apply SC.region); (simp (disch := omega) only [go_sem, ↓reduceIte, zn1, zn2, reduceCtorEq, if_neg, q2] <;> rfl); (first | refine pickF ?_ | fail_if_success with_reducible refine pickA ?_))))
        refine retIQ_ret (.sl q 0 (c.length + (int_ z).length) 1 none) [(q, ⟨5, bw (c ++ int_ z), false⟩)] m Tryz.results34 (by simp (disch := omega) only [go_sem, ↓reduceIte]; rfl) ⟨q, by omega, rfl, rfl⟩ ?_
        (refine Le.slots ?_ ?_ ?_ <;> (repeat' (first | exact znb _ | exact leSl_nil | refine leSl_cons (by simp (disch := omega) only [go_sem, ↓reduceIte] <;> rfl) ?_ ?_ | exact VLe.refl rfl | (refine fun id k h => ?_; simp only [hget] at h ⊢; (repeat' (split at h)) <;> first | (cases h; done) | (simp (disch := omega) only [if_pos]; exact h)))))
  · have q1 : decide (z < 0) = false := decide_eq_false hn
    have hu : (hdI z : Int) = 2 * (l.length : Int) := by rw [hh, if_neg hn]; omega
    (repeat (first | (with_reducible refine oz (by constructor <;> decide) ?_) | ((with_reducible first | apply SC.condB | apply SC.region | apply SO.run); (simp (disch := omega) only [go_sem, ↓reduceIte, zn1, reduceCtorEq, q1] <;> rfl); (first | refine pickF ?_ | fail_if_success with_reducible refine pickA ?_)) | (with_reducible apply SC.ops)))
    rw [hu] at c1
    (refine SO.callA Tab.go35 (by simp (disch := omega) only [go_sem, ↓reduceIte, zn1] <;> rfl) (by simp (disch := omega) only [go_sem] <;> rfl) (SApp.of (c1) (by simp (disch := omega) only [go_sem, ↓reduceIte, if_neg] <;> rfl) rfl (by simp (disch := omega) only [go_sem, ↓reduceIte, if_neg] <;> rfl) ?_))
    (repeat (refine SO.run (by simp (disch := omega) only [go_sem, ↓reduceIte]; rfl) ?_))
    (repeat (first | (with_reducible refine oz (by constructor <;> decide) ?_) | ((with_reducible apply SC.region); (simp (disch := omega) only [go_sem, ↓reduceIte]; rfl))))
    refine SC.loop (fun x : Nat × Nat × Nat => ⟨[(0, .sl x.2.1 0 (c ++ num (hdI z) ++ lbs (l.take x.1)).length 1 none), (3, .pt nx 0), (6, .sc (.int .i64 x.1))], [(x.2.1, ⟨5, bw (c ++ num (hdI z) ++ lbs (l.take x.1)), false⟩), (nx, ⟨24, [.sc (.bool false), .im (lv l) l.length], false⟩)], x.2.2, 44⟩)
      (fun x => x.1 ≤ l.length ∧ nx < x.2.1 ∧ x.2.1 < x.2.2) (fun x => l.length - x.1) (0, nx + 1, nx + 2) ?_ ?_ ?_
    · simp only [zl4, lbs, List.flatMap_nil, List.append_nil, zl1]
      (refine Le.slots ?_ ?_ ?_ <;> (repeat' (first | (exact fun _ _ h => h) | exact znb _ | exact leSl_nil | refine leSl_cons (by simp (disch := omega) only [go_sem, ↓reduceIte, zn1, reduceCtorEq] <;> rfl) ?_ ?_ | exact VLe.refl rfl)))
    · exact ⟨znc _, by simp only; omega, by simp only; omega⟩
    · rintro ⟨i, q, m⟩ ⟨hi1, hq1, hq2⟩ K hK
      simp only at hi1 hq1 hq2 ⊢
      have gw := bw_len (c ++ num (hdI z) ++ lbs (l.take i))
      have gt : (bw (c ++ num (hdI z) ++ lbs (l.take i))).take (c ++ num (hdI z) ++ lbs (l.take i)).length = bw (c ++ num (hdI z) ++ lbs (l.take i)) := zla (by omega)
      have gm : (c ++ num (hdI z) ++ lbs (l.take i)).length = c.length + (num (hdI z)).length + 4 * i := by
        rw [zl1, zl1, lbs_len, List.length_take, Nat.min_eq_left hi1]
      by_cases hlt : i < l.length
      · have gx := lv_get hlt
        have hx : l.getD i 0 < 4294967296 := lim_getD hlim hlt
        have n24 : min 24 32 = 24 := rfl
        have n16 : min 16 32 = 16 := rfl
        have n8 : min 8 32 = 8 := rfl
        have q2 : decide ((i : Int) < (l.length : Int)) = true := by rw [decide_eq_true_iff]; omega
        have x0 : ((i : Int)).toNat = i := rfl
        rw [gm] at gw gt
        have n0 : min 0 32 = 0 := rfl
        have l1 : ∀ y, (bw (c ++ num (hdI z) ++ lbs (l.take i)) ++ [y]).length = c.length + (num (hdI z)).length + 4 * i + 1 := fun y => by rw [zl1, gw]; rfl
        have l2 : ∀ y y2, (bw (c ++ num (hdI z) ++ lbs (l.take i)) ++ [y] ++ [y2]).length = c.length + (num (hdI z)).length + 4 * i + 1 + 1 := fun y y2 => by rw [zl1, l1]; rfl
        have l3 : ∀ y y2 y3, (bw (c ++ num (hdI z) ++ lbs (l.take i)) ++ [y] ++ [y2] ++ [y3]).length = c.length + (num (hdI z)).length + 4 * i + 1 + 1 + 1 := fun y y2 y3 => by rw [zl1, l2]; rfl
        have t1 := fun y => zla (Nat.le_of_eq (l1 y))
        have t2 := fun y y2 => zla (Nat.le_of_eq (l2 y y2))
        have t3 := fun y y2 y3 => zla (Nat.le_of_eq (l3 y y2 y3))
        (repeat (first | (with_reducible refine oz (by constructor <;> decide) ?_) | ((with_reducible first | apply SC.condB | apply SC.region); (simp (disch := omega) only [go_sem, ↓reduceIte, zn1, zn3, reduceCtorEq, zi1, zi2, if_pos, if_neg, n0, l1, l2, l3, t1, t2, t3, Int.reduceMul, Int.reduceAdd, q2, gx, x0, gw, gt, gm, zl5, Nat.add_zero, n24, n16, n8, zn8, zna, zl2, zl3, zl4] <;> rfl); (first | refine pT ?_ | refine pF ?_ | fail_if_success with_reducible refine pA ?_)) | (with_reducible apply SR.next) | refine SC.loopN 5 ?_))
        have e4 : bw (c ++ num (hdI z) ++ lbs (l.take (i + 1))) = bw (c ++ num (hdI z) ++ lbs (l.take i)) ++ [.sc (.int .u8 (((l.getD i 0 : Nat) : Int).fdiv 1 % 256))] ++ [.sc (.int .u8 (((l.getD i 0 : Nat) : Int).fdiv 256 % 256))] ++ [.sc (.int .u8 (((l.getD i 0 : Nat) : Int).fdiv 65536 % 256))] ++ [.sc (.int .u8 (((l.getD i 0 : Nat) : Int).fdiv 16777216 % 256))] := by
          rw [← b4_bw4, ← bw_app, lbs_snoc hlt]; congr 1; exact (zl6 ..).symm
        have e5 : (c ++ num (hdI z) ++ lbs (l.take (i + 1))).length = c.length + (num (hdI z)).length + 4 * i + 4 := by
          rw [zl1, zl1, lbs_len, List.length_take, Nat.min_eq_left (by omega : i + 1 ≤ l.length)]; omega
        refine hK _ (i + 1, m + 7, m + 8) ?_ ⟨by simp only; omega, by simp only; omega, by simp only; omega⟩ (by simp only; omega)
        simp only [e4, e5]
        (refine Le.slots ?_ ?_ ?_ <;> (repeat' (first | exact znb _ | exact leSl_nil | refine leSl_cons (by simp (disch := omega) only [go_sem, ↓reduceIte, zn1, reduceCtorEq] <;> rfl) ?_ ?_ | exact VLe.refl rfl | (refine fun id k h => ?_; simp only [hget] at h ⊢; (repeat' (split at h)) <;> first | (cases h; done) | (simp (disch := omega) only [if_pos, if_neg]; exact h)))))
      · have q2 : decide ((i : Int) < (l.length : Int)) = false := by rw [decide_eq_false_iff_not]; omega
        have hie : i = l.length := by omega
        have e6 : c ++ num (hdI z) ++ lbs (l.take i) = c ++ int_ z := by rw [hie, List.take_length, zl6]; unfold int_; rw [hl]
        have e7 : (c ++ num (hdI z) ++ lbs (l.take i)).length = c.length + (int_ z).length := by rw [e6, zl1]
        rw [e6] at gw gt ⊢
        rw [e6] at e7
        rw [e7]
        (repeat (first | (with_reducible refine oz (by constructor <;> decide) ?_) | ((with_reducible first | apply SC.condB | apply SC.region); (simp (disch := omega) only [go_sem, ↓reduceIte, zn1, zn2, reduceCtorEq, if_neg, q2] <;> rfl); (first | refine pickF ?_ | fail_if_success with_reducible refine pickA ?_))))
        refine retIQ_ret (.sl q 0 (c.length + (int_ z).length) 1 none) [(q, ⟨5, bw (c ++ int_ z), false⟩)] m Tryz.results34 (by simp (disch := omega) only [go_sem, ↓reduceIte]; rfl) ⟨q, by omega, rfl, rfl⟩ ?_
        (refine Le.slots ?_ ?_ ?_ <;> (repeat' (first | exact znb _ | exact leSl_nil | refine leSl_cons (by simp (disch := omega) only [go_sem, ↓reduceIte] <;> rfl) ?_ ?_ | exact VLe.refl rfl | (refine fun id k h => ?_; simp only [hget] at h ⊢; (repeat' (split at h)) <;> first | (cases h; done) | (simp (disch := omega) only [if_pos]; exact h)))))
theorem AppC.nil {P : Program} {f id len : Nat} {xs : List V} {ty : TypeId} {k' : Blk} (h : AppC P f (.sl id 0 0 1 none :: xs) id ⟨ty, [], false⟩ 0 len 1 none k') (hl : k'.cs.length = len) : Spec P f (.sc (.slice none 0 0) :: xs) (.im k'.cs len) := by
  intro S w vs hS hT ha
  have hm : Mem (Base.inner S (fun _ => 0) (fun _ => False) [] w) S (fun _ => 0) (fun _ => False) [(id, ⟨ty, [], false⟩)] w :=
    { cells := fun _ _ _ h => h.elim, fz := fun _ _ _ h => h.elim, own := fun _ _ _ h => h.elim, inj := fun _ _ _ _ _ _ h => h.elim, slt := hS, sub := fun _ h => h, base := fun _ h => .inl h,
      frame := ⟨rfl, rfl, rfl, znb _, fun _ _ _ => rfl, fun _ _ => rfl, fun _ _ h => h, hS, hT⟩, keep := fun _ h => ⟨h, rfl⟩ }
  have hv : All S (fun _ => 0) (fun _ => False) w (.sl id 0 0 1 none :: xs) vs.toList := by
    refine ⟨ha.1, fun i x u hx hu => ?_⟩
    cases i with
    | zero =>
      cases hx
      have := ha.2 0 _ u rfl hu
      cases this
      exact .sln (by simp)
    | succ i => exact ha.2 (i + 1) x u hx hu
  refine (h _ S _ _ w vs 0 hm (fun _ h => h.elim) hv).mono ?_
  rintro e w' ⟨v, b, rfl, g, hSb, hb, hnb, hc, hr⟩
  have hb2 : w.heap.size ≤ b := hb.elim (fun h => h) (fun h => h.1.elim)
  refine ⟨v, rfl, ⟨g.os, g.tape, g.output, g.size, fun b hb => g.block b hb (fun h => h.1)⟩, ?_⟩
  obtain ⟨cells, h1, h2⟩ := hc
  have hbs : b < w'.heap.size := by
    rcases Nat.lt_or_ge b w'.heap.size with h | h
    · exact h
    · rw [Array.getElem?_eq_none h] at h1; cases h1
  cases hr with
  | sln h =>
    have : k'.cs = [] := List.eq_nil_of_length_eq_zero hl
    rw [this]
    exact .im0 (znb _) (by unfold maxLen; omega) (fun _ => rfl)
  | sl h0 hl' hm' hc hz =>
    refine .im1 (fun i => cells.getD i default) hl' hm' (.inr ⟨hb2, hbs⟩) (fun i x hx => ?_) (fun i x hx => ?_)
    · obtain ⟨u, hu, _⟩ := h2 i x hx
      have e : cells.getD i default = u := by simp [Array.getD_eq_getD_getElem?, hu]
      simp only [e]
      simp [World.cell?, h1, hu]
    · obtain ⟨u, hu, hr⟩ := h2 i x hx
      have e : cells.getD i default = u := by simp [Array.getD_eq_getD_getElem?, hu]
      rw [e]
      exact hr.mono (fun _ h => h.elim) (fun _ h => h.elim)
theorem AppC.nilA {P : Program} {f i0 len : Nat} {xs : List V} {ty : TypeId} {k' : Blk} (h : AppC P f (.sl i0 0 0 1 none :: xs) i0 ⟨ty, [], false⟩ 0 len 1 none k') (hx : ∀ x ∈ xs, Only (fun _ => False) x) (id : Nat) (k : Blk) : AppC P f (.sc (.slice none 0 0) :: xs) id k 0 len 1 none k' := by
  intro B S rho A w vs m hm hA ha
  have hm2 : Mem (Base.inner S rho (fun _ => False) [] w) S rho (fun _ => False) [(i0, ⟨ty, [], false⟩)] w :=
    { cells := fun _ _ _ h => h.elim, fz := fun _ _ _ h => h.elim, own := fun _ _ _ h => h.elim, inj := fun _ _ _ _ _ _ h => h.elim, slt := hm.slt, sub := fun _ h => h, base := fun _ h => .inl h,
      frame := ⟨rfl, rfl, rfl, znb _, fun _ _ _ => rfl, fun _ _ => rfl, fun _ _ h => h, hm.slt, hm.tab⟩, keep := fun _ h => ⟨h, rfl⟩ }
  have hv : All S rho (fun _ => False) w (.sl i0 0 0 1 none :: xs) vs.toList := by
    refine ⟨ha.1, fun i x u hi hu => ?_⟩
    cases i with
    | zero =>
      cases hi
      have := ha.2 0 _ u rfl hu
      cases this
      exact .sln (by simp)
    | succ i =>
      have hr := ha.2 (i + 1) x u hi hu
      have hmem : x ∈ xs := by
        simp only [List.getElem?_cons_succ] at hi
        exact List.mem_of_getElem? hi
      exact hr.only (hx x hmem) (A' := fun _ => False) (fun _ h => h.elim)
  refine (h _ S rho _ w vs 0 hm2 (fun _ h => h.elim) hv).mono ?_
  rintro e w' ⟨v, b, rfl, g, hSb, hb, hnb, hc, hr⟩
  exact ⟨v, b, rfl, ⟨g.os, g.tape, g.output, g.size, fun b hb _ => g.block b hb (fun h => h.1), g.sz⟩, hSb, .inl (hb.elim (fun h => h) (fun h => h.1.elim)), hnb, hc, hr⟩
def noH : Hst := ⟨0, [], []⟩
def getH (b : List Int) (n : Nat) (at_ : Int) : Hst × Nat × Nat := if at_ < 0 ∨ at_ > n then (noH, 0, 1) else if (Rd.hist b n ⟨at_.toNat, 0⟩).2.e = 0 then ((Rd.hist b n ⟨at_.toNat, 0⟩).1, (Rd.hist b n ⟨at_.toNat, 0⟩).2.at_, 0) else (noH, 0, (Rd.hist b n ⟨at_.toNat, 0⟩).2.e)
def tuH (r : Hst × Nat × Nat) : V := .tu [hstC r.1, .sc (.int .i64 r.2.1), .sc (.int .i64 r.2.2)]
set_option maxHeartbeats 4000000 in
theorem getH_s (b : List Int) (n : Nat) (at_ : Int) (hu : U8s b) (hn : n ≤ b.length) (hb : n ≤ 1000000000) :
    Spec Tryz.prog 51 [.im (bw b) n, .sc (.int .i64 at_), .sc (.func (.func 52) #[] #[])] (tuH (getH b n at_)) := by
  unfold getH
  by_cases h0 : at_ < 0
  · have q1 : decide (at_ < 0) = true := decide_eq_true h0
    rw [if_pos (.inl h0)]
    refine Spec.run Tryz.func51 rfl Tryz.ntmps51 (by simp) (by simp only [go_sem, zn4]; rfl) fun B hB => ?_
    (repeat (first | (with_reducible refine oz (by constructor <;> decide) ?_) | ((with_reducible first | apply SC.condB | apply SC.region); (simp (disch := omega) only [go_sem, ↓reduceIte, zn1, zn3, zn4, reduceCtorEq, q1] <;> rfl); (first | refine pickT ?_ | fail_if_success with_reducible refine pickA ?_))))
    exact retQ_ret Tryz.results51 (by simp (disch := omega) only [go_sem, ↓reduceIte, zn1, zn3, zn4, reduceCtorEq] <;> rfl) (by simp (disch := omega) only [go_sem, ↓reduceIte] <;> rfl) rfl
  · have q1 : decide (at_ < 0) = false := decide_eq_false h0
    by_cases h1 : at_ > n
    · have q2 : decide (at_ > (n : Int)) = true := decide_eq_true h1
      rw [if_pos (.inr h1)]
      refine Spec.run Tryz.func51 rfl Tryz.ntmps51 (by simp) (by simp only [go_sem, zn4]; rfl) fun B hB => ?_
      (repeat (first | (with_reducible refine oz (by constructor <;> decide) ?_) | ((with_reducible first | apply SC.condB | apply SC.region); (simp (disch := omega) only [go_sem, ↓reduceIte, zn1, zn3, zn4, reduceCtorEq, q1, q2] <;> rfl); (first | refine pickT ?_ | fail_if_success with_reducible refine pickA ?_))))
      exact retQ_ret Tryz.results51 (by simp (disch := omega) only [go_sem, ↓reduceIte, zn1, zn3, zn4, reduceCtorEq] <;> rfl) (by simp (disch := omega) only [go_sem, ↓reduceIte] <;> rfl) rfl
    · have q2 : decide (at_ > (n : Int)) = false := decide_eq_false h1
      rw [if_neg (by omega)]
      obtain ⟨a, rfl⟩ : ∃ a : Nat, at_ = a := ⟨at_.toNat, by omega⟩
      have c1 := rhistory_s b n ⟨a, 0⟩ hu hn hb (by simp only; omega)
      rw [show ((a : Int)).toNat = a from rfl]
      generalize Rd.hist b n ⟨a, 0⟩ = r at *
      obtain ⟨z, s⟩ := r
      simp only at c1 ⊢
      unfold rdB at c1
      by_cases he : s.e = 0
      · have q3 : ((s.e : Int) != 0) = false := by rw [he]; rfl
        rw [if_pos he]
        unfold tuH
        simp only
        unfold hstC at c1 ⊢
        refine Spec.run Tryz.func51 rfl Tryz.ntmps51 (by simp) (by simp only [go_sem, zn4]; rfl) fun B hB => ?_
        (repeat (first | (with_reducible refine oz (by constructor <;> decide) ?_) | ((with_reducible first | apply SC.condB | apply SC.region | apply SO.run); (simp (disch := omega) only [go_sem, ↓reduceIte, zn1, zn3, zn4, reduceCtorEq, q1, q2] <;> rfl); (first | refine pickF ?_ | fail_if_success with_reducible refine pickA ?_)) | (with_reducible apply SC.ops)))
        (refine SO.inlQ (by simp (disch := omega) only [go_sem, ↓reduceIte, zn1] <;> rfl) Tab.go52 (by simp (disch := omega) only [go_sem, ↓reduceIte] <;> rfl) (by simp (disch := omega) only [go_sem] <;> rfl) (SInlQ.rd (c1) (by simp (disch := omega) only [go_sem, ↓reduceIte] <;> rfl) rfl (by (dsimp only; omega)) (by simp (disch := omega) only [go_sem, ↓reduceIte] <;> rfl) ?_))
        (repeat (first | refine DO.nil (by kernel_rfl) ?_ | (with_reducible refine oz (by constructor <;> decide) ?_) | ((with_reducible first | apply wa | apply wb | apply wc | apply wd); (simp only [go_sem, ↓reduceIte, zn1, zn2, zn3, zn4, reduceCtorEq, q3] <;> rfl); (first | refine pickF ?_ | fail_if_success with_reducible refine pickA ?_)) | ((with_reducible refine SC.draw Tab.mixed ?_ ?_); rfl)))
        exact retQ_ret Tryz.results51 (by simp only [go_sem, ↓reduceIte, zn1, zn3, zn4, reduceCtorEq] <;> rfl) (by simp only [go_sem, ↓reduceIte] <;> rfl) rfl
      · have q3 : ((s.e : Int) != 0) = true := by rw [bne_iff_ne]; omega
        rw [if_neg he]
        unfold hstC at c1
        refine Spec.run Tryz.func51 rfl Tryz.ntmps51 (by simp) (by simp only [go_sem, zn4]; rfl) fun B hB => ?_
        (repeat (first | (with_reducible refine oz (by constructor <;> decide) ?_) | ((with_reducible first | apply SC.condB | apply SC.region | apply SO.run); (simp (disch := omega) only [go_sem, ↓reduceIte, zn1, zn3, zn4, reduceCtorEq, q1, q2] <;> rfl); (first | refine pickF ?_ | fail_if_success with_reducible refine pickA ?_)) | (with_reducible apply SC.ops)))
        (refine SO.inlQ (by simp (disch := omega) only [go_sem, ↓reduceIte, zn1] <;> rfl) Tab.go52 (by simp (disch := omega) only [go_sem, ↓reduceIte] <;> rfl) (by simp (disch := omega) only [go_sem] <;> rfl) (SInlQ.rd (c1) (by simp (disch := omega) only [go_sem, ↓reduceIte] <;> rfl) rfl (by (dsimp only; omega)) (by simp (disch := omega) only [go_sem, ↓reduceIte] <;> rfl) ?_))
        (repeat (first | refine DO.nil (by kernel_rfl) ?_ | (with_reducible refine oz (by constructor <;> decide) ?_) | ((with_reducible first | apply wa | apply wb | apply wc | apply wd); (simp (disch := omega) only [go_sem, ↓reduceIte, zn1, zn3, zn4, reduceCtorEq, q3] <;> rfl); (first | refine pickT ?_ | fail_if_success with_reducible refine pickA ?_)) | ((with_reducible refine SC.draw Tab.mixed ?_ ?_); rfl)))
        exact retQ_ret Tryz.results51 (by simp only [go_sem, ↓reduceIte, zn1, zn3, zn4, reduceCtorEq] <;> rfl) (by simp only [go_sem, ↓reduceIte] <;> rfl) rfl
theorem idleGH : Idle Tryz.prog 50 := Idle.of Tab.go50 Tryz.func50 rfl rfl rfl rfl Tryz.ntmps50 Tryz.results50
theorem GetHistory_s (b : List Int) (n : Nat) (at_ : Int) (hu : U8s b) (hn : n ≤ b.length) (hb : n ≤ 1000000000) :
    Spec Tryz.prog 16 [.im (bw b) n, .sc (.int .i64 at_)] (tuH (getH b n at_)) := by
  have c1 := getH_s b n at_ hu hn hb
  generalize getH b n at_ = r at *
  obtain ⟨z, i, e⟩ := r
  unfold tuH hstC at c1 ⊢
  simp only at c1 ⊢
  refine Spec.runD Tryz.func16 rfl rfl rfl rfl idleGH Tryz.ntmps16 (by simp) (by simp only [go_sem, zn4]; rfl) (by simp only [go_sem, ↓reduceIte]; rfl) fun B hB => ?_
  (repeat (first | (with_reducible refine oz (by constructor <;> decide) ?_) | ((apply SO.call); (iterate 3 (simp (disch := omega) only [go_sem, ↓reduceIte, zn1] <;> rfl)); (apply SCall.ofX); (assumption); (simp (disch := omega) only [go_sem] <;> rfl)) | ((with_reducible first | apply SC.region | apply SO.run); (simp (disch := omega) only [go_sem, ↓reduceIte, zn1, zn2, zn3, zn4, reduceCtorEq] <;> rfl); (fail_if_success with_reducible refine pickA ?_)) | (with_reducible apply SC.ops)))
  exact retQ_ret Tryz.results16 (by simp (disch := omega) only [go_sem, ↓reduceIte, zn1, zn3, zn4] <;> rfl) (by simp (disch := omega) only [go_sem, ↓reduceIte] <;> rfl) rfl
theorem flat_bound {α : Type} (f : α → List Int) (m : Nat) : ∀ (l : List α), (∀ x ∈ l, (f x).length ≤ m) → (l.flatMap f).length ≤ l.length * m
  | [], _ => by simp
  | x :: l, h => by
    rw [List.flatMap_cons, zl1, List.length_cons, Nat.add_mul, zna]
    have h1 := h x (by simp)
    have h2 := flat_bound f m l fun y hy => h y (by simp [hy])
    omega
theorem int_len {z : Int} {k : Nat} (h : (limbsOf z.natAbs).length ≤ k) (hk : k ≤ 1000000) : (int_ z).length ≤ 10 + 4 * k := by
  have hh : hdI z = 2 * (limbsOf z.natAbs).length + (if z < 0 then 1 else 0) := rfl
  have := num_10 (n := hdI z) (by rw [hh]; split <;> omega)
  unfold int_
  rw [zl1, lbs_len]
  omega
theorem sgn_limbs {l : List Nat} (hl : limbs l) {k : Nat} (neg : Bool) : (limbsOf (sgn neg (val (l.take k))).natAbs).length ≤ k := by
  rw [sgn_natAbs]
  refine canon_len (limbsOf_canon _) ?_
  rw [limbsOf_val]
  have h := val_lt (limbs_take hl k)
  refine Nat.lt_of_lt_of_le h (Nat.pow_le_pow_right (by omega) (by simp; omega))
theorem u8_num : ∀ n, U8s (num n) := by
  intro n
  induction n using Nat.strongRecOn with
  | _ n ih =>
    by_cases h : n < 128
    · rw [num_lt h]
      intro x hx
      rw [List.mem_singleton.1 hx]; omega
    · rw [num_ge h]
      intro x hx
      rcases List.mem_cons.1 hx with rfl | hx
      · omega
      · exact ih _ (by omega) x hx
theorem U8s.app {a b : List Int} (h1 : U8s a) (h2 : U8s b) : U8s (a ++ b) := fun x hx => (List.mem_append.1 hx).elim (h1 x) (h2 x)
theorem U8s.flat {α : Type} {f : α → List Int} (l : List α) (h : ∀ x ∈ l, U8s (f x)) : U8s (l.flatMap f) := fun x hx => by
  obtain ⟨y, hy, hxy⟩ := List.mem_flatMap.1 hx
  exact h y hy x hxy
theorem u8_b4 (n : Nat) : U8s (b4 n) := by
  intro x hx
  unfold b4 at hx
  simp only [List.mem_cons, List.not_mem_nil, or_false] at hx
  rcases hx with rfl | rfl | rfl | rfl <;> omega
theorem u8_int (z : Int) : U8s (int_ z) := (u8_num _).app (U8s.flat _ fun n _ => u8_b4 n)
theorem u8_lst {α : Type} {f : α → List Int} (l : List α) (h : ∀ x, U8s (f x)) : U8s (lst f l) := (u8_num _).app (U8s.flat l fun x _ => h x)
theorem u8_flg (x : Bool) : U8s (flg x) := by
  intro y hy
  rw [List.mem_singleton.1 hy]
  cases x <;> decide
theorem U8s.take {a : List Int} (h : U8s a) (n : Nat) : U8s (a.take n) := fun x hx => h x (List.mem_of_mem_take hx)
end Go.Proofs.YtphilljhfdlfdaaGreat
