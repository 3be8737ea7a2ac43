/- Texts joined: Zi Zj Zk Zl Zm Zn. -/
import Derived.Test.YtagidfadibedoaaDoorVd
import Derived.Test.YtagidfadibedoaaDoorVe
import Derived.Test.YtagidfadibedoaaDoorVg
import Derived.Test.YtagidfadibedoaaDoorVh
set_option linter.all false
/- integer.canonical. -/
namespace Go.Proofs.YtagidfadibedoaaDoor
open Go.RowKit
def digB (l : List Nat) : Bool := l.all fun x => decide (48 ≤ x) && decide (x ≤ 57)
def canB (l : List Nat) (neg : Bool) : Bool := digB l && !(l == []) && (!(l.head? == some 48) || (l == [48] && !neg))
theorem can_loop (l : List Nat) (neg : Bool) (hl : ∀ x ∈ l, x < 256) (hn : l.length < 1000000) : Spec Tryd.prog 30 [.sc (.string (st l)), .sc (.bool neg)] (.sc (.bool (canB l neg))) := by
  have e1 := st_size l
  refine Spec.run Tryd.func30 rfl Tryd.ntmps30 (by simp) (by simp (disch := omega) only [go_sem, ↓reduceIte, Nat.reduceEqDiff, Nat.reduceLT, Nat.reduceLeDiff, Nat.reduceAdd, Nat.reduceMul, Nat.reduceSub, reduceCtorEq, Nat.reduceBEq, Int.reduceToNat, Int.reducePow, if_pos, if_neg]; rfl) fun B hB => ?_
  (repeat (first | refine DO.nil (by kernel_rfl) ?_ | (with_reducible refine oz (by constructor <;> decide) ?_) | ((first | apply SO.call | apply DO.call); (iterate 3 (focus (simp (disch := omega) only [go_sem, ↓reduceIte, Nat.reduceEqDiff, Nat.reduceLT, Nat.reduceLeDiff, Nat.reduceAdd, Nat.reduceMul, Nat.reduceSub, reduceCtorEq, Nat.reduceBEq, Int.reduceToNat, Int.reducePow, if_pos, if_neg, e1] <;> rfl))); (first | apply SCall.ofX | apply DCall.ofX); (focus (first | assumption)); (focus (simp (disch := omega) only [go_sem, ↓reduceIte, Nat.reduceEqDiff, Nat.reduceLT, Nat.reduceLeDiff, Nat.reduceAdd, Nat.reduceMul, Nat.reduceSub, reduceCtorEq, Nat.reduceBEq, Int.reduceToNat, Int.reducePow, if_pos, if_neg, e1] <;> rfl))) | ((with_reducible first | apply SC.condB | apply SC.region | apply SO.run | apply DO.run); (focus (simp (disch := omega) only [go_sem, ↓reduceIte, Nat.reduceEqDiff, Nat.reduceLT, Nat.reduceLeDiff, Nat.reduceAdd, Nat.reduceMul, Nat.reduceSub, reduceCtorEq, Nat.reduceBEq, Int.reduceToNat, Int.reducePow, if_pos, if_neg, e1] <;> rfl)); (first | refine pickT ?_ | refine pickF ?_ | fail_if_success with_reducible refine pickA ?_)) | ((with_reducible refine SC.draw Tab.mixed ?_ ?_); (focus (first | rfl | simp (disch := omega) only [go_sem, ↓reduceIte, Nat.reduceEqDiff, Nat.reduceLT, Nat.reduceLeDiff, Nat.reduceAdd, Nat.reduceMul, Nat.reduceSub, reduceCtorEq, Nat.reduceBEq, Int.reduceToNat, Int.reducePow, if_pos, if_neg, e1]))) | (with_reducible apply SC.ops)))
  refine SC.loop (fun i : Nat => ⟨[(8, .sc (.int .i64 i)), (7, .sc (.int .i64 l.length)), (4, .sc (.bool false)), (0, .sc (.string (st l))), (1, .sc (.bool neg))], [], 0, 35⟩) (fun i => i ≤ l.length ∧ digB (l.take i) = true) (fun i => l.length - i) 0 ?_ ?_ ?_
  · (refine Le.of [] hB (by first | exact ⟨Nat.zero_le _, fun _ _ => Nat.zero_le _⟩ | (constructor <;> (try simp) <;> (try omega))) ?_ ?_ <;> (repeat' (first | exact leSl_nil | exact leHp_nil | refine leSl_cons (by simp (disch := omega) only [go_sem, ↓reduceIte, Nat.reduceEqDiff, Nat.reduceLT, Nat.reduceLeDiff, Nat.reduceAdd, Nat.reduceMul, Nat.reduceSub, reduceCtorEq, Nat.reduceBEq, Int.reduceToNat, Int.reducePow, if_pos, if_neg]; rfl) ?_ ?_ | refine leHp_cons (by simp (disch := omega) only [go_sem, ↓reduceIte, Nat.reduceEqDiff, Nat.reduceLT, Nat.reduceLeDiff, Nat.reduceAdd, Nat.reduceMul, Nat.reduceSub, reduceCtorEq, Nat.reduceBEq, Int.reduceToNat, Int.reducePow, if_pos, if_neg]; rfl) ?_ ?_ | exact VLe.junk _ | exact VLe.refl rfl | exact VLe.nil_sl _ _ _ | exact VLe.int (by first | rfl | omega | (dsimp only; omega)) | exact VLe.bool rfl | exact VLe.sl rfl (by first | rfl | omega | (dsimp only; omega) | (simp; done)) | exact VLe.cap rfl (by first | rfl | omega | (dsimp only; omega) | (simp; done)) | exact VLe.im rfl rfl | exact HLe.new rfl | exact HLe.same rfl (LLe.refl rfl) | refine HLe.same rfl ?_ | exact LLe.nil _ | exact LLe.refl rfl | refine LLe.cons ?_ ?_)))
  · exact ⟨Nat.zero_le _, rfl⟩
  · rintro i ⟨hi, hd⟩ K hK
    by_cases hc : i < l.length
    · have q1 := decide_eq_true (p := (i : Int) < (l.length : Int)) (by omega)
      have g1 := strIx_st hl hc
      generalize hx : l.getD i 0 = x at *
      have bad : ¬ (48 ≤ x ∧ x ≤ 57) → canB l neg = false := by
        intro h
        have : digB l = false := by
          unfold digB
          rw [List.all_eq_false]
          refine ⟨x, ?_, by simp; omega⟩
          rw [← hx, List.getD_eq_getElem?_getD, List.getElem?_eq_getElem hc]; exact List.getElem_mem hc
        unfold canB; rw [this]; rfl
      by_cases h1 : x < 48
      · have q2 := decide_eq_true (p := (x : Int) < 48) (by omega)
        rw [bad (by omega)]
        (repeat (first | refine DO.nil (by kernel_rfl) ?_ | (with_reducible refine oz (by constructor <;> decide) ?_) | ((first | apply SO.call | apply DO.call); (iterate 3 (focus (simp (disch := omega) only [go_sem, ↓reduceIte, Nat.reduceEqDiff, Nat.reduceLT, Nat.reduceLeDiff, Nat.reduceAdd, Nat.reduceMul, Nat.reduceSub, reduceCtorEq, Nat.reduceBEq, Int.reduceToNat, Int.reducePow, if_pos, if_neg, q1, g1, e1, q2] <;> rfl))); (first | apply SCall.ofX | apply DCall.ofX); (focus (first | assumption)); (focus (simp (disch := omega) only [go_sem, ↓reduceIte, Nat.reduceEqDiff, Nat.reduceLT, Nat.reduceLeDiff, Nat.reduceAdd, Nat.reduceMul, Nat.reduceSub, reduceCtorEq, Nat.reduceBEq, Int.reduceToNat, Int.reducePow, if_pos, if_neg, q1, g1, e1, q2] <;> rfl))) | ((with_reducible first | apply SC.condB | apply SC.region | apply SO.run | apply DO.run); (focus (simp (disch := omega) only [go_sem, ↓reduceIte, Nat.reduceEqDiff, Nat.reduceLT, Nat.reduceLeDiff, Nat.reduceAdd, Nat.reduceMul, Nat.reduceSub, reduceCtorEq, Nat.reduceBEq, Int.reduceToNat, Int.reducePow, if_pos, if_neg, q1, g1, e1, q2] <;> rfl)); (first | refine pickT ?_ | refine pickF ?_ | fail_if_success with_reducible refine pickA ?_)) | ((with_reducible refine SC.draw Tab.mixed ?_ ?_); (focus (first | rfl | simp (disch := omega) only [go_sem, ↓reduceIte, Nat.reduceEqDiff, Nat.reduceLT, Nat.reduceLeDiff, Nat.reduceAdd, Nat.reduceMul, Nat.reduceSub, reduceCtorEq, Nat.reduceBEq, Int.reduceToNat, Int.reducePow, if_pos, if_neg, q1, g1, e1, q2]))) | (with_reducible apply SC.ops)))
        exact retQ_ret Tryd.results30 (by simp (disch := omega) only [go_sem, ↓reduceIte, Nat.reduceEqDiff, Nat.reduceLT, Nat.reduceLeDiff, Nat.reduceAdd, Nat.reduceMul, Nat.reduceSub, reduceCtorEq, Nat.reduceBEq, Int.reduceToNat, Int.reducePow, if_pos, if_neg]; rfl) (by simp (disch := omega) only [go_sem, ↓reduceIte, Nat.reduceEqDiff, Nat.reduceLT, Nat.reduceLeDiff, Nat.reduceAdd, Nat.reduceMul, Nat.reduceSub, reduceCtorEq, Nat.reduceBEq, Int.reduceToNat, Int.reducePow, if_pos, if_neg]; rfl) rfl
      · have q2 := decide_eq_false (p := (x : Int) < 48) (by omega)
        by_cases h2 : 57 < x
        · have q3 := decide_eq_true (p := (57 : Int) < (x : Int)) (by omega)
          rw [bad (by omega)]
          (repeat (first | refine DO.nil (by kernel_rfl) ?_ | (with_reducible refine oz (by constructor <;> decide) ?_) | ((first | apply SO.call | apply DO.call); (iterate 3 (focus (simp (disch := omega) only [go_sem, ↓reduceIte, Nat.reduceEqDiff, Nat.reduceLT, Nat.reduceLeDiff, Nat.reduceAdd, Nat.reduceMul, Nat.reduceSub, reduceCtorEq, Nat.reduceBEq, Int.reduceToNat, Int.reducePow, if_pos, if_neg, q1, g1, e1, q2, q3] <;> rfl))); (first | apply SCall.ofX | apply DCall.ofX); (focus (first | assumption)); (focus (simp (disch := omega) only [go_sem, ↓reduceIte, Nat.reduceEqDiff, Nat.reduceLT, Nat.reduceLeDiff, Nat.reduceAdd, Nat.reduceMul, Nat.reduceSub, reduceCtorEq, Nat.reduceBEq, Int.reduceToNat, Int.reducePow, if_pos, if_neg, q1, g1, e1, q2, q3] <;> rfl))) | ((with_reducible first | apply SC.condB | apply SC.region | apply SO.run | apply DO.run); (focus (simp (disch := omega) only [go_sem, ↓reduceIte, Nat.reduceEqDiff, Nat.reduceLT, Nat.reduceLeDiff, Nat.reduceAdd, Nat.reduceMul, Nat.reduceSub, reduceCtorEq, Nat.reduceBEq, Int.reduceToNat, Int.reducePow, if_pos, if_neg, q1, g1, e1, q2, q3] <;> rfl)); (first | refine pickT ?_ | refine pickF ?_ | fail_if_success with_reducible refine pickA ?_)) | ((with_reducible refine SC.draw Tab.mixed ?_ ?_); (focus (first | rfl | simp (disch := omega) only [go_sem, ↓reduceIte, Nat.reduceEqDiff, Nat.reduceLT, Nat.reduceLeDiff, Nat.reduceAdd, Nat.reduceMul, Nat.reduceSub, reduceCtorEq, Nat.reduceBEq, Int.reduceToNat, Int.reducePow, if_pos, if_neg, q1, g1, e1, q2, q3]))) | (with_reducible apply SC.ops)))
          exact retQ_ret Tryd.results30 (by simp (disch := omega) only [go_sem, ↓reduceIte, Nat.reduceEqDiff, Nat.reduceLT, Nat.reduceLeDiff, Nat.reduceAdd, Nat.reduceMul, Nat.reduceSub, reduceCtorEq, Nat.reduceBEq, Int.reduceToNat, Int.reducePow, if_pos, if_neg]; rfl) (by simp (disch := omega) only [go_sem, ↓reduceIte, Nat.reduceEqDiff, Nat.reduceLT, Nat.reduceLeDiff, Nat.reduceAdd, Nat.reduceMul, Nat.reduceSub, reduceCtorEq, Nat.reduceBEq, Int.reduceToNat, Int.reducePow, if_pos, if_neg]; rfl) rfl
        · have q3 := decide_eq_false (p := (57 : Int) < (x : Int)) (by omega)
          (repeat (first | refine DO.nil (by kernel_rfl) ?_ | (with_reducible refine oz (by constructor <;> decide) ?_) | ((first | apply SO.call | apply DO.call); (iterate 3 (focus (simp (disch := omega) only [go_sem, ↓reduceIte, Nat.reduceEqDiff, Nat.reduceLT, Nat.reduceLeDiff, Nat.reduceAdd, Nat.reduceMul, Nat.reduceSub, reduceCtorEq, Nat.reduceBEq, Int.reduceToNat, Int.reducePow, if_pos, if_neg, q1, g1, e1, q2, q3] <;> rfl))); (first | apply SCall.ofX | apply DCall.ofX); (focus (first | assumption)); (focus (simp (disch := omega) only [go_sem, ↓reduceIte, Nat.reduceEqDiff, Nat.reduceLT, Nat.reduceLeDiff, Nat.reduceAdd, Nat.reduceMul, Nat.reduceSub, reduceCtorEq, Nat.reduceBEq, Int.reduceToNat, Int.reducePow, if_pos, if_neg, q1, g1, e1, q2, q3] <;> rfl))) | ((with_reducible first | apply SC.condB | apply SC.region | apply SO.run | apply DO.run); (focus (simp (disch := omega) only [go_sem, ↓reduceIte, Nat.reduceEqDiff, Nat.reduceLT, Nat.reduceLeDiff, Nat.reduceAdd, Nat.reduceMul, Nat.reduceSub, reduceCtorEq, Nat.reduceBEq, Int.reduceToNat, Int.reducePow, if_pos, if_neg, q1, g1, e1, q2, q3] <;> rfl)); (first | refine pickT ?_ | refine pickF ?_ | fail_if_success with_reducible refine pickA ?_)) | ((with_reducible refine SC.draw Tab.mixed ?_ ?_); (focus (first | rfl | simp (disch := omega) only [go_sem, ↓reduceIte, Nat.reduceEqDiff, Nat.reduceLT, Nat.reduceLeDiff, Nat.reduceAdd, Nat.reduceMul, Nat.reduceSub, reduceCtorEq, Nat.reduceBEq, Int.reduceToNat, Int.reducePow, if_pos, if_neg, q1, g1, e1, q2, q3]))) | (with_reducible apply SC.ops)))
          refine hK _ (i + 1) ?_ ⟨by omega, ?_⟩ (by omega)
          · (refine Le.of [] hB (by first | exact ⟨Nat.zero_le _, fun _ _ => Nat.zero_le _⟩ | (constructor <;> (try simp) <;> (try omega))) ?_ ?_ <;> (repeat' (first | exact leSl_nil | exact leHp_nil | refine leSl_cons (by simp (disch := omega) only [go_sem, ↓reduceIte, Nat.reduceEqDiff, Nat.reduceLT, Nat.reduceLeDiff, Nat.reduceAdd, Nat.reduceMul, Nat.reduceSub, reduceCtorEq, Nat.reduceBEq, Int.reduceToNat, Int.reducePow, if_pos, if_neg]; rfl) ?_ ?_ | refine leHp_cons (by simp (disch := omega) only [go_sem, ↓reduceIte, Nat.reduceEqDiff, Nat.reduceLT, Nat.reduceLeDiff, Nat.reduceAdd, Nat.reduceMul, Nat.reduceSub, reduceCtorEq, Nat.reduceBEq, Int.reduceToNat, Int.reducePow, if_pos, if_neg]; rfl) ?_ ?_ | exact VLe.junk _ | exact VLe.refl rfl | exact VLe.nil_sl _ _ _ | exact VLe.int (by first | rfl | omega | (dsimp only; omega)) | exact VLe.bool rfl | exact VLe.sl rfl (by first | rfl | omega | (dsimp only; omega) | (simp; done)) | exact VLe.cap rfl (by first | rfl | omega | (dsimp only; omega) | (simp; done)) | exact VLe.im rfl rfl | exact HLe.new rfl | exact HLe.same rfl (LLe.refl rfl) | refine HLe.same rfl ?_ | exact LLe.nil _ | exact LLe.refl rfl | refine LLe.cons ?_ ?_)))
          · rw [List.take_succ_eq_append_getElem hc, digB, List.all_append, ← digB, hd]
            have : l[i] = x := by rw [← hx, List.getD_eq_getElem?_getD, List.getElem?_eq_getElem hc]; rfl
            rw [this]; simp; omega
    · have q1 := decide_eq_false (p := (i : Int) < (l.length : Int)) (by omega)
      rw [List.take_of_length_le (by omega)] at hd
      have s0 : ∀ c : ByteArray, c = ⟨#[]⟩ → ((st l).toList == c.toList) = (l == []) := by
        rintro c rfl; rw [st_toList, show (ByteArray.mk #[]).toList = ([] : List UInt8) by rw [toList_eq]]; cases l <;> rfl
      have s48 : ((st l).toList == (ByteArray.mk #[48]).toList) = (l == [48]) := by
        rw [st_toList, toList_eq]
        show (l.map UInt8.ofNat == [48]) = _
        match l, hl with
        | [], _ => rfl
        | [x], hl =>
          have : (UInt8.ofNat x == 48) = (x == 48) := by
            by_cases hx : x = 48
            · subst hx; rfl
            · have : UInt8.ofNat x ≠ UInt8.ofNat 48 := fun h => hx (by have := congrArg UInt8.toNat h; rwa [UInt8.toNat_ofNat_of_lt' (hl x (by simp)), UInt8.toNat_ofNat_of_lt' (by decide)] at this)
              rw [show (x == 48) = false from beq_eq_false_iff_ne.2 hx]; exact beq_eq_false_iff_ne.2 this
          show ((UInt8.ofNat x == 48) && true) = ((x == 48) && true)
          rw [this]
        | x :: y :: m, _ =>
          show ((UInt8.ofNat x == 48) && false) = ((x == 48) && false)
          rw [Bool.and_false, Bool.and_false]
      have s0' := s0 _ rfl
      cases l with
      | nil =>
        have q1' : decide ((i : Int) < ((0 : Nat) : Int)) = false := q1
        have q1'' : decide ((i : Int) < 0) = false := q1
        have q1''' : decide ((i : Int) < (([] : List Nat).length : Int)) = false := q1
        have s0'' : ((st []).toList == (ByteArray.mk #[]).toList) = true := s0'
        rw [show canB [] neg = false from rfl]
        (repeat (first | refine DO.nil (by kernel_rfl) ?_ | (with_reducible refine oz (by constructor <;> decide) ?_) | ((first | apply SO.call | apply DO.call); (iterate 3 (focus (simp (disch := omega) only [go_sem, ↓reduceIte, Nat.reduceEqDiff, Nat.reduceLT, Nat.reduceLeDiff, Nat.reduceAdd, Nat.reduceMul, Nat.reduceSub, reduceCtorEq, Nat.reduceBEq, Int.reduceToNat, Int.reducePow, if_pos, if_neg, q1', q1'', q1''', s0''] <;> rfl))); (first | apply SCall.ofX | apply DCall.ofX); (focus (first | assumption)); (focus (simp (disch := omega) only [go_sem, ↓reduceIte, Nat.reduceEqDiff, Nat.reduceLT, Nat.reduceLeDiff, Nat.reduceAdd, Nat.reduceMul, Nat.reduceSub, reduceCtorEq, Nat.reduceBEq, Int.reduceToNat, Int.reducePow, if_pos, if_neg, q1', q1'', q1''', s0''] <;> rfl))) | ((with_reducible first | apply SC.condB | apply SC.region | apply SO.run | apply DO.run); (focus (simp (disch := omega) only [go_sem, ↓reduceIte, Nat.reduceEqDiff, Nat.reduceLT, Nat.reduceLeDiff, Nat.reduceAdd, Nat.reduceMul, Nat.reduceSub, reduceCtorEq, Nat.reduceBEq, Int.reduceToNat, Int.reducePow, if_pos, if_neg, q1', q1'', q1''', s0''] <;> rfl)); (first | refine pickT ?_ | refine pickF ?_ | fail_if_success with_reducible refine pickA ?_)) | ((with_reducible refine SC.draw Tab.mixed ?_ ?_); (focus (first | rfl | simp (disch := omega) only [go_sem, ↓reduceIte, Nat.reduceEqDiff, Nat.reduceLT, Nat.reduceLeDiff, Nat.reduceAdd, Nat.reduceMul, Nat.reduceSub, reduceCtorEq, Nat.reduceBEq, Int.reduceToNat, Int.reducePow, if_pos, if_neg, q1', q1'', q1''', s0'']))) | (with_reducible apply SC.ops)))
        exact retQ_ret Tryd.results30 (by simp (disch := omega) only [go_sem, ↓reduceIte, Nat.reduceEqDiff, Nat.reduceLT, Nat.reduceLeDiff, Nat.reduceAdd, Nat.reduceMul, Nat.reduceSub, reduceCtorEq, Nat.reduceBEq, Int.reduceToNat, Int.reducePow, if_pos, if_neg]; rfl) (by simp (disch := omega) only [go_sem, ↓reduceIte, Nat.reduceEqDiff, Nat.reduceLT, Nat.reduceLeDiff, Nat.reduceAdd, Nat.reduceMul, Nat.reduceSub, reduceCtorEq, Nat.reduceBEq, Int.reduceToNat, Int.reducePow, if_pos, if_neg]; rfl) rfl
      | cons x m =>
        have g1 : strIx (st (x :: m)) 0 = some (.sc (.int .u8 (x : Nat))) := strIx_st hl (i := 0) (by simp)
        have q1' : decide ((i : Int) < ((m.length + 1 : Nat) : Int)) = false := q1
        have s0'' : ((st (x :: m)).toList == (ByteArray.mk #[]).toList) = false := s0'
        by_cases hx : x = 48
        · have q4 : ((x : Int) == 48) = true := by subst hx; rfl
          have hc : canB (x :: m) neg = ((x :: m) == [48] && !neg) := by subst hx; unfold canB; rw [hd]; simp
          cases hm : ((x :: m) == [48])
          · rw [hm] at s48 hc
            rw [hc, Bool.false_and]
            (repeat (first | refine DO.nil (by kernel_rfl) ?_ | (with_reducible refine oz (by constructor <;> decide) ?_) | ((first | apply SO.call | apply DO.call); (iterate 3 (focus (simp (disch := omega) only [go_sem, ↓reduceIte, Nat.reduceEqDiff, Nat.reduceLT, Nat.reduceLeDiff, Nat.reduceAdd, Nat.reduceMul, Nat.reduceSub, reduceCtorEq, Nat.reduceBEq, Int.reduceToNat, Int.reducePow, if_pos, if_neg, q1', s0'', g1, q4, s48] <;> rfl))); (first | apply SCall.ofX | apply DCall.ofX); (focus (first | assumption)); (focus (simp (disch := omega) only [go_sem, ↓reduceIte, Nat.reduceEqDiff, Nat.reduceLT, Nat.reduceLeDiff, Nat.reduceAdd, Nat.reduceMul, Nat.reduceSub, reduceCtorEq, Nat.reduceBEq, Int.reduceToNat, Int.reducePow, if_pos, if_neg, q1', s0'', g1, q4, s48] <;> rfl))) | ((with_reducible first | apply SC.condB | apply SC.region | apply SO.run | apply DO.run); (focus (simp (disch := omega) only [go_sem, ↓reduceIte, Nat.reduceEqDiff, Nat.reduceLT, Nat.reduceLeDiff, Nat.reduceAdd, Nat.reduceMul, Nat.reduceSub, reduceCtorEq, Nat.reduceBEq, Int.reduceToNat, Int.reducePow, if_pos, if_neg, q1', s0'', g1, q4, s48] <;> rfl)); (first | refine pickT ?_ | refine pickF ?_ | fail_if_success with_reducible refine pickA ?_)) | ((with_reducible refine SC.draw Tab.mixed ?_ ?_); (focus (first | rfl | simp (disch := omega) only [go_sem, ↓reduceIte, Nat.reduceEqDiff, Nat.reduceLT, Nat.reduceLeDiff, Nat.reduceAdd, Nat.reduceMul, Nat.reduceSub, reduceCtorEq, Nat.reduceBEq, Int.reduceToNat, Int.reducePow, if_pos, if_neg, q1', s0'', g1, q4, s48]))) | (with_reducible apply SC.ops)))
            exact retQ_ret Tryd.results30 (by simp (disch := omega) only [go_sem, ↓reduceIte, Nat.reduceEqDiff, Nat.reduceLT, Nat.reduceLeDiff, Nat.reduceAdd, Nat.reduceMul, Nat.reduceSub, reduceCtorEq, Nat.reduceBEq, Int.reduceToNat, Int.reducePow, if_pos, if_neg]; rfl) (by simp (disch := omega) only [go_sem, ↓reduceIte, Nat.reduceEqDiff, Nat.reduceLT, Nat.reduceLeDiff, Nat.reduceAdd, Nat.reduceMul, Nat.reduceSub, reduceCtorEq, Nat.reduceBEq, Int.reduceToNat, Int.reducePow, if_pos, if_neg]; rfl) rfl
          · rw [hm] at s48 hc
            rw [hc, Bool.true_and]
            (repeat (first | refine DO.nil (by kernel_rfl) ?_ | (with_reducible refine oz (by constructor <;> decide) ?_) | ((first | apply SO.call | apply DO.call); (iterate 3 (focus (simp (disch := omega) only [go_sem, ↓reduceIte, Nat.reduceEqDiff, Nat.reduceLT, Nat.reduceLeDiff, Nat.reduceAdd, Nat.reduceMul, Nat.reduceSub, reduceCtorEq, Nat.reduceBEq, Int.reduceToNat, Int.reducePow, if_pos, if_neg, q1', s0'', g1, q4, s48] <;> rfl))); (first | apply SCall.ofX | apply DCall.ofX); (focus (first | assumption)); (focus (simp (disch := omega) only [go_sem, ↓reduceIte, Nat.reduceEqDiff, Nat.reduceLT, Nat.reduceLeDiff, Nat.reduceAdd, Nat.reduceMul, Nat.reduceSub, reduceCtorEq, Nat.reduceBEq, Int.reduceToNat, Int.reducePow, if_pos, if_neg, q1', s0'', g1, q4, s48] <;> rfl))) | ((with_reducible first | apply SC.condB | apply SC.region | apply SO.run | apply DO.run); (focus (simp (disch := omega) only [go_sem, ↓reduceIte, Nat.reduceEqDiff, Nat.reduceLT, Nat.reduceLeDiff, Nat.reduceAdd, Nat.reduceMul, Nat.reduceSub, reduceCtorEq, Nat.reduceBEq, Int.reduceToNat, Int.reducePow, if_pos, if_neg, q1', s0'', g1, q4, s48] <;> rfl)); (first | refine pickT ?_ | refine pickF ?_ | fail_if_success with_reducible refine pickA ?_)) | ((with_reducible refine SC.draw Tab.mixed ?_ ?_); (focus (first | rfl | simp (disch := omega) only [go_sem, ↓reduceIte, Nat.reduceEqDiff, Nat.reduceLT, Nat.reduceLeDiff, Nat.reduceAdd, Nat.reduceMul, Nat.reduceSub, reduceCtorEq, Nat.reduceBEq, Int.reduceToNat, Int.reducePow, if_pos, if_neg, q1', s0'', g1, q4, s48]))) | (with_reducible apply SC.ops)))
            exact retQ_ret Tryd.results30 (by simp (disch := omega) only [go_sem, ↓reduceIte, Nat.reduceEqDiff, Nat.reduceLT, Nat.reduceLeDiff, Nat.reduceAdd, Nat.reduceMul, Nat.reduceSub, reduceCtorEq, Nat.reduceBEq, Int.reduceToNat, Int.reducePow, if_pos, if_neg]; rfl) (by simp (disch := omega) only [go_sem, ↓reduceIte, Nat.reduceEqDiff, Nat.reduceLT, Nat.reduceLeDiff, Nat.reduceAdd, Nat.reduceMul, Nat.reduceSub, reduceCtorEq, Nat.reduceBEq, Int.reduceToNat, Int.reducePow, if_pos, if_neg]; rfl) rfl
        · have q4 : ((x : Int) == 48) = false := by rw [beq_eq_false_iff_ne]; omega
          have hc : canB (x :: m) neg = true := by unfold canB; rw [hd]; simp [hx]
          rw [hc]
          (repeat (first | refine DO.nil (by kernel_rfl) ?_ | (with_reducible refine oz (by constructor <;> decide) ?_) | ((first | apply SO.call | apply DO.call); (iterate 3 (focus (simp (disch := omega) only [go_sem, ↓reduceIte, Nat.reduceEqDiff, Nat.reduceLT, Nat.reduceLeDiff, Nat.reduceAdd, Nat.reduceMul, Nat.reduceSub, reduceCtorEq, Nat.reduceBEq, Int.reduceToNat, Int.reducePow, if_pos, if_neg, q1', s0'', g1, q4] <;> rfl))); (first | apply SCall.ofX | apply DCall.ofX); (focus (first | assumption)); (focus (simp (disch := omega) only [go_sem, ↓reduceIte, Nat.reduceEqDiff, Nat.reduceLT, Nat.reduceLeDiff, Nat.reduceAdd, Nat.reduceMul, Nat.reduceSub, reduceCtorEq, Nat.reduceBEq, Int.reduceToNat, Int.reducePow, if_pos, if_neg, q1', s0'', g1, q4] <;> rfl))) | ((with_reducible first | apply SC.condB | apply SC.region | apply SO.run | apply DO.run); (focus (simp (disch := omega) only [go_sem, ↓reduceIte, Nat.reduceEqDiff, Nat.reduceLT, Nat.reduceLeDiff, Nat.reduceAdd, Nat.reduceMul, Nat.reduceSub, reduceCtorEq, Nat.reduceBEq, Int.reduceToNat, Int.reducePow, if_pos, if_neg, q1', s0'', g1, q4] <;> rfl)); (first | refine pickT ?_ | refine pickF ?_ | fail_if_success with_reducible refine pickA ?_)) | ((with_reducible refine SC.draw Tab.mixed ?_ ?_); (focus (first | rfl | simp (disch := omega) only [go_sem, ↓reduceIte, Nat.reduceEqDiff, Nat.reduceLT, Nat.reduceLeDiff, Nat.reduceAdd, Nat.reduceMul, Nat.reduceSub, reduceCtorEq, Nat.reduceBEq, Int.reduceToNat, Int.reducePow, if_pos, if_neg, q1', s0'', g1, q4]))) | (with_reducible apply SC.ops)))
          exact retQ_ret Tryd.results30 (by simp (disch := omega) only [go_sem, ↓reduceIte, Nat.reduceEqDiff, Nat.reduceLT, Nat.reduceLeDiff, Nat.reduceAdd, Nat.reduceMul, Nat.reduceSub, reduceCtorEq, Nat.reduceBEq, Int.reduceToNat, Int.reducePow, if_pos, if_neg]; rfl) (by simp (disch := omega) only [go_sem, ↓reduceIte, Nat.reduceEqDiff, Nat.reduceLT, Nat.reduceLeDiff, Nat.reduceAdd, Nat.reduceMul, Nat.reduceSub, reduceCtorEq, Nat.reduceBEq, Int.reduceToNat, Int.reducePow, if_pos, if_neg]; rfl) rfl
end Go.Proofs.YtagidfadibedoaaDoor

/- integer.Text. -/
namespace Go.Proofs.YtagidfadibedoaaDoor
open Go.RowKit
section
variable {P : Program} {hp : List (Nat × Blk)}
def cpSG (id off dlen z z' : Nat) (s : ByteArray) : Option Blk → Option (V × Eff)
  | some k => if z' = 1 ∧ z = 1 ∧ k.fz = false ∧ 0 < s.size ∧ s.size ≤ dlen ∧ off + dlen ≤ k.cs.length then some (.sc (.int .i64 s.size), .set id ⟨k.ty, setAll k.cs off ((bytesT s).map .sc), false⟩) else none
  | none => none
@[go_sem] theorem cpSG_some (id off dlen z z' ty : Nat) (cs : List V) (s : ByteArray) : cpSG id off dlen z z' s (some ⟨ty, cs, false⟩) = if z' = 1 ∧ z = 1 ∧ 0 < s.size ∧ s.size ≤ dlen ∧ off + dlen ≤ cs.length then some (.sc (.int .i64 s.size), .set id ⟨ty, setAll cs off ((bytesT s).map .sc), false⟩) else none := by
  simp [cpSG]
@[go_sem] theorem exCopyA_str (t id off dlen z : Nat) (c : Option Nat) (s : ByteArray) : exCopyA P hp t (.sl id off dlen z c) (.sc (.string s)) = (slOf P t).bind fun (_, z') => cpSG id off dlen z z' s (hget hp id) := by
  show exCopyS P hp t (.sl id off dlen z c) s = _
  unfold exCopyS
  cases slOf P t with
  | none => rfl
  | some p =>
    obtain ⟨e, z'⟩ := p
    simp only [Option.bind_some]
    cases hget hp id with
    | none => rfl
    | some k => rfl
end
theorem bytesT_st {l : List Nat} (h : ∀ x ∈ l, x < 256) : (bytesT (st l)).map V.sc = bN l := by
  unfold bytesT bN st
  simp only [List.map_map]
  apply List.map_congr_left
  intro x hx
  simp only [Function.comp, UInt8.toNat_ofNat_of_lt' (h x hx)]
theorem strB_st (a b : List Nat) (h : a.length + b.length < 1000000) : strB .add (st a) (st b) = some (.string (st (a ++ b))) := by
  have e : st a ++ st b = st (a ++ b) := by apply ByteArray.ext; simp [st, ByteArray.data_append]
  unfold strB
  simp only
  rw [if_neg (by rw [st_size, st_size]; omega), e]
theorem bN_app (a b : List Nat) : bN (a ++ b) = bN a ++ bN b := List.map_append
@[simp] theorem bN_len (a : List Nat) : (bN a).length = a.length := List.length_map _
theorem digs_lt {l : List Nat} (h : Digs l) : ∀ x ∈ l, x < 256 := fun x hx => by have := h x hx; omega
theorem digs_app {a b : List Nat} (ha : Digs a) (hb : Digs b) : Digs (a ++ b) := fun x hx => (List.mem_append.1 hx).elim (ha x) (hb x)
theorem digs_rep (n : Nat) : Digs (List.replicate n 48) := fun x hx => by rw [(List.mem_replicate.1 hx).2]; omega
def buf (N : Nat) (D : List Nat) : List V := List.replicate (N - D.length) (.sc (.int .u8 0)) ++ bN D
theorem buf_len {N : Nat} {D : List Nat} (h : D.length ≤ N) : (buf N D).length = N := by simp [buf]; omega
theorem buf_put {N : Nat} {D p : List Nat} (h : p.length + D.length ≤ N) : setAll (buf N D) (N - (p ++ D).length) (bN p) = buf N (p ++ D) := by
  have e : buf N D = List.replicate (N - (p ++ D).length) (.sc (.int .u8 0)) ++ (List.replicate p.length (.sc (.int .u8 0)) ++ bN D) := by
    unfold buf
    rw [← List.append_assoc, List.replicate_append_replicate, List.length_append, show N - (p.length + D.length) + p.length = N - D.length by omega]
  have := setAll_mid (bN p) (List.replicate p.length (.sc (.int .u8 0))) (List.replicate (N - (p ++ D).length) (.sc (.int .u8 0))) (bN D) (by simp)
  rw [List.length_replicate] at this
  rw [e, this]
  unfold buf
  rw [bN_app, List.append_assoc]
theorem buf_ok (ok : Nat → Bool) (N : Nat) (D : List Nat) : (buf N D).all (okL ok) = true := by
  rw [List.all_eq_true]
  intro x hx
  rcases List.mem_append.1 hx with h | h
  · rw [(List.mem_replicate.1 h).2]; rfl
  · unfold bN at h; obtain ⟨y, _, rfl⟩ := List.mem_map.1 h; rfl
theorem conv_buf' {N : Nat} {D : List Nat} (H : List (Nat × Blk)) (hD : ∀ x ∈ D, x < 256) (h : D.length ≤ N) : exConvH Tryd.prog ((1, ⟨5, buf N D, false⟩) :: H) 51 9 (.sl 1 (N - D.length) (N - (N - D.length)) 1 (some (N - (N - D.length)))) = some (.sc (.string (st D))) := by
  show bytesH _ _ _ _ _ = _
  unfold bytesH
  have t1 : isStr Tryd.prog 9 = true := by kernel_rfl
  have t2 : isBytes Tryd.prog 51 = true := by kernel_rfl
  rw [if_pos ⟨t1, t2⟩, show N - (N - D.length) = D.length by omega]
  have e : srcV ((1, ⟨5, buf N D, false⟩) :: H) (.sl 1 (N - D.length) D.length 1 (some D.length)) = some (bN D, D.length) := by
    have h1 := buf_len h
    have h2 : (buf N D).drop (N - D.length) = bN D := by unfold buf; rw [List.drop_left' (by simp)]
    have h3 : (bN D).take D.length = bN D := List.take_of_length_le (by simp)
    simp [srcV, hget, h1, h2, h3]; omega
  rw [e]
  simp only [Option.bind_some]
  rw [if_pos (bN_len D), bytesV_bN]; rfl
theorem conv_buf {N : Nat} {D : List Nat} (H : List (Nat × Blk)) (hD : Digs D) (h : D.length ≤ N) : exConvH Tryd.prog ((1, ⟨5, buf N D, false⟩) :: H) 51 9 (.sl 1 (N - D.length) (N - (N - D.length)) 1 (some (N - (N - D.length)))) = some (.sc (.string (st D))) := conv_buf' H (digs_lt hD) h
def txt (z : Int) : List Nat := (if z < 0 then [45] else []) ++ dec z.natAbs
theorem dec_len_limbs (n : Nat) (h : n ≠ 0) : (dec n).length ≤ 10 * (limbsOf n).length := by
  have h1 : n < 4294967296 ^ (limbsOf n).length := by
    have := val_lt (limbsOf_limbs n); rwa [limbsOf_val] at this
  have h2 : 4294967296 ^ (limbsOf n).length ≤ 10 ^ (10 * (limbsOf n).length) := by
    rw [Nat.pow_mul]; exact Nat.pow_le_pow_left (by decide) _
  have h3 : 1 ≤ (limbsOf n).length := by
    rcases Nat.eq_zero_or_pos (limbsOf n).length with e | e
    · exact absurd (limbsOf_nil.1 (List.eq_nil_of_length_eq_zero e)) h
    · exact e
  have := dec_len_le (n := n) (w := 10 * (limbsOf n).length - 1) (by rw [show 10 * (limbsOf n).length - 1 + 1 = 10 * (limbsOf n).length by omega]; omega)
  omega
def TxI (n m : Nat) (D : List Nat) : Prop := dec n = (if m = 0 then D else dec m ++ D) ∧ m ≤ n ∧ Digs D
theorem TxI.start {n : Nat} (h : n ≠ 0) : TxI n n [] := ⟨by rw [if_neg h, List.append_nil], Nat.le_refl _, fun x hx => by cases hx⟩
theorem TxI.last {n m : Nat} {D : List Nat} (h : TxI n m D) (h0 : m ≠ 0) (hq : m / 1000000000 = 0) : TxI n 0 (dec (m % 1000000000) ++ D) := by
  refine ⟨?_, Nat.zero_le _, digs_app (dec_digs _) h.2.2⟩
  rw [h.1, if_neg h0, if_pos rfl, Nat.mod_eq_of_lt (by omega)]
theorem TxI.more {n m : Nat} {D : List Nat} (h : TxI n m D) (hq : m / 1000000000 ≠ 0) : TxI n (m / 1000000000) ((List.replicate (9 - (dec (m % 1000000000)).length) 48 ++ dec (m % 1000000000)) ++ D) := by
  refine ⟨?_, Nat.le_trans (Nat.div_le_self _ _) h.2.1, digs_app (digs_app (digs_rep _) (dec_digs _)) h.2.2⟩
  rw [h.1, if_neg (show m ≠ 0 by omega), if_neg hq, dec_step 8 (m := m) (q := m / 1000000000) (r := m % 1000000000) (by omega) (by omega) (by omega), List.append_assoc]
theorem TxI.len {n m : Nat} {D : List Nat} (h : TxI n m D) : D.length ≤ (dec n).length := by
  rw [h.1]; split
  · exact Nat.le_refl _
  · simp
theorem text_zero : Spec Tryd.prog 6 [iv 0] (.sc (.string (st (txt 0)))) := by
  have e1 : limbsOf 0 = [] := limbsOf_nil.2 rfl
  have e0 : limbsOf (Int.natAbs 0) = [] := e1
  have c1 := trim_n 0 (by rw [e1]; simp)
  have et : st (txt 0) = ⟨#[48]⟩ := by unfold txt; rw [dec_lt (by decide)]; rfl
  rw [et]
  unfold iv sv at *
  rw [e0]; rw [e1] at c1
  refine Spec.run Tryd.func6 rfl Tryd.ntmps6 (by simp) (by simp (disch := omega) only [go_sem, ↓reduceIte, Nat.reduceEqDiff, Nat.reduceLT, Nat.reduceLeDiff, Nat.reduceAdd, Nat.reduceMul, Nat.reduceSub, reduceCtorEq, Nat.reduceBEq, Int.reduceToNat, Int.reducePow, if_pos, if_neg]; rfl) fun B hB => ?_
  (repeat (first | refine DO.nil (by kernel_rfl) ?_ | (with_reducible refine oz (by constructor <;> decide) ?_) | ((first | apply SO.call | apply DO.call); (iterate 3 (focus (simp (disch := omega) only [go_sem, ↓reduceIte, Nat.reduceEqDiff, Nat.reduceLT, Nat.reduceLeDiff, Nat.reduceAdd, Nat.reduceMul, Nat.reduceSub, reduceCtorEq, Nat.reduceBEq, Int.reduceToNat, Int.reducePow, if_pos, if_neg, lv_len] <;> rfl))); (first | apply SCall.ofX | apply DCall.ofX); (focus (first | assumption)); (focus (simp (disch := omega) only [go_sem, ↓reduceIte, Nat.reduceEqDiff, Nat.reduceLT, Nat.reduceLeDiff, Nat.reduceAdd, Nat.reduceMul, Nat.reduceSub, reduceCtorEq, Nat.reduceBEq, Int.reduceToNat, Int.reducePow, if_pos, if_neg, lv_len] <;> rfl))) | ((with_reducible first | apply SC.condB | apply SC.region | apply SO.run | apply DO.run); (focus (simp (disch := omega) only [go_sem, ↓reduceIte, Nat.reduceEqDiff, Nat.reduceLT, Nat.reduceLeDiff, Nat.reduceAdd, Nat.reduceMul, Nat.reduceSub, reduceCtorEq, Nat.reduceBEq, Int.reduceToNat, Int.reducePow, if_pos, if_neg, lv_len] <;> rfl)); (first | refine pickT ?_ | refine pickF ?_ | fail_if_success with_reducible refine pickA ?_)) | ((with_reducible refine SC.draw Tab.mixed ?_ ?_); (focus (first | rfl | simp (disch := omega) only [go_sem, ↓reduceIte, Nat.reduceEqDiff, Nat.reduceLT, Nat.reduceLeDiff, Nat.reduceAdd, Nat.reduceMul, Nat.reduceSub, reduceCtorEq, Nat.reduceBEq, Int.reduceToNat, Int.reducePow, if_pos, if_neg, lv_len]))) | (with_reducible apply SC.ops)))
  exact retQ_ret Tryd.results6 (by simp (disch := omega) only [go_sem, ↓reduceIte, Nat.reduceEqDiff, Nat.reduceLT, Nat.reduceLeDiff, Nat.reduceAdd, Nat.reduceMul, Nat.reduceSub, reduceCtorEq, Nat.reduceBEq, Int.reduceToNat, Int.reducePow, if_pos, if_neg]; rfl) (by simp (disch := omega) only [go_sem, ↓reduceIte, Nat.reduceEqDiff, Nat.reduceLT, Nat.reduceLeDiff, Nat.reduceAdd, Nat.reduceMul, Nat.reduceSub, reduceCtorEq, Nat.reduceBEq, Int.reduceToNat, Int.reducePow, if_pos, if_neg]; rfl) rfl
theorem text_s (z : Int) (K : Nat) (hz : Fits K z) (hK : K ≤ 1000) : Spec Tryd.prog 6 [iv z] (.sc (.string (st (txt z)))) := by
  by_cases h0 : z = 0
  · subst h0; exact text_zero
  have hl : (limbsOf z.natAbs).length ≤ K := fits_len hz
  have hn0 : z.natAbs ≠ 0 := by omega
  have hdl := dec_len_limbs z.natAbs hn0
  have c1 := trim_n z.natAbs (by omega)
  have hne : 1 ≤ (limbsOf z.natAbs).length := by
    rcases Nat.eq_zero_or_pos (limbsOf z.natAbs).length with e | e
    · exact absurd (limbsOf_nil.1 (List.eq_nil_of_length_eq_zero e)) hn0
    · exact e
  have q1 : (((limbsOf z.natAbs).length : Int) == 0) = false := by rw [beq_eq_false_iff_ne]; omega
  have hN : (10 * ((limbsOf z.natAbs).length : Int) + 1).toNat = 10 * (limbsOf z.natAbs).length + 1 := by omega
  have ht : txt z = (if z < 0 then [45] else []) ++ dec z.natAbs := rfl
  generalize hn : z.natAbs = n at *
  generalize hs : decide (z < 0) = neg at *
  generalize hNN : 10 * (limbsOf n).length + 1 = N at *
  have hNb : N ≤ 10001 := by omega
  unfold iv sv at *
  rw [hn, hs]
  refine Spec.run Tryd.func6 rfl Tryd.ntmps6 (by simp) (by simp (disch := omega) only [go_sem, ↓reduceIte, Nat.reduceEqDiff, Nat.reduceLT, Nat.reduceLeDiff, Nat.reduceAdd, Nat.reduceMul, Nat.reduceSub, reduceCtorEq, Nat.reduceBEq, Int.reduceToNat, Int.reducePow, if_pos, if_neg]; rfl) fun B hB => ?_
  (repeat (first | refine DO.nil (by kernel_rfl) ?_ | (with_reducible refine oz (by constructor <;> decide) ?_) | ((first | apply SO.call | apply DO.call); (iterate 3 (focus (simp (disch := omega) only [go_sem, ↓reduceIte, Nat.reduceEqDiff, Nat.reduceLT, Nat.reduceLeDiff, Nat.reduceAdd, Nat.reduceMul, Nat.reduceSub, reduceCtorEq, Nat.reduceBEq, Int.reduceToNat, Int.reducePow, if_pos, if_neg, lv_len, q1, hN] <;> rfl))); (first | apply SCall.ofX | apply DCall.ofX); (focus (first | assumption)); (focus (simp (disch := omega) only [go_sem, ↓reduceIte, Nat.reduceEqDiff, Nat.reduceLT, Nat.reduceLeDiff, Nat.reduceAdd, Nat.reduceMul, Nat.reduceSub, reduceCtorEq, Nat.reduceBEq, Int.reduceToNat, Int.reducePow, if_pos, if_neg, lv_len, q1, hN] <;> rfl))) | ((with_reducible first | apply SC.condB | apply SC.region | apply SO.run | apply DO.run); (focus (simp (disch := omega) only [go_sem, ↓reduceIte, Nat.reduceEqDiff, Nat.reduceLT, Nat.reduceLeDiff, Nat.reduceAdd, Nat.reduceMul, Nat.reduceSub, reduceCtorEq, Nat.reduceBEq, Int.reduceToNat, Int.reducePow, if_pos, if_neg, lv_len, q1, hN] <;> rfl)); (first | refine pickT ?_ | refine pickF ?_ | fail_if_success with_reducible refine pickA ?_)) | ((with_reducible refine SC.draw Tab.mixed ?_ ?_); (focus (first | rfl | simp (disch := omega) only [go_sem, ↓reduceIte, Nat.reduceEqDiff, Nat.reduceLT, Nat.reduceLeDiff, Nat.reduceAdd, Nat.reduceMul, Nat.reduceSub, reduceCtorEq, Nat.reduceBEq, Int.reduceToNat, Int.reducePow, if_pos, if_neg, lv_len, q1, hN]))) | (with_reducible apply SC.ops)))
  refine SC.loop (fun x : Nat × List Nat => ⟨[(3, .im (lv (limbsOf x.1)) (limbsOf x.1).length), (4, .sl 1 0 N 1 (some N)), (5, .sc (.int .i64 ((N : Int) - x.2.length))), (1, .pt 0 0)], [(1, ⟨5, buf N x.2, false⟩), (0, ⟨27, [.sc (.bool neg), .im (lv (limbsOf n)) (limbsOf n).length], false⟩)], 2, 64⟩) (fun x => TxI n x.1 x.2) (fun x => x.1) (n, []) ?_ ?_ ?_
  · (refine Le.of [] hB (by first | exact ⟨Nat.zero_le _, fun _ _ => Nat.zero_le _⟩ | (constructor <;> (try simp) <;> (try omega))) ?_ ?_ <;> (repeat' (first | exact leSl_nil | exact leHp_nil | refine leSl_cons (by simp (disch := omega) only [go_sem, ↓reduceIte, Nat.reduceEqDiff, Nat.reduceLT, Nat.reduceLeDiff, Nat.reduceAdd, Nat.reduceMul, Nat.reduceSub, reduceCtorEq, Nat.reduceBEq, Int.reduceToNat, Int.reducePow, if_pos, if_neg]; rfl) ?_ ?_ | refine leHp_cons (by simp (disch := omega) only [go_sem, ↓reduceIte, Nat.reduceEqDiff, Nat.reduceLT, Nat.reduceLeDiff, Nat.reduceAdd, Nat.reduceMul, Nat.reduceSub, reduceCtorEq, Nat.reduceBEq, Int.reduceToNat, Int.reducePow, if_pos, if_neg]; rfl) ?_ ?_ | exact VLe.junk _ | exact VLe.refl rfl | exact VLe.nil_sl _ _ _ | exact VLe.int (by first | rfl | omega | (dsimp only; omega)) | exact VLe.bool rfl | exact VLe.sl rfl (by first | rfl | omega | (dsimp only; omega) | (simp; done)) | exact VLe.cap rfl (by first | rfl | omega | (dsimp only; omega) | (simp; done)) | exact VLe.im rfl rfl | exact HLe.new rfl | exact HLe.same rfl (LLe.refl rfl) | refine HLe.same rfl ?_ | exact LLe.nil _ | exact LLe.refl rfl | refine LLe.cons ?_ ?_)))
    have e0 : buf N (n, ([] : List Nat)).2 = List.replicate N (.sc (.int .u8 0)) := by simp [buf, bN]
    have := buf_ok (okN 2 []) N []
    rw [show buf N [] = List.replicate N (.sc (.int .u8 0)) by simp [buf, bN]] at this
    rw [e0]
    exact LLe.refl this
  · exact TxI.start hn0
  · rintro ⟨m, D⟩ hI K hK
    simp only at hI ⊢
    have hDl := hI.len
    have hm2 := len_le_of hI.2.1
    have hdp0 := dec_length_pos n
    have hbl := buf_len (N := N) (D := D) (by omega)
    by_cases hm : m = 0
    · subst hm
      have e1 : limbsOf 0 = [] := limbsOf_nil.2 rfl
      have hd : dec n = D := by have := hI.1; rwa [if_pos rfl] at this
      have hD := hI.2.2
      subst hd
      rw [e1]
      have g1 : ((N : Int) - ((dec n).length : Nat)).toNat = N - (dec n).length := by omega
      cases neg with
      | false =>
        have hz0 : ¬ z < 0 := of_decide_eq_false hs
        rw [if_neg hz0, List.nil_append] at ht
        rw [ht]
        have ec := fun H => conv_buf (N := N) (D := dec n) H hD (by omega)
        (repeat (first | refine DO.nil (by kernel_rfl) ?_ | (with_reducible refine oz (by constructor <;> decide) ?_) | ((first | apply SO.call | apply DO.call); (iterate 3 (focus (simp (disch := omega) only [go_sem, ↓reduceIte, Nat.reduceEqDiff, Nat.reduceLT, Nat.reduceLeDiff, Nat.reduceAdd, Nat.reduceMul, Nat.reduceSub, reduceCtorEq, Nat.reduceBEq, Int.reduceToNat, Int.reducePow, if_pos, if_neg, lv_len, g1, ec] <;> rfl))); (first | apply SCall.ofX | apply DCall.ofX); (focus (first | assumption)); (focus (simp (disch := omega) only [go_sem, ↓reduceIte, Nat.reduceEqDiff, Nat.reduceLT, Nat.reduceLeDiff, Nat.reduceAdd, Nat.reduceMul, Nat.reduceSub, reduceCtorEq, Nat.reduceBEq, Int.reduceToNat, Int.reducePow, if_pos, if_neg, lv_len, g1, ec] <;> rfl))) | ((with_reducible first | apply SC.condB | apply SC.region | apply SO.run | apply DO.run); (focus (simp (disch := omega) only [go_sem, ↓reduceIte, Nat.reduceEqDiff, Nat.reduceLT, Nat.reduceLeDiff, Nat.reduceAdd, Nat.reduceMul, Nat.reduceSub, reduceCtorEq, Nat.reduceBEq, Int.reduceToNat, Int.reducePow, if_pos, if_neg, lv_len, g1, ec] <;> rfl)); (first | refine pickT ?_ | refine pickF ?_ | fail_if_success with_reducible refine pickA ?_)) | ((with_reducible refine SC.draw Tab.mixed ?_ ?_); (focus (first | rfl | simp (disch := omega) only [go_sem, ↓reduceIte, Nat.reduceEqDiff, Nat.reduceLT, Nat.reduceLeDiff, Nat.reduceAdd, Nat.reduceMul, Nat.reduceSub, reduceCtorEq, Nat.reduceBEq, Int.reduceToNat, Int.reducePow, if_pos, if_neg, lv_len, g1, ec]))) | (with_reducible apply SC.ops)))
        exact retQ_ret Tryd.results6 (by simp (disch := omega) only [go_sem, ↓reduceIte, Nat.reduceEqDiff, Nat.reduceLT, Nat.reduceLeDiff, Nat.reduceAdd, Nat.reduceMul, Nat.reduceSub, reduceCtorEq, Nat.reduceBEq, Int.reduceToNat, Int.reducePow, if_pos, if_neg]; rfl) (by simp (disch := omega) only [go_sem, ↓reduceIte, Nat.reduceEqDiff, Nat.reduceLT, Nat.reduceLeDiff, Nat.reduceAdd, Nat.reduceMul, Nat.reduceSub, reduceCtorEq, Nat.reduceBEq, Int.reduceToNat, Int.reducePow, if_pos, if_neg]; rfl) rfl
      | true =>
        have hz0 : z < 0 := of_decide_eq_true hs
        rw [if_pos hz0] at ht
        rw [ht]
        have g2 : ((N : Int) - ((dec n).length : Nat) - 1).toNat = N - ([45] ++ dec n).length := by rw [List.length_append, List.length_singleton]; omega
        have hp1 : setAll (buf N (dec n)) (N - ([45] ++ dec n).length) (bN [45]) = buf N ([45] ++ dec n) := buf_put (by simp; omega)
        have hp2 : (buf N (dec n)).set (N - ([45] ++ dec n).length) (.sc (.int .u8 45)) = buf N ([45] ++ dec n) := hp1
        have ec := fun H => conv_buf' (N := N) (D := [45] ++ dec n) H (by intro x hx; rcases List.mem_append.1 hx with h | h; · simp at h; omega
                                                                          · exact digs_lt hD x h) (by simp; omega)
        have hbl2 := buf_len (N := N) (D := [45] ++ dec n) (by simp; omega)
        have hl2 : ([45] ++ dec n).length = (dec n).length + 1 := by simp
        generalize [45] ++ dec n = D2 at *
        (repeat (first | refine DO.nil (by kernel_rfl) ?_ | (with_reducible refine oz (by constructor <;> decide) ?_) | ((first | apply SO.call | apply DO.call); (iterate 3 (focus (simp (disch := omega) only [go_sem, ↓reduceIte, Nat.reduceEqDiff, Nat.reduceLT, Nat.reduceLeDiff, Nat.reduceAdd, Nat.reduceMul, Nat.reduceSub, reduceCtorEq, Nat.reduceBEq, Int.reduceToNat, Int.reducePow, if_pos, if_neg, lv_len, g2, ec, hp2, hbl] <;> rfl))); (first | apply SCall.ofX | apply DCall.ofX); (focus (first | assumption)); (focus (simp (disch := omega) only [go_sem, ↓reduceIte, Nat.reduceEqDiff, Nat.reduceLT, Nat.reduceLeDiff, Nat.reduceAdd, Nat.reduceMul, Nat.reduceSub, reduceCtorEq, Nat.reduceBEq, Int.reduceToNat, Int.reducePow, if_pos, if_neg, lv_len, g2, ec, hp2, hbl] <;> rfl))) | ((with_reducible first | apply SC.condB | apply SC.region | apply SO.run | apply DO.run); (focus (simp (disch := omega) only [go_sem, ↓reduceIte, Nat.reduceEqDiff, Nat.reduceLT, Nat.reduceLeDiff, Nat.reduceAdd, Nat.reduceMul, Nat.reduceSub, reduceCtorEq, Nat.reduceBEq, Int.reduceToNat, Int.reducePow, if_pos, if_neg, lv_len, g2, ec, hp2, hbl] <;> rfl)); (first | refine pickT ?_ | refine pickF ?_ | fail_if_success with_reducible refine pickA ?_)) | ((with_reducible refine SC.draw Tab.mixed ?_ ?_); (focus (first | rfl | simp (disch := omega) only [go_sem, ↓reduceIte, Nat.reduceEqDiff, Nat.reduceLT, Nat.reduceLeDiff, Nat.reduceAdd, Nat.reduceMul, Nat.reduceSub, reduceCtorEq, Nat.reduceBEq, Int.reduceToNat, Int.reducePow, if_pos, if_neg, lv_len, g2, ec, hp2, hbl]))) | (with_reducible apply SC.ops)))
        exact retQ_ret Tryd.results6 (by simp (disch := omega) only [go_sem, ↓reduceIte, Nat.reduceEqDiff, Nat.reduceLT, Nat.reduceLeDiff, Nat.reduceAdd, Nat.reduceMul, Nat.reduceSub, reduceCtorEq, Nat.reduceBEq, Int.reduceToNat, Int.reducePow, if_pos, if_neg]; rfl) (by simp (disch := omega) only [go_sem, ↓reduceIte, Nat.reduceEqDiff, Nat.reduceLT, Nat.reduceLeDiff, Nat.reduceAdd, Nat.reduceMul, Nat.reduceSub, reduceCtorEq, Nat.reduceBEq, Int.reduceToNat, Int.reducePow, if_pos, if_neg]; rfl) rfl
    · have q2 : decide (((limbsOf m).length : Int) > 0) = true := by
        have : (limbsOf m).length ≠ 0 := fun e => hm (limbsOf_nil.1 (List.eq_nil_of_length_eq_zero e))
        simp; omega
      have c2 := pshort_i (limbsOf m) 1000000000 (limbsOf_limbs m) (by omega) (by decide) (by decide)
      have gm := val_lt (limbsOf_limbs m)
      rw [limbsOf_val] at c2 gm
      have c3 := trim_i (dg (limbsOf m).length (m / 1000000000)) (dg_limbs _ _) (by rw [dg_len]; omega)
      rw [dg_val _ _ (Nat.lt_of_le_of_lt (Nat.div_le_self _ _) gm)] at c3
      have hr : m % 1000000000 < 1000000000 := Nat.mod_lt _ (by decide)
      have c4 := format_s (m % 1000000000) hr
      have q3 : ((m % 1000000000 : Nat) : Int) % 18446744073709551616 = ((m % 1000000000 : Nat) : Int) := by omega
      have hdr := (decP_pad (w := 8) hr).1
      have hdp := dec_length_pos (m % 1000000000)
      have s1 := st_size (dec (m % 1000000000))
      have hR := dec_digs (m % 1000000000)
      unfold sv at *
      by_cases hq : m / 1000000000 = 0
      · have hI2 := hI.last hm hq
        rw [hq] at c2 c3
        have e1 : limbsOf 0 = [] := limbsOf_nil.2 rfl
        rw [e1] at c3
        have hl2 := hI2.len
        rw [List.length_append] at hl2
        generalize dec (m % 1000000000) = R at *
        have g2 : ((N : Int) - (D.length : Nat) - (R.length : Nat)).toNat = N - (R ++ D).length := by rw [List.length_append]; omega
        have hp1 : setAll (buf N D) (N - (R ++ D).length) (bN R) = buf N (R ++ D) := buf_put (by omega)
        have g3 : N - (N - (R ++ D).length) = R.length + D.length := by rw [List.length_append]; omega
        have eb := bytesT_st (digs_lt hR)
        have hl3 : (R ++ D).length = R.length + D.length := List.length_append
        (repeat (first | refine DO.nil (by kernel_rfl) ?_ | (with_reducible refine oz (by constructor <;> decide) ?_) | ((first | apply SO.call | apply DO.call); (iterate 3 (focus (simp (disch := omega) only [go_sem, ↓reduceIte, Nat.reduceEqDiff, Nat.reduceLT, Nat.reduceLeDiff, Nat.reduceAdd, Nat.reduceMul, Nat.reduceSub, reduceCtorEq, Nat.reduceBEq, Int.reduceToNat, Int.reducePow, if_pos, if_neg, lv_len, q2, q3, s1, g2, g3, hp1, eb, hbl] <;> rfl))); (first | apply SCall.ofX | apply DCall.ofX); (focus (first | assumption)); (focus (simp (disch := omega) only [go_sem, ↓reduceIte, Nat.reduceEqDiff, Nat.reduceLT, Nat.reduceLeDiff, Nat.reduceAdd, Nat.reduceMul, Nat.reduceSub, reduceCtorEq, Nat.reduceBEq, Int.reduceToNat, Int.reducePow, if_pos, if_neg, lv_len, q2, q3, s1, g2, g3, hp1, eb, hbl] <;> rfl))) | ((with_reducible first | apply SC.condB | apply SC.region | apply SO.run | apply DO.run); (focus (simp (disch := omega) only [go_sem, ↓reduceIte, Nat.reduceEqDiff, Nat.reduceLT, Nat.reduceLeDiff, Nat.reduceAdd, Nat.reduceMul, Nat.reduceSub, reduceCtorEq, Nat.reduceBEq, Int.reduceToNat, Int.reducePow, if_pos, if_neg, lv_len, q2, q3, s1, g2, g3, hp1, eb, hbl] <;> rfl)); (first | refine pickT ?_ | refine pickF ?_ | fail_if_success with_reducible refine pickA ?_)) | ((with_reducible refine SC.draw Tab.mixed ?_ ?_); (focus (first | rfl | simp (disch := omega) only [go_sem, ↓reduceIte, Nat.reduceEqDiff, Nat.reduceLT, Nat.reduceLeDiff, Nat.reduceAdd, Nat.reduceMul, Nat.reduceSub, reduceCtorEq, Nat.reduceBEq, Int.reduceToNat, Int.reducePow, if_pos, if_neg, lv_len, q2, q3, s1, g2, g3, hp1, eb, hbl]))) | (with_reducible apply SC.ops)))
        refine hK _ (0, R ++ D) ?_ hI2 (by simp only; omega)
        (refine Le.of [] hB (by first | exact ⟨Nat.zero_le _, fun _ _ => Nat.zero_le _⟩ | (constructor <;> (try simp) <;> (try omega))) ?_ ?_ <;> (repeat' (first | exact leSl_nil | exact leHp_nil | refine leSl_cons (by simp (disch := omega) only [go_sem, ↓reduceIte, Nat.reduceEqDiff, Nat.reduceLT, Nat.reduceLeDiff, Nat.reduceAdd, Nat.reduceMul, Nat.reduceSub, reduceCtorEq, Nat.reduceBEq, Int.reduceToNat, Int.reducePow, if_pos, if_neg]; rfl) ?_ ?_ | refine leHp_cons (by simp (disch := omega) only [go_sem, ↓reduceIte, Nat.reduceEqDiff, Nat.reduceLT, Nat.reduceLeDiff, Nat.reduceAdd, Nat.reduceMul, Nat.reduceSub, reduceCtorEq, Nat.reduceBEq, Int.reduceToNat, Int.reducePow, if_pos, if_neg]; rfl) ?_ ?_ | exact VLe.junk _ | exact VLe.refl rfl | exact VLe.nil_sl _ _ _ | exact VLe.int (by first | rfl | omega | (dsimp only; omega)) | exact VLe.bool rfl | exact VLe.sl rfl (by first | rfl | omega | (dsimp only; omega) | (simp; done)) | exact VLe.cap rfl (by first | rfl | omega | (dsimp only; omega) | (simp; done)) | exact VLe.im rfl rfl | exact HLe.new rfl | exact HLe.same rfl (LLe.refl rfl) | refine HLe.same rfl ?_ | exact LLe.nil _ | exact LLe.refl rfl | refine LLe.cons ?_ ?_)))
        exact LLe.refl (buf_ok _ _ _)
      · have hI2 := hI.more hq
        have q4 : decide (((limbsOf (m / 1000000000)).length : Int) > 0) = true := by
          have : (limbsOf (m / 1000000000)).length ≠ 0 := fun e => hq (limbsOf_nil.1 (List.eq_nil_of_length_eq_zero e))
          simp; omega
        have hl2 := hI2.len
        have c5 := rep_s (9 - (dec (m % 1000000000)).length) (by omega)
        have q5 : (9 : Int) - ((dec (m % 1000000000)).length : Nat) = ((9 - (dec (m % 1000000000)).length : Nat) : Int) := by omega
        rw [List.length_append] at hl2
        have hm3 : m / 1000000000 < m := by omega
        generalize dec (m % 1000000000) = R at *
        have s2 := strB_st (List.replicate (9 - R.length) 48) R (by simp; omega)
        have hZ : List.replicate (9 - R.length) 48 ++ R = List.replicate (9 - R.length) 48 ++ R := rfl
        have hR2 : Digs (List.replicate (9 - R.length) 48 ++ R) := digs_app (digs_rep _) hR
        have hRl : (List.replicate (9 - R.length) 48 ++ R).length = 9 := by simp; omega
        have s3 := st_size (List.replicate (9 - R.length) 48 ++ R)
        generalize List.replicate (9 - R.length) 48 ++ R = R2 at *
        have g2 : ((N : Int) - (D.length : Nat) - (R2.length : Nat)).toNat = N - (R2 ++ D).length := by rw [List.length_append]; omega
        have hp1 : setAll (buf N D) (N - (R2 ++ D).length) (bN R2) = buf N (R2 ++ D) := buf_put (by omega)
        have g3 : N - (N - (R2 ++ D).length) = R2.length + D.length := by rw [List.length_append]; omega
        have eb := bytesT_st (digs_lt hR2)
        have hl3 : (R2 ++ D).length = R2.length + D.length := List.length_append
        (repeat (first | refine DO.nil (by kernel_rfl) ?_ | (with_reducible refine oz (by constructor <;> decide) ?_) | ((first | apply SO.call | apply DO.call); (iterate 3 (focus (simp (disch := omega) only [go_sem, ↓reduceIte, Nat.reduceEqDiff, Nat.reduceLT, Nat.reduceLeDiff, Nat.reduceAdd, Nat.reduceMul, Nat.reduceSub, reduceCtorEq, Nat.reduceBEq, Int.reduceToNat, Int.reducePow, if_pos, if_neg, lv_len, q2, q3, q4, q5, s1, s2, s3, g2, g3, hp1, eb, hbl] <;> rfl))); (first | apply SCall.ofX | apply DCall.ofX); (focus (first | assumption)); (focus (simp (disch := omega) only [go_sem, ↓reduceIte, Nat.reduceEqDiff, Nat.reduceLT, Nat.reduceLeDiff, Nat.reduceAdd, Nat.reduceMul, Nat.reduceSub, reduceCtorEq, Nat.reduceBEq, Int.reduceToNat, Int.reducePow, if_pos, if_neg, lv_len, q2, q3, q4, q5, s1, s2, s3, g2, g3, hp1, eb, hbl] <;> rfl))) | ((with_reducible first | apply SC.condB | apply SC.region | apply SO.run | apply DO.run); (focus (simp (disch := omega) only [go_sem, ↓reduceIte, Nat.reduceEqDiff, Nat.reduceLT, Nat.reduceLeDiff, Nat.reduceAdd, Nat.reduceMul, Nat.reduceSub, reduceCtorEq, Nat.reduceBEq, Int.reduceToNat, Int.reducePow, if_pos, if_neg, lv_len, q2, q3, q4, q5, s1, s2, s3, g2, g3, hp1, eb, hbl] <;> rfl)); (first | refine pickT ?_ | refine pickF ?_ | fail_if_success with_reducible refine pickA ?_)) | ((with_reducible refine SC.draw Tab.mixed ?_ ?_); (focus (first | rfl | simp (disch := omega) only [go_sem, ↓reduceIte, Nat.reduceEqDiff, Nat.reduceLT, Nat.reduceLeDiff, Nat.reduceAdd, Nat.reduceMul, Nat.reduceSub, reduceCtorEq, Nat.reduceBEq, Int.reduceToNat, Int.reducePow, if_pos, if_neg, lv_len, q2, q3, q4, q5, s1, s2, s3, g2, g3, hp1, eb, hbl]))) | (with_reducible apply SC.ops)))
        refine hK _ (m / 1000000000, R2 ++ D) ?_ hI2 (by simp only; omega)
        (refine Le.of [] hB (by first | exact ⟨Nat.zero_le _, fun _ _ => Nat.zero_le _⟩ | (constructor <;> (try simp) <;> (try omega))) ?_ ?_ <;> (repeat' (first | exact leSl_nil | exact leHp_nil | refine leSl_cons (by simp (disch := omega) only [go_sem, ↓reduceIte, Nat.reduceEqDiff, Nat.reduceLT, Nat.reduceLeDiff, Nat.reduceAdd, Nat.reduceMul, Nat.reduceSub, reduceCtorEq, Nat.reduceBEq, Int.reduceToNat, Int.reducePow, if_pos, if_neg]; rfl) ?_ ?_ | refine leHp_cons (by simp (disch := omega) only [go_sem, ↓reduceIte, Nat.reduceEqDiff, Nat.reduceLT, Nat.reduceLeDiff, Nat.reduceAdd, Nat.reduceMul, Nat.reduceSub, reduceCtorEq, Nat.reduceBEq, Int.reduceToNat, Int.reducePow, if_pos, if_neg]; rfl) ?_ ?_ | exact VLe.junk _ | exact VLe.refl rfl | exact VLe.nil_sl _ _ _ | exact VLe.int (by first | rfl | omega | (dsimp only; omega)) | exact VLe.bool rfl | exact VLe.sl rfl (by first | rfl | omega | (dsimp only; omega) | (simp; done)) | exact VLe.cap rfl (by first | rfl | omega | (dsimp only; omega) | (simp; done)) | exact VLe.im rfl rfl | exact HLe.new rfl | exact HLe.same rfl (LLe.refl rfl) | refine HLe.same rfl ?_ | exact LLe.nil _ | exact LLe.refl rfl | refine LLe.cons ?_ ?_)))
        exact LLe.refl (buf_ok _ _ _)
end Go.Proofs.YtagidfadibedoaaDoor

/- integer.Read. -/
namespace Go.Proofs.YtagidfadibedoaaDoor
open Go.RowKit
def maI (M : List Nat) (s c0 i c : Nat) (z : List Nat) : Prop :=
  z.length = M.length ∧ limbs z ∧ c < s ∧ (∀ j, i ≤ j → z.getD j 0 = M.getD j 0) ∧ val z + val (M.take i) + 4294967296 ^ i * c = val M + c0 + s * val (M.take i)
theorem maI.start {M : List Nat} {s c0 : Nat} (hM : limbs M) (h : c0 < s) : maI M s c0 0 c0 M := ⟨rfl, hM, h, fun _ _ => rfl, by simp [val]⟩
theorem maI.step {M z : List Nat} {s c0 i c x : Nat} (h : maI M s c0 i c z) (hi : i < M.length) (hx : z.getD i 0 = x) :
    maI M s c0 (i + 1) ((c + x * s) / 4294967296) (z.set i ((c + x * s) % 4294967296)) := by
  obtain ⟨h1, h2, h3, h4, h5⟩ := h
  have hxl : x < 4294967296 := by rw [← hx]; exact limbs_getD h2 i
  have hxm : M.getD i 0 = x := by rw [← h4 i (Nat.le_refl _), hx]
  refine ⟨by simp [h1], limbs_set h2 _ (Nat.mod_lt _ (by omega)), ?_, ?_, ?_⟩
  · have : c + x * s < 4294967296 * s := by
      have : (x + 1) * s ≤ 4294967296 * s := Nat.mul_le_mul_right _ (by omega)
      rw [Nat.add_mul] at this; omega
    exact Nat.div_lt_of_lt_mul this
  · intro j hj
    rw [← h4 j (by omega), List.getD_eq_getElem?_getD, List.getElem?_set_ne (by omega), ← List.getD_eq_getElem?_getD]
  · have h6 := val_set (z := z) (j := i) (by omega) ((c + x * s) % 4294967296)
    rw [val_take_succ', hxm]
    rw [hx] at h6
    have hd := Nat.div_add_mod (c + x * s) 4294967296
    rw [Nat.pow_succ]
    generalize (c + x * s) / 4294967296 = d at *
    generalize (c + x * s) % 4294967296 = m at *
    generalize val (z.set i m) = V at *
    generalize 4294967296 ^ i = p at *
    have : p * (c + x * s) = p * (4294967296 * d + m) := by rw [hd]
    grind
theorem maI.done {M z : List Nat} {s c0 i c : Nat} (h : maI M s c0 i c z) (hi : M.length ≤ i) : val z + 4294967296 ^ i * c = c0 + s * val M := by
  have := h.2.2.2.2
  rw [List.take_of_length_le hi] at this; omega
theorem maI.end0 {M z : List Nat} {s c0 : Nat} (h : maI M s c0 M.length 0 z) : limbs z ∧ val z = c0 + s * val M := ⟨h.2.1, by have := h.done (Nat.le_refl _); simpa using this⟩
theorem maI.endS {M z : List Nat} {s c0 c : Nat} (h : maI M s c0 M.length c z) (hs : s ≤ 4294967296) : limbs (z ++ [c]) ∧ val (z ++ [c]) = c0 + s * val M := by
  refine ⟨limbs_snoc h.2.1 (by have := h.2.2.1; omega), ?_⟩
  have h1 := h.done (Nat.le_refl _)
  rw [val_append, h.1]
  show val z + 4294967296 ^ M.length * (c + 4294967296 * 0) = _
  rw [← h1]; simp
def readP (l : List Nat) : Int × Int := if 2000 < l.length then (0, 2) else if canB (unM l) (isM l) = true then (sgn (isM l) (numOf (unM l)), 0) else (0, 4)
def rdT (p : Int × Int) : V := .tu [iv p.1, .sc (.int .i64 p.2)]
theorem numOf_take {D : List Nat} {k n : Nat} (h : k + n ≤ D.length) : numOf (D.take (k + n)) = numOf (D.take k) * 10 ^ n + numOf ((D.drop k).take n) := by
  rw [List.take_add, numOf_append, List.length_take, List.length_drop, Nat.min_eq_left (by omega)]
theorem numOf_take1 {D : List Nat} {i : Nat} (h : i < D.length) : numOf (D.take (i + 1)) = numOf (D.take i) * 10 + (D.getD i 0 - 48) := by
  rw [List.take_succ_eq_append_getElem h, numOf_append, numOf_one, List.length_singleton, Nat.pow_one, List.getD_eq_getElem?_getD, List.getElem?_eq_getElem h]; rfl
theorem digB_digs {l : List Nat} (h : digB l = true) : Digs l := by
  intro x hx
  have := List.all_eq_true.1 h x hx
  simp at this; omega
theorem digs_take {l : List Nat} (h : Digs l) (k : Nat) : Digs (l.take k) := fun x hx => h x (List.mem_of_mem_take hx)
theorem digs_drop {l : List Nat} (h : Digs l) (k : Nat) : Digs (l.drop k) := fun x hx => h x (List.mem_of_mem_drop hx)
theorem canB_digs {l : List Nat} {neg : Bool} (h : canB l neg = true) : Digs l := by
  unfold canB at h; simp only [Bool.and_eq_true] at h; exact digB_digs h.1.1
theorem read_s (l : List Nat) (hl : ∀ x ∈ l, x < 256) (hn : l.length < 1000000) : Spec Tryd.prog 7 [.sc (.string (st l))] (rdT (readP l)) := by
  have e1 := st_size l
  by_cases h1 : 2000 < l.length
  · have q1 := decide_eq_true (p := (2000 : Int) < (l.length : Int)) (by omega)
    have ep : readP l = (0, 2) := by unfold readP; rw [if_pos h1]
    rw [ep]
    have e0 : limbsOf (Int.natAbs 0) = [] := limbsOf_nil.2 rfl
    unfold rdT iv sv
    rw [e0]
    refine Spec.run Tryd.func7 rfl Tryd.ntmps7 (by simp) (by simp (disch := omega) only [go_sem, ↓reduceIte, Nat.reduceEqDiff, Nat.reduceLT, Nat.reduceLeDiff, Nat.reduceAdd, Nat.reduceMul, Nat.reduceSub, reduceCtorEq, Nat.reduceBEq, Int.reduceToNat, Int.reducePow, if_pos, if_neg]; rfl) fun B hB => ?_
    (repeat (first | refine DO.nil (by kernel_rfl) ?_ | (with_reducible refine oz (by constructor <;> decide) ?_) | ((first | apply SO.call | apply DO.call); (iterate 3 (focus (simp (disch := omega) only [go_sem, ↓reduceIte, Nat.reduceEqDiff, Nat.reduceLT, Nat.reduceLeDiff, Nat.reduceAdd, Nat.reduceMul, Nat.reduceSub, reduceCtorEq, Nat.reduceBEq, Int.reduceToNat, Int.reducePow, if_pos, if_neg, e1, q1] <;> rfl))); (first | apply SCall.ofX | apply DCall.ofX); (focus (first | assumption)); (focus (simp (disch := omega) only [go_sem, ↓reduceIte, Nat.reduceEqDiff, Nat.reduceLT, Nat.reduceLeDiff, Nat.reduceAdd, Nat.reduceMul, Nat.reduceSub, reduceCtorEq, Nat.reduceBEq, Int.reduceToNat, Int.reducePow, if_pos, if_neg, e1, q1] <;> rfl))) | ((with_reducible first | apply SC.condB | apply SC.region | apply SO.run | apply DO.run); (focus (simp (disch := omega) only [go_sem, ↓reduceIte, Nat.reduceEqDiff, Nat.reduceLT, Nat.reduceLeDiff, Nat.reduceAdd, Nat.reduceMul, Nat.reduceSub, reduceCtorEq, Nat.reduceBEq, Int.reduceToNat, Int.reducePow, if_pos, if_neg, e1, q1] <;> rfl)); (first | refine pickT ?_ | refine pickF ?_ | fail_if_success with_reducible refine pickA ?_)) | ((with_reducible refine SC.draw Tab.mixed ?_ ?_); (focus (first | rfl | simp (disch := omega) only [go_sem, ↓reduceIte, Nat.reduceEqDiff, Nat.reduceLT, Nat.reduceLeDiff, Nat.reduceAdd, Nat.reduceMul, Nat.reduceSub, reduceCtorEq, Nat.reduceBEq, Int.reduceToNat, Int.reducePow, if_pos, if_neg, e1, q1]))) | (with_reducible apply SC.ops)))
    refine retQ_ret Tryd.results7 (by simp (disch := omega) only [go_sem, ↓reduceIte, Nat.reduceEqDiff, Nat.reduceLT, Nat.reduceLeDiff, Nat.reduceAdd, Nat.reduceMul, Nat.reduceSub, reduceCtorEq, Nat.reduceBEq, Int.reduceToNat, Int.reducePow, if_pos, if_neg]; rfl) (by simp (disch := omega) only [go_sem, ↓reduceIte, Nat.reduceEqDiff, Nat.reduceLT, Nat.reduceLeDiff, Nat.reduceAdd, Nat.reduceMul, Nat.reduceSub, reduceCtorEq, Nat.reduceBEq, Int.reduceToNat, Int.reducePow, if_pos, if_neg]; rfl) rfl
  · have q1 := decide_eq_false (p := (2000 : Int) < (l.length : Int)) (by omega)
    have hcl := unM_len l
    have c1 := cut_s l hl hn
    have c2 := can_loop (unM l) (isM l) (fun x hx => hl x (unM_mem hx)) (by omega)
    cases h2 : canB (unM l) (isM l) with
    | false =>
      have ep : readP l = (0, 4) := by unfold readP; rw [if_neg h1, h2, if_neg (by decide)]
      rw [ep]
      rw [h2] at c2
      have e0 : limbsOf (Int.natAbs 0) = [] := limbsOf_nil.2 rfl
      unfold rdT iv sv
      rw [e0]
      refine Spec.run Tryd.func7 rfl Tryd.ntmps7 (by simp) (by simp (disch := omega) only [go_sem, ↓reduceIte, Nat.reduceEqDiff, Nat.reduceLT, Nat.reduceLeDiff, Nat.reduceAdd, Nat.reduceMul, Nat.reduceSub, reduceCtorEq, Nat.reduceBEq, Int.reduceToNat, Int.reducePow, if_pos, if_neg]; rfl) fun B hB => ?_
      (repeat (first | refine DO.nil (by kernel_rfl) ?_ | (with_reducible refine oz (by constructor <;> decide) ?_) | ((first | apply SO.call | apply DO.call); (iterate 3 (focus (simp (disch := omega) only [go_sem, ↓reduceIte, Nat.reduceEqDiff, Nat.reduceLT, Nat.reduceLeDiff, Nat.reduceAdd, Nat.reduceMul, Nat.reduceSub, reduceCtorEq, Nat.reduceBEq, Int.reduceToNat, Int.reducePow, if_pos, if_neg, e1, q1, Bool.not_false] <;> rfl))); (first | apply SCall.ofX | apply DCall.ofX); (focus (first | assumption)); (focus (simp (disch := omega) only [go_sem, ↓reduceIte, Nat.reduceEqDiff, Nat.reduceLT, Nat.reduceLeDiff, Nat.reduceAdd, Nat.reduceMul, Nat.reduceSub, reduceCtorEq, Nat.reduceBEq, Int.reduceToNat, Int.reducePow, if_pos, if_neg, e1, q1, Bool.not_false] <;> rfl))) | ((with_reducible first | apply SC.condB | apply SC.region | apply SO.run | apply DO.run); (focus (simp (disch := omega) only [go_sem, ↓reduceIte, Nat.reduceEqDiff, Nat.reduceLT, Nat.reduceLeDiff, Nat.reduceAdd, Nat.reduceMul, Nat.reduceSub, reduceCtorEq, Nat.reduceBEq, Int.reduceToNat, Int.reducePow, if_pos, if_neg, e1, q1, Bool.not_false] <;> rfl)); (first | refine pickT ?_ | refine pickF ?_ | fail_if_success with_reducible refine pickA ?_)) | ((with_reducible refine SC.draw Tab.mixed ?_ ?_); (focus (first | rfl | simp (disch := omega) only [go_sem, ↓reduceIte, Nat.reduceEqDiff, Nat.reduceLT, Nat.reduceLeDiff, Nat.reduceAdd, Nat.reduceMul, Nat.reduceSub, reduceCtorEq, Nat.reduceBEq, Int.reduceToNat, Int.reducePow, if_pos, if_neg, e1, q1, Bool.not_false]))) | (with_reducible apply SC.ops)))
      refine retQ_ret Tryd.results7 (by simp (disch := omega) only [go_sem, ↓reduceIte, Nat.reduceEqDiff, Nat.reduceLT, Nat.reduceLeDiff, Nat.reduceAdd, Nat.reduceMul, Nat.reduceSub, reduceCtorEq, Nat.reduceBEq, Int.reduceToNat, Int.reducePow, if_pos, if_neg]; rfl) (by simp (disch := omega) only [go_sem, ↓reduceIte, Nat.reduceEqDiff, Nat.reduceLT, Nat.reduceLeDiff, Nat.reduceAdd, Nat.reduceMul, Nat.reduceSub, reduceCtorEq, Nat.reduceBEq, Int.reduceToNat, Int.reducePow, if_pos, if_neg]; rfl) rfl
    | true =>
      have ep : readP l = (sgn (isM l) (numOf (unM l)), 0) := by unfold readP; rw [if_neg h1, h2, if_pos rfl]
      rw [ep]
      rw [h2] at c2
      have hD := canB_digs h2
      have hDl : (unM l).length ≤ 2000 := by omega
      clear h2 ep
      have cv := fun z hz hm => value_i (isM l) z hz hm
      generalize isM l = neg at *
      generalize unM l = D at *
      unfold rdT
      refine Spec.run Tryd.func7 rfl Tryd.ntmps7 (by simp) (by simp (disch := omega) only [go_sem, ↓reduceIte, Nat.reduceEqDiff, Nat.reduceLT, Nat.reduceLeDiff, Nat.reduceAdd, Nat.reduceMul, Nat.reduceSub, reduceCtorEq, Nat.reduceBEq, Int.reduceToNat, Int.reducePow, if_pos, if_neg]; rfl) fun B hB => ?_
      (repeat (first | refine DO.nil (by kernel_rfl) ?_ | (with_reducible refine oz (by constructor <;> decide) ?_) | ((first | apply SO.call | apply DO.call); (iterate 3 (focus (simp (disch := omega) only [go_sem, ↓reduceIte, Nat.reduceEqDiff, Nat.reduceLT, Nat.reduceLeDiff, Nat.reduceAdd, Nat.reduceMul, Nat.reduceSub, reduceCtorEq, Nat.reduceBEq, Int.reduceToNat, Int.reducePow, if_pos, if_neg, e1, q1, Bool.not_true] <;> rfl))); (first | apply SCall.ofX | apply DCall.ofX); (focus (first | assumption)); (focus (simp (disch := omega) only [go_sem, ↓reduceIte, Nat.reduceEqDiff, Nat.reduceLT, Nat.reduceLeDiff, Nat.reduceAdd, Nat.reduceMul, Nat.reduceSub, reduceCtorEq, Nat.reduceBEq, Int.reduceToNat, Int.reducePow, if_pos, if_neg, e1, q1, Bool.not_true] <;> rfl))) | ((with_reducible first | apply SC.condB | apply SC.region | apply SO.run | apply DO.run); (focus (simp (disch := omega) only [go_sem, ↓reduceIte, Nat.reduceEqDiff, Nat.reduceLT, Nat.reduceLeDiff, Nat.reduceAdd, Nat.reduceMul, Nat.reduceSub, reduceCtorEq, Nat.reduceBEq, Int.reduceToNat, Int.reducePow, if_pos, if_neg, e1, q1, Bool.not_true] <;> rfl)); (first | refine pickT ?_ | refine pickF ?_ | fail_if_success with_reducible refine pickA ?_)) | ((with_reducible refine SC.draw Tab.mixed ?_ ?_); (focus (first | rfl | simp (disch := omega) only [go_sem, ↓reduceIte, Nat.reduceEqDiff, Nat.reduceLT, Nat.reduceLeDiff, Nat.reduceAdd, Nat.reduceMul, Nat.reduceSub, reduceCtorEq, Nat.reduceBEq, Int.reduceToNat, Int.reducePow, if_pos, if_neg, e1, q1, Bool.not_true]))) | (with_reducible apply SC.ops)))
      refine SC.loop (fun x : Nat × List Nat => ⟨[(3, .sc (.int .i64 0)), (4, .sc (.string (st (D.drop x.1)))), (5, .sc (.bool neg)), (6, .sl 1 0 x.2.length 1 none), (2, .pt 0 0)], [(1, ⟨46, lv x.2, false⟩), (0, ⟨27, [.sc (.bool false), .sc (.slice none 0 0)], false⟩)], 2, 82⟩)
        (fun x => x.1 ≤ D.length ∧ limbs x.2 ∧ x.2.length ≤ x.1 ∧ val x.2 = numOf (D.take x.1)) (fun x => D.length - x.1) (0, []) ?_ ?_ ?_
      · (refine Le.of [1] hB (by first | exact ⟨Nat.zero_le _, fun _ _ => Nat.zero_le _⟩ | (constructor <;> (try simp) <;> (try omega))) ?_ ?_ <;> (repeat' (first | exact leSl_nil | exact leHp_nil | refine leSl_cons (by simp (disch := omega) only [go_sem, ↓reduceIte, Nat.reduceEqDiff, Nat.reduceLT, Nat.reduceLeDiff, Nat.reduceAdd, Nat.reduceMul, Nat.reduceSub, reduceCtorEq, Nat.reduceBEq, Int.reduceToNat, Int.reducePow, if_pos, if_neg]; rfl) ?_ ?_ | refine leHp_cons (by simp (disch := omega) only [go_sem, ↓reduceIte, Nat.reduceEqDiff, Nat.reduceLT, Nat.reduceLeDiff, Nat.reduceAdd, Nat.reduceMul, Nat.reduceSub, reduceCtorEq, Nat.reduceBEq, Int.reduceToNat, Int.reducePow, if_pos, if_neg]; rfl) ?_ ?_ | exact VLe.junk _ | exact VLe.refl rfl | exact VLe.nil_sl _ _ _ | exact VLe.int (by first | rfl | omega | (dsimp only; omega)) | exact VLe.bool rfl | exact VLe.sl rfl (by first | rfl | omega | (dsimp only; omega) | (simp; done)) | exact VLe.cap rfl (by first | rfl | omega | (dsimp only; omega) | (simp; done)) | exact VLe.im rfl rfl | exact HLe.new rfl | exact HLe.same rfl (LLe.refl rfl) | refine HLe.same rfl ?_ | exact LLe.nil _ | exact LLe.refl rfl | refine LLe.cons ?_ ?_)))
      · exact ⟨Nat.zero_le _, by intro x hx; simp at hx, Nat.le_refl _, rfl⟩
      · rintro ⟨k, M⟩ ⟨hk, hM, hMl, hv⟩ K hK
        simp only at hk hM hMl hv ⊢
        have e2 := st_size (D.drop k)
        have hel : (D.drop k).length = D.length - k := List.length_drop
        by_cases hend : k < D.length
        · have q2 := decide_eq_true (p := (0 : Int) < ((D.drop k).length : Int)) (by omega)
          have hE := digs_drop hD k
          have hnn : min 9 (D.length - k) = min 9 (D.length - k) := rfl
          have hn1 : min 9 (D.length - k) ≤ 9 := by omega
          have hn2 : min 9 (D.length - k) ≤ D.length - k := by omega
          have hn3 : 1 ≤ min 9 (D.length - k) := by omega
          have hnt := numOf_take (D := D) (k := k) (n := min 9 (D.length - k)) (by omega)
          have hdd : (D.drop k).drop (min 9 (D.length - k)) = D.drop (k + min 9 (D.length - k)) := by rw [List.drop_drop]
          have hct := numOf_lt (digs_take hE (min 9 (D.length - k)))
          rw [List.length_take, Nat.min_eq_left (show min 9 (D.length - k) ≤ (D.drop k).length by omega)] at hct
          have qn : (if ((D.drop k).length : Int) < 9 then ((D.drop k).length : Int) else 9) = ((min 9 (D.length - k) : Nat) : Int) := by split <;> omega
          have hs9 : ∀ i, i ≤ 9 → 10 ^ i ≤ 10 ^ 9 := fun i hi => Nat.pow_le_pow_right (by omega) hi
          rw [← hel] at hn2
          generalize min 9 (D.length - k) = n at *
          generalize D.drop k = E at *
          (repeat (first | refine DO.nil (by kernel_rfl) ?_ | (with_reducible refine oz (by constructor <;> decide) ?_) | ((first | apply SO.call | apply DO.call); (iterate 3 (focus (simp (disch := omega) only [go_sem, ↓reduceIte, Nat.reduceEqDiff, Nat.reduceLT, Nat.reduceLeDiff, Nat.reduceAdd, Nat.reduceMul, Nat.reduceSub, reduceCtorEq, Nat.reduceBEq, Int.reduceToNat, Int.reducePow, if_pos, if_neg, e2, q2, qn] <;> rfl))); (first | apply SCall.ofX | apply DCall.ofX); (focus (first | assumption)); (focus (simp (disch := omega) only [go_sem, ↓reduceIte, Nat.reduceEqDiff, Nat.reduceLT, Nat.reduceLeDiff, Nat.reduceAdd, Nat.reduceMul, Nat.reduceSub, reduceCtorEq, Nat.reduceBEq, Int.reduceToNat, Int.reducePow, if_pos, if_neg, e2, q2, qn] <;> rfl))) | ((with_reducible first | apply SC.condB | apply SC.region | apply SO.run | apply DO.run); (focus (simp (disch := omega) only [go_sem, ↓reduceIte, Nat.reduceEqDiff, Nat.reduceLT, Nat.reduceLeDiff, Nat.reduceAdd, Nat.reduceMul, Nat.reduceSub, reduceCtorEq, Nat.reduceBEq, Int.reduceToNat, Int.reducePow, if_pos, if_neg, e2, q2, qn] <;> rfl)); (first | refine pickT ?_ | refine pickF ?_ | fail_if_success with_reducible refine pickA ?_)) | ((with_reducible refine SC.draw Tab.mixed ?_ ?_); (focus (first | rfl | simp (disch := omega) only [go_sem, ↓reduceIte, Nat.reduceEqDiff, Nat.reduceLT, Nat.reduceLeDiff, Nat.reduceAdd, Nat.reduceMul, Nat.reduceSub, reduceCtorEq, Nat.reduceBEq, Int.reduceToNat, Int.reducePow, if_pos, if_neg, e2, q2, qn]))) | (with_reducible apply SC.ops)))
          refine SC.loop (fun i : Nat => ⟨[(33, .sc (.int .i64 i)), (32, .sc (.int .i64 n)), (8, .sc (.int .u64 (10 ^ i : Nat))), (9, .sc (.int .u64 (numOf (E.take i) : Nat))), (7, .sc (.int .i64 n)), (3, .sc (.int .i64 0)), (4, .sc (.string (st E))), (5, .sc (.bool neg)), (6, .sl 1 0 M.length 1 none), (2, .pt 0 0)], [(1, ⟨46, lv M, false⟩), (0, ⟨27, [.sc (.bool false), .sc (.slice none 0 0)], false⟩)], 2, 82⟩)
            (fun i => i ≤ n) (fun i => n - i) 0 ?_ ?_ ?_
          · (refine Le.of [] hB (by first | exact ⟨Nat.zero_le _, fun _ _ => Nat.zero_le _⟩ | (constructor <;> (try simp) <;> (try omega))) ?_ ?_ <;> (repeat' (first | exact leSl_nil | exact leHp_nil | refine leSl_cons (by simp (disch := omega) only [go_sem, ↓reduceIte, Nat.reduceEqDiff, Nat.reduceLT, Nat.reduceLeDiff, Nat.reduceAdd, Nat.reduceMul, Nat.reduceSub, reduceCtorEq, Nat.reduceBEq, Int.reduceToNat, Int.reducePow, if_pos, if_neg]; rfl) ?_ ?_ | refine leHp_cons (by simp (disch := omega) only [go_sem, ↓reduceIte, Nat.reduceEqDiff, Nat.reduceLT, Nat.reduceLeDiff, Nat.reduceAdd, Nat.reduceMul, Nat.reduceSub, reduceCtorEq, Nat.reduceBEq, Int.reduceToNat, Int.reducePow, if_pos, if_neg]; rfl) ?_ ?_ | exact VLe.junk _ | exact VLe.refl rfl | exact VLe.nil_sl _ _ _ | exact VLe.int (by first | rfl | omega | (dsimp only; omega)) | exact VLe.bool rfl | exact VLe.sl rfl (by first | rfl | omega | (dsimp only; omega) | (simp; done)) | exact VLe.cap rfl (by first | rfl | omega | (dsimp only; omega) | (simp; done)) | exact VLe.im rfl rfl | exact HLe.new rfl | exact HLe.same rfl (LLe.refl rfl) | refine HLe.same rfl ?_ | exact LLe.nil _ | exact LLe.refl rfl | refine LLe.cons ?_ ?_)))
            exact LLe.lv rfl
          · exact Nat.zero_le _
          · rintro i hi K' hK'
            by_cases hin : i < n
            · have q3 := decide_eq_true (p := (i : Int) < (n : Int)) (by omega)
              have hp := hs9 i (by omega)
              have hp8 : 10 ^ i ≤ 10 ^ 8 := Nat.pow_le_pow_right (by omega) (by omega)
              have g1 := strIx_st (digs_lt hE) (i := i) (by omega)
              have hx : 48 ≤ E.getD i 0 ∧ E.getD i 0 ≤ 57 := by
                rw [List.getD_eq_getElem?_getD, List.getElem?_eq_getElem (by omega)]; exact hE _ (List.getElem_mem _)
              have hc := numOf_lt (digs_take hE i)
              rw [List.length_take, Nat.min_eq_left (by omega)] at hc
              have hst := numOf_take1 (D := E) (i := i) (by omega)
              have hpp : 10 ^ (i + 1) = 10 ^ i * 10 := Nat.pow_succ _ _
              (repeat (first | refine DO.nil (by kernel_rfl) ?_ | (with_reducible refine oz (by constructor <;> decide) ?_) | ((first | apply SO.call | apply DO.call); (iterate 3 (focus (simp (disch := omega) only [go_sem, ↓reduceIte, Nat.reduceEqDiff, Nat.reduceLT, Nat.reduceLeDiff, Nat.reduceAdd, Nat.reduceMul, Nat.reduceSub, reduceCtorEq, Nat.reduceBEq, Int.reduceToNat, Int.reducePow, if_pos, if_neg, q3, g1] <;> rfl))); (first | apply SCall.ofX | apply DCall.ofX); (focus (first | assumption)); (focus (simp (disch := omega) only [go_sem, ↓reduceIte, Nat.reduceEqDiff, Nat.reduceLT, Nat.reduceLeDiff, Nat.reduceAdd, Nat.reduceMul, Nat.reduceSub, reduceCtorEq, Nat.reduceBEq, Int.reduceToNat, Int.reducePow, if_pos, if_neg, q3, g1] <;> rfl))) | ((with_reducible first | apply SC.condB | apply SC.region | apply SO.run | apply DO.run); (focus (simp (disch := omega) only [go_sem, ↓reduceIte, Nat.reduceEqDiff, Nat.reduceLT, Nat.reduceLeDiff, Nat.reduceAdd, Nat.reduceMul, Nat.reduceSub, reduceCtorEq, Nat.reduceBEq, Int.reduceToNat, Int.reducePow, if_pos, if_neg, q3, g1] <;> rfl)); (first | refine pickT ?_ | refine pickF ?_ | fail_if_success with_reducible refine pickA ?_)) | ((with_reducible refine SC.draw Tab.mixed ?_ ?_); (focus (first | rfl | simp (disch := omega) only [go_sem, ↓reduceIte, Nat.reduceEqDiff, Nat.reduceLT, Nat.reduceLeDiff, Nat.reduceAdd, Nat.reduceMul, Nat.reduceSub, reduceCtorEq, Nat.reduceBEq, Int.reduceToNat, Int.reducePow, if_pos, if_neg, q3, g1]))) | (with_reducible apply SC.ops)))
              refine hK' _ (i + 1) ?_ (by omega) (by omega)
              generalize E.getD i 0 = x at *
              generalize 10 ^ (i + 1) = p' at *
              generalize 10 ^ i = p at *
              generalize numOf (E.take (i + 1)) = c' at *
              generalize numOf (E.take i) = c at *
              (refine Le.of [] hB (by first | exact ⟨Nat.zero_le _, fun _ _ => Nat.zero_le _⟩ | (constructor <;> (try simp) <;> (try omega))) ?_ ?_ <;> (repeat' (first | exact leSl_nil | exact leHp_nil | refine leSl_cons (by simp (disch := omega) only [go_sem, ↓reduceIte, Nat.reduceEqDiff, Nat.reduceLT, Nat.reduceLeDiff, Nat.reduceAdd, Nat.reduceMul, Nat.reduceSub, reduceCtorEq, Nat.reduceBEq, Int.reduceToNat, Int.reducePow, if_pos, if_neg]; rfl) ?_ ?_ | refine leHp_cons (by simp (disch := omega) only [go_sem, ↓reduceIte, Nat.reduceEqDiff, Nat.reduceLT, Nat.reduceLeDiff, Nat.reduceAdd, Nat.reduceMul, Nat.reduceSub, reduceCtorEq, Nat.reduceBEq, Int.reduceToNat, Int.reducePow, if_pos, if_neg]; rfl) ?_ ?_ | exact VLe.junk _ | exact VLe.refl rfl | exact VLe.nil_sl _ _ _ | exact VLe.int (by first | rfl | omega | (dsimp only; omega)) | exact VLe.bool rfl | exact VLe.sl rfl (by first | rfl | omega | (dsimp only; omega) | (simp; done)) | exact VLe.cap rfl (by first | rfl | omega | (dsimp only; omega) | (simp; done)) | exact VLe.im rfl rfl | exact HLe.new rfl | exact HLe.same rfl (LLe.refl rfl) | refine HLe.same rfl ?_ | exact LLe.nil _ | exact LLe.refl rfl | refine LLe.cons ?_ ?_)))
              exact LLe.lv rfl
            · have q3 := decide_eq_false (p := (i : Int) < (n : Int)) (by omega)
              have hin : i = n := by omega
              subst hin
              (repeat (first | refine DO.nil (by kernel_rfl) ?_ | (with_reducible refine oz (by constructor <;> decide) ?_) | ((first | apply SO.call | apply DO.call); (iterate 3 (focus (simp (disch := omega) only [go_sem, ↓reduceIte, Nat.reduceEqDiff, Nat.reduceLT, Nat.reduceLeDiff, Nat.reduceAdd, Nat.reduceMul, Nat.reduceSub, reduceCtorEq, Nat.reduceBEq, Int.reduceToNat, Int.reducePow, if_pos, if_neg, q3, lv_len] <;> rfl))); (first | apply SCall.ofX | apply DCall.ofX); (focus (first | assumption)); (focus (simp (disch := omega) only [go_sem, ↓reduceIte, Nat.reduceEqDiff, Nat.reduceLT, Nat.reduceLeDiff, Nat.reduceAdd, Nat.reduceMul, Nat.reduceSub, reduceCtorEq, Nat.reduceBEq, Int.reduceToNat, Int.reducePow, if_pos, if_neg, q3, lv_len] <;> rfl))) | ((with_reducible first | apply SC.condB | apply SC.region | apply SO.run | apply DO.run); (focus (simp (disch := omega) only [go_sem, ↓reduceIte, Nat.reduceEqDiff, Nat.reduceLT, Nat.reduceLeDiff, Nat.reduceAdd, Nat.reduceMul, Nat.reduceSub, reduceCtorEq, Nat.reduceBEq, Int.reduceToNat, Int.reducePow, if_pos, if_neg, q3, lv_len] <;> rfl)); (first | refine pickT ?_ | refine pickF ?_ | fail_if_success with_reducible refine pickA ?_)) | ((with_reducible refine SC.draw Tab.mixed ?_ ?_); (focus (first | rfl | simp (disch := omega) only [go_sem, ↓reduceIte, Nat.reduceEqDiff, Nat.reduceLT, Nat.reduceLeDiff, Nat.reduceAdd, Nat.reduceMul, Nat.reduceSub, reduceCtorEq, Nat.reduceBEq, Int.reduceToNat, Int.reducePow, if_pos, if_neg, q3, lv_len]))) | (with_reducible apply SC.ops)))
              have hi9 := hs9 i (by omega)
              have hsc : ((10 ^ i : Nat) : Int) = ((10 ^ i : Nat) : Int) := rfl
              have hpos : 0 < 10 ^ i := Nat.pow_pos (by omega)
              generalize numOf (E.take i) = c0 at *
              generalize 10 ^ i = s at *
              refine SC.loop (fun x : Nat × Nat × List Nat => ⟨[(49, .sc (.int .i64 x.1)), (48, .sc (.int .i64 M.length)), (8, .sc (.int .u64 s)), (9, .sc (.int .u64 x.2.1)), (7, .sc (.int .i64 i)), (3, .sc (.int .i64 0)), (4, .sc (.string (st E))), (5, .sc (.bool neg)), (6, .sl 1 0 M.length 1 none), (2, .pt 0 0)], [(1, ⟨46, lv x.2.2, false⟩), (0, ⟨27, [.sc (.bool false), .sc (.slice none 0 0)], false⟩)], 2, 82⟩)
                (fun x => x.1 ≤ M.length ∧ maI M s c0 x.1 x.2.1 x.2.2) (fun x => M.length - x.1) (0, c0, M) ?_ ?_ ?_
              · (refine Le.of [] hB (by first | exact ⟨Nat.zero_le _, fun _ _ => Nat.zero_le _⟩ | (constructor <;> (try simp) <;> (try omega))) ?_ ?_ <;> (repeat' (first | exact leSl_nil | exact leHp_nil | refine leSl_cons (by simp (disch := omega) only [go_sem, ↓reduceIte, Nat.reduceEqDiff, Nat.reduceLT, Nat.reduceLeDiff, Nat.reduceAdd, Nat.reduceMul, Nat.reduceSub, reduceCtorEq, Nat.reduceBEq, Int.reduceToNat, Int.reducePow, if_pos, if_neg]; rfl) ?_ ?_ | refine leHp_cons (by simp (disch := omega) only [go_sem, ↓reduceIte, Nat.reduceEqDiff, Nat.reduceLT, Nat.reduceLeDiff, Nat.reduceAdd, Nat.reduceMul, Nat.reduceSub, reduceCtorEq, Nat.reduceBEq, Int.reduceToNat, Int.reducePow, if_pos, if_neg]; rfl) ?_ ?_ | exact VLe.junk _ | exact VLe.refl rfl | exact VLe.nil_sl _ _ _ | exact VLe.int (by first | rfl | omega | (dsimp only; omega)) | exact VLe.bool rfl | exact VLe.sl rfl (by first | rfl | omega | (dsimp only; omega) | (simp; done)) | exact VLe.cap rfl (by first | rfl | omega | (dsimp only; omega) | (simp; done)) | exact VLe.im rfl rfl | exact HLe.new rfl | exact HLe.same rfl (LLe.refl rfl) | refine HLe.same rfl ?_ | exact LLe.nil _ | exact LLe.refl rfl | refine LLe.cons ?_ ?_)))
                exact LLe.lv rfl
              · exact ⟨Nat.zero_le _, maI.start hM hct⟩
              · rintro ⟨j, c, z⟩ ⟨hj, hI⟩ K2 hK2
                simp only at hj hI ⊢
                have hzl := hI.1
                have hcs := hI.2.2.1
                by_cases hjm : j < M.length
                · have q4 := decide_eq_true (p := (j : Int) < (M.length : Int)) (by omega)
                  have gz := lv_get (l := z) (i := j) (by omega)
                  have hst := hI.step hjm rfl
                  have lz := limbs_getD hI.2.1 j
                  generalize z.getD j 0 = x at *
                  have hp : x * s ≤ 4294967295 * 1000000000 := Nat.mul_le_mul (by omega) (by omega)
                  have hm : (x : Int) * (s : Int) = ((x * s : Nat) : Int) := by simp
                  generalize x * s = pr at *
                  have mm : ((c : Int) + (pr : Int)) % 4294967296 = (((c + pr) % 4294967296 : Nat) : Int) := by omega
                  have md : ((c : Int) + (pr : Int)) / 4294967296 = (((c + pr) / 4294967296 : Nat) : Int) := by omega
                  have bm : (c + pr) / 4294967296 < 18446744073709551616 := by omega
                  (repeat (first | refine DO.nil (by kernel_rfl) ?_ | (with_reducible refine oz (by constructor <;> decide) ?_) | ((first | apply SO.call | apply DO.call); (iterate 3 (focus (simp (disch := omega) only [go_sem, ↓reduceIte, Nat.reduceEqDiff, Nat.reduceLT, Nat.reduceLeDiff, Nat.reduceAdd, Nat.reduceMul, Nat.reduceSub, reduceCtorEq, Nat.reduceBEq, Int.reduceToNat, Int.reducePow, if_pos, if_neg, q4, gz, hm, lv_len, hzl] <;> rfl))); (first | apply SCall.ofX | apply DCall.ofX); (focus (first | assumption)); (focus (simp (disch := omega) only [go_sem, ↓reduceIte, Nat.reduceEqDiff, Nat.reduceLT, Nat.reduceLeDiff, Nat.reduceAdd, Nat.reduceMul, Nat.reduceSub, reduceCtorEq, Nat.reduceBEq, Int.reduceToNat, Int.reducePow, if_pos, if_neg, q4, gz, hm, lv_len, hzl] <;> rfl))) | ((with_reducible first | apply SC.condB | apply SC.region | apply SO.run | apply DO.run); (focus (simp (disch := omega) only [go_sem, ↓reduceIte, Nat.reduceEqDiff, Nat.reduceLT, Nat.reduceLeDiff, Nat.reduceAdd, Nat.reduceMul, Nat.reduceSub, reduceCtorEq, Nat.reduceBEq, Int.reduceToNat, Int.reducePow, if_pos, if_neg, q4, gz, hm, lv_len, hzl] <;> rfl)); (first | refine pickT ?_ | refine pickF ?_ | fail_if_success with_reducible refine pickA ?_)) | ((with_reducible refine SC.draw Tab.mixed ?_ ?_); (focus (first | rfl | simp (disch := omega) only [go_sem, ↓reduceIte, Nat.reduceEqDiff, Nat.reduceLT, Nat.reduceLeDiff, Nat.reduceAdd, Nat.reduceMul, Nat.reduceSub, reduceCtorEq, Nat.reduceBEq, Int.reduceToNat, Int.reducePow, if_pos, if_neg, q4, gz, hm, lv_len, hzl]))) | (with_reducible apply SC.ops)))
                  refine hK2 _ (j + 1, (c + pr) / 4294967296, z.set j ((c + pr) % 4294967296)) ?_ ⟨by simp only; omega, hst⟩ (by simp only; omega)
                  (refine Le.of [] hB (by first | exact ⟨Nat.zero_le _, fun _ _ => Nat.zero_le _⟩ | (constructor <;> (try simp) <;> (try omega))) ?_ ?_ <;> (repeat' (first | exact leSl_nil | exact leHp_nil | refine leSl_cons (by simp (disch := omega) only [go_sem, ↓reduceIte, Nat.reduceEqDiff, Nat.reduceLT, Nat.reduceLeDiff, Nat.reduceAdd, Nat.reduceMul, Nat.reduceSub, reduceCtorEq, Nat.reduceBEq, Int.reduceToNat, Int.reducePow, if_pos, if_neg]; rfl) ?_ ?_ | refine leHp_cons (by simp (disch := omega) only [go_sem, ↓reduceIte, Nat.reduceEqDiff, Nat.reduceLT, Nat.reduceLeDiff, Nat.reduceAdd, Nat.reduceMul, Nat.reduceSub, reduceCtorEq, Nat.reduceBEq, Int.reduceToNat, Int.reducePow, if_pos, if_neg]; rfl) ?_ ?_ | exact VLe.junk _ | exact VLe.refl rfl | exact VLe.nil_sl _ _ _ | exact VLe.int (by first | rfl | omega | (dsimp only; omega)) | exact VLe.bool rfl | exact VLe.sl rfl (by first | rfl | omega | (dsimp only; omega) | (simp; done)) | exact VLe.cap rfl (by first | rfl | omega | (dsimp only; omega) | (simp; done)) | exact VLe.im rfl rfl | exact HLe.new rfl | exact HLe.same rfl (LLe.refl rfl) | refine HLe.same rfl ?_ | exact LLe.nil _ | exact LLe.refl rfl | refine LLe.cons ?_ ?_)))
                  exact LLe.lv (lv_set mm)
                · have q4 := decide_eq_false (p := (j : Int) < (M.length : Int)) (by omega)
                  have hjm : j = M.length := by omega
                  subst hjm
                  have e3 : strSl (st E) (i : Int) (E.length : Int) = some (.sc (.string (st (E.drop i)))) := by
                    rw [strSl_st (by omega) (Nat.le_refl _), List.take_of_length_le (by simp)]
                  by_cases hc0 : c = 0
                  · subst hc0
                    have q5 : decide ((0 : Int) < ((0 : Nat) : Int)) = false := by simp
                    obtain ⟨hz1, hz2⟩ := hI.end0
                    (repeat (first | refine DO.nil (by kernel_rfl) ?_ | (with_reducible refine oz (by constructor <;> decide) ?_) | ((first | apply SO.call | apply DO.call); (iterate 3 (focus (simp (disch := omega) only [go_sem, ↓reduceIte, Nat.reduceEqDiff, Nat.reduceLT, Nat.reduceLeDiff, Nat.reduceAdd, Nat.reduceMul, Nat.reduceSub, reduceCtorEq, Nat.reduceBEq, Int.reduceToNat, Int.reducePow, if_pos, if_neg, q4, q5, e2, e3] <;> rfl))); (first | apply SCall.ofX | apply DCall.ofX); (focus (first | assumption)); (focus (simp (disch := omega) only [go_sem, ↓reduceIte, Nat.reduceEqDiff, Nat.reduceLT, Nat.reduceLeDiff, Nat.reduceAdd, Nat.reduceMul, Nat.reduceSub, reduceCtorEq, Nat.reduceBEq, Int.reduceToNat, Int.reducePow, if_pos, if_neg, q4, q5, e2, e3] <;> rfl))) | ((with_reducible first | apply SC.condB | apply SC.region | apply SO.run | apply DO.run); (focus (simp (disch := omega) only [go_sem, ↓reduceIte, Nat.reduceEqDiff, Nat.reduceLT, Nat.reduceLeDiff, Nat.reduceAdd, Nat.reduceMul, Nat.reduceSub, reduceCtorEq, Nat.reduceBEq, Int.reduceToNat, Int.reducePow, if_pos, if_neg, q4, q5, e2, e3] <;> rfl)); (first | refine pickT ?_ | refine pickF ?_ | fail_if_success with_reducible refine pickA ?_)) | ((with_reducible refine SC.draw Tab.mixed ?_ ?_); (focus (first | rfl | simp (disch := omega) only [go_sem, ↓reduceIte, Nat.reduceEqDiff, Nat.reduceLT, Nat.reduceLeDiff, Nat.reduceAdd, Nat.reduceMul, Nat.reduceSub, reduceCtorEq, Nat.reduceBEq, Int.reduceToNat, Int.reducePow, if_pos, if_neg, q4, q5, e2, e3]))) | (with_reducible apply SC.ops)))
                    refine hK _ (k + i, z) ?_ ⟨by simp only; omega, hz1, by simp only; omega, by simp only; rw [hz2, hnt, hv, Nat.mul_comm, Nat.add_comm]⟩ (by simp only; omega)
                    (refine Le.of [] hB (by first | exact ⟨Nat.zero_le _, fun _ _ => Nat.zero_le _⟩ | (constructor <;> (try simp) <;> (try omega))) ?_ ?_ <;> (repeat' (first | exact leSl_nil | exact leHp_nil | refine leSl_cons (by simp (disch := omega) only [go_sem, ↓reduceIte, Nat.reduceEqDiff, Nat.reduceLT, Nat.reduceLeDiff, Nat.reduceAdd, Nat.reduceMul, Nat.reduceSub, reduceCtorEq, Nat.reduceBEq, Int.reduceToNat, Int.reducePow, if_pos, if_neg]; rfl) ?_ ?_ | refine leHp_cons (by simp (disch := omega) only [go_sem, ↓reduceIte, Nat.reduceEqDiff, Nat.reduceLT, Nat.reduceLeDiff, Nat.reduceAdd, Nat.reduceMul, Nat.reduceSub, reduceCtorEq, Nat.reduceBEq, Int.reduceToNat, Int.reducePow, if_pos, if_neg]; rfl) ?_ ?_ | exact VLe.junk _ | exact VLe.refl rfl | exact VLe.nil_sl _ _ _ | exact VLe.int (by first | rfl | omega | (dsimp only; omega)) | exact VLe.bool rfl | exact VLe.sl rfl (by first | rfl | omega | (dsimp only; omega) | (simp; done)) | exact VLe.cap rfl (by first | rfl | omega | (dsimp only; omega) | (simp; done)) | exact VLe.im rfl rfl | exact HLe.new rfl | exact HLe.same rfl (LLe.refl rfl) | refine HLe.same rfl ?_ | exact LLe.nil _ | exact LLe.refl rfl | refine LLe.cons ?_ ?_)))
                    · rw [hdd]; exact VLe.refl rfl
                    · exact LLe.lv rfl
                  · have q5 := decide_eq_true (p := (0 : Int) < (c : Int)) (by omega)
                    obtain ⟨hz1, hz2⟩ := hI.endS (by omega)
                    have hcm : (c : Int) % 4294967296 = (c : Int) := by omega
                    (repeat (first | refine DO.nil (by kernel_rfl) ?_ | (with_reducible refine oz (by constructor <;> decide) ?_) | ((first | apply SO.call | apply DO.call); (iterate 3 (focus (simp (disch := omega) only [go_sem, ↓reduceIte, Nat.reduceEqDiff, Nat.reduceLT, Nat.reduceLeDiff, Nat.reduceAdd, Nat.reduceMul, Nat.reduceSub, reduceCtorEq, Nat.reduceBEq, Int.reduceToNat, Int.reducePow, if_pos, if_neg, q4, q5, e2, e3, hcm, lv_len, lv_take, hzl, lv_all] <;> rfl))); (first | apply SCall.ofX | apply DCall.ofX); (focus (first | assumption)); (focus (simp (disch := omega) only [go_sem, ↓reduceIte, Nat.reduceEqDiff, Nat.reduceLT, Nat.reduceLeDiff, Nat.reduceAdd, Nat.reduceMul, Nat.reduceSub, reduceCtorEq, Nat.reduceBEq, Int.reduceToNat, Int.reducePow, if_pos, if_neg, q4, q5, e2, e3, hcm, lv_len, lv_take, hzl, lv_all] <;> rfl))) | ((with_reducible first | apply SC.condB | apply SC.region | apply SO.run | apply DO.run); (focus (simp (disch := omega) only [go_sem, ↓reduceIte, Nat.reduceEqDiff, Nat.reduceLT, Nat.reduceLeDiff, Nat.reduceAdd, Nat.reduceMul, Nat.reduceSub, reduceCtorEq, Nat.reduceBEq, Int.reduceToNat, Int.reducePow, if_pos, if_neg, q4, q5, e2, e3, hcm, lv_len, lv_take, hzl, lv_all] <;> rfl)); (first | refine pickT ?_ | refine pickF ?_ | fail_if_success with_reducible refine pickA ?_)) | ((with_reducible refine SC.draw Tab.mixed ?_ ?_); (focus (first | rfl | simp (disch := omega) only [go_sem, ↓reduceIte, Nat.reduceEqDiff, Nat.reduceLT, Nat.reduceLeDiff, Nat.reduceAdd, Nat.reduceMul, Nat.reduceSub, reduceCtorEq, Nat.reduceBEq, Int.reduceToNat, Int.reducePow, if_pos, if_neg, q4, q5, e2, e3, hcm, lv_len, lv_take, hzl, lv_all]))) | (with_reducible apply SC.ops)))
                    rw [← hzl]
                    refine hK _ (k + i, z ++ [c]) (Le.swap 1 3 hB (by omega) (by omega) ?_) ⟨by simp only; omega, hz1, by simp only [List.length_append, List.length_singleton]; omega, by simp only; rw [hz2, hnt, hv, Nat.mul_comm, Nat.add_comm]⟩ (by simp only; omega)
                    (refine Le.of [] hB (by first | exact ⟨Nat.zero_le _, fun _ _ => Nat.zero_le _⟩ | (constructor <;> (try simp) <;> (try omega))) ?_ ?_ <;> (repeat' (first | exact leSl_nil | exact leHp_nil | refine leSl_cons (by simp (disch := omega) only [go_sem, ↓reduceIte, Nat.reduceEqDiff, Nat.reduceLT, Nat.reduceLeDiff, Nat.reduceAdd, Nat.reduceMul, Nat.reduceSub, reduceCtorEq, Nat.reduceBEq, Int.reduceToNat, Int.reducePow, if_pos, if_neg]; rfl) ?_ ?_ | refine leHp_cons (by simp (disch := omega) only [go_sem, ↓reduceIte, Nat.reduceEqDiff, Nat.reduceLT, Nat.reduceLeDiff, Nat.reduceAdd, Nat.reduceMul, Nat.reduceSub, reduceCtorEq, Nat.reduceBEq, Int.reduceToNat, Int.reducePow, if_pos, if_neg]; rfl) ?_ ?_ | exact VLe.junk _ | exact VLe.refl rfl | exact VLe.nil_sl _ _ _ | exact VLe.int (by first | rfl | omega | (dsimp only; omega)) | exact VLe.bool rfl | exact VLe.sl rfl (by first | rfl | omega | (dsimp only; omega) | (simp; done)) | exact VLe.cap rfl (by first | rfl | omega | (dsimp only; omega) | (simp; done)) | exact VLe.im rfl rfl | exact HLe.new rfl | exact HLe.same rfl (LLe.refl rfl) | refine HLe.same rfl ?_ | exact LLe.nil _ | exact LLe.refl rfl | refine LLe.cons ?_ ?_)))
                    · rw [hdd]; exact VLe.refl rfl
                    rw [List.take_length]
                    exact LLe.lv (lv_snoc' rfl)
        · have q2 := decide_eq_false (p := (0 : Int) < ((D.drop k).length : Int)) (by omega)
          have c3 := cv M hM (by omega)
          rw [hv, List.take_of_length_le (by omega)] at c3
          unfold iv sv at c3 ⊢
          (repeat (first | refine DO.nil (by kernel_rfl) ?_ | (with_reducible refine oz (by constructor <;> decide) ?_) | ((first | apply SO.call | apply DO.call); (iterate 3 (focus (simp (disch := omega) only [go_sem, ↓reduceIte, Nat.reduceEqDiff, Nat.reduceLT, Nat.reduceLeDiff, Nat.reduceAdd, Nat.reduceMul, Nat.reduceSub, reduceCtorEq, Nat.reduceBEq, Int.reduceToNat, Int.reducePow, if_pos, if_neg, e2, q2, lv_len, lv_take, lv_clo, List.take_length] <;> rfl))); (first | apply SCall.ofX | apply DCall.ofX); (focus (first | assumption)); (focus (simp (disch := omega) only [go_sem, ↓reduceIte, Nat.reduceEqDiff, Nat.reduceLT, Nat.reduceLeDiff, Nat.reduceAdd, Nat.reduceMul, Nat.reduceSub, reduceCtorEq, Nat.reduceBEq, Int.reduceToNat, Int.reducePow, if_pos, if_neg, e2, q2, lv_len, lv_take, lv_clo, List.take_length] <;> rfl))) | ((with_reducible first | apply SC.condB | apply SC.region | apply SO.run | apply DO.run); (focus (simp (disch := omega) only [go_sem, ↓reduceIte, Nat.reduceEqDiff, Nat.reduceLT, Nat.reduceLeDiff, Nat.reduceAdd, Nat.reduceMul, Nat.reduceSub, reduceCtorEq, Nat.reduceBEq, Int.reduceToNat, Int.reducePow, if_pos, if_neg, e2, q2, lv_len, lv_take, lv_clo, List.take_length] <;> rfl)); (first | refine pickT ?_ | refine pickF ?_ | fail_if_success with_reducible refine pickA ?_)) | ((with_reducible refine SC.draw Tab.mixed ?_ ?_); (focus (first | rfl | simp (disch := omega) only [go_sem, ↓reduceIte, Nat.reduceEqDiff, Nat.reduceLT, Nat.reduceLeDiff, Nat.reduceAdd, Nat.reduceMul, Nat.reduceSub, reduceCtorEq, Nat.reduceBEq, Int.reduceToNat, Int.reducePow, if_pos, if_neg, e2, q2, lv_len, lv_take, lv_clo, List.take_length]))) | (with_reducible apply SC.ops)))
          refine retQ_ret Tryd.results7 (by simp (disch := omega) only [go_sem, ↓reduceIte, Nat.reduceEqDiff, Nat.reduceLT, Nat.reduceLeDiff, Nat.reduceAdd, Nat.reduceMul, Nat.reduceSub, reduceCtorEq, Nat.reduceBEq, Int.reduceToNat, Int.reducePow, if_pos, if_neg]; rfl) (by simp (disch := omega) only [go_sem, ↓reduceIte, Nat.reduceEqDiff, Nat.reduceLT, Nat.reduceLeDiff, Nat.reduceAdd, Nat.reduceMul, Nat.reduceSub, reduceCtorEq, Nat.reduceBEq, Int.reduceToNat, Int.reducePow, if_pos, if_neg]; rfl) rfl
end Go.Proofs.YtagidfadibedoaaDoor

/- The reference's Text. -/
namespace Go.Proofs.YtagidfadibedoaaDoor
open Go.RowKit
def TxJ (n m : Nat) (D : List Nat) : Prop := (m = 0 ∧ D ≠ [] ∧ dec n = D) ∨ ((0 < m ∨ D = []) ∧ dec n = dec m ++ D)
theorem TxJ.step {n m : Nat} {D : List Nat} (h : TxJ n m D) (hc : 0 < m ∨ D = []) : TxJ n (m / 10) ((48 + m % 10) :: D) := by
  have h2 : dec n = dec m ++ D := by
    rcases h with ⟨h1, h2, _⟩ | h
    · rcases hc with h | h
      · omega
      · exact absurd h h2
    · exact h.2
  by_cases hm : m < 10
  · rw [dec_lt (n := m) hm] at h2
    exact .inl ⟨by omega, by simp, by rw [h2, Nat.mod_eq_of_lt hm]; rfl⟩
  · rw [dec_ge (n := m) (by omega)] at h2
    exact .inr ⟨.inl (by omega), by rw [h2]; simp⟩
theorem TxJ.done {n m : Nat} {D : List Nat} (h : TxJ n m D) (hc : ¬ (0 < m ∨ D = [])) : dec n = D := by
  rcases h with h | h
  · exact h.2.2
  · exact absurd h.1 hc
theorem TxJ.len {n m : Nat} {D : List Nat} (h : TxJ n m D) : D.length ≤ (dec n).length := by
  rcases h with h | h
  · rw [h.2.2]; exact Nat.le_refl _
  · rw [h.2]; simp
theorem dec_len_10 (n K : Nat) (h : n < 4294967296 ^ K) : (dec n).length ≤ 10 * K + 1 := by
  have h2 : 4294967296 ^ K ≤ 10 ^ (10 * K) := by
    rw [Nat.pow_mul]; exact Nat.pow_le_pow_left (by decide) _
  exact dec_len_le (w := 10 * K) (Nat.lt_of_lt_of_le h (Nat.le_trans h2 (Nat.pow_le_pow_right (by decide) (by omega))))
theorem ivn (m : Nat) : iv (m : Int) = .ag [.sc (.bool false), .im (lv (limbsOf m)) (limbsOf m).length] := by
  unfold iv sv; rw [decide_eq_false (show ¬ (m : Int) < 0 by omega), Int.natAbs_natCast]
theorem smallI_lt (m : Nat) (h : m < 10) : smallI (m : Int) = m := by
  unfold smallI
  rw [Int.natAbs_natCast, if_pos]
  · unfold IntKind.wrap; simp [IntKind.bits, IntKind.signed]; omega
  · have := fits_len' (n := m) (K := 1) (by omega); omega
theorem smallB_lt (m : Nat) (h : m < 10) : smallB (m : Int) = true := by
  unfold smallB; simp; omega
theorem bN_one (l : List Nat) : (bN l).all V.one = true := by
  rw [List.all_eq_true]; intro x hx; unfold bN at hx; obtain ⟨y, _, rfl⟩ := List.mem_map.1 hx; rfl
theorem bN_ok (ok : Nat → Bool) (l : List Nat) : (bN l).all (okL ok) = true := by
  rw [List.all_eq_true]; intro x hx; unfold bN at hx; obtain ⟨y, _, rfl⟩ := List.mem_map.1 hx; rfl
theorem bN_ren (f : Nat → Nat) (l : List Nat) : V.renL f (bN l) = bN l := by
  induction l with
  | nil => rfl
  | cons x l ih => rw [bN_cons, V.renL, ih]; rfl
theorem conv_at (l : List Nat) (H : List (Nat × Blk)) (h : hget H 1 = some ⟨5, bN l, false⟩) : exConvH Tryd.prog H 51 9 (.sl 1 0 l.length 1 none) = some (.sc (.string (st l))) := by
  show bytesH _ _ _ _ _ = _
  unfold bytesH
  have t1 : isStr Tryd.prog 9 = true := by kernel_rfl
  have t2 : isBytes Tryd.prog 51 = true := by kernel_rfl
  rw [if_pos ⟨t1, t2⟩]
  have e : srcV H (.sl 1 0 l.length 1 none) = some (bN l, l.length) := by
    rw [srcV_sl, h, srcG_some, if_pos (by simp), List.drop_zero, List.take_of_length_le (by simp)]
  rw [e]
  simp only [Option.bind_some]
  rw [if_pos (bN_len l), bytesV_bN]; rfl
theorem rtext_s (z : Int) (K : Nat) (hz : Fits K z) (hK : K ≤ 1000) : Spec Tryd.prog 9 [iv z] (.sc (.string (st (txt z)))) := by
  have hl : (limbsOf z.natAbs).length ≤ K := fits_len hz
  have c1 := made_nat z.natAbs (by omega)
  have c2 := of_i 10 (by decide) (by decide)
  have hf10 : Fits 1 (10 : Int) := fits_one (by decide)
  have ht : txt z = (if z < 0 then [45] else []) ++ dec z.natAbs := rfl
  have hnK : z.natAbs < 4294967296 ^ K := hz
  have hdl := dec_len_10 _ _ hnK
  generalize hn : z.natAbs = n at *
  generalize hs : decide (z < 0) = neg at *
  have cS := fun (m : Nat) (h : m ≤ n) => sign_i (m : Int) K (by unfold Fits; rw [Int.natAbs_natCast]; omega) (by omega)
  have cD := fun (m : Nat) (h : m ≤ n) => divmod_i (m : Int) 10 (K + 1) (Fits.mono (K := K) (by unfold Fits; rw [Int.natAbs_natCast]; omega) (by omega)) (hf10.mono (by omega)) (by omega) (by decide)
  have cM := fun (m : Nat) (h : m ≤ n) => small_i ((m % 10 : Nat) : Int) 1 (fits_one (by omega)) (by decide)
  rw [ivn] at c1
  simp only [ivn] at cS cM
  have cD' : ∀ m : Nat, m ≤ n → Spec Tryd.prog 34 [iv (m : Int), iv 10] (.tu [iv ((m / 10 : Nat) : Int), iv ((m % 10 : Nat) : Int), .sc (.int .i64 0)]) := cD
  clear cD
  simp only [ivn] at cD'
  unfold iv sv at *
  rw [hn, hs]
  generalize limbsOf (Int.natAbs 10) = T at *
  generalize decide ((10 : Int) < 0) = bT at *
  refine Spec.run Tryd.func9 rfl Tryd.ntmps9 (by simp) (by simp (disch := omega) only [go_sem, ↓reduceIte, Nat.reduceEqDiff, Nat.reduceLT, Nat.reduceLeDiff, Nat.reduceAdd, Nat.reduceMul, Nat.reduceSub, reduceCtorEq, Nat.reduceBEq, Int.reduceToNat, Int.reducePow, if_pos, if_neg]; rfl) fun B hB => ?_
  (repeat (first | refine DO.nil (by kernel_rfl) ?_ | (with_reducible refine oz (by constructor <;> decide) ?_) | ((first | apply SO.call | apply DO.call); (iterate 3 (focus (simp (disch := omega) only [go_sem, ↓reduceIte, Nat.reduceEqDiff, Nat.reduceLT, Nat.reduceLeDiff, Nat.reduceAdd, Nat.reduceMul, Nat.reduceSub, reduceCtorEq, Nat.reduceBEq, Int.reduceToNat, Int.reducePow, if_pos, if_neg, lv_len] <;> rfl))); (first | apply SCall.ofX | apply DCall.ofX); (focus (first | assumption)); (focus (simp (disch := omega) only [go_sem, ↓reduceIte, Nat.reduceEqDiff, Nat.reduceLT, Nat.reduceLeDiff, Nat.reduceAdd, Nat.reduceMul, Nat.reduceSub, reduceCtorEq, Nat.reduceBEq, Int.reduceToNat, Int.reducePow, if_pos, if_neg, lv_len] <;> rfl))) | ((with_reducible first | apply SC.condB | apply SC.region | apply SO.run | apply DO.run); (focus (simp (disch := omega) only [go_sem, ↓reduceIte, Nat.reduceEqDiff, Nat.reduceLT, Nat.reduceLeDiff, Nat.reduceAdd, Nat.reduceMul, Nat.reduceSub, reduceCtorEq, Nat.reduceBEq, Int.reduceToNat, Int.reducePow, if_pos, if_neg, lv_len] <;> rfl)); (first | refine pickT ?_ | refine pickF ?_ | fail_if_success with_reducible refine pickA ?_)) | ((with_reducible refine SC.draw Tab.mixed ?_ ?_); (focus (first | rfl | simp (disch := omega) only [go_sem, ↓reduceIte, Nat.reduceEqDiff, Nat.reduceLT, Nat.reduceLeDiff, Nat.reduceAdd, Nat.reduceMul, Nat.reduceSub, reduceCtorEq, Nat.reduceBEq, Int.reduceToNat, Int.reducePow, if_pos, if_neg, lv_len]))) | (with_reducible apply SC.ops)))
  refine SC.loop (fun x : Nat × List Nat => ⟨[(3, .sl 1 0 x.2.length 1 none), (5, .pt 3 0), (4, .pt 2 0), (1, .pt 0 0)], [(3, ⟨27, [.sc (.bool bT), .im (lv T) T.length], false⟩), (2, ⟨27, [.sc (.bool false), .im (lv (limbsOf x.1)) (limbsOf x.1).length], false⟩), (1, ⟨5, bN x.2, false⟩), (0, ⟨27, [.sc (.bool neg), .im (lv (limbsOf n)) (limbsOf n).length], false⟩)], 4, 52⟩) (fun x => TxJ n x.1 x.2 ∧ x.1 ≤ n) (fun x => x.1 + (if x.2 = [] then 1 else 0)) (n, []) ?_ ?_ ?_
  · (refine Le.of [] hB (by first | exact ⟨Nat.zero_le _, fun _ _ => Nat.zero_le _⟩ | (constructor <;> (try simp) <;> (try omega))) ?_ ?_ <;> (repeat' (first | exact leSl_nil | exact leHp_nil | refine leSl_cons (by simp (disch := omega) only [go_sem, ↓reduceIte, Nat.reduceEqDiff, Nat.reduceLT, Nat.reduceLeDiff, Nat.reduceAdd, Nat.reduceMul, Nat.reduceSub, reduceCtorEq, Nat.reduceBEq, Int.reduceToNat, Int.reducePow, if_pos, if_neg]; rfl) ?_ ?_ | refine leHp_cons (by simp (disch := omega) only [go_sem, ↓reduceIte, Nat.reduceEqDiff, Nat.reduceLT, Nat.reduceLeDiff, Nat.reduceAdd, Nat.reduceMul, Nat.reduceSub, reduceCtorEq, Nat.reduceBEq, Int.reduceToNat, Int.reducePow, if_pos, if_neg]; rfl) ?_ ?_ | exact VLe.junk _ | exact VLe.refl rfl | exact VLe.nil_sl _ _ _ | exact VLe.int (by first | rfl | omega | (dsimp only; omega)) | exact VLe.bool rfl | exact VLe.sl rfl (by first | rfl | omega | (dsimp only; omega) | (simp; done)) | exact VLe.cap rfl (by first | rfl | omega | (dsimp only; omega) | (simp; done)) | exact VLe.im rfl rfl | exact HLe.new rfl | exact HLe.same rfl (LLe.refl rfl) | refine HLe.same rfl ?_ | exact LLe.nil _ | exact LLe.refl rfl | refine LLe.cons ?_ ?_)))
  · exact ⟨.inr ⟨.inr rfl, by simp⟩, Nat.le_refl _⟩
  · rintro ⟨m, D⟩ ⟨hI, hmn⟩ K hK
    simp only at hI hmn ⊢
    have c3 := cS m hmn
    have c4 := cD' m hmn
    have c5 := cM m hmn
    have hDl := hI.len
    clear cS cD' cM
    by_cases hc : 0 < m ∨ D = []
    · have hst := hI.step hc
      have hsl := hst.len
      rw [smallI_lt _ (by omega), smallB_lt _ (by omega)] at c5
      have hr : m % 10 < 10 := Nat.mod_lt _ (by decide)
      have hq : m / 10 ≤ m := Nat.div_le_self _ _
      have hbl := bN_len D
      have htk : (bN D).take D.length = bN D := List.take_of_length_le (by simp)
      have hone := bN_one D
      by_cases hm : 0 < m
      · rw [Int.sign_eq_one_of_pos (by omega)] at c3
        have hlt : m / 10 < m := by omega
        generalize m % 10 = r at *
        generalize m / 10 = q at *
        (repeat (first | refine DO.nil (by kernel_rfl) ?_ | (with_reducible refine oz (by constructor <;> decide) ?_) | ((first | apply SO.call | apply DO.call); (iterate 3 (focus (simp (disch := omega) only [go_sem, ↓reduceIte, Nat.reduceEqDiff, Nat.reduceLT, Nat.reduceLeDiff, Nat.reduceAdd, Nat.reduceMul, Nat.reduceSub, reduceCtorEq, Nat.reduceBEq, Int.reduceToNat, Int.reducePow, if_pos, if_neg, lv_len, hbl, htk, hone] <;> rfl))); (first | apply SCall.ofX | apply DCall.ofX); (focus (first | assumption)); (focus (simp (disch := omega) only [go_sem, ↓reduceIte, Nat.reduceEqDiff, Nat.reduceLT, Nat.reduceLeDiff, Nat.reduceAdd, Nat.reduceMul, Nat.reduceSub, reduceCtorEq, Nat.reduceBEq, Int.reduceToNat, Int.reducePow, if_pos, if_neg, lv_len, hbl, htk, hone] <;> rfl))) | ((with_reducible first | apply SC.condB | apply SC.region | apply SO.run | apply DO.run); (focus (simp (disch := omega) only [go_sem, ↓reduceIte, Nat.reduceEqDiff, Nat.reduceLT, Nat.reduceLeDiff, Nat.reduceAdd, Nat.reduceMul, Nat.reduceSub, reduceCtorEq, Nat.reduceBEq, Int.reduceToNat, Int.reducePow, if_pos, if_neg, lv_len, hbl, htk, hone] <;> rfl)); (first | refine pickT ?_ | refine pickF ?_ | fail_if_success with_reducible refine pickA ?_)) | ((with_reducible refine SC.draw Tab.mixed ?_ ?_); (focus (first | rfl | simp (disch := omega) only [go_sem, ↓reduceIte, Nat.reduceEqDiff, Nat.reduceLT, Nat.reduceLeDiff, Nat.reduceAdd, Nat.reduceMul, Nat.reduceSub, reduceCtorEq, Nat.reduceBEq, Int.reduceToNat, Int.reducePow, if_pos, if_neg, lv_len, hbl, htk, hone]))) | (with_reducible apply SC.ops)))
        rw [Nat.add_comm 1 D.length]
        refine hK _ (q, (48 + r) :: D) (Le.swap 1 7 hB (by omega) (by omega) ?_) ⟨hst, by simp only; omega⟩ (by simp; omega)
        (refine Le.of [] hB (by first | exact ⟨Nat.zero_le _, fun _ _ => Nat.zero_le _⟩ | (constructor <;> (try simp) <;> (try omega))) ?_ ?_ <;> (repeat' (first | exact leSl_nil | exact leHp_nil | refine leSl_cons (by simp (disch := omega) only [go_sem, ↓reduceIte, Nat.reduceEqDiff, Nat.reduceLT, Nat.reduceLeDiff, Nat.reduceAdd, Nat.reduceMul, Nat.reduceSub, reduceCtorEq, Nat.reduceBEq, Int.reduceToNat, Int.reducePow, if_pos, if_neg]; rfl) ?_ ?_ | refine leHp_cons (by simp (disch := omega) only [go_sem, ↓reduceIte, Nat.reduceEqDiff, Nat.reduceLT, Nat.reduceLeDiff, Nat.reduceAdd, Nat.reduceMul, Nat.reduceSub, reduceCtorEq, Nat.reduceBEq, Int.reduceToNat, Int.reducePow, if_pos, if_neg]; rfl) ?_ ?_ | exact VLe.junk _ | exact VLe.refl rfl | exact VLe.nil_sl _ _ _ | exact VLe.int (by first | rfl | omega | (dsimp only; omega)) | exact VLe.bool rfl | exact VLe.sl rfl (by first | rfl | omega | (dsimp only; omega) | (simp; done)) | exact VLe.cap rfl (by first | rfl | omega | (dsimp only; omega) | (simp; done)) | exact VLe.im rfl rfl | exact HLe.new rfl | exact HLe.same rfl (LLe.refl rfl) | refine HLe.same rfl ?_ | exact LLe.nil _ | exact LLe.refl rfl | refine LLe.cons ?_ ?_)))
        all_goals rw [bN_ren]
        all_goals exact LLe.refl (bN_ok _ _)
      · have hD : D = [] := hc.resolve_left hm
        subst hD
        have hm0 : m = 0 := by omega
        subst hm0
        rw [show ((0 : Nat) : Int).sign = 0 from rfl] at c3
        generalize hr0 : 0 % 10 = r at *
        generalize hq0 : 0 / 10 = q at *
        have e0 : bN [] = [] := rfl
        (repeat (first | refine DO.nil (by kernel_rfl) ?_ | (with_reducible refine oz (by constructor <;> decide) ?_) | ((first | apply SO.call | apply DO.call); (iterate 3 (focus (simp (disch := omega) only [go_sem, ↓reduceIte, Nat.reduceEqDiff, Nat.reduceLT, Nat.reduceLeDiff, Nat.reduceAdd, Nat.reduceMul, Nat.reduceSub, reduceCtorEq, Nat.reduceBEq, Int.reduceToNat, Int.reducePow, if_pos, if_neg, lv_len, hbl, htk, hone] <;> rfl))); (first | apply SCall.ofX | apply DCall.ofX); (focus (first | assumption)); (focus (simp (disch := omega) only [go_sem, ↓reduceIte, Nat.reduceEqDiff, Nat.reduceLT, Nat.reduceLeDiff, Nat.reduceAdd, Nat.reduceMul, Nat.reduceSub, reduceCtorEq, Nat.reduceBEq, Int.reduceToNat, Int.reducePow, if_pos, if_neg, lv_len, hbl, htk, hone] <;> rfl))) | ((with_reducible first | apply SC.condB | apply SC.region | apply SO.run | apply DO.run); (focus (simp (disch := omega) only [go_sem, ↓reduceIte, Nat.reduceEqDiff, Nat.reduceLT, Nat.reduceLeDiff, Nat.reduceAdd, Nat.reduceMul, Nat.reduceSub, reduceCtorEq, Nat.reduceBEq, Int.reduceToNat, Int.reducePow, if_pos, if_neg, lv_len, hbl, htk, hone] <;> rfl)); (first | refine pickT ?_ | refine pickF ?_ | fail_if_success with_reducible refine pickA ?_)) | ((with_reducible refine SC.draw Tab.mixed ?_ ?_); (focus (first | rfl | simp (disch := omega) only [go_sem, ↓reduceIte, Nat.reduceEqDiff, Nat.reduceLT, Nat.reduceLeDiff, Nat.reduceAdd, Nat.reduceMul, Nat.reduceSub, reduceCtorEq, Nat.reduceBEq, Int.reduceToNat, Int.reducePow, if_pos, if_neg, lv_len, hbl, htk, hone]))) | (with_reducible apply SC.ops)))
        refine hK _ (q, [48 + r]) (Le.swap 1 7 hB (by omega) (by omega) ?_) ⟨hst, by simp only; omega⟩ (by simp; omega)
        (refine Le.of [] hB (by first | exact ⟨Nat.zero_le _, fun _ _ => Nat.zero_le _⟩ | (constructor <;> (try simp) <;> (try omega))) ?_ ?_ <;> (repeat' (first | exact leSl_nil | exact leHp_nil | refine leSl_cons (by simp (disch := omega) only [go_sem, ↓reduceIte, Nat.reduceEqDiff, Nat.reduceLT, Nat.reduceLeDiff, Nat.reduceAdd, Nat.reduceMul, Nat.reduceSub, reduceCtorEq, Nat.reduceBEq, Int.reduceToNat, Int.reducePow, if_pos, if_neg]; rfl) ?_ ?_ | refine leHp_cons (by simp (disch := omega) only [go_sem, ↓reduceIte, Nat.reduceEqDiff, Nat.reduceLT, Nat.reduceLeDiff, Nat.reduceAdd, Nat.reduceMul, Nat.reduceSub, reduceCtorEq, Nat.reduceBEq, Int.reduceToNat, Int.reducePow, if_pos, if_neg]; rfl) ?_ ?_ | exact VLe.junk _ | exact VLe.refl rfl | exact VLe.nil_sl _ _ _ | exact VLe.int (by first | rfl | omega | (dsimp only; omega)) | exact VLe.bool rfl | exact VLe.sl rfl (by first | rfl | omega | (dsimp only; omega) | (simp; done)) | exact VLe.cap rfl (by first | rfl | omega | (dsimp only; omega) | (simp; done)) | exact VLe.im rfl rfl | exact HLe.new rfl | exact HLe.same rfl (LLe.refl rfl) | refine HLe.same rfl ?_ | exact LLe.nil _ | exact LLe.refl rfl | refine LLe.cons ?_ ?_)))
    · have hd := hI.done hc
      have hm0 : m = 0 := by omega
      subst hm0
      rw [show ((0 : Nat) : Int).sign = 0 from rfl] at c3
      have hD : D.length ≠ 0 := fun e => hc (.inr (List.eq_nil_of_length_eq_zero e))
      have q1 : ((D.length : Int) == 0) = false := by rw [beq_eq_false_iff_ne]; omega
      have e2 : ∀ X Y Z : List V, exConvH Tryd.prog [(3, ⟨27, X, false⟩), (2, ⟨27, Y, false⟩), (1, ⟨5, bN D, false⟩), (0, ⟨27, Z, false⟩)] 51 9 (.sl 1 0 D.length 1 none) = some (.sc (.string (st D))) := fun X Y Z => conv_at D _ (by rfl)
      have e3 : strB .add ⟨#[45]⟩ (st D) = some (.string (st ([45] ++ D))) := strB_st [45] D (by simp; omega)
      cases neg with
      | false =>
        have hz0 : ¬ z < 0 := of_decide_eq_false hs
        rw [if_neg hz0, List.nil_append, hd] at ht
        rw [ht]
        (repeat (first | refine DO.nil (by kernel_rfl) ?_ | (with_reducible refine oz (by constructor <;> decide) ?_) | ((first | apply SO.call | apply DO.call); (iterate 3 (focus (simp (disch := omega) only [go_sem, ↓reduceIte, Nat.reduceEqDiff, Nat.reduceLT, Nat.reduceLeDiff, Nat.reduceAdd, Nat.reduceMul, Nat.reduceSub, reduceCtorEq, Nat.reduceBEq, Int.reduceToNat, Int.reducePow, if_pos, if_neg, q1, e2, e3] <;> rfl))); (first | apply SCall.ofX | apply DCall.ofX); (focus (first | assumption)); (focus (simp (disch := omega) only [go_sem, ↓reduceIte, Nat.reduceEqDiff, Nat.reduceLT, Nat.reduceLeDiff, Nat.reduceAdd, Nat.reduceMul, Nat.reduceSub, reduceCtorEq, Nat.reduceBEq, Int.reduceToNat, Int.reducePow, if_pos, if_neg, q1, e2, e3] <;> rfl))) | ((with_reducible first | apply SC.condB | apply SC.region | apply SO.run | apply DO.run); (focus (simp (disch := omega) only [go_sem, ↓reduceIte, Nat.reduceEqDiff, Nat.reduceLT, Nat.reduceLeDiff, Nat.reduceAdd, Nat.reduceMul, Nat.reduceSub, reduceCtorEq, Nat.reduceBEq, Int.reduceToNat, Int.reducePow, if_pos, if_neg, q1, e2, e3] <;> rfl)); (first | refine pickT ?_ | refine pickF ?_ | fail_if_success with_reducible refine pickA ?_)) | ((with_reducible refine SC.draw Tab.mixed ?_ ?_); (focus (first | rfl | simp (disch := omega) only [go_sem, ↓reduceIte, Nat.reduceEqDiff, Nat.reduceLT, Nat.reduceLeDiff, Nat.reduceAdd, Nat.reduceMul, Nat.reduceSub, reduceCtorEq, Nat.reduceBEq, Int.reduceToNat, Int.reducePow, if_pos, if_neg, q1, e2, e3]))) | (with_reducible apply SC.ops)))
        exact retQ_ret Tryd.results9 (by simp (disch := omega) only [go_sem, ↓reduceIte, Nat.reduceEqDiff, Nat.reduceLT, Nat.reduceLeDiff, Nat.reduceAdd, Nat.reduceMul, Nat.reduceSub, reduceCtorEq, Nat.reduceBEq, Int.reduceToNat, Int.reducePow, if_pos, if_neg]; rfl) (by simp (disch := omega) only [go_sem, ↓reduceIte, Nat.reduceEqDiff, Nat.reduceLT, Nat.reduceLeDiff, Nat.reduceAdd, Nat.reduceMul, Nat.reduceSub, reduceCtorEq, Nat.reduceBEq, Int.reduceToNat, Int.reducePow, if_pos, if_neg]; rfl) rfl
      | true =>
        have hz0 : z < 0 := of_decide_eq_true hs
        rw [if_pos hz0, hd] at ht
        rw [ht]
        (repeat (first | refine DO.nil (by kernel_rfl) ?_ | (with_reducible refine oz (by constructor <;> decide) ?_) | ((first | apply SO.call | apply DO.call); (iterate 3 (focus (simp (disch := omega) only [go_sem, ↓reduceIte, Nat.reduceEqDiff, Nat.reduceLT, Nat.reduceLeDiff, Nat.reduceAdd, Nat.reduceMul, Nat.reduceSub, reduceCtorEq, Nat.reduceBEq, Int.reduceToNat, Int.reducePow, if_pos, if_neg, q1, e2, e3] <;> rfl))); (first | apply SCall.ofX | apply DCall.ofX); (focus (first | assumption)); (focus (simp (disch := omega) only [go_sem, ↓reduceIte, Nat.reduceEqDiff, Nat.reduceLT, Nat.reduceLeDiff, Nat.reduceAdd, Nat.reduceMul, Nat.reduceSub, reduceCtorEq, Nat.reduceBEq, Int.reduceToNat, Int.reducePow, if_pos, if_neg, q1, e2, e3] <;> rfl))) | ((with_reducible first | apply SC.condB | apply SC.region | apply SO.run | apply DO.run); (focus (simp (disch := omega) only [go_sem, ↓reduceIte, Nat.reduceEqDiff, Nat.reduceLT, Nat.reduceLeDiff, Nat.reduceAdd, Nat.reduceMul, Nat.reduceSub, reduceCtorEq, Nat.reduceBEq, Int.reduceToNat, Int.reducePow, if_pos, if_neg, q1, e2, e3] <;> rfl)); (first | refine pickT ?_ | refine pickF ?_ | fail_if_success with_reducible refine pickA ?_)) | ((with_reducible refine SC.draw Tab.mixed ?_ ?_); (focus (first | rfl | simp (disch := omega) only [go_sem, ↓reduceIte, Nat.reduceEqDiff, Nat.reduceLT, Nat.reduceLeDiff, Nat.reduceAdd, Nat.reduceMul, Nat.reduceSub, reduceCtorEq, Nat.reduceBEq, Int.reduceToNat, Int.reducePow, if_pos, if_neg, q1, e2, e3]))) | (with_reducible apply SC.ops)))
        exact retQ_ret Tryd.results9 (by simp (disch := omega) only [go_sem, ↓reduceIte, Nat.reduceEqDiff, Nat.reduceLT, Nat.reduceLeDiff, Nat.reduceAdd, Nat.reduceMul, Nat.reduceSub, reduceCtorEq, Nat.reduceBEq, Int.reduceToNat, Int.reducePow, if_pos, if_neg]; rfl) (by simp (disch := omega) only [go_sem, ↓reduceIte, Nat.reduceEqDiff, Nat.reduceLT, Nat.reduceLeDiff, Nat.reduceAdd, Nat.reduceMul, Nat.reduceSub, reduceCtorEq, Nat.reduceBEq, Int.reduceToNat, Int.reducePow, if_pos, if_neg]; rfl) rfl
end Go.Proofs.YtagidfadibedoaaDoor

/- The reference's Read. -/
namespace Go.Proofs.YtagidfadibedoaaDoor
open Go.RowKit
theorem fits_numOf {D : List Nat} (h : Digs D) (K : Nat) (hK : D.length ≤ K) : Fits K ((numOf D : Nat) : Int) := by
  unfold Fits; rw [Int.natAbs_natCast]
  refine Nat.lt_of_lt_of_le (numOf_lt h) (Nat.le_trans (Nat.pow_le_pow_left (show 10 ≤ 4294967296 by decide) _) (Nat.pow_le_pow_right (by decide) hK))
def badB (D : List Nat) (neg : Bool) : Bool := (D == []) || (D.head? == some 48 && (neg || decide (1 < D.length)))
theorem badB_can (D : List Nat) (neg : Bool) : canB D neg = (digB D && !badB D neg) := by
  unfold canB badB
  cases D with
  | nil => simp
  | cons x D =>
    by_cases hx : x = 48
    · subst hx
      cases D with
      | nil => simp
      | cons y D => simp
    · have h0 : ¬ (some x == some 48) = true := by simp [hx]
      have h1 : ((x :: D).head? == some 48) = false := by simpa using h0
      rw [h1]; simp
theorem st_eq0 (l : List Nat) (c : ByteArray) (h : c = ⟨#[]⟩) : ((st l).toList == c.toList) = (l == []) := by
  subst h; rw [st_toList, show (ByteArray.mk #[]).toList = ([] : List UInt8) by rw [toList_eq]]; cases l <;> rfl
theorem cutU (C : Prop) {A G : Prop} (h : (Unit → C → A) → G) (k : C → A) : G := h fun _ => k
theorem rread_s (l : List Nat) (hl : ∀ x ∈ l, x < 256) (hn : l.length < 1000000) : Spec Tryd.prog 8 [.sc (.string (st l))] (rdT (readP l)) := by
  have e1 := st_size l
  have hcl := unM_len l
  by_cases h1 : 2000 < l.length
  · have q1 := decide_eq_true (p := (2000 : Int) < (l.length : Int)) (by omega)
    have ep : readP l = (0, 2) := by unfold readP; rw [if_pos h1]
    rw [ep]
    have e0 : limbsOf (Int.natAbs 0) = [] := limbsOf_nil.2 rfl
    unfold rdT iv sv
    rw [e0]
    refine Spec.run Tryd.func8 rfl Tryd.ntmps8 (by simp) (by simp (disch := omega) only [go_sem, ↓reduceIte, Nat.reduceEqDiff, Nat.reduceLT, Nat.reduceLeDiff, Nat.reduceAdd, Nat.reduceMul, Nat.reduceSub, reduceCtorEq, Nat.reduceBEq, Int.reduceToNat, Int.reducePow, if_pos, if_neg]; rfl) fun B hB => ?_
    (repeat (first | refine DO.nil (by kernel_rfl) ?_ | (with_reducible refine oz (by constructor <;> decide) ?_) | ((first | apply SO.call | apply DO.call); (iterate 3 (focus (simp (disch := omega) only [go_sem, ↓reduceIte, Nat.reduceEqDiff, Nat.reduceLT, Nat.reduceLeDiff, Nat.reduceAdd, Nat.reduceMul, Nat.reduceSub, reduceCtorEq, Nat.reduceBEq, Int.reduceToNat, Int.reducePow, if_pos, if_neg, e1, q1] <;> rfl))); (first | apply SCall.ofX | apply DCall.ofX); (focus (first | assumption)); (focus (simp (disch := omega) only [go_sem, ↓reduceIte, Nat.reduceEqDiff, Nat.reduceLT, Nat.reduceLeDiff, Nat.reduceAdd, Nat.reduceMul, Nat.reduceSub, reduceCtorEq, Nat.reduceBEq, Int.reduceToNat, Int.reducePow, if_pos, if_neg, e1, q1] <;> rfl))) | ((with_reducible first | apply SC.condB | apply SC.region | apply SO.run | apply DO.run); (focus (simp (disch := omega) only [go_sem, ↓reduceIte, Nat.reduceEqDiff, Nat.reduceLT, Nat.reduceLeDiff, Nat.reduceAdd, Nat.reduceMul, Nat.reduceSub, reduceCtorEq, Nat.reduceBEq, Int.reduceToNat, Int.reducePow, if_pos, if_neg, e1, q1] <;> rfl)); (first | refine pickT ?_ | refine pickF ?_ | fail_if_success with_reducible refine pickA ?_)) | ((with_reducible refine SC.draw Tab.mixed ?_ ?_); (focus (first | rfl | simp (disch := omega) only [go_sem, ↓reduceIte, Nat.reduceEqDiff, Nat.reduceLT, Nat.reduceLeDiff, Nat.reduceAdd, Nat.reduceMul, Nat.reduceSub, reduceCtorEq, Nat.reduceBEq, Int.reduceToNat, Int.reducePow, if_pos, if_neg, e1, q1]))) | (with_reducible apply SC.ops)))
    refine retQ_ret Tryd.results8 (by simp (disch := omega) only [go_sem, ↓reduceIte, Nat.reduceEqDiff, Nat.reduceLT, Nat.reduceLeDiff, Nat.reduceAdd, Nat.reduceMul, Nat.reduceSub, reduceCtorEq, Nat.reduceBEq, Int.reduceToNat, Int.reducePow, if_pos, if_neg]; rfl) (by simp (disch := omega) only [go_sem, ↓reduceIte, Nat.reduceEqDiff, Nat.reduceLT, Nat.reduceLeDiff, Nat.reduceAdd, Nat.reduceMul, Nat.reduceSub, reduceCtorEq, Nat.reduceBEq, Int.reduceToNat, Int.reducePow, if_pos, if_neg]; rfl) rfl
  · have q1 := decide_eq_false (p := (2000 : Int) < (l.length : Int)) (by omega)
    have hfi := fun (i : Nat) (h : Digs ((unM l).take i)) => fits_numOf h 2000 (by rw [List.length_take]; omega)
    have hf10 : Fits 2000 (10 : Int) := (fits_one (n := 10) (by decide)).mono (by decide)
    cases l with
    | nil => exact Spec.eval (K := fun _ _ => none) (fun _ _ _ h => by cases h) 60 (fun _ => false) (by kernel_rfl)
    | cons x m =>
      have q2 : decide ((0 : Int) < ((x :: m).length : Int)) = true := decide_eq_true (by simp only [List.length_cons]; omega)
      have g1 : strIx (st (x :: m)) 0 = some (.sc (.int .u8 (x : Nat))) := strIx_st hl (i := 0) (by simp)
      have q3 : ((x : Int) == 45) = isM (x :: m) := by
        unfold isM
        by_cases hx : x = 45
        · subst hx; rfl
        · rw [beq_eq_false_iff_ne.2 (by omega)]; simp [hx]
      have u1 : isM (x :: m) = true → unM (x :: m) = m := by
        intro h; unfold unM; rw [if_pos (of_decide_eq_true h)]; rfl
      have u2 : isM (x :: m) = false → unM (x :: m) = x :: m := by
        intro h; unfold unM; rw [if_neg (of_decide_eq_false h)]
      have s1 := strSl_st (l := x :: m) (a := 1) (b := (x :: m).length) (by simp) (Nat.le_refl _)
      rw [List.take_of_length_le (by simp), List.drop_succ_cons, List.drop_zero] at s1
      have s1' : strSl (st (x :: m)) 1 ((x :: m).length : Int) = some (.sc (.string (st m))) := s1
      have hp : readP (x :: m) = if canB (unM (x :: m)) (isM (x :: m)) = true then (sgn (isM (x :: m)) (numOf (unM (x :: m))), 0) else (0, 4) := by unfold readP; rw [if_neg h1]
      have hlD : ∀ y ∈ unM (x :: m), y < 256 := fun y hy => hl y (unM_mem hy)
      have hDl : (unM (x :: m)).length ≤ 2000 := by omega
      rw [hp]
      clear hp s1
      simp only [List.length_cons] at e1 q1 q2 s1' hn
      have c0 := of_i 10 (by decide) (by decide)
      have hf10 : Fits 2000 (10 : Int) := (fits_one (n := 10) (by decide)).mono (by decide)
      have cM := fun (i : Nat) (h : Digs ((unM (x :: m)).take i)) => mul_i ((numOf ((unM (x :: m)).take i) : Nat) : Int) 10 2000 (hfi i h) hf10 (by decide)
      simp only [ivn] at cM
      unfold iv sv at c0 cM
      generalize limbsOf (Int.natAbs 10) = T at *
      generalize decide ((10 : Int) < 0) = bT at *
      generalize isM (x :: m) = neg at *
      generalize unM (x :: m) = D at *
      unfold rdT
      refine Spec.run Tryd.func8 rfl Tryd.ntmps8 (by simp) (by simp (disch := omega) only [go_sem, ↓reduceIte, Nat.reduceEqDiff, Nat.reduceLT, Nat.reduceLeDiff, Nat.reduceAdd, Nat.reduceMul, Nat.reduceSub, reduceCtorEq, Nat.reduceBEq, Int.reduceToNat, Int.reducePow, if_pos, if_neg]; rfl) fun B hB => ?_
      (repeat (first | refine DO.nil (by kernel_rfl) ?_ | (with_reducible refine oz (by constructor <;> decide) ?_) | ((first | apply SO.call | apply DO.call); (iterate 3 (focus (simp (disch := omega) only [go_sem, ↓reduceIte, Nat.reduceEqDiff, Nat.reduceLT, Nat.reduceLeDiff, Nat.reduceAdd, Nat.reduceMul, Nat.reduceSub, reduceCtorEq, Nat.reduceBEq, Int.reduceToNat, Int.reducePow, if_pos, if_neg, e1, q1, q2, g1, q3] <;> rfl))); (first | apply SCall.ofX | apply DCall.ofX); (focus (first | assumption)); (focus (simp (disch := omega) only [go_sem, ↓reduceIte, Nat.reduceEqDiff, Nat.reduceLT, Nat.reduceLeDiff, Nat.reduceAdd, Nat.reduceMul, Nat.reduceSub, reduceCtorEq, Nat.reduceBEq, Int.reduceToNat, Int.reducePow, if_pos, if_neg, e1, q1, q2, g1, q3] <;> rfl))) | ((with_reducible first | apply SC.condB | apply SC.region | apply SO.run | apply DO.run); (focus (simp (disch := omega) only [go_sem, ↓reduceIte, Nat.reduceEqDiff, Nat.reduceLT, Nat.reduceLeDiff, Nat.reduceAdd, Nat.reduceMul, Nat.reduceSub, reduceCtorEq, Nat.reduceBEq, Int.reduceToNat, Int.reducePow, if_pos, if_neg, e1, q1, q2, g1, q3] <;> rfl)); (first | refine pickT ?_ | refine pickF ?_ | fail_if_success with_reducible refine pickA ?_)) | ((with_reducible refine SC.draw Tab.mixed ?_ ?_); (focus (first | rfl | simp (disch := omega) only [go_sem, ↓reduceIte, Nat.reduceEqDiff, Nat.reduceLT, Nat.reduceLeDiff, Nat.reduceAdd, Nat.reduceMul, Nat.reduceSub, reduceCtorEq, Nat.reduceBEq, Int.reduceToNat, Int.reducePow, if_pos, if_neg, e1, q1, q2, g1, q3]))) | (with_reducible apply SC.ops)))
      refine SC.condI (fun _ : Unit => ⟨[(2, .pt 0 0), (3, .sc (.int .i64 0)), (4, .sc (.bool neg)), (5, .sc (.string (st D)))], [(0, ⟨27, [.sc (.bool false), .sc (.slice none 0 0)], false⟩)], 1, 74⟩) (fun _ => True) (by simp (disch := omega) only [go_sem, ↓reduceIte, Nat.reduceEqDiff, Nat.reduceLT, Nat.reduceLeDiff, Nat.reduceAdd, Nat.reduceMul, Nat.reduceSub, reduceCtorEq, Nat.reduceBEq, Int.reduceToNat, Int.reducePow, if_pos, if_neg]; rfl) ?_ ?_ ?_
      · intro hneg K hK
        have := u1 hneg
        subst this
        (repeat (first | refine DO.nil (by kernel_rfl) ?_ | (with_reducible refine oz (by constructor <;> decide) ?_) | ((first | apply SO.call | apply DO.call); (iterate 3 (focus (simp (disch := omega) only [go_sem, ↓reduceIte, Nat.reduceEqDiff, Nat.reduceLT, Nat.reduceLeDiff, Nat.reduceAdd, Nat.reduceMul, Nat.reduceSub, reduceCtorEq, Nat.reduceBEq, Int.reduceToNat, Int.reducePow, if_pos, if_neg, e1, s1'] <;> rfl))); (first | apply SCall.ofX | apply DCall.ofX); (focus (first | assumption)); (focus (simp (disch := omega) only [go_sem, ↓reduceIte, Nat.reduceEqDiff, Nat.reduceLT, Nat.reduceLeDiff, Nat.reduceAdd, Nat.reduceMul, Nat.reduceSub, reduceCtorEq, Nat.reduceBEq, Int.reduceToNat, Int.reducePow, if_pos, if_neg, e1, s1'] <;> rfl))) | ((with_reducible first | apply SC.condB | apply SC.region | apply SO.run | apply DO.run); (focus (simp (disch := omega) only [go_sem, ↓reduceIte, Nat.reduceEqDiff, Nat.reduceLT, Nat.reduceLeDiff, Nat.reduceAdd, Nat.reduceMul, Nat.reduceSub, reduceCtorEq, Nat.reduceBEq, Int.reduceToNat, Int.reducePow, if_pos, if_neg, e1, s1'] <;> rfl)); (first | refine pickT ?_ | refine pickF ?_ | fail_if_success with_reducible refine pickA ?_)) | ((with_reducible refine SC.draw Tab.mixed ?_ ?_); (focus (first | rfl | simp (disch := omega) only [go_sem, ↓reduceIte, Nat.reduceEqDiff, Nat.reduceLT, Nat.reduceLeDiff, Nat.reduceAdd, Nat.reduceMul, Nat.reduceSub, reduceCtorEq, Nat.reduceBEq, Int.reduceToNat, Int.reducePow, if_pos, if_neg, e1, s1']))) | (with_reducible apply SC.ops)))
        refine hK _ () ?_ trivial
        (refine Le.of [] hB (by first | exact ⟨Nat.zero_le _, fun _ _ => Nat.zero_le _⟩ | (constructor <;> (try simp) <;> (try omega))) ?_ ?_ <;> (repeat' (first | exact leSl_nil | exact leHp_nil | refine leSl_cons (by simp (disch := omega) only [go_sem, ↓reduceIte, Nat.reduceEqDiff, Nat.reduceLT, Nat.reduceLeDiff, Nat.reduceAdd, Nat.reduceMul, Nat.reduceSub, reduceCtorEq, Nat.reduceBEq, Int.reduceToNat, Int.reducePow, if_pos, if_neg]; rfl) ?_ ?_ | refine leHp_cons (by simp (disch := omega) only [go_sem, ↓reduceIte, Nat.reduceEqDiff, Nat.reduceLT, Nat.reduceLeDiff, Nat.reduceAdd, Nat.reduceMul, Nat.reduceSub, reduceCtorEq, Nat.reduceBEq, Int.reduceToNat, Int.reducePow, if_pos, if_neg]; rfl) ?_ ?_ | exact VLe.junk _ | exact VLe.refl rfl | exact VLe.nil_sl _ _ _ | exact VLe.int (by first | rfl | omega | (dsimp only; omega)) | exact VLe.bool rfl | exact VLe.sl rfl (by first | rfl | omega | (dsimp only; omega) | (simp; done)) | exact VLe.cap rfl (by first | rfl | omega | (dsimp only; omega) | (simp; done)) | exact VLe.im rfl rfl | exact HLe.new rfl | exact HLe.same rfl (LLe.refl rfl) | refine HLe.same rfl ?_ | exact LLe.nil _ | exact LLe.refl rfl | refine LLe.cons ?_ ?_)))
      · intro hneg K hK
        have := u2 hneg
        subst this
        (repeat (first | refine DO.nil (by kernel_rfl) ?_ | (with_reducible refine oz (by constructor <;> decide) ?_) | ((first | apply SO.call | apply DO.call); (iterate 3 (focus (simp (disch := omega) only [go_sem, ↓reduceIte, Nat.reduceEqDiff, Nat.reduceLT, Nat.reduceLeDiff, Nat.reduceAdd, Nat.reduceMul, Nat.reduceSub, reduceCtorEq, Nat.reduceBEq, Int.reduceToNat, Int.reducePow, if_pos, if_neg] <;> rfl))); (first | apply SCall.ofX | apply DCall.ofX); (focus (first | assumption)); (focus (simp (disch := omega) only [go_sem, ↓reduceIte, Nat.reduceEqDiff, Nat.reduceLT, Nat.reduceLeDiff, Nat.reduceAdd, Nat.reduceMul, Nat.reduceSub, reduceCtorEq, Nat.reduceBEq, Int.reduceToNat, Int.reducePow, if_pos, if_neg] <;> rfl))) | ((with_reducible first | apply SC.condB | apply SC.region | apply SO.run | apply DO.run); (focus (simp (disch := omega) only [go_sem, ↓reduceIte, Nat.reduceEqDiff, Nat.reduceLT, Nat.reduceLeDiff, Nat.reduceAdd, Nat.reduceMul, Nat.reduceSub, reduceCtorEq, Nat.reduceBEq, Int.reduceToNat, Int.reducePow, if_pos, if_neg] <;> rfl)); (first | refine pickT ?_ | refine pickF ?_ | fail_if_success with_reducible refine pickA ?_)) | ((with_reducible refine SC.draw Tab.mixed ?_ ?_); (focus (first | rfl | simp (disch := omega) only [go_sem, ↓reduceIte, Nat.reduceEqDiff, Nat.reduceLT, Nat.reduceLeDiff, Nat.reduceAdd, Nat.reduceMul, Nat.reduceSub, reduceCtorEq, Nat.reduceBEq, Int.reduceToNat, Int.reducePow, if_pos, if_neg]))) | (with_reducible apply SC.ops)))
        refine hK _ () ?_ trivial
        (refine Le.of [] hB (by first | exact ⟨Nat.zero_le _, fun _ _ => Nat.zero_le _⟩ | (constructor <;> (try simp) <;> (try omega))) ?_ ?_ <;> (repeat' (first | exact leSl_nil | exact leHp_nil | refine leSl_cons (by simp (disch := omega) only [go_sem, ↓reduceIte, Nat.reduceEqDiff, Nat.reduceLT, Nat.reduceLeDiff, Nat.reduceAdd, Nat.reduceMul, Nat.reduceSub, reduceCtorEq, Nat.reduceBEq, Int.reduceToNat, Int.reducePow, if_pos, if_neg]; rfl) ?_ ?_ | refine leHp_cons (by simp (disch := omega) only [go_sem, ↓reduceIte, Nat.reduceEqDiff, Nat.reduceLT, Nat.reduceLeDiff, Nat.reduceAdd, Nat.reduceMul, Nat.reduceSub, reduceCtorEq, Nat.reduceBEq, Int.reduceToNat, Int.reducePow, if_pos, if_neg]; rfl) ?_ ?_ | exact VLe.junk _ | exact VLe.refl rfl | exact VLe.nil_sl _ _ _ | exact VLe.int (by first | rfl | omega | (dsimp only; omega)) | exact VLe.bool rfl | exact VLe.sl rfl (by first | rfl | omega | (dsimp only; omega) | (simp; done)) | exact VLe.cap rfl (by first | rfl | omega | (dsimp only; omega) | (simp; done)) | exact VLe.im rfl rfl | exact HLe.new rfl | exact HLe.same rfl (LLe.refl rfl) | refine HLe.same rfl ?_ | exact LLe.nil _ | exact LLe.refl rfl | refine LLe.cons ?_ ?_)))
      · rintro _ _
        clear g1 q3 u1 u2 s1' e1 q2
        apply cutU (badB D neg = false)
        · intro N
          have t0 := st_eq0 D _ rfl
          by_cases hD0 : D = []
          · clear N
            subst hD0
            rw [show canB [] neg = false from rfl, if_neg (by decide)]
            have e0 : limbsOf (Int.natAbs 0) = [] := limbsOf_nil.2 rfl
            unfold iv sv
            simp only [e0]
            rw [show (([] : List Nat) == []) = true from rfl] at t0
            (repeat (first | refine DO.nil (by kernel_rfl) ?_ | (with_reducible refine oz (by constructor <;> decide) ?_) | ((first | apply SO.call | apply DO.call); (iterate 3 (focus (simp (disch := omega) only [go_sem, ↓reduceIte, Nat.reduceEqDiff, Nat.reduceLT, Nat.reduceLeDiff, Nat.reduceAdd, Nat.reduceMul, Nat.reduceSub, reduceCtorEq, Nat.reduceBEq, Int.reduceToNat, Int.reducePow, if_pos, if_neg, t0] <;> rfl))); (first | apply SCall.ofX | apply DCall.ofX); (focus (first | assumption)); (focus (simp (disch := omega) only [go_sem, ↓reduceIte, Nat.reduceEqDiff, Nat.reduceLT, Nat.reduceLeDiff, Nat.reduceAdd, Nat.reduceMul, Nat.reduceSub, reduceCtorEq, Nat.reduceBEq, Int.reduceToNat, Int.reducePow, if_pos, if_neg, t0] <;> rfl))) | ((with_reducible first | apply SC.condB | apply SC.region | apply SO.run | apply DO.run); (focus (simp (disch := omega) only [go_sem, ↓reduceIte, Nat.reduceEqDiff, Nat.reduceLT, Nat.reduceLeDiff, Nat.reduceAdd, Nat.reduceMul, Nat.reduceSub, reduceCtorEq, Nat.reduceBEq, Int.reduceToNat, Int.reducePow, if_pos, if_neg, t0] <;> rfl)); (first | refine pickT ?_ | refine pickF ?_ | fail_if_success with_reducible refine pickA ?_)) | ((with_reducible refine SC.draw Tab.mixed ?_ ?_); (focus (first | rfl | simp (disch := omega) only [go_sem, ↓reduceIte, Nat.reduceEqDiff, Nat.reduceLT, Nat.reduceLeDiff, Nat.reduceAdd, Nat.reduceMul, Nat.reduceSub, reduceCtorEq, Nat.reduceBEq, Int.reduceToNat, Int.reducePow, if_pos, if_neg, t0]))) | (with_reducible apply SC.ops)))
            exact retQ_ret Tryd.results8 (by simp (disch := omega) only [go_sem, ↓reduceIte, Nat.reduceEqDiff, Nat.reduceLT, Nat.reduceLeDiff, Nat.reduceAdd, Nat.reduceMul, Nat.reduceSub, reduceCtorEq, Nat.reduceBEq, Int.reduceToNat, Int.reducePow, if_pos, if_neg]; rfl) (by simp (disch := omega) only [go_sem, ↓reduceIte, Nat.reduceEqDiff, Nat.reduceLT, Nat.reduceLeDiff, Nat.reduceAdd, Nat.reduceMul, Nat.reduceSub, reduceCtorEq, Nat.reduceBEq, Int.reduceToNat, Int.reducePow, if_pos, if_neg]; rfl) rfl
          · have hpos : 0 < D.length := List.length_pos_iff.2 hD0
            rw [show (D == []) = false by cases D <;> first | rfl | simp at hD0] at t0
            have g2 : strIx (st D) 0 = some (.sc (.int .u8 (D.getD 0 0 : Nat))) := strIx_st hlD hpos
            have e4 := st_size D
            by_cases hy : D.getD 0 0 = 48
            · rw [hy] at g2
              have q4 : (((48 : Nat) : Int) == 48) = true := rfl
              rcases Bool.eq_false_or_eq_true neg with hneg | hneg
              · skip
                have hb : canB D neg = false := by
                  rw [hneg]
                  cases D with
                  | nil => rfl
                  | cons z D => simp at hy; subst hy; simp [canB]
                rw [hb, if_neg (by decide)]
                have e0 : limbsOf (Int.natAbs 0) = [] := limbsOf_nil.2 rfl
                unfold iv sv
                simp only [e0]
                clear N
                (repeat (first | refine DO.nil (by kernel_rfl) ?_ | (with_reducible refine oz (by constructor <;> decide) ?_) | ((first | apply SO.call | apply DO.call); (iterate 3 (focus (simp (disch := omega) only [go_sem, ↓reduceIte, Nat.reduceEqDiff, Nat.reduceLT, Nat.reduceLeDiff, Nat.reduceAdd, Nat.reduceMul, Nat.reduceSub, reduceCtorEq, Nat.reduceBEq, Int.reduceToNat, Int.reducePow, if_pos, if_neg, t0, g2, q4, e4, hneg] <;> rfl))); (first | apply SCall.ofX | apply DCall.ofX); (focus (first | assumption)); (focus (simp (disch := omega) only [go_sem, ↓reduceIte, Nat.reduceEqDiff, Nat.reduceLT, Nat.reduceLeDiff, Nat.reduceAdd, Nat.reduceMul, Nat.reduceSub, reduceCtorEq, Nat.reduceBEq, Int.reduceToNat, Int.reducePow, if_pos, if_neg, t0, g2, q4, e4, hneg] <;> rfl))) | ((with_reducible first | apply SC.condB | apply SC.region | apply SO.run | apply DO.run); (focus (simp (disch := omega) only [go_sem, ↓reduceIte, Nat.reduceEqDiff, Nat.reduceLT, Nat.reduceLeDiff, Nat.reduceAdd, Nat.reduceMul, Nat.reduceSub, reduceCtorEq, Nat.reduceBEq, Int.reduceToNat, Int.reducePow, if_pos, if_neg, t0, g2, q4, e4, hneg] <;> rfl)); (first | refine pickT ?_ | refine pickF ?_ | fail_if_success with_reducible refine pickA ?_)) | ((with_reducible refine SC.draw Tab.mixed ?_ ?_); (focus (first | rfl | simp (disch := omega) only [go_sem, ↓reduceIte, Nat.reduceEqDiff, Nat.reduceLT, Nat.reduceLeDiff, Nat.reduceAdd, Nat.reduceMul, Nat.reduceSub, reduceCtorEq, Nat.reduceBEq, Int.reduceToNat, Int.reducePow, if_pos, if_neg, t0, g2, q4, e4, hneg]))) | (with_reducible apply SC.ops)))
                exact retQ_ret Tryd.results8 (by simp (disch := omega) only [go_sem, ↓reduceIte, Nat.reduceEqDiff, Nat.reduceLT, Nat.reduceLeDiff, Nat.reduceAdd, Nat.reduceMul, Nat.reduceSub, reduceCtorEq, Nat.reduceBEq, Int.reduceToNat, Int.reducePow, if_pos, if_neg]; rfl) (by simp (disch := omega) only [go_sem, ↓reduceIte, Nat.reduceEqDiff, Nat.reduceLT, Nat.reduceLeDiff, Nat.reduceAdd, Nat.reduceMul, Nat.reduceSub, reduceCtorEq, Nat.reduceBEq, Int.reduceToNat, Int.reducePow, if_pos, if_neg]; rfl) rfl
              · by_cases hD1 : D.length = 1
                · have hbad : badB D neg = false := by
                    unfold badB; rw [hneg, hD1]
                    cases D with
                    | nil => simp at hD0
                    | cons z D => simp
                  have q5 : decide ((1 : Int) < ((1 : Nat) : Int)) = false := by decide
                  rw [hD1] at e4
                  (repeat (first | refine DO.nil (by kernel_rfl) ?_ | (with_reducible refine oz (by constructor <;> decide) ?_) | ((first | apply SO.call | apply DO.call); (iterate 3 (focus (simp (disch := omega) only [go_sem, ↓reduceIte, Nat.reduceEqDiff, Nat.reduceLT, Nat.reduceLeDiff, Nat.reduceAdd, Nat.reduceMul, Nat.reduceSub, reduceCtorEq, Nat.reduceBEq, Int.reduceToNat, Int.reducePow, if_pos, if_neg, t0, g2, q4, q5, e4, hneg] <;> rfl))); (first | apply SCall.ofX | apply DCall.ofX); (focus (first | assumption)); (focus (simp (disch := omega) only [go_sem, ↓reduceIte, Nat.reduceEqDiff, Nat.reduceLT, Nat.reduceLeDiff, Nat.reduceAdd, Nat.reduceMul, Nat.reduceSub, reduceCtorEq, Nat.reduceBEq, Int.reduceToNat, Int.reducePow, if_pos, if_neg, t0, g2, q4, q5, e4, hneg] <;> rfl))) | ((with_reducible first | apply SC.condB | apply SC.region | apply SO.run | apply DO.run); (focus (simp (disch := omega) only [go_sem, ↓reduceIte, Nat.reduceEqDiff, Nat.reduceLT, Nat.reduceLeDiff, Nat.reduceAdd, Nat.reduceMul, Nat.reduceSub, reduceCtorEq, Nat.reduceBEq, Int.reduceToNat, Int.reducePow, if_pos, if_neg, t0, g2, q4, q5, e4, hneg] <;> rfl)); (first | refine pickT ?_ | refine pickF ?_ | fail_if_success with_reducible refine pickA ?_)) | ((with_reducible refine SC.draw Tab.mixed ?_ ?_); (focus (first | rfl | simp (disch := omega) only [go_sem, ↓reduceIte, Nat.reduceEqDiff, Nat.reduceLT, Nat.reduceLeDiff, Nat.reduceAdd, Nat.reduceMul, Nat.reduceSub, reduceCtorEq, Nat.reduceBEq, Int.reduceToNat, Int.reducePow, if_pos, if_neg, t0, g2, q4, q5, e4, hneg]))) | (with_reducible apply SC.ops)))
                  refine SC.weak (s' := ⟨[(2, .pt 0 0), (3, .sc (.int .i64 0)), (4, .sc (.bool neg)), (5, .sc (.string (st D))), (6, .pt 1 0), (7, .pt 2 0), (8, .sc (.int .i64 0))], [(2, ⟨27, [.sc (.bool bT), .im (lv T) T.length], false⟩), (1, ⟨27, [.sc (.bool false), .im [] 0], false⟩), (0, ⟨27, [.sc (.bool false), .sc (.slice none 0 0)], false⟩)], 3, 74⟩) (by simp) ?_ (N () hbad)
                  rw [hneg]
                  (refine Le.of [] hB (by first | exact ⟨Nat.zero_le _, fun _ _ => Nat.zero_le _⟩ | (constructor <;> (try simp) <;> (try omega))) ?_ ?_ <;> (repeat' (first | exact leSl_nil | exact leHp_nil | refine leSl_cons (by simp (disch := omega) only [go_sem, ↓reduceIte, Nat.reduceEqDiff, Nat.reduceLT, Nat.reduceLeDiff, Nat.reduceAdd, Nat.reduceMul, Nat.reduceSub, reduceCtorEq, Nat.reduceBEq, Int.reduceToNat, Int.reducePow, if_pos, if_neg]; rfl) ?_ ?_ | refine leHp_cons (by simp (disch := omega) only [go_sem, ↓reduceIte, Nat.reduceEqDiff, Nat.reduceLT, Nat.reduceLeDiff, Nat.reduceAdd, Nat.reduceMul, Nat.reduceSub, reduceCtorEq, Nat.reduceBEq, Int.reduceToNat, Int.reducePow, if_pos, if_neg]; rfl) ?_ ?_ | exact VLe.junk _ | exact VLe.refl rfl | exact VLe.nil_sl _ _ _ | exact VLe.int (by first | rfl | omega | (dsimp only; omega)) | exact VLe.bool rfl | exact VLe.sl rfl (by first | rfl | omega | (dsimp only; omega) | (simp; done)) | exact VLe.cap rfl (by first | rfl | omega | (dsimp only; omega) | (simp; done)) | exact VLe.im rfl rfl | exact HLe.new rfl | exact HLe.same rfl (LLe.refl rfl) | refine HLe.same rfl ?_ | exact LLe.nil _ | exact LLe.refl rfl | refine LLe.cons ?_ ?_)))
                  all_goals exact VLe.nil_im
                · have q5 : decide ((1 : Int) < (D.length : Int)) = true := decide_eq_true (by omega)
                  have hb : canB D neg = false := by
                    rw [hneg]
                    match D, hD1, hy with
                    | [], _, _ => rfl
                    | [z], h, _ => simp at h
                    | z :: z2 :: D, _, hy => simp at hy; subst hy; simp [canB]
                  rw [hb, if_neg (by decide)]
                  have e0 : limbsOf (Int.natAbs 0) = [] := limbsOf_nil.2 rfl
                  unfold iv sv
                  simp only [e0]
                  clear N
                  (repeat (first | refine DO.nil (by kernel_rfl) ?_ | (with_reducible refine oz (by constructor <;> decide) ?_) | ((first | apply SO.call | apply DO.call); (iterate 3 (focus (simp (disch := omega) only [go_sem, ↓reduceIte, Nat.reduceEqDiff, Nat.reduceLT, Nat.reduceLeDiff, Nat.reduceAdd, Nat.reduceMul, Nat.reduceSub, reduceCtorEq, Nat.reduceBEq, Int.reduceToNat, Int.reducePow, if_pos, if_neg, t0, g2, q4, q5, e4, hneg] <;> rfl))); (first | apply SCall.ofX | apply DCall.ofX); (focus (first | assumption)); (focus (simp (disch := omega) only [go_sem, ↓reduceIte, Nat.reduceEqDiff, Nat.reduceLT, Nat.reduceLeDiff, Nat.reduceAdd, Nat.reduceMul, Nat.reduceSub, reduceCtorEq, Nat.reduceBEq, Int.reduceToNat, Int.reducePow, if_pos, if_neg, t0, g2, q4, q5, e4, hneg] <;> rfl))) | ((with_reducible first | apply SC.condB | apply SC.region | apply SO.run | apply DO.run); (focus (simp (disch := omega) only [go_sem, ↓reduceIte, Nat.reduceEqDiff, Nat.reduceLT, Nat.reduceLeDiff, Nat.reduceAdd, Nat.reduceMul, Nat.reduceSub, reduceCtorEq, Nat.reduceBEq, Int.reduceToNat, Int.reducePow, if_pos, if_neg, t0, g2, q4, q5, e4, hneg] <;> rfl)); (first | refine pickT ?_ | refine pickF ?_ | fail_if_success with_reducible refine pickA ?_)) | ((with_reducible refine SC.draw Tab.mixed ?_ ?_); (focus (first | rfl | simp (disch := omega) only [go_sem, ↓reduceIte, Nat.reduceEqDiff, Nat.reduceLT, Nat.reduceLeDiff, Nat.reduceAdd, Nat.reduceMul, Nat.reduceSub, reduceCtorEq, Nat.reduceBEq, Int.reduceToNat, Int.reducePow, if_pos, if_neg, t0, g2, q4, q5, e4, hneg]))) | (with_reducible apply SC.ops)))
                  exact retQ_ret Tryd.results8 (by simp (disch := omega) only [go_sem, ↓reduceIte, Nat.reduceEqDiff, Nat.reduceLT, Nat.reduceLeDiff, Nat.reduceAdd, Nat.reduceMul, Nat.reduceSub, reduceCtorEq, Nat.reduceBEq, Int.reduceToNat, Int.reducePow, if_pos, if_neg]; rfl) (by simp (disch := omega) only [go_sem, ↓reduceIte, Nat.reduceEqDiff, Nat.reduceLT, Nat.reduceLeDiff, Nat.reduceAdd, Nat.reduceMul, Nat.reduceSub, reduceCtorEq, Nat.reduceBEq, Int.reduceToNat, Int.reducePow, if_pos, if_neg]; rfl) rfl
            · have q4 : ((D.getD 0 0 : Nat) : Int) = ((D.getD 0 0 : Nat) : Int) := rfl
              have hbad : badB D neg = false := by
                unfold badB
                cases D with
                | nil => simp at hD0
                | cons z D =>
                  have hz : z ≠ 48 := by simpa using hy
                  simp [hz]
              have q5 : (((D.getD 0 0 : Nat) : Int) == 48) = false := beq_eq_false_iff_ne.2 (by omega)
              (repeat (first | refine DO.nil (by kernel_rfl) ?_ | (with_reducible refine oz (by constructor <;> decide) ?_) | ((first | apply SO.call | apply DO.call); (iterate 3 (focus (simp (disch := omega) only [go_sem, ↓reduceIte, Nat.reduceEqDiff, Nat.reduceLT, Nat.reduceLeDiff, Nat.reduceAdd, Nat.reduceMul, Nat.reduceSub, reduceCtorEq, Nat.reduceBEq, Int.reduceToNat, Int.reducePow, if_pos, if_neg, t0, g2, q5, e4] <;> rfl))); (first | apply SCall.ofX | apply DCall.ofX); (focus (first | assumption)); (focus (simp (disch := omega) only [go_sem, ↓reduceIte, Nat.reduceEqDiff, Nat.reduceLT, Nat.reduceLeDiff, Nat.reduceAdd, Nat.reduceMul, Nat.reduceSub, reduceCtorEq, Nat.reduceBEq, Int.reduceToNat, Int.reducePow, if_pos, if_neg, t0, g2, q5, e4] <;> rfl))) | ((with_reducible first | apply SC.condB | apply SC.region | apply SO.run | apply DO.run); (focus (simp (disch := omega) only [go_sem, ↓reduceIte, Nat.reduceEqDiff, Nat.reduceLT, Nat.reduceLeDiff, Nat.reduceAdd, Nat.reduceMul, Nat.reduceSub, reduceCtorEq, Nat.reduceBEq, Int.reduceToNat, Int.reducePow, if_pos, if_neg, t0, g2, q5, e4] <;> rfl)); (first | refine pickT ?_ | refine pickF ?_ | fail_if_success with_reducible refine pickA ?_)) | ((with_reducible refine SC.draw Tab.mixed ?_ ?_); (focus (first | rfl | simp (disch := omega) only [go_sem, ↓reduceIte, Nat.reduceEqDiff, Nat.reduceLT, Nat.reduceLeDiff, Nat.reduceAdd, Nat.reduceMul, Nat.reduceSub, reduceCtorEq, Nat.reduceBEq, Int.reduceToNat, Int.reducePow, if_pos, if_neg, t0, g2, q5, e4]))) | (with_reducible apply SC.ops)))
              refine SC.weak (s' := ⟨[(2, .pt 0 0), (3, .sc (.int .i64 0)), (4, .sc (.bool neg)), (5, .sc (.string (st D))), (6, .pt 1 0), (7, .pt 2 0), (8, .sc (.int .i64 0))], [(2, ⟨27, [.sc (.bool bT), .im (lv T) T.length], false⟩), (1, ⟨27, [.sc (.bool false), .im [] 0], false⟩), (0, ⟨27, [.sc (.bool false), .sc (.slice none 0 0)], false⟩)], 3, 74⟩) (by simp) ?_ (N () hbad)
              (refine Le.of [] hB (by first | exact ⟨Nat.zero_le _, fun _ _ => Nat.zero_le _⟩ | (constructor <;> (try simp) <;> (try omega))) ?_ ?_ <;> (repeat' (first | exact leSl_nil | exact leHp_nil | refine leSl_cons (by simp (disch := omega) only [go_sem, ↓reduceIte, Nat.reduceEqDiff, Nat.reduceLT, Nat.reduceLeDiff, Nat.reduceAdd, Nat.reduceMul, Nat.reduceSub, reduceCtorEq, Nat.reduceBEq, Int.reduceToNat, Int.reducePow, if_pos, if_neg]; rfl) ?_ ?_ | refine leHp_cons (by simp (disch := omega) only [go_sem, ↓reduceIte, Nat.reduceEqDiff, Nat.reduceLT, Nat.reduceLeDiff, Nat.reduceAdd, Nat.reduceMul, Nat.reduceSub, reduceCtorEq, Nat.reduceBEq, Int.reduceToNat, Int.reducePow, if_pos, if_neg]; rfl) ?_ ?_ | exact VLe.junk _ | exact VLe.refl rfl | exact VLe.nil_sl _ _ _ | exact VLe.int (by first | rfl | omega | (dsimp only; omega)) | exact VLe.bool rfl | exact VLe.sl rfl (by first | rfl | omega | (dsimp only; omega) | (simp; done)) | exact VLe.cap rfl (by first | rfl | omega | (dsimp only; omega) | (simp; done)) | exact VLe.im rfl rfl | exact HLe.new rfl | exact HLe.same rfl (LLe.refl rfl) | refine HLe.same rfl ?_ | exact LLe.nil _ | exact LLe.refl rfl | refine LLe.cons ?_ ?_)))
              all_goals exact VLe.nil_im
        · intro hbad
          refine SC.loop (fun i : Nat => ⟨[(2, .pt 0 0), (3, .sc (.int .i64 0)), (4, .sc (.bool neg)), (5, .sc (.string (st D))), (6, .pt 1 0), (7, .pt 2 0), (8, .sc (.int .i64 i))], [(2, ⟨27, [.sc (.bool bT), .im (lv T) T.length], false⟩), (1, ⟨27, [.sc (.bool false), .im (lv (limbsOf (numOf (D.take i)))) (limbsOf (numOf (D.take i))).length], false⟩), (0, ⟨27, [.sc (.bool false), .sc (.slice none 0 0)], false⟩)], 3, 74⟩)
            (fun i => i ≤ D.length ∧ Digs (D.take i)) (fun i => D.length - i) 0 ?_ ?_ ?_
          · have e0 : limbsOf (numOf (D.take 0)) = [] := limbsOf_nil.2 rfl
            simp only [e0]
            (refine Le.of [] hB (by first | exact ⟨Nat.zero_le _, fun _ _ => Nat.zero_le _⟩ | (constructor <;> (try simp) <;> (try omega))) ?_ ?_ <;> (repeat' (first | exact leSl_nil | exact leHp_nil | refine leSl_cons (by simp (disch := omega) only [go_sem, ↓reduceIte, Nat.reduceEqDiff, Nat.reduceLT, Nat.reduceLeDiff, Nat.reduceAdd, Nat.reduceMul, Nat.reduceSub, reduceCtorEq, Nat.reduceBEq, Int.reduceToNat, Int.reducePow, if_pos, if_neg]; rfl) ?_ ?_ | refine leHp_cons (by simp (disch := omega) only [go_sem, ↓reduceIte, Nat.reduceEqDiff, Nat.reduceLT, Nat.reduceLeDiff, Nat.reduceAdd, Nat.reduceMul, Nat.reduceSub, reduceCtorEq, Nat.reduceBEq, Int.reduceToNat, Int.reducePow, if_pos, if_neg]; rfl) ?_ ?_ | exact VLe.junk _ | exact VLe.refl rfl | exact VLe.nil_sl _ _ _ | exact VLe.int (by first | rfl | omega | (dsimp only; omega)) | exact VLe.bool rfl | exact VLe.sl rfl (by first | rfl | omega | (dsimp only; omega) | (simp; done)) | exact VLe.cap rfl (by first | rfl | omega | (dsimp only; omega) | (simp; done)) | exact VLe.im rfl rfl | exact HLe.new rfl | exact HLe.same rfl (LLe.refl rfl) | refine HLe.same rfl ?_ | exact LLe.nil _ | exact LLe.refl rfl | refine LLe.cons ?_ ?_)))
          · exact ⟨Nat.zero_le _, by intro y hy; simp at hy⟩
          · rintro i ⟨hi, hd⟩ K hK
            have e4 := st_size D
            by_cases hend : i < D.length
            · have q4 := decide_eq_true (p := (i : Int) < (D.length : Int)) (by omega)
              have g2 := strIx_st hlD hend
              have hy256 : D.getD i 0 < 256 := by
                rw [List.getD_eq_getElem?_getD, List.getElem?_eq_getElem hend]; exact hlD _ (List.getElem_mem _)
              have bad : ¬ (48 ≤ D.getD i 0 ∧ D.getD i 0 ≤ 57) → canB D neg = false := by
                intro h
                have : digB D = false := by
                  unfold digB
                  rw [List.all_eq_false]
                  refine ⟨D.getD i 0, ?_, by generalize D.getD i 0 = y at *; simp; omega⟩
                  rw [List.getD_eq_getElem?_getD, List.getElem?_eq_getElem hend]; exact List.getElem_mem hend
                unfold canB; rw [this]; rfl
              have e0 : limbsOf (Int.natAbs 0) = [] := limbsOf_nil.2 rfl
              by_cases y1 : D.getD i 0 < 48
              · have q5 := decide_eq_true (p := ((D.getD i 0 : Nat) : Int) < 48) (by omega)
                rw [bad (by omega), if_neg (by decide)]
                unfold iv sv
                simp only [e0]
                (repeat (first | refine DO.nil (by kernel_rfl) ?_ | (with_reducible refine oz (by constructor <;> decide) ?_) | ((first | apply SO.call | apply DO.call); (iterate 3 (focus (simp (disch := omega) only [go_sem, ↓reduceIte, Nat.reduceEqDiff, Nat.reduceLT, Nat.reduceLeDiff, Nat.reduceAdd, Nat.reduceMul, Nat.reduceSub, reduceCtorEq, Nat.reduceBEq, Int.reduceToNat, Int.reducePow, if_pos, if_neg, e4, q4, g2, q5] <;> rfl))); (first | apply SCall.ofX | apply DCall.ofX); (focus (first | assumption)); (focus (simp (disch := omega) only [go_sem, ↓reduceIte, Nat.reduceEqDiff, Nat.reduceLT, Nat.reduceLeDiff, Nat.reduceAdd, Nat.reduceMul, Nat.reduceSub, reduceCtorEq, Nat.reduceBEq, Int.reduceToNat, Int.reducePow, if_pos, if_neg, e4, q4, g2, q5] <;> rfl))) | ((with_reducible first | apply SC.condB | apply SC.region | apply SO.run | apply DO.run); (focus (simp (disch := omega) only [go_sem, ↓reduceIte, Nat.reduceEqDiff, Nat.reduceLT, Nat.reduceLeDiff, Nat.reduceAdd, Nat.reduceMul, Nat.reduceSub, reduceCtorEq, Nat.reduceBEq, Int.reduceToNat, Int.reducePow, if_pos, if_neg, e4, q4, g2, q5] <;> rfl)); (first | refine pickT ?_ | refine pickF ?_ | fail_if_success with_reducible refine pickA ?_)) | ((with_reducible refine SC.draw Tab.mixed ?_ ?_); (focus (first | rfl | simp (disch := omega) only [go_sem, ↓reduceIte, Nat.reduceEqDiff, Nat.reduceLT, Nat.reduceLeDiff, Nat.reduceAdd, Nat.reduceMul, Nat.reduceSub, reduceCtorEq, Nat.reduceBEq, Int.reduceToNat, Int.reducePow, if_pos, if_neg, e4, q4, g2, q5]))) | (with_reducible apply SC.ops)))
                exact retQ_ret Tryd.results8 (by simp (disch := omega) only [go_sem, ↓reduceIte, Nat.reduceEqDiff, Nat.reduceLT, Nat.reduceLeDiff, Nat.reduceAdd, Nat.reduceMul, Nat.reduceSub, reduceCtorEq, Nat.reduceBEq, Int.reduceToNat, Int.reducePow, if_pos, if_neg]; rfl) (by simp (disch := omega) only [go_sem, ↓reduceIte, Nat.reduceEqDiff, Nat.reduceLT, Nat.reduceLeDiff, Nat.reduceAdd, Nat.reduceMul, Nat.reduceSub, reduceCtorEq, Nat.reduceBEq, Int.reduceToNat, Int.reducePow, if_pos, if_neg]; rfl) rfl
              · have q5 := decide_eq_false (p := ((D.getD i 0 : Nat) : Int) < 48) (by omega)
                by_cases y2 : 57 < D.getD i 0
                · have q6 := decide_eq_true (p := (57 : Int) < ((D.getD i 0 : Nat) : Int)) (by omega)
                  rw [bad (by omega), if_neg (by decide)]
                  unfold iv sv
                  simp only [e0]
                  (repeat (first | refine DO.nil (by kernel_rfl) ?_ | (with_reducible refine oz (by constructor <;> decide) ?_) | ((first | apply SO.call | apply DO.call); (iterate 3 (focus (simp (disch := omega) only [go_sem, ↓reduceIte, Nat.reduceEqDiff, Nat.reduceLT, Nat.reduceLeDiff, Nat.reduceAdd, Nat.reduceMul, Nat.reduceSub, reduceCtorEq, Nat.reduceBEq, Int.reduceToNat, Int.reducePow, if_pos, if_neg, e4, q4, g2, q5, q6] <;> rfl))); (first | apply SCall.ofX | apply DCall.ofX); (focus (first | assumption)); (focus (simp (disch := omega) only [go_sem, ↓reduceIte, Nat.reduceEqDiff, Nat.reduceLT, Nat.reduceLeDiff, Nat.reduceAdd, Nat.reduceMul, Nat.reduceSub, reduceCtorEq, Nat.reduceBEq, Int.reduceToNat, Int.reducePow, if_pos, if_neg, e4, q4, g2, q5, q6] <;> rfl))) | ((with_reducible first | apply SC.condB | apply SC.region | apply SO.run | apply DO.run); (focus (simp (disch := omega) only [go_sem, ↓reduceIte, Nat.reduceEqDiff, Nat.reduceLT, Nat.reduceLeDiff, Nat.reduceAdd, Nat.reduceMul, Nat.reduceSub, reduceCtorEq, Nat.reduceBEq, Int.reduceToNat, Int.reducePow, if_pos, if_neg, e4, q4, g2, q5, q6] <;> rfl)); (first | refine pickT ?_ | refine pickF ?_ | fail_if_success with_reducible refine pickA ?_)) | ((with_reducible refine SC.draw Tab.mixed ?_ ?_); (focus (first | rfl | simp (disch := omega) only [go_sem, ↓reduceIte, Nat.reduceEqDiff, Nat.reduceLT, Nat.reduceLeDiff, Nat.reduceAdd, Nat.reduceMul, Nat.reduceSub, reduceCtorEq, Nat.reduceBEq, Int.reduceToNat, Int.reducePow, if_pos, if_neg, e4, q4, g2, q5, q6]))) | (with_reducible apply SC.ops)))
                  exact retQ_ret Tryd.results8 (by simp (disch := omega) only [go_sem, ↓reduceIte, Nat.reduceEqDiff, Nat.reduceLT, Nat.reduceLeDiff, Nat.reduceAdd, Nat.reduceMul, Nat.reduceSub, reduceCtorEq, Nat.reduceBEq, Int.reduceToNat, Int.reducePow, if_pos, if_neg]; rfl) (by simp (disch := omega) only [go_sem, ↓reduceIte, Nat.reduceEqDiff, Nat.reduceLT, Nat.reduceLeDiff, Nat.reduceAdd, Nat.reduceMul, Nat.reduceSub, reduceCtorEq, Nat.reduceBEq, Int.reduceToNat, Int.reducePow, if_pos, if_neg]; rfl) rfl
                · have q6 := decide_eq_false (p := (57 : Int) < ((D.getD i 0 : Nat) : Int)) (by omega)
                  have c1 := cM i hd
                  have hd2 : Digs (D.take (i + 1)) := by
                    rw [List.take_succ_eq_append_getElem hend]
                    refine digs_app hd ?_
                    intro z hz; simp at hz; subst hz
                    have : D.getD i 0 = D[i] := by rw [List.getD_eq_getElem?_getD, List.getElem?_eq_getElem hend]; rfl
                    omega
                  have hnt := numOf_take1 hend
                  have c2 := of_i ((D.getD i 0 : Int) - 48) (by omega) (by omega)
                  have c3 := add_i ((numOf (D.take i) : Int) * 10) ((D.getD i 0 : Int) - 48) 4002 (((hfi i hd).mul hf10).mono (by decide)) ((fits_one (by omega)).mono (by decide)) (by decide)
                  have c3e : (numOf (D.take i) : Int) * 10 + ((D.getD i 0 : Int) - 48) = ((numOf (D.take (i + 1)) : Nat) : Int) := by omega
                  rw [c3e, ivn] at c3
                  unfold iv sv at c2 c3
                  generalize D.getD i 0 = y at *
                  generalize numOf (D.take i) = a at *
                  (repeat (first | refine DO.nil (by kernel_rfl) ?_ | (with_reducible refine oz (by constructor <;> decide) ?_) | ((first | apply SO.call | apply DO.call); (iterate 3 (focus (simp (disch := omega) only [go_sem, ↓reduceIte, Nat.reduceEqDiff, Nat.reduceLT, Nat.reduceLeDiff, Nat.reduceAdd, Nat.reduceMul, Nat.reduceSub, reduceCtorEq, Nat.reduceBEq, Int.reduceToNat, Int.reducePow, if_pos, if_neg, e4, q4, g2, q5, q6] <;> rfl))); (first | apply SCall.ofX | apply DCall.ofX); (focus (first | assumption)); (focus (simp (disch := omega) only [go_sem, ↓reduceIte, Nat.reduceEqDiff, Nat.reduceLT, Nat.reduceLeDiff, Nat.reduceAdd, Nat.reduceMul, Nat.reduceSub, reduceCtorEq, Nat.reduceBEq, Int.reduceToNat, Int.reducePow, if_pos, if_neg, e4, q4, g2, q5, q6] <;> rfl))) | ((with_reducible first | apply SC.condB | apply SC.region | apply SO.run | apply DO.run); (focus (simp (disch := omega) only [go_sem, ↓reduceIte, Nat.reduceEqDiff, Nat.reduceLT, Nat.reduceLeDiff, Nat.reduceAdd, Nat.reduceMul, Nat.reduceSub, reduceCtorEq, Nat.reduceBEq, Int.reduceToNat, Int.reducePow, if_pos, if_neg, e4, q4, g2, q5, q6] <;> rfl)); (first | refine pickT ?_ | refine pickF ?_ | fail_if_success with_reducible refine pickA ?_)) | ((with_reducible refine SC.draw Tab.mixed ?_ ?_); (focus (first | rfl | simp (disch := omega) only [go_sem, ↓reduceIte, Nat.reduceEqDiff, Nat.reduceLT, Nat.reduceLeDiff, Nat.reduceAdd, Nat.reduceMul, Nat.reduceSub, reduceCtorEq, Nat.reduceBEq, Int.reduceToNat, Int.reducePow, if_pos, if_neg, e4, q4, g2, q5, q6]))) | (with_reducible apply SC.ops)))
                  refine hK _ (i + 1) ?_ ⟨by omega, hd2⟩ (by omega)
                  (refine Le.of [] hB (by first | exact ⟨Nat.zero_le _, fun _ _ => Nat.zero_le _⟩ | (constructor <;> (try simp) <;> (try omega))) ?_ ?_ <;> (repeat' (first | exact leSl_nil | exact leHp_nil | refine leSl_cons (by simp (disch := omega) only [go_sem, ↓reduceIte, Nat.reduceEqDiff, Nat.reduceLT, Nat.reduceLeDiff, Nat.reduceAdd, Nat.reduceMul, Nat.reduceSub, reduceCtorEq, Nat.reduceBEq, Int.reduceToNat, Int.reducePow, if_pos, if_neg]; rfl) ?_ ?_ | refine leHp_cons (by simp (disch := omega) only [go_sem, ↓reduceIte, Nat.reduceEqDiff, Nat.reduceLT, Nat.reduceLeDiff, Nat.reduceAdd, Nat.reduceMul, Nat.reduceSub, reduceCtorEq, Nat.reduceBEq, Int.reduceToNat, Int.reducePow, if_pos, if_neg]; rfl) ?_ ?_ | exact VLe.junk _ | exact VLe.refl rfl | exact VLe.nil_sl _ _ _ | exact VLe.int (by first | rfl | omega | (dsimp only; omega)) | exact VLe.bool rfl | exact VLe.sl rfl (by first | rfl | omega | (dsimp only; omega) | (simp; done)) | exact VLe.cap rfl (by first | rfl | omega | (dsimp only; omega) | (simp; done)) | exact VLe.im rfl rfl | exact HLe.new rfl | exact HLe.same rfl (LLe.refl rfl) | refine HLe.same rfl ?_ | exact LLe.nil _ | exact LLe.refl rfl | refine LLe.cons ?_ ?_)))
            · have q4 := decide_eq_false (p := (i : Int) < (D.length : Int)) (by omega)
              have ht : D.take i = D := List.take_of_length_le (by omega)
              rw [ht] at hd ⊢
              have hg : digB D = true := by
                unfold digB; rw [List.all_eq_true]; intro z hz; have := hd z hz; simp; omega
              have hc : canB D neg = true := by rw [badB_can, hg, hbad]; rfl
              rw [hc, if_pos rfl]
              have hfl := fits_len' (n := numOf D) (K := 2000) (by have := hfi D.length (by rw [List.take_length]; exact hd); rw [List.take_length] at this; unfold Fits at this; rwa [Int.natAbs_natCast] at this)
              have c5 := made_i (limbsOf (numOf D)) neg (limbsOf_limbs _) (by omega)
              rw [limbsOf_val] at c5
              unfold iv sv at c5 ⊢
              generalize numOf D = a at *
              (repeat (first | refine DO.nil (by kernel_rfl) ?_ | (with_reducible refine oz (by constructor <;> decide) ?_) | ((first | apply SO.call | apply DO.call); (iterate 3 (focus (simp (disch := omega) only [go_sem, ↓reduceIte, Nat.reduceEqDiff, Nat.reduceLT, Nat.reduceLeDiff, Nat.reduceAdd, Nat.reduceMul, Nat.reduceSub, reduceCtorEq, Nat.reduceBEq, Int.reduceToNat, Int.reducePow, if_pos, if_neg, e4, q4, lv_len] <;> rfl))); (first | apply SCall.ofX | apply DCall.ofX); (focus (first | assumption)); (focus (simp (disch := omega) only [go_sem, ↓reduceIte, Nat.reduceEqDiff, Nat.reduceLT, Nat.reduceLeDiff, Nat.reduceAdd, Nat.reduceMul, Nat.reduceSub, reduceCtorEq, Nat.reduceBEq, Int.reduceToNat, Int.reducePow, if_pos, if_neg, e4, q4, lv_len] <;> rfl))) | ((with_reducible first | apply SC.condB | apply SC.region | apply SO.run | apply DO.run); (focus (simp (disch := omega) only [go_sem, ↓reduceIte, Nat.reduceEqDiff, Nat.reduceLT, Nat.reduceLeDiff, Nat.reduceAdd, Nat.reduceMul, Nat.reduceSub, reduceCtorEq, Nat.reduceBEq, Int.reduceToNat, Int.reducePow, if_pos, if_neg, e4, q4, lv_len] <;> rfl)); (first | refine pickT ?_ | refine pickF ?_ | fail_if_success with_reducible refine pickA ?_)) | ((with_reducible refine SC.draw Tab.mixed ?_ ?_); (focus (first | rfl | simp (disch := omega) only [go_sem, ↓reduceIte, Nat.reduceEqDiff, Nat.reduceLT, Nat.reduceLeDiff, Nat.reduceAdd, Nat.reduceMul, Nat.reduceSub, reduceCtorEq, Nat.reduceBEq, Int.reduceToNat, Int.reducePow, if_pos, if_neg, e4, q4, lv_len]))) | (with_reducible apply SC.ops)))
              exact retQ_ret Tryd.results8 (by simp (disch := omega) only [go_sem, ↓reduceIte, Nat.reduceEqDiff, Nat.reduceLT, Nat.reduceLeDiff, Nat.reduceAdd, Nat.reduceMul, Nat.reduceSub, reduceCtorEq, Nat.reduceBEq, Int.reduceToNat, Int.reducePow, if_pos, if_neg]; rfl) (by simp (disch := omega) only [go_sem, ↓reduceIte, Nat.reduceEqDiff, Nat.reduceLT, Nat.reduceLeDiff, Nat.reduceAdd, Nat.reduceMul, Nat.reduceSub, reduceCtorEq, Nat.reduceBEq, Int.reduceToNat, Int.reducePow, if_pos, if_neg]; rfl) rfl
end Go.Proofs.YtagidfadibedoaaDoor

/- Texts and integers, back and forth: the plain law; strings compared. -/
namespace Go.Proofs.YtagidfadibedoaaDoor
open Go.RowKit
theorem digB_of {l : List Nat} (h : Digs l) : digB l = true := by
  unfold digB; rw [List.all_eq_true]; intro z hz; have := h z hz; simp; omega
theorem txt_lt (z : Int) : ∀ x ∈ txt z, x < 256 := by
  intro x hx
  unfold txt at hx
  rcases List.mem_append.1 hx with h | h
  · split at h
    · simp at h; omega
    · cases h
  · exact digs_lt (dec_digs _) x h
theorem txt_len (z : Int) (K : Nat) (h : Fits K z) : (txt z).length ≤ 10 * K + 2 := by
  have := dec_len_10 z.natAbs K h
  unfold txt; split <;> simp <;> omega
theorem dec_notM (n : Nat) : (dec n).head? ≠ some 45 := by
  intro h
  have h2 := dec_digs n
  cases hd : dec n with
  | nil => exact dec_ne n hd
  | cons x l =>
    rw [hd] at h h2
    have := h2 x (by simp)
    simp at h; omega
theorem isM_txt (z : Int) : isM (txt z) = decide (z < 0) := by
  unfold isM txt
  by_cases h : z < 0
  · rw [if_pos h, decide_eq_true h]; rfl
  · rw [if_neg h, decide_eq_false h, List.nil_append]; exact decide_eq_false (dec_notM _)
theorem unM_txt (z : Int) : unM (txt z) = dec z.natAbs := by
  unfold unM txt
  by_cases h : z < 0
  · rw [if_pos h]; rfl
  · rw [if_neg h, List.nil_append, if_neg (dec_notM _)]
theorem can_canB (n : Nat) (neg : Bool) (h : neg = true → 0 < n) : canB (dec n) neg = true := by
  obtain ⟨h1, h2, h3⟩ := dec_can n
  unfold canB
  rw [digB_of h2]
  cases hd : dec n with
  | nil => exact absurd hd h1
  | cons x l =>
    by_cases hx : x = 48
    · subst hx
      have hn : n = 0 := dec_head (by rw [hd]; rfl)
      have h4 := h3 (by rw [hd]; rfl)
      rw [hd] at h4
      cases neg with
      | true => have := h rfl; omega
      | false => rw [h4]; rfl
    · simp [hx]
theorem canB_can {D : List Nat} {neg : Bool} (h : canB D neg = true) : Can D ∧ (neg = true → 0 < numOf D) := by
  have hd := canB_digs h
  unfold canB at h
  rw [digB_of hd, Bool.true_and, Bool.and_eq_true] at h
  obtain ⟨h1, h2⟩ := h
  have hne : D ≠ [] := by intro e; subst e; simp at h1
  have hc : Can D := by
    refine ⟨hne, hd, fun h48 => ?_⟩
    rw [h48] at h2
    simp at h2; exact h2.1
  refine ⟨hc, fun hn => ?_⟩
  rcases Nat.eq_zero_or_pos (numOf D) with e | e
  · have hD := can_dec hc
    rw [e, dec_lt (by decide)] at hD
    subst hD; subst hn; simp at h2
  · exact e
theorem read_txt (z : Int) (h : (txt z).length ≤ 2000) : readP (txt z) = (z, 0) := by
  unfold readP
  rw [if_neg (by omega), isM_txt, unM_txt, can_canB _ _ (fun h => by have := of_decide_eq_true h; omega), if_pos rfl, numOf_dec]
  unfold sgn
  by_cases h : z < 0
  · rw [decide_eq_true h, if_pos rfl]; simp; omega
  · rw [decide_eq_false h]; simp; omega
theorem txt_read (l : List Nat) (h : (readP l).2 = 0) : txt (readP l).1 = l := by
  unfold readP at h ⊢
  by_cases h1 : 2000 < l.length
  · rw [if_pos h1] at h; exact absurd h (by decide)
  rw [if_neg h1] at h ⊢
  by_cases h2 : canB (unM l) (isM l) = true
  · rw [if_pos h2]
    obtain ⟨hc, hn⟩ := canB_can h2
    show txt (sgn (isM l) (numOf (unM l))) = l
    have hd := can_dec hc
    unfold txt
    rw [sgn_natAbs, hd]
    unfold isM at hn ⊢
    unfold unM at hn hd ⊢
    by_cases hm : l.head? = some 45
    · rw [decide_eq_true hm] at hn ⊢
      have hp := hn rfl
      rw [if_pos hm] at hp ⊢
      rw [if_pos (by unfold sgn; simp; omega)]
      cases l with
      | nil => simp at hm
      | cons x l => simp at hm; subst hm; rfl
    · rw [decide_eq_false hm, if_neg hm, if_neg (by unfold sgn; simp)]; rfl
  · rw [if_neg h2] at h; exact absurd h (by decide)
theorem fits_zeroT (K : Nat) : Fits K 0 := Nat.pow_pos (by decide)
theorem readP_fits (l : List Nat) (K : Nat) (h : l.length ≤ K) : Fits K (readP l).1 := by
  unfold readP
  split
  · exact fits_zeroT _
  split
  · rename_i hc
    have := fits_numOf (canB_can hc).1.2.1 K (by have := unM_len l; omega)
    unfold Fits at *
    show (sgn _ _).natAbs < _
    rw [sgn_natAbs]; rwa [Int.natAbs_natCast] at this
  · exact fits_zeroT _
theorem st_all (s : ByteArray) : ∃ l : List Nat, s = st l ∧ (∀ x ∈ l, x < 256) ∧ s.size = l.length := by
  refine ⟨s.data.toList.map UInt8.toNat, ?_, ?_, by rw [List.length_map]; rfl⟩
  · apply ByteArray.ext
    simp only [st, List.map_map]
    have : (UInt8.ofNat ∘ UInt8.toNat) = id := by funext x; simp
    rw [this]; simp
  · intro x hx
    obtain ⟨b, _, rfl⟩ := List.mem_map.1 hx
    exact b.toNat_lt
end Go.Proofs.YtagidfadibedoaaDoor
