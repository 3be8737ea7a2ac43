/- Texts joined: Eu. -/
import Derived.Test.YtphilljhfdlfdaaZc
import Derived.Test.YtphilljhfdlfdaaZi
import Derived.Test.YtphilljhfdlfdaaZj
set_option linter.all false
open Nat renaming reduceEqDiff → zn1, reduceLT → zn2, reduceLeDiff → zn3, reduceAdd → zn4, reduceMul → zn5, reduceSub → zn6, reduceBEq → zn7
open Int renaming reduceToNat → zi1, reducePow → zi2
namespace Go.Proofs.Ytphilljhfdlfdaa
open Go.RowKit
theorem rh_only (x : RHs) : Only (fun _ => False) (.ag [.sc (.int .i64 x.start), .im (rcs x.base) x.base.length, .im (rgs x.log) x.log.length]) := by
  refine .ag fun y hy => ?_
  simp only [List.mem_cons, List.not_mem_nil, or_false] at hy
  rcases hy with rfl | rfl | rfl
  · exact .sc _
  · exact .im _ _
  · exact .im _ _
set_option maxHeartbeats 16000000 in
set_option maxRecDepth 20000 in
theorem whist_s {x : RHs} (hx : RHsOk x) (hi : RHsI x) {l : List Int} (hl : U8s l) :
    Spec Try.prog 4 [rhC x, .im (bw l) l.length] (.sc (.bool true)) := by
  have c0 := sanity_s
  by_cases h20 : l.length > 20
  · have q1 : decide ((l.length : Int) > 20) = true := by rw [decide_eq_true_iff]; omega
    unfold rhC
    refine Spec.run Try.func4 rfl Try.ntmps4 (by simp) (by simp (disch := omega) only [go_sem, zn4]; rfl) fun B hB => ?_
    (repeat (first | refine DO.nil (by kernel_rfl) ?_ | (with_reducible first | apply oz1 | apply oz2 | apply oz3 | apply oz4 | apply oz5 | apply oz6 | apply oz7 | apply oz8 | apply oz9 | apply ozb | apply ozc | apply oze | apply ozf | apply ozg | apply ozh | apply ozi | apply ozj | apply ozk | refine ozd (by decide) ?_) | ((first | apply SO.call | apply DO.call); (iterate 3 (focus (simp (disch := omega) only [go_sem] <;> rfl))); (first | apply SCall.ofX | apply DCall.ofX); (focus (first | assumption)); (focus (simp (disch := omega) only [go_sem] <;> rfl))) | ((with_reducible first | apply SC.condB | apply SC.region | apply SO.run | apply DO.run); (focus (simp (disch := omega) only [go_sem, ↓reduceIte, zn1, reduceCtorEq, q1] <;> rfl)); (first | refine pickT ?_ | refine pickF ?_ | fail_if_success with_reducible refine pickA ?_)) | ((with_reducible refine SC.draw Tab.mixed ?_ ?_); (focus rfl)) | (with_reducible apply SC.ops)))
    exact retQ_ret Try.results4 (by simp (disch := omega) only [go_sem, ↓reduceIte] <;> rfl) rfl rfl
  · have q1 : decide ((l.length : Int) > 20) = false := by rw [decide_eq_false_iff_not]; omega
    have c1 := mkhist_s x hx
    obtain ⟨hfit, hok, hhd, hln, _⟩ := mhs_fit hx hi
    generalize x.made = h at *
    have hN : (l ++ hst_ h).length = l.length + (hst_ h).length := List.length_append
    have c2 := PutHistory_s (b := l) hok (by omega)
    have a1 := rhist_s hok 4 l none (by omega)
    have c3 := same_s (l ++ hst_ h)
    have c4 := GetHistory_s (l ++ hst_ h) (l ++ hst_ h).length l.length (hl.app (u8_hst h)) (Nat.le_refl _) (by omega)
    rw [getH_full hfit] at c4
    have a2 := rhist0_s hok (by omega) 0 ⟨5, [], false⟩
    have c5 := same_s (hst_ h)
    have c6 : ∀ n, l.length ≤ n → n < (l ++ hst_ h).length → Spec Try.prog 22 [.im (bw ((l ++ hst_ h).take n)) n, .sc (.int .i64 l.length)] (tuH (noH, 0, 5)) := by
      intro n h1 h2
      have h := GetHistory_s ((l ++ hst_ h).take n) n l.length ((hl.app (u8_hst h)).take n) (by rw [List.length_take]; omega) (by omega)
      rwa [getH_cut hfit h1 h2] at h
    have gd : (bw (l ++ hst_ h)).drop l.length = bw (hst_ h) := by rw [bw_drop, List.drop_left]
    have gd2 : (l ++ hst_ h).length - l.length = (hst_ h).length := by omega
    have gtk : ∀ n, (bw (l ++ hst_ h)).take n = bw ((l ++ hst_ h).take n) := fun n => bw_take _ _
    have gl := bw_len (l ++ hst_ h)
    have gt : (bw (l ++ hst_ h)).take (l ++ hst_ h).length = bw (l ++ hst_ h) := List.take_of_length_le (by omega)
    have gcl := bw_clo (l ++ hst_ h)
    have gl2 := bw_len (hst_ h)
    have gt2 : (bw (hst_ h)).take (hst_ h).length = bw (hst_ h) := List.take_of_length_le (by omega)
    have gcl2 := bw_clo (hst_ h)
    have glb := bw_len l
    have gob := bw_one l
    have gtb : (bw l).take l.length = bw l := List.take_of_length_le (by omega)
    rw [← hN] at a1
    have hle : l.length ≤ (l ++ hst_ h).length := by omega
    have hNle : (l ++ hst_ h).length ≤ 2000 := by omega
    clear c0 hfit hok hhd hln hN hx hi
    have c0 := sanity_s
    generalize (l ++ hst_ h).length = N at *
    generalize hE : bw (l ++ hst_ h) = E at *
    unfold tuH hstC noH at *
    unfold rhC at c1 ⊢
    have z0 : ((0 : Nat) : Int) = 0 := rfl
    have z5 : ((5 : Nat) : Int) = 5 := rfl
    simp only [z0, z5] at c4 c6
    have e0 : cels [] = [] := rfl
    have e1 : chgs [] = [] := rfl
    simp only [e0, e1, List.length_nil] at c6
    generalize (hst_ h).length = N2 at *
    generalize bw (hst_ h) = E2 at *
    refine Spec.run Try.func4 rfl Try.ntmps4 (by simp) (by simp (disch := omega) only [go_sem, zn4]; rfl) fun B hB => ?_
    refine SC.weak (by simp) (nilSl (tO := 5) (sl' := [(0, .ag [.sc (.int .i64 x.start), .im (rcs x.base) x.base.length, .im (rgs x.log) x.log.length]), (1, .im (bw l) l.length)]) (hp' := []) 0 hB (by omega) ?_ ?_) ?_
    · refine mapSl_cons (by simp (disch := omega) only [go_sem, ↓reduceIte] <;> rfl) (rh_only x).same ?_
      (repeat' (first | exact trivial | refine mapSl_cons (by simp (disch := omega) only [go_sem, ↓reduceIte, reduceCtorEq] <;> rfl) ?_ ?_ | exact VMap.junk _ | exact VMap.sc _ | exact VMap.clo rfl | exact VMap.sl rfl (by omega) | exact VMap.cap rfl (by omega) | exact VMap.pt rfl (by omega) | exact VMap.nil_sl _ _ _ | exact VMap.int (by first | rfl | omega | (dsimp only; omega))))
    · exact mapHp_nil
    (repeat (first | refine DO.nil (by kernel_rfl) ?_ | (with_reducible first | apply oz1 | apply oz2 | apply oz3 | apply oz4 | apply oz5 | apply oz6 | apply oz7 | apply oz8 | apply oz9 | apply ozb | apply ozc | apply oze | apply ozf | apply ozg | apply ozh | apply ozi | apply ozj | apply ozk | refine ozd (by decide) ?_) | ((first | apply SO.call | apply DO.call); (iterate 3 (focus (simp (disch := omega) only [go_sem, ↓reduceIte, zn1, if_pos, glb, gtb, List.nil_append, List.drop_zero, Nat.zero_add, Nat.mul_one] <;> rfl))); (first | apply SCall.ofX | apply DCall.ofX); (focus (first | assumption)); (focus (simp (disch := omega) only [go_sem] <;> rfl))) | ((with_reducible first | apply SC.condB | apply SC.region | apply SO.run | apply DO.run); (focus (simp (disch := omega) only [go_sem, ↓reduceIte, zn1, zn3, zn4, reduceCtorEq, if_pos, q1, glb, gob, List.nil_append, List.take_nil, List.drop_zero, Nat.zero_add, Nat.mul_one] <;> rfl)); (first | refine pickT ?_ | refine pickF ?_ | fail_if_success with_reducible refine pickA ?_)) | ((with_reducible refine SC.draw Tab.mixed ?_ ?_); (focus rfl)) | (with_reducible apply SC.ops)))
    (first | refine SO.callA Tab.go21 (by simp (disch := omega) only [go_sem, ↓reduceIte, zn1, zn2, zn3, zn4, zn5, zn6, reduceCtorEq, zn7, zi1, zi2, if_pos, if_neg] <;> rfl) (by simp (disch := omega) only [go_sem, ↓reduceIte, zn1, zn2, zn3, zn4, zn5, zn6, reduceCtorEq, zn7, zi1, zi2, if_pos, if_neg] <;> rfl) (SApp.of (a1) (by simp (disch := omega) only [go_sem, ↓reduceIte, zn1, zn2, zn3, zn4, zn5, zn6, reduceCtorEq, zn7, zi1, zi2, if_pos, if_neg] <;> rfl) rfl (by simp (disch := omega) only [go_sem, ↓reduceIte, zn1, zn2, zn3, zn4, zn5, zn6, reduceCtorEq, zn7, zi1, zi2, if_pos, if_neg] <;> rfl) ?_) | refine DO.callA Tab.go21 (by simp (disch := omega) only [go_sem, ↓reduceIte, zn1] <;> rfl) (by simp (disch := omega) only [go_sem] <;> rfl) (DApp.of (a1) (by simp (disch := omega) only [go_sem, ↓reduceIte] <;> rfl) rfl (by simp (disch := omega) only [go_sem, ↓reduceIte, zn1, zn4, reduceCtorEq] <;> rfl) ?_))
    (repeat (first | refine DO.nil (by kernel_rfl) ?_ | (with_reducible first | apply oz1 | apply oz2 | apply oz3 | apply oz4 | apply oz5 | apply oz6 | apply oz7 | apply oz8 | apply oz9 | apply ozb | apply ozc | apply oze | apply ozf | apply ozg | apply ozh | apply ozi | apply ozj | apply ozk | refine ozd (by decide) ?_) | ((first | apply SO.call | apply DO.call); (iterate 3 (focus (simp (disch := omega) only [go_sem, ↓reduceIte, zn1, if_pos, gl, gt, gcl, List.drop_zero, Nat.mul_one] <;> rfl))); (first | apply SCall.ofX | apply DCall.ofX); (focus (first | assumption)); (focus (simp (disch := omega) only [go_sem] <;> rfl))) | ((with_reducible first | apply SC.condB | apply SC.region | apply SO.run | apply DO.run); (focus (simp (disch := omega) only [go_sem, ↓reduceIte, zn1, zn3, zn4, reduceCtorEq, List.drop_zero, bne_self_eq_false] <;> rfl)); (first | refine pickT ?_ | refine pickF ?_ | fail_if_success with_reducible refine pickA ?_)) | ((with_reducible refine SC.draw Tab.mixed ?_ ?_); (focus rfl)) | (with_reducible apply SC.ops)))
    (first | refine SO.callA Tab.go21 (by simp (disch := omega) only [go_sem, ↓reduceIte, zn1, zn2, zn3, zn4, zn5, zn6, reduceCtorEq, zn7, zi1, zi2, if_pos, if_neg] <;> rfl) (by simp (disch := omega) only [go_sem, ↓reduceIte, zn1, zn2, zn3, zn4, zn5, zn6, reduceCtorEq, zn7, zi1, zi2, if_pos, if_neg] <;> rfl) (SApp.of (a2) (by simp (disch := omega) only [go_sem, ↓reduceIte, zn1, zn2, zn3, zn4, zn5, zn6, reduceCtorEq, zn7, zi1, zi2, if_pos, if_neg] <;> rfl) rfl (by simp (disch := omega) only [go_sem, ↓reduceIte, zn1, zn2, zn3, zn4, zn5, zn6, reduceCtorEq, zn7, zi1, zi2, if_pos, if_neg] <;> rfl) ?_) | refine DO.callA Tab.go21 (by simp (disch := omega) only [go_sem, ↓reduceIte] <;> rfl) (by simp (disch := omega) only [go_sem, ↓reduceIte, zn1] <;> rfl) (DApp.of (a2) (by simp (disch := omega) only [go_sem, ↓reduceIte, reduceCtorEq] <;> rfl) rfl (by simp (disch := omega) only [go_sem, ↓reduceIte, zn4, reduceCtorEq] <;> rfl) ?_))
    (repeat (first | refine DO.nil (by kernel_rfl) ?_ | (with_reducible first | apply oz1 | apply oz2 | apply oz3 | apply oz4 | apply oz5 | apply oz6 | apply oz7 | apply oz8 | apply oz9 | apply ozb | apply ozc | apply oze | apply ozf | apply ozg | apply ozh | apply ozi | apply ozj | apply ozk | refine ozd (by decide) ?_) | ((first | apply SO.call | apply DO.call); (iterate 3 (focus (simp (disch := omega) only [go_sem, ↓reduceIte, zn1, if_pos, gl2, gt2, gcl2, List.drop_zero, Nat.mul_one] <;> rfl))); (first | apply SCall.ofX | apply DCall.ofX); (focus (first | assumption)); (focus (simp (disch := omega) only [go_sem] <;> rfl))) | ((with_reducible first | apply SC.condB | apply SC.region | apply SO.run | apply DO.run); (focus (simp (disch := omega) only [go_sem, ↓reduceIte, zn1, reduceCtorEq, if_pos, gt2, gd, gd2, Nat.mul_one] <;> rfl)); (first | refine pickT ?_ | refine pickF ?_ | fail_if_success with_reducible refine pickA ?_)) | ((with_reducible refine SC.draw Tab.mixed ?_ ?_); (focus rfl)) | (with_reducible apply SC.ops)))
    refine SC.loop (fun i : Nat => ⟨[(1, .im (bw l) l.length), (5, .sc (.bool true)), (7, .im E N), (11, .sc (.int .i64 i))], [], 8, 80⟩) (fun i => l.length ≤ i ∧ i ≤ N) (fun i => N - i) l.length ?_ ⟨Nat.le_refl _, hle⟩ ?_
    · (refine Le.of [] hB (by first | exact ⟨Nat.zero_le _, fun _ _ => Nat.zero_le _⟩ | (constructor <;> (try simp) <;> (try omega))) ?_ ?_ <;> (repeat' (first | exact leSl_nil | exact leHp_nil | refine leSl_cons (by simp (disch := omega) only [go_sem, ↓reduceIte, zn1, reduceCtorEq]; rfl) ?_ ?_ | refine leHp_cons (by simp (disch := omega) only [go_sem, ↓reduceIte, zn1, zn2, zn3, zn4, zn5, zn6, reduceCtorEq, zn7, zi1, zi2, if_pos, if_neg]; rfl) ?_ ?_ | exact VLe.junk _ | exact VLe.refl rfl | exact VLe.nil_sl _ _ _ | exact VLe.int (by first | rfl | omega | (dsimp only; omega)) | exact VLe.bool rfl | exact VLe.sl rfl (by first | rfl | omega | (dsimp only; omega) | (simp; done)) | exact VLe.cap rfl (by first | rfl | omega | (dsimp only; omega) | (simp; done)) | exact VLe.im rfl rfl | exact HLe.new rfl | exact HLe.same rfl (LLe.refl rfl) | refine HLe.same rfl ?_ | exact LLe.nil _ | exact LLe.refl rfl | refine LLe.cons ?_ ?_)))
    · intro i ⟨hi1, hi2⟩ K hK
      by_cases hlt : i < N
      · have q2 : decide ((i : Int) < (N : Int)) = true := by rw [decide_eq_true_iff]; omega
        have c7 := c6 i hi1 hlt
        have g1 := gtk i
        have x0 : ((i : Int)).toNat = i := rfl
        clear c6 gtk c4
        (repeat (first | refine DO.nil (by kernel_rfl) ?_ | (with_reducible first | apply oz1 | apply oz2 | apply oz3 | apply oz4 | apply oz5 | apply oz6 | apply oz7 | apply oz8 | apply oz9 | apply ozb | apply ozc | apply oze | apply ozf | apply ozg | apply ozh | apply ozi | apply ozj | apply ozk | refine ozd (by decide) ?_) | ((first | apply SO.call | apply DO.call); (iterate 3 (focus (simp (disch := omega) only [go_sem, ↓reduceIte, zn1] <;> rfl))); (first | apply SCall.ofX | apply DCall.ofX); (focus (first | assumption)); (focus (simp (disch := omega) only [go_sem] <;> rfl))) | ((with_reducible first | apply SC.condB | apply SC.region | apply SO.run | apply DO.run); (focus (simp (disch := omega) only [go_sem, ↓reduceIte, zn1, zn3, zn4, if_pos, q2, x0, g1, List.drop_zero, Nat.mul_one, Nat.sub_zero, bne_self_eq_false] <;> rfl)); (first | refine pickT ?_ | refine pickF ?_ | fail_if_success with_reducible refine pickA ?_)) | ((with_reducible refine SC.draw Tab.mixed ?_ ?_); (focus rfl)) | (with_reducible apply SC.ops)))
        refine hK _ (i + 1) ?_ ⟨by omega, by omega⟩ (by omega)
        (refine Le.of [] hB (by first | exact ⟨Nat.zero_le _, fun _ _ => Nat.zero_le _⟩ | (constructor <;> (try simp) <;> (try omega))) ?_ ?_ <;> (repeat' (first | exact leSl_nil | exact leHp_nil | refine leSl_cons (by simp (disch := omega) only [go_sem, ↓reduceIte, zn1]; rfl) ?_ ?_ | refine leHp_cons (by simp (disch := omega) only [go_sem, ↓reduceIte, zn1, zn2, zn3, zn4, zn5, zn6, reduceCtorEq, zn7, zi1, zi2, if_pos, if_neg]; rfl) ?_ ?_ | exact VLe.junk _ | exact VLe.refl rfl | exact VLe.nil_sl _ _ _ | exact VLe.int (by first | rfl | omega | (dsimp only; omega)) | exact VLe.bool rfl | exact VLe.sl rfl (by first | rfl | omega | (dsimp only; omega) | (simp; done)) | exact VLe.cap rfl (by first | rfl | omega | (dsimp only; omega) | (simp; done)) | exact VLe.im rfl rfl | exact HLe.new rfl | exact HLe.same rfl (LLe.refl rfl) | refine HLe.same rfl ?_ | exact LLe.nil _ | exact LLe.refl rfl | refine LLe.cons ?_ ?_)))
      · have q2 : decide ((i : Int) < (N : Int)) = false := by rw [decide_eq_false_iff_not]; omega
        (repeat (first | refine DO.nil (by kernel_rfl) ?_ | (with_reducible first | apply oz1 | apply oz2 | apply oz3 | apply oz4 | apply oz5 | apply oz6 | apply oz7 | apply oz8 | apply oz9 | apply ozb | apply ozc | apply oze | apply ozf | apply ozg | apply ozh | apply ozi | apply ozj | apply ozk | refine ozd (by decide) ?_) | ((with_reducible first | apply SC.condB | apply SC.region | apply SO.run | apply DO.run); (focus (simp (disch := omega) only [go_sem, ↓reduceIte, zn1, zn2, q2] <;> rfl)); (first | refine pickT ?_ | refine pickF ?_ | fail_if_success with_reducible refine pickA ?_)) | ((with_reducible refine SC.draw Tab.mixed ?_ ?_); (focus rfl)) | (with_reducible apply SC.ops)))
        exact retQ_ret Try.results4 rfl rfl rfl
end Go.Proofs.Ytphilljhfdlfdaa
