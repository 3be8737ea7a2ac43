/- Texts joined: Eu Ew Ex Ey. -/
import Derived.Test.YtphilljhfdlfdaaZc
import Derived.Test.YtphilljhfdlfdaaZf
import Derived.Test.YtphilljhfdlfdaaZf
import Derived.Test.YtphilljhfdlfdaaZi
import Derived.Test.YtphilljhfdlfdaaZj
set_option linter.all false
open Nat renaming reduceEqDiff → zn1, reduceLT → zn2, reduceLeDiff → zn3, reduceAdd → zn4, reduceMul → zn5, reduceSub → zn6, reduceBEq → zn7
open Int renaming reduceToNat → zi1, reducePow → zi2
namespace Go.Proofs.Ytphilljhfdlfdaa
open Go.RowKit
theorem rh_only (x : RHs) : Only (fun _ => False) (.ag [.sc (.int .i64 x.start), .im (rcs x.base) x.base.length, .im (rgs x.log) x.log.length]) := by
  refine .ag fun y hy => ?_
  simp only [List.mem_cons, List.not_mem_nil, or_false] at hy
  rcases hy with rfl | rfl | rfl
  · exact .sc _
  · exact .im _ _
  · exact .im _ _
set_option maxHeartbeats 16000000 in
set_option maxRecDepth 20000 in
theorem whist_s {x : RHs} (hx : RHsOk x) (hi : RHsI x) {l : List Int} (hl : U8s l) :
    Spec Try.prog 4 [rhC x, .im (bw l) l.length] (.sc (.bool true)) := by
  have c0 := sanity_s
  by_cases h20 : l.length > 20
  · have q1 : decide ((l.length : Int) > 20) = true := by rw [decide_eq_true_iff]; omega
    unfold rhC
    refine Spec.run Try.func4 rfl Try.ntmps4 (by simp) (by simp (disch := omega) only [go_sem, zn4]; rfl) fun B hB => ?_
    (repeat (first | refine DO.nil (by kernel_rfl) ?_ | (with_reducible first | apply oz1 | apply oz2 | apply oz3 | apply oz4 | apply oz5 | apply oz6 | apply oz7 | apply oz8 | apply oz9 | apply ozb | apply ozc | apply oze | apply ozf | apply ozg | apply ozh | apply ozi | apply ozj | apply ozk | refine ozd (by decide) ?_) | ((first | apply SO.call | apply DO.call); (iterate 3 (focus (simp (disch := omega) only [go_sem] <;> rfl))); (first | apply SCall.ofX | apply DCall.ofX); (focus (first | assumption)); (focus (simp (disch := omega) only [go_sem] <;> rfl))) | ((with_reducible first | apply SC.condB | apply SC.region | apply SO.run | apply DO.run); (focus (simp (disch := omega) only [go_sem, ↓reduceIte, zn1, reduceCtorEq, q1] <;> rfl)); (first | refine pickT ?_ | refine pickF ?_ | fail_if_success with_reducible refine pickA ?_)) | ((with_reducible refine SC.draw Tab.mixed ?_ ?_); (focus rfl)) | (with_reducible apply SC.ops)))
    exact retQ_ret Try.results4 (by simp (disch := omega) only [go_sem, ↓reduceIte] <;> rfl) rfl rfl
  · have q1 : decide ((l.length : Int) > 20) = false := by rw [decide_eq_false_iff_not]; omega
    have c1 := mkhist_s x hx
    obtain ⟨hfit, hok, hhd, hln, _⟩ := mhs_fit hx hi
    generalize x.made = h at *
    have hN : (l ++ hst_ h).length = l.length + (hst_ h).length := List.length_append
    have c2 := PutHistory_s (b := l) hok (by omega)
    have a1 := rhist_s hok 4 l none (by omega)
    have c3 := same_s (l ++ hst_ h)
    have c4 := GetHistory_s (l ++ hst_ h) (l ++ hst_ h).length l.length (hl.app (u8_hst h)) (Nat.le_refl _) (by omega)
    rw [getH_full hfit] at c4
    have a2 := rhist0_s hok (by omega) 0 ⟨5, [], false⟩
    have c5 := same_s (hst_ h)
    have c6 : ∀ n, l.length ≤ n → n < (l ++ hst_ h).length → Spec Try.prog 22 [.im (bw ((l ++ hst_ h).take n)) n, .sc (.int .i64 l.length)] (tuH (noH, 0, 5)) := by
      intro n h1 h2
      have h := GetHistory_s ((l ++ hst_ h).take n) n l.length ((hl.app (u8_hst h)).take n) (by rw [List.length_take]; omega) (by omega)
      rwa [getH_cut hfit h1 h2] at h
    have gd : (bw (l ++ hst_ h)).drop l.length = bw (hst_ h) := by rw [bw_drop, List.drop_left]
    have gd2 : (l ++ hst_ h).length - l.length = (hst_ h).length := by omega
    have gtk : ∀ n, (bw (l ++ hst_ h)).take n = bw ((l ++ hst_ h).take n) := fun n => bw_take _ _
    have gl := bw_len (l ++ hst_ h)
    have gt : (bw (l ++ hst_ h)).take (l ++ hst_ h).length = bw (l ++ hst_ h) := List.take_of_length_le (by omega)
    have gcl := bw_clo (l ++ hst_ h)
    have gl2 := bw_len (hst_ h)
    have gt2 : (bw (hst_ h)).take (hst_ h).length = bw (hst_ h) := List.take_of_length_le (by omega)
    have gcl2 := bw_clo (hst_ h)
    have glb := bw_len l
    have gob := bw_one l
    have gtb : (bw l).take l.length = bw l := List.take_of_length_le (by omega)
    rw [← hN] at a1
    have hle : l.length ≤ (l ++ hst_ h).length := by omega
    have hNle : (l ++ hst_ h).length ≤ 2000 := by omega
    clear c0 hfit hok hhd hln hN hx hi
    have c0 := sanity_s
    generalize (l ++ hst_ h).length = N at *
    generalize hE : bw (l ++ hst_ h) = E at *
    unfold tuH hstC noH at *
    unfold rhC at c1 ⊢
    have z0 : ((0 : Nat) : Int) = 0 := rfl
    have z5 : ((5 : Nat) : Int) = 5 := rfl
    simp only [z0, z5] at c4 c6
    have e0 : cels [] = [] := rfl
    have e1 : chgs [] = [] := rfl
    simp only [e0, e1, List.length_nil] at c6
    generalize (hst_ h).length = N2 at *
    generalize bw (hst_ h) = E2 at *
    refine Spec.run Try.func4 rfl Try.ntmps4 (by simp) (by simp (disch := omega) only [go_sem, zn4]; rfl) fun B hB => ?_
    refine SC.weak (by simp) (nilSl (tO := 5) (sl' := [(0, .ag [.sc (.int .i64 x.start), .im (rcs x.base) x.base.length, .im (rgs x.log) x.log.length]), (1, .im (bw l) l.length)]) (hp' := []) 0 hB (by omega) ?_ ?_) ?_
    · refine mapSl_cons (by simp (disch := omega) only [go_sem, ↓reduceIte] <;> rfl) (rh_only x).same ?_
      (repeat' (first | exact trivial | refine mapSl_cons (by simp (disch := omega) only [go_sem, ↓reduceIte, reduceCtorEq] <;> rfl) ?_ ?_ | exact VMap.junk _ | exact VMap.sc _ | exact VMap.clo rfl | exact VMap.sl rfl (by omega) | exact VMap.cap rfl (by omega) | exact VMap.pt rfl (by omega) | exact VMap.nil_sl _ _ _ | exact VMap.int (by first | rfl | omega | (dsimp only; omega))))
    · exact mapHp_nil
    (repeat (first | refine DO.nil (by kernel_rfl) ?_ | (with_reducible first | apply oz1 | apply oz2 | apply oz3 | apply oz4 | apply oz5 | apply oz6 | apply oz7 | apply oz8 | apply oz9 | apply ozb | apply ozc | apply oze | apply ozf | apply ozg | apply ozh | apply ozi | apply ozj | apply ozk | refine ozd (by decide) ?_) | ((first | apply SO.call | apply DO.call); (iterate 3 (focus (simp (disch := omega) only [go_sem, ↓reduceIte, zn1, if_pos, glb, gtb, List.nil_append, List.drop_zero, Nat.zero_add, Nat.mul_one] <;> rfl))); (first | apply SCall.ofX | apply DCall.ofX); (focus (first | assumption)); (focus (simp (disch := omega) only [go_sem] <;> rfl))) | ((with_reducible first | apply SC.condB | apply SC.region | apply SO.run | apply DO.run); (focus (simp (disch := omega) only [go_sem, ↓reduceIte, zn1, zn3, zn4, reduceCtorEq, if_pos, q1, glb, gob, List.nil_append, List.take_nil, List.drop_zero, Nat.zero_add, Nat.mul_one] <;> rfl)); (first | refine pickT ?_ | refine pickF ?_ | fail_if_success with_reducible refine pickA ?_)) | ((with_reducible refine SC.draw Tab.mixed ?_ ?_); (focus rfl)) | (with_reducible apply SC.ops)))
    (first | refine SO.callA Tab.go21 (by simp (disch := omega) only [go_sem, ↓reduceIte, zn1, zn2, zn3, zn4, zn5, zn6, reduceCtorEq, zn7, zi1, zi2, if_pos, if_neg] <;> rfl) (by simp (disch := omega) only [go_sem, ↓reduceIte, zn1, zn2, zn3, zn4, zn5, zn6, reduceCtorEq, zn7, zi1, zi2, if_pos, if_neg] <;> rfl) (SApp.of (a1) (by simp (disch := omega) only [go_sem, ↓reduceIte, zn1, zn2, zn3, zn4, zn5, zn6, reduceCtorEq, zn7, zi1, zi2, if_pos, if_neg] <;> rfl) rfl (by simp (disch := omega) only [go_sem, ↓reduceIte, zn1, zn2, zn3, zn4, zn5, zn6, reduceCtorEq, zn7, zi1, zi2, if_pos, if_neg] <;> rfl) ?_) | refine DO.callA Tab.go21 (by simp (disch := omega) only [go_sem, ↓reduceIte, zn1] <;> rfl) (by simp (disch := omega) only [go_sem] <;> rfl) (DApp.of (a1) (by simp (disch := omega) only [go_sem, ↓reduceIte] <;> rfl) rfl (by simp (disch := omega) only [go_sem, ↓reduceIte, zn1, zn4, reduceCtorEq] <;> rfl) ?_))
    (repeat (first | refine DO.nil (by kernel_rfl) ?_ | (with_reducible first | apply oz1 | apply oz2 | apply oz3 | apply oz4 | apply oz5 | apply oz6 | apply oz7 | apply oz8 | apply oz9 | apply ozb | apply ozc | apply oze | apply ozf | apply ozg | apply ozh | apply ozi | apply ozj | apply ozk | refine ozd (by decide) ?_) | ((first | apply SO.call | apply DO.call); (iterate 3 (focus (simp (disch := omega) only [go_sem, ↓reduceIte, zn1, if_pos, gl, gt, gcl, List.drop_zero, Nat.mul_one] <;> rfl))); (first | apply SCall.ofX | apply DCall.ofX); (focus (first | assumption)); (focus (simp (disch := omega) only [go_sem] <;> rfl))) | ((with_reducible first | apply SC.condB | apply SC.region | apply SO.run | apply DO.run); (focus (simp (disch := omega) only [go_sem, ↓reduceIte, zn1, zn3, zn4, reduceCtorEq, List.drop_zero, bne_self_eq_false] <;> rfl)); (first | refine pickT ?_ | refine pickF ?_ | fail_if_success with_reducible refine pickA ?_)) | ((with_reducible refine SC.draw Tab.mixed ?_ ?_); (focus rfl)) | (with_reducible apply SC.ops)))
    (first | refine SO.callA Tab.go21 (by simp (disch := omega) only [go_sem, ↓reduceIte, zn1, zn2, zn3, zn4, zn5, zn6, reduceCtorEq, zn7, zi1, zi2, if_pos, if_neg] <;> rfl) (by simp (disch := omega) only [go_sem, ↓reduceIte, zn1, zn2, zn3, zn4, zn5, zn6, reduceCtorEq, zn7, zi1, zi2, if_pos, if_neg] <;> rfl) (SApp.of (a2) (by simp (disch := omega) only [go_sem, ↓reduceIte, zn1, zn2, zn3, zn4, zn5, zn6, reduceCtorEq, zn7, zi1, zi2, if_pos, if_neg] <;> rfl) rfl (by simp (disch := omega) only [go_sem, ↓reduceIte, zn1, zn2, zn3, zn4, zn5, zn6, reduceCtorEq, zn7, zi1, zi2, if_pos, if_neg] <;> rfl) ?_) | refine DO.callA Tab.go21 (by simp (disch := omega) only [go_sem, ↓reduceIte] <;> rfl) (by simp (disch := omega) only [go_sem, ↓reduceIte, zn1] <;> rfl) (DApp.of (a2) (by simp (disch := omega) only [go_sem, ↓reduceIte, reduceCtorEq] <;> rfl) rfl (by simp (disch := omega) only [go_sem, ↓reduceIte, zn4, reduceCtorEq] <;> rfl) ?_))
    (repeat (first | refine DO.nil (by kernel_rfl) ?_ | (with_reducible first | apply oz1 | apply oz2 | apply oz3 | apply oz4 | apply oz5 | apply oz6 | apply oz7 | apply oz8 | apply oz9 | apply ozb | apply ozc | apply oze | apply ozf | apply ozg | apply ozh | apply ozi | apply ozj | apply ozk | refine ozd (by decide) ?_) | ((first | apply SO.call | apply DO.call); (iterate 3 (focus (simp (disch := omega) only [go_sem, ↓reduceIte, zn1, if_pos, gl2, gt2, gcl2, List.drop_zero, Nat.mul_one] <;> rfl))); (first | apply SCall.ofX | apply DCall.ofX); (focus (first | assumption)); (focus (simp (disch := omega) only [go_sem] <;> rfl))) | ((with_reducible first | apply SC.condB | apply SC.region | apply SO.run | apply DO.run); (focus (simp (disch := omega) only [go_sem, ↓reduceIte, zn1, reduceCtorEq, if_pos, gt2, gd, gd2, Nat.mul_one] <;> rfl)); (first | refine pickT ?_ | refine pickF ?_ | fail_if_success with_reducible refine pickA ?_)) | ((with_reducible refine SC.draw Tab.mixed ?_ ?_); (focus rfl)) | (with_reducible apply SC.ops)))
    refine SC.loop (fun i : Nat => ⟨[(1, .im (bw l) l.length), (5, .sc (.bool true)), (7, .im E N), (11, .sc (.int .i64 i))], [], 8, 80⟩) (fun i => l.length ≤ i ∧ i ≤ N) (fun i => N - i) l.length ?_ ⟨Nat.le_refl _, hle⟩ ?_
    · (refine Le.of [] hB (by first | exact ⟨Nat.zero_le _, fun _ _ => Nat.zero_le _⟩ | (constructor <;> (try simp) <;> (try omega))) ?_ ?_ <;> (repeat' (first | exact leSl_nil | exact leHp_nil | refine leSl_cons (by simp (disch := omega) only [go_sem, ↓reduceIte, zn1, reduceCtorEq]; rfl) ?_ ?_ | refine leHp_cons (by simp (disch := omega) only [go_sem, ↓reduceIte, zn1, zn2, zn3, zn4, zn5, zn6, reduceCtorEq, zn7, zi1, zi2, if_pos, if_neg]; rfl) ?_ ?_ | exact VLe.junk _ | exact VLe.refl rfl | exact VLe.nil_sl _ _ _ | exact VLe.int (by first | rfl | omega | (dsimp only; omega)) | exact VLe.bool rfl | exact VLe.sl rfl (by first | rfl | omega | (dsimp only; omega) | (simp; done)) | exact VLe.cap rfl (by first | rfl | omega | (dsimp only; omega) | (simp; done)) | exact VLe.im rfl rfl | exact HLe.new rfl | exact HLe.same rfl (LLe.refl rfl) | refine HLe.same rfl ?_ | exact LLe.nil _ | exact LLe.refl rfl | refine LLe.cons ?_ ?_)))
    · intro i ⟨hi1, hi2⟩ K hK
      by_cases hlt : i < N
      · have q2 : decide ((i : Int) < (N : Int)) = true := by rw [decide_eq_true_iff]; omega
        have c7 := c6 i hi1 hlt
        have g1 := gtk i
        have x0 : ((i : Int)).toNat = i := rfl
        clear c6 gtk c4
        (repeat (first | refine DO.nil (by kernel_rfl) ?_ | (with_reducible first | apply oz1 | apply oz2 | apply oz3 | apply oz4 | apply oz5 | apply oz6 | apply oz7 | apply oz8 | apply oz9 | apply ozb | apply ozc | apply oze | apply ozf | apply ozg | apply ozh | apply ozi | apply ozj | apply ozk | refine ozd (by decide) ?_) | ((first | apply SO.call | apply DO.call); (iterate 3 (focus (simp (disch := omega) only [go_sem, ↓reduceIte, zn1] <;> rfl))); (first | apply SCall.ofX | apply DCall.ofX); (focus (first | assumption)); (focus (simp (disch := omega) only [go_sem] <;> rfl))) | ((with_reducible first | apply SC.condB | apply SC.region | apply SO.run | apply DO.run); (focus (simp (disch := omega) only [go_sem, ↓reduceIte, zn1, zn3, zn4, if_pos, q2, x0, g1, List.drop_zero, Nat.mul_one, Nat.sub_zero, bne_self_eq_false] <;> rfl)); (first | refine pickT ?_ | refine pickF ?_ | fail_if_success with_reducible refine pickA ?_)) | ((with_reducible refine SC.draw Tab.mixed ?_ ?_); (focus rfl)) | (with_reducible apply SC.ops)))
        refine hK _ (i + 1) ?_ ⟨by omega, by omega⟩ (by omega)
        (refine Le.of [] hB (by first | exact ⟨Nat.zero_le _, fun _ _ => Nat.zero_le _⟩ | (constructor <;> (try simp) <;> (try omega))) ?_ ?_ <;> (repeat' (first | exact leSl_nil | exact leHp_nil | refine leSl_cons (by simp (disch := omega) only [go_sem, ↓reduceIte, zn1]; rfl) ?_ ?_ | refine leHp_cons (by simp (disch := omega) only [go_sem, ↓reduceIte, zn1, zn2, zn3, zn4, zn5, zn6, reduceCtorEq, zn7, zi1, zi2, if_pos, if_neg]; rfl) ?_ ?_ | exact VLe.junk _ | exact VLe.refl rfl | exact VLe.nil_sl _ _ _ | exact VLe.int (by first | rfl | omega | (dsimp only; omega)) | exact VLe.bool rfl | exact VLe.sl rfl (by first | rfl | omega | (dsimp only; omega) | (simp; done)) | exact VLe.cap rfl (by first | rfl | omega | (dsimp only; omega) | (simp; done)) | exact VLe.im rfl rfl | exact HLe.new rfl | exact HLe.same rfl (LLe.refl rfl) | refine HLe.same rfl ?_ | exact LLe.nil _ | exact LLe.refl rfl | refine LLe.cons ?_ ?_)))
      · have q2 : decide ((i : Int) < (N : Int)) = false := by rw [decide_eq_false_iff_not]; omega
        (repeat (first | refine DO.nil (by kernel_rfl) ?_ | (with_reducible first | apply oz1 | apply oz2 | apply oz3 | apply oz4 | apply oz5 | apply oz6 | apply oz7 | apply oz8 | apply oz9 | apply ozb | apply ozc | apply oze | apply ozf | apply ozg | apply ozh | apply ozi | apply ozj | apply ozk | refine ozd (by decide) ?_) | ((with_reducible first | apply SC.condB | apply SC.region | apply SO.run | apply DO.run); (focus (simp (disch := omega) only [go_sem, ↓reduceIte, zn1, zn2, q2] <;> rfl)); (first | refine pickT ?_ | refine pickF ?_ | fail_if_success with_reducible refine pickA ?_)) | ((with_reducible refine SC.draw Tab.mixed ?_ ?_); (focus rfl)) | (with_reducible apply SC.ops)))
        exact retQ_ret Try.results4 rfl rfl rfl
end Go.Proofs.Ytphilljhfdlfdaa
namespace Go.Proofs.Ytphilljhfdlfdaa
open Go.RowKit
theorem Le.gh {B : Base} {sl sl' : List (Nat × V)} {hp hp' : List (Nat × Blk)} {nx nx' nt m : Nat} (gs : List (Nat × Blk)) (q0 : Nat) (hB : B.Old m) (hm : m ≤ q0) (hn : q0 ≤ nx') (hg : ∀ i b, hget gs i = some b → q0 ≤ i)
    (hs : mapSl (fun i => i) (fun i => i < q0) sl sl') (hh : mapHp (fun i => i) (fun i => i < q0) hp hp') : Le B ⟨sl, hp, nx, nt⟩ ⟨sl', gs ++ hp', nx', nt⟩ := by
  refine Le.map (fun i => i) (fun i => i < q0) hB (fun i hi => ⟨by omega, rfl⟩) (fun i hi => by omega) (fun i j _ _ e => e) hs fun i b hb hlt => ?_
  rw [hget_app] at hb
  cases hc : hget gs i with
  | some k => exact absurd (hg i k hc) (by omega)
  | none => rw [hc] at hb; exact mapHp_get hh i b hb
theorem Le.rg {B : Base} {sl sl' : List (Nat × V)} {hp hp' : List (Nat × Blk)} {nx nx' nt m : Nat} (gs : List (Nat × Blk)) (a b q0 : Nat) (hB : B.Old m) (ha : m ≤ a) (hb0 : q0 ≤ b) (hm : m ≤ q0) (hn : q0 ≤ nx') (hg : ∀ i b, hget gs i = some b → q0 ≤ i)
    (hs : mapSl (fun i => if i = a then b else i) (fun i => i < q0) sl sl') (hh : mapHp (fun i => if i = a then b else i) (fun i => i < q0) hp hp') : Le B ⟨sl, hp, nx, nt⟩ ⟨sl', gs ++ hp', nx', nt⟩ := by
  refine Le.map (fun i => if i = a then b else i) (fun i => i < q0) hB (fun i hi => ⟨by omega, if_neg (by omega)⟩) (fun i hi => by omega) (fun i j hi hj e => by split at e <;> split at e <;> omega) hs fun i k hb hlt => ?_
  rw [hget_app] at hb
  cases hc : hget gs i with
  | some k => exact absurd (hg i k hc) (by omega)
  | none => rw [hc] at hb; exact mapHp_get hh i k hb
theorem cutR_take (n : Nat) : ∀ (l : List Chg) (e : Nat), (cutR n l e).1 = l.take (cutR n l e).1.length
  | [], _ => rfl
  | x :: l, e => by
    unfold cutR
    split
    · rfl
    · simp only [List.length_cons, List.take_succ_cons]
      rw [← cutR_take n l]
theorem cutR_ok (n : Nat) {l : List Chg} {e : Nat} {p : Chg → Prop} (h : ∀ x ∈ l, p x) : ∀ x ∈ (cutR n l e).1, p x := fun x hx => by
  rw [cutR_take] at hx
  exact h x (List.mem_of_mem_take hx)
theorem cutR_len (n : Nat) (l : List Chg) (e : Nat) : (cutR n l e).1.length ≤ l.length := by
  rw [cutR_take, List.length_take]; omega
theorem cut_flat (n : Nat) (l : List Chg) (e : Nat) : ((cutR n l e).1.flatMap logE).length ≤ (l.flatMap logE).length := by
  rw [cutR_take]; exact flat_le logE l _
theorem drop_get {α : Type} (l : List α) {i : Nat} (h : i < l.length) : l.drop i = l[i] :: l.drop (i + 1) := List.drop_eq_getElem_cons h
set_option maxHeartbeats 16000000 in
set_option maxRecDepth 20000 in
theorem wsalv_s {x : RHs} (hx : RHsOk x) (hi : RHsI x) : Spec Try.prog 5 [rhC x] (.sc (.bool true)) := by
  have c0 := sanity_s
  have c1 := mkhist_s x hx
  obtain ⟨hfit, hok, hhd, hln, hlg⟩ := mhs_fit hx hi
  generalize x.made = h at *
  have c2 := PutHistory_s (b := []) hok (by simp; omega)
  simp only [List.nil_append, List.length_nil] at c2
  have a1 := head0_s hok (by omega) 0 ⟨5, [], false⟩
  have gl := bw_len (hst_ h)
  have c3 : ∀ n, n ≤ (hst_ h).length → Spec Try.prog 24 [.im (bw ((hst_ h).take n)) n] (tuS (salH ((hst_ h).take n) n)) := fun n hn => Salvage_s ((hst_ h).take n) n ((u8_hst h).take n) (by rw [List.length_take]; omega) (by omega)
  have gtk : ∀ n, (bw (hst_ h)).take n = bw ((hst_ h).take n) := fun n => bw_take _ _
  have e0 : bw [] = [] := rfl
  rw [e0] at c2
  unfold rhC at c1 ⊢
  unfold hstC at c1 c2 a1
  refine Spec.run Try.func5 rfl Try.ntmps5 (by simp) (by simp (disch := omega) only [go_sem]; rfl) fun B hB => ?_
  refine SC.weak (by simp) (nilSl (tO := 5) (sl' := [(0, .ag [.sc (.int .i64 x.start), .im (rcs x.base) x.base.length, .im (rgs x.log) x.log.length])]) (hp' := []) 0 hB (by omega) ?_ ?_) ?_
  · refine mapSl_cons (by simp (disch := omega) only [go_sem, ↓reduceIte] <;> rfl) (rh_only x).same ?_
    (repeat' (first | exact trivial | refine mapSl_cons (by simp (disch := omega) only [go_sem, ↓reduceIte, zn1, zn2, zn3, zn4, zn5, zn6, reduceCtorEq, zn7, zi1, zi2, if_pos, if_neg] <;> rfl) ?_ ?_ | exact VMap.junk _ | exact VMap.sc _ | exact VMap.clo rfl | exact VMap.sl rfl (by omega) | exact VMap.cap rfl (by omega) | exact VMap.pt rfl (by omega) | exact VMap.nil_sl _ _ _ | exact VMap.int (by first | rfl | omega | (dsimp only; omega))))
  · exact mapHp_nil
  (repeat (first | refine DO.nil (by kernel_rfl) ?_ | (with_reducible first | apply oz1 | apply oz2 | apply oz3 | apply oz4 | apply oz5 | apply oz6 | apply oz7 | apply oz8 | apply oz9 | apply ozb | apply ozc | apply oze | apply ozf | apply ozg | apply ozh | apply ozi | apply ozj | apply ozk | refine ozd (by decide) ?_) | ((first | apply SO.call | apply DO.call); (iterate 3 (focus (simp (disch := omega) only [go_sem, ↓reduceIte] <;> rfl))); (first | apply SCall.ofX | apply DCall.ofX); (focus (first | assumption)); (focus (simp (disch := omega) only [go_sem] <;> rfl))) | ((with_reducible first | apply SC.condB | apply SC.region | apply SO.run | apply DO.run); (focus (simp (disch := omega) only [go_sem, ↓reduceIte, zn1, zn3, zn4] <;> rfl)); (first | refine pickT ?_ | refine pickF ?_ | fail_if_success with_reducible refine pickA ?_)) | ((with_reducible refine SC.draw Tab.mixed ?_ ?_); (focus rfl)) | (with_reducible apply SC.ops)))
  (first | refine SO.callA Tab.go23 (by simp (disch := omega) only [go_sem, ↓reduceIte] <;> rfl) (by simp (disch := omega) only [go_sem] <;> rfl) (SApp.of (a1) (by simp (disch := omega) only [go_sem, ↓reduceIte, reduceCtorEq] <;> rfl) rfl (by simp (disch := omega) only [go_sem, ↓reduceIte, zn4, reduceCtorEq] <;> rfl) ?_) | refine DO.callA Tab.go23 (by simp (disch := omega) only [go_sem, ↓reduceIte, zn1, zn2, zn3, zn4, zn5, zn6, reduceCtorEq, zn7, zi1, zi2, if_pos, if_neg] <;> rfl) (by simp (disch := omega) only [go_sem, ↓reduceIte, zn1, zn2, zn3, zn4, zn5, zn6, reduceCtorEq, zn7, zi1, zi2, if_pos, if_neg] <;> rfl) (DApp.of (a1) (by simp (disch := omega) only [go_sem, ↓reduceIte, zn1, zn2, zn3, zn4, zn5, zn6, reduceCtorEq, zn7, zi1, zi2, if_pos, if_neg] <;> rfl) rfl (by simp (disch := omega) only [go_sem, ↓reduceIte, zn1, zn2, zn3, zn4, zn5, zn6, reduceCtorEq, zn7, zi1, zi2, if_pos, if_neg] <;> rfl) ?_))
  (repeat (first | refine DO.nil (by kernel_rfl) ?_ | (with_reducible first | apply oz1 | apply oz2 | apply oz3 | apply oz4 | apply oz5 | apply oz6 | apply oz7 | apply oz8 | apply oz9 | apply ozb | apply ozc | apply oze | apply ozf | apply ozg | apply ozh | apply ozi | apply ozj | apply ozk | refine ozd (by decide) ?_) | ((with_reducible first | apply SC.condB | apply SC.region | apply SO.run | apply DO.run); (focus (simp (disch := omega) only [go_sem, ↓reduceIte] <;> rfl)); (first | refine pickT ?_ | refine pickF ?_ | fail_if_success with_reducible refine pickA ?_)) | ((with_reducible refine SC.draw Tab.mixed ?_ ?_); (focus rfl)) | (with_reducible apply SC.ops)))
  refine SC.loop (fun n : Nat => ⟨[(3, .sc (.bool true)), (4, .pt 2 0), (5, .im (bw (hst_ h)) (hst_ h).length), (6, .sc (.int .i64 (hed_ h).length)), (7, .sc (.int .i64 n))], [(2, ⟨52, [.sc (.int .i64 h.start), .im (cels h.base) h.base.length, .im (chgs h.log) h.log.length], false⟩)], 3, 112⟩) (fun n => n ≤ (hst_ h).length + 1) (fun n => (hst_ h).length + 1 - n) 0 ?_ (Nat.zero_le _) ?_
  · (refine Le.of [] hB (by first | exact ⟨Nat.zero_le _, fun _ _ => Nat.zero_le _⟩ | (constructor <;> (try simp) <;> (try omega))) ?_ ?_ <;> (repeat' (first | exact leSl_nil | exact leHp_nil | refine leSl_cons (by simp (disch := omega) only [go_sem, ↓reduceIte, zn1]; rfl) ?_ ?_ | refine leHp_cons (by simp (disch := omega) only [go_sem, ↓reduceIte, zn1]; rfl) ?_ ?_ | exact VLe.junk _ | exact VLe.refl rfl | exact VLe.nil_sl _ _ _ | exact VLe.int (by first | rfl | omega | (dsimp only; omega)) | exact VLe.bool rfl | exact VLe.sl rfl (by first | rfl | omega | (dsimp only; omega) | (simp; done)) | exact VLe.cap rfl (by first | rfl | omega | (dsimp only; omega) | (simp; done)) | exact VLe.im rfl rfl | exact HLe.new rfl | exact HLe.same rfl (LLe.refl rfl) | refine HLe.same rfl ?_ | exact LLe.nil _ | exact LLe.refl rfl | refine LLe.cons ?_ ?_)))
  · intro n hn K hK
    by_cases hlt : n ≤ (hst_ h).length
    · have q2 : decide ((n : Int) ≤ ((hst_ h).length : Int)) = true := by rw [decide_eq_true_iff]; omega
      have c4 := c3 n hlt
      have g1 := gtk n
      have x0 : ((n : Int)).toNat = n := rfl
      rw [salH_rds hfit hlt] at c4
      have z0 : ((0 : Nat) : Int) = 0 := rfl
      by_cases hh : n < (hed_ h).length
      · rw [if_pos hh] at c4
        have q3 : decide ((n : Int) < ((hed_ h).length : Int)) = true := by rw [decide_eq_true_iff]; omega
        have e1 : cels [] = [] := rfl
        have e2 : chgs [] = [] := rfl
        unfold tuS hstC at c4
        simp only [z0, e1, e2, List.length_nil] at c4
        clear c3 gtk
        (repeat (first | refine DO.nil (by kernel_rfl) ?_ | (with_reducible first | apply oz1 | apply oz2 | apply oz3 | apply oz4 | apply oz5 | apply oz6 | apply oz7 | apply oz8 | apply oz9 | apply ozb | apply ozc | apply oze | apply ozf | apply ozg | apply ozh | apply ozi | apply ozj | apply ozk | refine ozd (by decide) ?_) | ((first | apply SO.call | apply DO.call); (iterate 3 (focus (simp (disch := omega) only [go_sem, ↓reduceIte] <;> rfl))); (first | apply SCall.ofX | apply DCall.ofX); (focus (first | assumption)); (focus (simp (disch := omega) only [go_sem] <;> rfl))) | ((with_reducible first | apply SC.condB | apply SC.region | apply SO.run | apply DO.run); (focus (simp (disch := omega) only [go_sem, ↓reduceIte, zn1, zn3, zn4, reduceCtorEq, if_pos, q2, x0, g1, q3, List.drop_zero, Nat.mul_one, Nat.sub_zero, bne_self_eq_false, Int.lt_irrefl, decide_false, z0] <;> rfl)); (first | refine pickT ?_ | refine pickF ?_ | fail_if_success with_reducible refine pickA ?_)) | ((with_reducible refine SC.draw Tab.mixed ?_ ?_); (focus rfl)) | (with_reducible apply SC.ops)))
        refine hK _ (n + 1) ?_ (by omega) (by omega)
        (refine Le.of [] hB (by first | exact ⟨Nat.zero_le _, fun _ _ => Nat.zero_le _⟩ | (constructor <;> (try simp) <;> (try omega))) ?_ ?_ <;> (repeat' (first | exact leSl_nil | exact leHp_nil | refine leSl_cons (by simp (disch := omega) only [go_sem, ↓reduceIte, zn1]; rfl) ?_ ?_ | refine leHp_cons (by simp (disch := omega) only [go_sem, ↓reduceIte, zn1]; rfl) ?_ ?_ | exact VLe.junk _ | exact VLe.refl rfl | exact VLe.nil_sl _ _ _ | exact VLe.int (by first | rfl | omega | (dsimp only; omega)) | exact VLe.bool rfl | exact VLe.sl rfl (by first | rfl | omega | (dsimp only; omega) | (simp; done)) | exact VLe.cap rfl (by first | rfl | omega | (dsimp only; omega) | (simp; done)) | exact VLe.im rfl rfl | exact HLe.new rfl | exact HLe.same rfl (LLe.refl rfl) | refine HLe.same rfl ?_ | exact LLe.nil _ | exact LLe.refl rfl | refine LLe.cons ?_ ?_)))
      · rw [if_neg hh] at c4
        have q3 : decide ((n : Int) < ((hed_ h).length : Int)) = false := by rw [decide_eq_false_iff_not]; omega
        unfold tuS hstC at c4
        simp only at c4
        have hC := cutR_len n h.log (hed_ h).length
        have hCok : HstOk ⟨h.start, h.base, (cutR n h.log (hed_ h).length).1⟩ := ⟨hok.1, hok.2.1, hok.2.2.1, cutR_ok n hok.2.2.2.1, Nat.le_trans hC hok.2.2.2.2⟩
        have hClen : (hst_ ⟨h.start, h.base, (cutR n h.log (hed_ h).length).1⟩).length ≤ 1100 := by
          have h1 : (hst_ ⟨h.start, h.base, (cutR n h.log (hed_ h).length).1⟩).length = (hed_ h).length + ((cutR n h.log (hed_ h).length).1.flatMap logE).length + 1 := by unfold hst_; simp only [List.length_append]; rfl
          have h2 : (hst_ h).length = (hed_ h).length + (h.log.flatMap logE).length + 1 := by unfold hst_; simp only [List.length_append]; rfl
          have := cut_flat n h.log (hed_ h).length
          omega
        generalize hcut : cutR n h.log (hed_ h).length = cu at *
        obtain ⟨C, en⟩ := cu
        simp only at c4 hC hCok hClen
        generalize hat : (if n = (hst_ h).length then n else en) = at_ at c4
        (repeat (first | refine DO.nil (by kernel_rfl) ?_ | (with_reducible first | apply oz1 | apply oz2 | apply oz3 | apply oz4 | apply oz5 | apply oz6 | apply oz7 | apply oz8 | apply oz9 | apply ozb | apply ozc | apply oze | apply ozf | apply ozg | apply ozh | apply ozi | apply ozj | apply ozk | refine ozd (by decide) ?_) | ((first | apply SO.call | apply DO.call); (iterate 3 (focus (simp (disch := omega) only [go_sem, ↓reduceIte] <;> rfl))); (first | apply SCall.ofX | apply DCall.ofX); (focus (first | assumption)); (focus (simp (disch := omega) only [go_sem] <;> rfl))) | ((with_reducible first | apply SC.condB | apply SC.region | apply SO.run | apply DO.run); (focus (simp (disch := omega) only [go_sem, ↓reduceIte, zn1, zn3, zn4, reduceCtorEq, if_pos, q2, x0, g1, q3, List.drop_zero, Nat.mul_one, Nat.sub_zero] <;> rfl)); (first | refine pickT ?_ | refine pickF ?_ | fail_if_success with_reducible refine pickA ?_)) | ((with_reducible refine SC.draw Tab.mixed ?_ ?_); (focus rfl)) | (with_reducible apply SC.ops)))
        refine SC.weak (by simp) (Le.gh (sl' := [(3, .sc (.bool true)), (4, .pt 2 0), (5, .im (bw (hst_ h)) (hst_ h).length), (6, .sc (.int .i64 (hed_ h).length)), (7, .sc (.int .i64 n)), (8, .pt 3 0), (9, .sc (.int .i64 at_)), (10, .pt 4 0), (11, .sc (.int .i64 (hed_ h).length)), (12, .sc (.int .i64 0))]) (hp' := [(2, ⟨52, [.sc (.int .i64 h.start), .im (cels h.base) h.base.length, .im (chgs h.log) h.log.length], false⟩), (3, ⟨52, [.sc (.int .i64 h.start), .im (cels h.base) h.base.length, .im (chgs C) C.length], false⟩), (4, ⟨52, [.sc (.int .i64 h.start), .im (cels h.base) h.base.length, .sl 5 0 0 8 none], false⟩)]) (nx' := 7) [(5, ⟨67, [], false⟩), (6, ⟨5, [], false⟩)] 5 hB (by omega) (by omega) (fun i b hb => by
        simp only [hget] at hb
        repeat' split at hb
        all_goals first | omega | (cases hb; done)) ?_ ?_) ?_
        · (repeat' (first | exact trivial | refine mapSl_cons (by simp (disch := omega) only [go_sem, ↓reduceIte, zn1] <;> rfl) ?_ ?_ | exact VMap.junk _ | exact VMap.sc _ | exact VMap.clo rfl | exact VMap.sl rfl (by omega) | exact VMap.cap rfl (by omega) | exact VMap.pt rfl (by omega) | exact VMap.nil_sl _ _ _ | exact VMap.int (by first | rfl | omega | (dsimp only; omega))))
        · (repeat' (first | exact mapHp_nil | refine mapHp_cons (by simp (disch := omega) only [go_sem, ↓reduceIte, zn1] <;> rfl) ?_ ?_ | exact BMap.clo (by first | rfl | assumption | exact wv_clo _ | exact imR_clo _ _ | exact nv_clo _) | refine BMap.list ?_ | exact mapL_nil | refine mapL_cons ?_ ?_ | exact VMap.junk _ | exact VMap.sc _ | exact VMap.clo rfl | exact VMap.sl rfl (by omega) | exact VMap.cap rfl (by omega) | exact VMap.pt rfl (by omega) | exact VMap.nil_sl _ _ _ | exact VMap.int (by first | rfl | omega | (dsimp only; omega))))
        simp only [List.cons_append, List.nil_append]
        refine SC.meet (fun _ : Unit => ⟨[(3, .sc (.bool true)), (4, .pt 2 0), (5, .im (bw (hst_ h)) (hst_ h).length), (6, .sc (.int .i64 (hed_ h).length)), (7, .sc (.int .i64 n)), (8, .pt 3 0), (9, .sc (.int .i64 at_)), (10, .pt 4 0), (11, .sc (.int .i64 en))], [(5, ⟨67, chgs C, false⟩), (2, ⟨52, [.sc (.int .i64 h.start), .im (cels h.base) h.base.length, .im (chgs h.log) h.log.length], false⟩), (3, ⟨52, [.sc (.int .i64 h.start), .im (cels h.base) h.base.length, .im (chgs C) C.length], false⟩), (4, ⟨52, [.sc (.int .i64 h.start), .im (cels h.base) h.base.length, .sl 5 0 C.length 8 none], false⟩)], 8, 112⟩) (fun _ => True) ?_ ?_
        · intro K0 hK0
          refine SC.loop (fun z : Nat × Nat => ⟨[(3, .sc (.bool true)), (4, .pt 2 0), (5, .im (bw (hst_ h)) (hst_ h).length), (6, .sc (.int .i64 (hed_ h).length)), (7, .sc (.int .i64 n)), (8, .pt 3 0), (9, .sc (.int .i64 at_)), (10, .pt 4 0), (11, .sc (.int .i64 z.2)), (12, .sc (.int .i64 z.1))], [(6, ⟨5, [], false⟩), (5, ⟨67, chgs (h.log.take z.1), false⟩), (2, ⟨52, [.sc (.int .i64 h.start), .im (cels h.base) h.base.length, .im (chgs h.log) h.log.length], false⟩), (3, ⟨52, [.sc (.int .i64 h.start), .im (cels h.base) h.base.length, .im (chgs C) C.length], false⟩), (4, ⟨52, [.sc (.int .i64 h.start), .im (cels h.base) h.base.length, .sl 5 0 z.1 8 none], false⟩)], 7, 112⟩)
            (fun z => z.1 ≤ h.log.length ∧ z.2 ≤ 100000 ∧ (C, en) = (h.log.take z.1 ++ (cutR n (h.log.drop z.1) z.2).1, (cutR n (h.log.drop z.1) z.2).2)) (fun z => h.log.length - z.1) (0, (hed_ h).length) ?_ ?_ ?_
          · simp only [List.take_zero]
            unfold chgs
            (refine Le.slots ?_ ?_ ?_ <;> (repeat' (first | (exact fun _ _ h => h) | exact Nat.le_refl _ | exact leSl_nil | refine leSl_cons (by simp (disch := omega) only [go_sem, ↓reduceIte, zn1] <;> rfl) ?_ ?_ | exact VLe.junk _ | exact VLe.refl rfl | exact VLe.nil_sl _ _ _ | exact VLe.int (by first | rfl | omega | (dsimp only; omega)) | exact VLe.bool rfl | exact VLe.sl rfl (by first | rfl | omega) | exact VLe.cap rfl (by first | rfl | omega) | exact VLe.im rfl rfl | omega | (refine fun id k h => ?_; simp only [hget] at h ⊢; (repeat' (split at h)) <;> first | (cases h; done) | (simp (disch := omega) only [if_pos, if_neg]; exact h)))))
          · refine ⟨Nat.zero_le _, by simp only; omega, ?_⟩
            simp only [List.take_zero, List.drop_zero, List.nil_append]
            exact hcut.symm
          · rintro ⟨i, e⟩ ⟨hi1, hi2, hi3⟩ K1 hK1
            have hl4 := hfit.2.2.2.2
            simp only at hi1 hi2 hi3 ⊢
            have gcl := chgs_len (h.log.take i)
            rw [List.length_take, Nat.min_eq_left hi1] at gcl
            have gct : (chgs (h.log.take i)).take (i * 8) = chgs (h.log.take i) := List.take_of_length_le (by omega)
            by_cases hil : i < h.log.length
            · have q4 : decide ((i : Int) < (h.log.length : Int)) = true := by rw [decide_eq_true_iff]; omega
              have x1 : ((i : Int)).toNat = i := rfl
              have gx := chgs_drop h.log i hil
              have gll := chgs_len h.log
              have hlen := hlg h.log[i] (List.getElem_mem hil)
              have a2 := change0_s (hok.2.2.2.1 h.log[i] (List.getElem_mem hil)) (by omega) 6 ⟨5, [], false⟩
              have e4 := chgs_snoc (h.log.take i) h.log[i]
              rw [← List.take_succ_eq_append_getElem hil] at e4
              have cl := chgs_clo (h.log.take (i + 1))
              rw [drop_get h.log hil, cutR] at hi3
              unfold chgC celC at gx a2 e4
              simp only [List.cons_append, List.nil_append] at gx a2 e4
              by_cases hcc : e + (logE h.log[i]).length > n
              · rw [if_pos hcc] at hi3
                have q5 : decide ((e : Int) + ((logE h.log[i]).length : Int) > (n : Int)) = true := by rw [decide_eq_true_iff]; omega
                injection hi3 with h1 h2
                simp only [List.append_nil] at h1
                subst h1; subst h2
                have hCl : (h.log.take i).length = i := by rw [List.length_take]; omega
                (repeat (first | refine DO.nil (by kernel_rfl) ?_ | (with_reducible first | apply oz1 | apply oz2 | apply oz3 | apply oz4 | apply oz5 | apply oz6 | apply oz7 | apply oz8 | apply oz9 | apply ozb | apply ozc | apply oze | apply ozf | apply ozg | apply ozh | apply ozi | apply ozj | apply ozk | refine ozd (by decide) ?_) | ((first | apply SO.call | apply DO.call); (iterate 3 (focus (simp (disch := omega) only [go_sem, ↓reduceIte] <;> rfl))); (first | apply SCall.ofX | apply DCall.ofX); (focus (first | assumption)); (focus (simp (disch := omega) only [go_sem, ↓reduceIte, zn1, zn2, zn3, zn4, zn5, zn6, reduceCtorEq, zn7, zi1, zi2, if_pos, if_neg, q4, x1, gx, gll, List.take_succ_cons, List.take_zero, List.drop_succ_cons, List.drop_zero] <;> rfl))) | ((with_reducible first | apply SC.condB | apply SC.region | apply SO.run | apply DO.run); (focus (simp (disch := omega) only [go_sem, ↓reduceIte, zn1, zn3, reduceCtorEq, if_pos, q4, x1, gx, gll, List.take_succ_cons, List.take_zero, List.drop_zero] <;> rfl)); (first | refine pickT ?_ | refine pickF ?_ | fail_if_success with_reducible refine pickA ?_)) | ((with_reducible refine SC.draw Tab.mixed ?_ ?_); (focus rfl)) | (with_reducible apply SC.ops)))
                (first | refine SO.callA Tab.go25 (by simp (disch := omega) only [go_sem, ↓reduceIte] <;> rfl) (by simp (disch := omega) only [go_sem] <;> rfl) (SApp.of (a2) (by simp (disch := omega) only [go_sem, ↓reduceIte] <;> rfl) rfl (by simp (disch := omega) only [go_sem, ↓reduceIte, zn1, zn4] <;> rfl) ?_) | refine DO.callA Tab.go25 (by simp (disch := omega) only [go_sem, ↓reduceIte, zn1, zn2, zn3, zn4, zn5, zn6, reduceCtorEq, zn7, zi1, zi2, if_pos, if_neg] <;> rfl) (by simp (disch := omega) only [go_sem, ↓reduceIte, zn1, zn2, zn3, zn4, zn5, zn6, reduceCtorEq, zn7, zi1, zi2, if_pos, if_neg] <;> rfl) (DApp.of (a2) (by simp (disch := omega) only [go_sem, ↓reduceIte, zn1, zn2, zn3, zn4, zn5, zn6, reduceCtorEq, zn7, zi1, zi2, if_pos, if_neg] <;> rfl) rfl (by simp (disch := omega) only [go_sem, ↓reduceIte, zn1, zn2, zn3, zn4, zn5, zn6, reduceCtorEq, zn7, zi1, zi2, if_pos, if_neg] <;> rfl) ?_))
                (repeat (first | refine DO.nil (by kernel_rfl) ?_ | (with_reducible first | apply oz1 | apply oz2 | apply oz3 | apply oz4 | apply oz5 | apply oz6 | apply oz7 | apply oz8 | apply oz9 | apply ozb | apply ozc | apply oze | apply ozf | apply ozg | apply ozh | apply ozi | apply ozj | apply ozk | refine ozd (by decide) ?_) | ((with_reducible first | apply SC.condB | apply SC.region | apply SO.run | apply DO.run); (focus (simp (disch := omega) only [go_sem, ↓reduceIte, zn1, q5] <;> rfl)); (first | refine pickT ?_ | refine pickF ?_ | fail_if_success with_reducible refine pickA ?_)) | ((with_reducible refine SC.draw Tab.mixed ?_ ?_); (focus rfl)) | (with_reducible apply SC.ops)))
                refine hK0 _ () ?_ trivial
                rw [hCl]
                (refine Le.slots ?_ ?_ ?_ <;> (repeat' (first | (exact fun _ _ h => h) | exact Nat.le_refl _ | exact leSl_nil | refine leSl_cons (by simp (disch := omega) only [go_sem, ↓reduceIte, zn1] <;> rfl) ?_ ?_ | exact VLe.junk _ | exact VLe.refl rfl | exact VLe.nil_sl _ _ _ | exact VLe.int (by first | rfl | omega | (dsimp only; omega)) | exact VLe.bool rfl | exact VLe.sl rfl (by first | rfl | omega) | exact VLe.cap rfl (by first | rfl | omega) | exact VLe.im rfl rfl | omega | (refine fun id k h => ?_; simp only [hget] at h ⊢; (repeat' (split at h)) <;> first | (cases h; done) | (simp (disch := omega) only [if_pos, if_neg]; exact h)))))
              · rw [if_neg hcc] at hi3
                have q5 : decide ((e : Int) + ((logE h.log[i]).length : Int) > (n : Int)) = false := by rw [decide_eq_false_iff_not]; omega
                (repeat (first | refine DO.nil (by kernel_rfl) ?_ | (with_reducible first | apply oz1 | apply oz2 | apply oz3 | apply oz4 | apply oz5 | apply oz6 | apply oz7 | apply oz8 | apply oz9 | apply ozb | apply ozc | apply oze | apply ozf | apply ozg | apply ozh | apply ozi | apply ozj | apply ozk | refine ozd (by decide) ?_) | ((first | apply SO.call | apply DO.call); (iterate 3 (focus (simp (disch := omega) only [go_sem, ↓reduceIte] <;> rfl))); (first | apply SCall.ofX | apply DCall.ofX); (focus (first | assumption)); (focus (simp (disch := omega) only [go_sem, ↓reduceIte, zn1, zn2, zn3, zn4, zn5, zn6, reduceCtorEq, zn7, zi1, zi2, if_pos, if_neg, q4, x1, gx, gll, List.take_succ_cons, List.take_zero, List.drop_succ_cons, List.drop_zero] <;> rfl))) | ((with_reducible first | apply SC.condB | apply SC.region | apply SO.run | apply DO.run); (focus (simp (disch := omega) only [go_sem, ↓reduceIte, zn1, zn3, reduceCtorEq, if_pos, q4, x1, gx, gll, List.take_succ_cons, List.take_zero, List.drop_zero] <;> rfl)); (first | refine pickT ?_ | refine pickF ?_ | fail_if_success with_reducible refine pickA ?_)) | ((with_reducible refine SC.draw Tab.mixed ?_ ?_); (focus rfl)) | (with_reducible apply SC.ops)))
                (first | refine SO.callA Tab.go25 (by simp (disch := omega) only [go_sem, ↓reduceIte] <;> rfl) (by simp (disch := omega) only [go_sem] <;> rfl) (SApp.of (a2) (by simp (disch := omega) only [go_sem, ↓reduceIte] <;> rfl) rfl (by simp (disch := omega) only [go_sem, ↓reduceIte, zn1, zn4] <;> rfl) ?_) | refine DO.callA Tab.go25 (by simp (disch := omega) only [go_sem, ↓reduceIte, zn1, zn2, zn3, zn4, zn5, zn6, reduceCtorEq, zn7, zi1, zi2, if_pos, if_neg] <;> rfl) (by simp (disch := omega) only [go_sem, ↓reduceIte, zn1, zn2, zn3, zn4, zn5, zn6, reduceCtorEq, zn7, zi1, zi2, if_pos, if_neg] <;> rfl) (DApp.of (a2) (by simp (disch := omega) only [go_sem, ↓reduceIte, zn1, zn2, zn3, zn4, zn5, zn6, reduceCtorEq, zn7, zi1, zi2, if_pos, if_neg] <;> rfl) rfl (by simp (disch := omega) only [go_sem, ↓reduceIte, zn1, zn2, zn3, zn4, zn5, zn6, reduceCtorEq, zn7, zi1, zi2, if_pos, if_neg] <;> rfl) ?_))
                (repeat (first | refine DO.nil (by kernel_rfl) ?_ | (with_reducible first | apply oz1 | apply oz2 | apply oz3 | apply oz4 | apply oz5 | apply oz6 | apply oz7 | apply oz8 | apply oz9 | apply ozb | apply ozc | apply oze | apply ozf | apply ozg | apply ozh | apply ozi | apply ozj | apply ozk | refine ozd (by decide) ?_) | ((with_reducible first | apply SC.condB | apply SC.region | apply SO.run | apply DO.run); (focus (simp (disch := omega) only [go_sem, ↓reduceIte, zn1, zn3, zn4, reduceCtorEq, if_pos, q5, x1, gx, gll, gcl, gct, List.take_succ_cons, List.take_zero, List.drop_zero, Nat.one_mul, Nat.zero_add] <;> rfl)); (first | refine pickT ?_ | refine pickF ?_ | fail_if_success with_reducible refine pickA ?_)) | ((with_reducible refine SC.draw Tab.mixed ?_ ?_); (focus rfl)) | (with_reducible apply SC.ops)))
                refine hK1 _ (i + 1, e + (logE h.log[i]).length) (Le.rg [(6, ⟨5, [], false⟩)] 5 9 6 hB (by omega) (by omega) (by omega) (by omega) (fun i b hb => by
        simp only [hget] at hb
        repeat' split at hb
        all_goals first | omega | (cases hb; done)) ?_ ?_) ⟨by simp only; omega, by simp only; omega, ?_⟩ (by simp only; omega)
                · (repeat' (first | exact trivial | refine mapSl_cons (by simp (disch := omega) only [go_sem, ↓reduceIte, zn1] <;> rfl) ?_ ?_ | exact VMap.junk _ | exact VMap.sc _ | exact VMap.clo rfl | exact VMap.sl rfl (by omega) | exact VMap.cap rfl (by omega) | exact VMap.pt rfl (by omega) | exact VMap.nil_sl _ _ _ | exact VMap.int (by first | rfl | omega | (dsimp only; omega))))
                · simp only
                  rw [e4] at cl ⊢
                  refine mapHp_cons (by simp (disch := omega) only [go_sem, ↓reduceIte] <;> rfl) (BMap.clo cl) ?_
                  refine mapHp_cons (by simp (disch := omega) only [go_sem, ↓reduceIte, zn1] <;> rfl) (BMap.clo rfl) ?_
                  refine mapHp_cons (by simp (disch := omega) only [go_sem, ↓reduceIte, zn1] <;> rfl) (BMap.clo rfl) ?_
                  exact mapHp_cons (by simp (disch := omega) only [go_sem, ↓reduceIte, zn1] <;> rfl) (BMap.list (mapL_cons (VMap.sc _) (mapL_cons (VMap.clo rfl) (mapL_cons (VMap.sl (if_pos rfl) (by omega)) mapL_nil)))) mapHp_nil
                · simp only
                  rw [hi3, List.take_succ_eq_append_getElem hil, List.append_assoc]; rfl
            · have q4 : decide ((i : Int) < (h.log.length : Int)) = false := by rw [decide_eq_false_iff_not]; omega
              have hie : i = h.log.length := by omega
              subst hie
              rw [List.drop_length, cutR, List.take_length] at hi3
              injection hi3 with h1 h2
              simp only [List.append_nil] at h1
              subst h1; subst h2
              rw [List.take_length]
              (repeat (first | refine DO.nil (by kernel_rfl) ?_ | (with_reducible first | apply oz1 | apply oz2 | apply oz3 | apply oz4 | apply oz5 | apply oz6 | apply oz7 | apply oz8 | apply oz9 | apply ozb | apply ozc | apply oze | apply ozf | apply ozg | apply ozh | apply ozi | apply ozj | apply ozk | refine ozd (by decide) ?_) | ((with_reducible first | apply SC.condB | apply SC.region | apply SO.run | apply DO.run); (focus (simp (disch := omega) only [go_sem, ↓reduceIte, zn1, reduceCtorEq, q4] <;> rfl)); (first | refine pickT ?_ | refine pickF ?_ | fail_if_success with_reducible refine pickA ?_)) | ((with_reducible refine SC.draw Tab.mixed ?_ ?_); (focus rfl)) | (with_reducible apply SC.ops)))
              refine hK0 _ () ?_ trivial
              (refine Le.slots ?_ ?_ ?_ <;> (repeat' (first | (exact fun _ _ h => h) | exact Nat.le_refl _ | exact leSl_nil | refine leSl_cons (by simp (disch := omega) only [go_sem, ↓reduceIte, zn1] <;> rfl) ?_ ?_ | exact VLe.junk _ | exact VLe.refl rfl | exact VLe.nil_sl _ _ _ | exact VLe.int (by first | rfl | omega | (dsimp only; omega)) | exact VLe.bool rfl | exact VLe.sl rfl (by first | rfl | omega) | exact VLe.cap rfl (by first | rfl | omega) | exact VLe.im rfl rfl | omega | (refine fun id k h => ?_; simp only [hget] at h ⊢; (repeat' (split at h)) <;> first | (cases h; done) | (simp (disch := omega) only [if_pos, if_neg]; exact h)))))
        · intro _ _
          have lC := chgs_len C
          have tC : (chgs C).take (C.length * 8) = chgs C := List.take_of_length_le (by omega)
          have cC := chgs_clo C
          refine SC.weak (by simp) (Le.trans (frzTo (sl' := [(3, .sc (.bool true)), (4, .pt 2 0), (5, .im (bw (hst_ h)) (hst_ h).length), (6, .sc (.int .i64 (hed_ h).length)), (7, .sc (.int .i64 n)), (8, .pt 3 0), (9, .sc (.int .i64 at_)), (10, .pt 4 0), (11, .sc (.int .i64 en))]) (rest := [(2, ⟨52, [.sc (.int .i64 h.start), .im (cels h.base) h.base.length, .im (chgs h.log) h.log.length], false⟩), (3, ⟨52, [.sc (.int .i64 h.start), .im (cels h.base) h.base.length, .im (chgs C) C.length], false⟩)]) (nx' := 5) (y := .im (chgs C) C.length) (ids := [5]) 4 2 hB (by simp (disch := omega) only [go_sem, ↓reduceIte, zn1] <;> rfl) (by rfl) (by simp (disch := omega) only [go_sem, ↓reduceIte, if_pos, lC, tC, cC, List.drop_zero] <;> rfl) (by simp) ?_ rfl (by omega) ?_) (Le.gh (sl' := [(3, .sc (.bool true)), (4, .pt 2 0), (5, .im (bw (hst_ h)) (hst_ h).length), (6, .sc (.int .i64 (hed_ h).length)), (7, .sc (.int .i64 n)), (8, .pt 3 0), (9, .sc (.int .i64 at_)), (10, .pt 4 0), (11, .sc (.int .i64 en))]) (hp' := [(4, ⟨52, [.sc (.int .i64 h.start), .im (cels h.base) h.base.length, .im (chgs C) C.length], false⟩), (2, ⟨52, [.sc (.int .i64 h.start), .im (cels h.base) h.base.length, .im (chgs h.log) h.log.length], false⟩), (3, ⟨52, [.sc (.int .i64 h.start), .im (cels h.base) h.base.length, .im (chgs C) C.length], false⟩)]) (nx' := 8) [(6, ⟨5, [], false⟩), (7, ⟨5, [], false⟩)] 5 hB (by omega) (by omega) (fun i b hb => by
            simp only [hget] at hb
            repeat' split at hb
            all_goals first | omega | (cases hb; done)) ?_ ?_)) ?_
          · exact ⟨⟨by simp, by simp, by simp (disch := omega) only [go_sem, ↓reduceIte, zn1] <;> rfl, rfl⟩, ⟨by simp, by simp, by simp (disch := omega) only [go_sem, ↓reduceIte, zn1] <;> rfl, rfl⟩, trivial⟩
          · (repeat' (first | exact trivial | refine mapSl_cons (by simp (disch := omega) only [go_sem, ↓reduceIte, zn1] <;> rfl) ?_ ?_ | exact VMap.junk _ | exact VMap.sc _ | exact VMap.clo rfl | exact VMap.sl rfl (by omega) | exact VMap.cap rfl (by omega) | exact VMap.pt rfl (by omega) | exact VMap.nil_sl _ _ _ | exact VMap.int (by first | rfl | omega | (dsimp only; omega))))
          · (repeat' (first | exact trivial | refine mapSl_cons (by simp (disch := omega) only [go_sem, ↓reduceIte, zn1] <;> rfl) ?_ ?_ | exact VMap.junk _ | exact VMap.sc _ | exact VMap.clo rfl | exact VMap.sl rfl (by omega) | exact VMap.cap rfl (by omega) | exact VMap.pt rfl (by omega) | exact VMap.nil_sl _ _ _ | exact VMap.int (by first | rfl | omega | (dsimp only; omega))))
          · (repeat' (first | exact mapHp_nil | refine mapHp_cons (by simp (disch := omega) only [go_sem, ↓reduceIte, zn1] <;> rfl) ?_ ?_ | exact BMap.clo (by first | rfl | assumption | exact wv_clo _ | exact imR_clo _ _ | exact nv_clo _) | refine BMap.list ?_ | exact mapL_nil | refine mapL_cons ?_ ?_ | exact VMap.junk _ | exact VMap.sc _ | exact VMap.clo rfl | exact VMap.sl rfl (by omega) | exact VMap.cap rfl (by omega) | exact VMap.pt rfl (by omega) | exact VMap.nil_sl _ _ _ | exact VMap.int (by first | rfl | omega | (dsimp only; omega))))
          simp only [List.cons_append, List.nil_append]
          have a3 := rhist0_s hCok (by omega) 6 ⟨5, [], false⟩
          have a4 := rhist0_s hCok (by omega) 7 ⟨5, [], false⟩
          have c5 := same_s (hst_ ⟨h.start, h.base, C⟩)
          have gl2 := bw_len (hst_ ⟨h.start, h.base, C⟩)
          have gcl2 := bw_clo (hst_ ⟨h.start, h.base, C⟩)
          have gt2 : (bw (hst_ ⟨h.start, h.base, C⟩)).take (hst_ ⟨h.start, h.base, C⟩).length = bw (hst_ ⟨h.start, h.base, C⟩) := List.take_of_length_le (by omega)
          unfold hstC at a3 a4
          simp only at a3 a4
          generalize bw (hst_ ⟨h.start, h.base, C⟩) = E2 at *
          generalize (hst_ ⟨h.start, h.base, C⟩).length = N2 at *
          by_cases hf : n = (hst_ h).length
          · have q6 : ((n : Int) == ((hst_ h).length : Int)) = true := by rw [beq_iff_eq]; omega
            rw [if_pos hf] at hat
            subst hat
            (repeat (first | refine DO.nil (by kernel_rfl) ?_ | (with_reducible first | apply oz1 | apply oz2 | apply oz3 | apply oz4 | apply oz5 | apply oz6 | apply oz7 | apply oz8 | apply oz9 | apply ozb | apply ozc | apply oze | apply ozf | apply ozg | apply ozh | apply ozi | apply ozj | apply ozk | refine ozd (by decide) ?_) | ((first | apply SO.call | apply DO.call); (iterate 3 (focus (simp (disch := omega) only [go_sem, ↓reduceIte, zn1] <;> rfl))); (first | apply SCall.ofX | apply DCall.ofX); (focus (first | assumption)); (focus (simp (disch := omega) only [go_sem, ↓reduceIte, zn1, zn2, zn3, zn4, zn5, zn6, reduceCtorEq, zn7, zi1, zi2, if_pos, if_neg, q6, bne_self_eq_false] <;> rfl))) | ((with_reducible first | apply SC.condB | apply SC.region | apply SO.run | apply DO.run); (focus (simp (disch := omega) only [go_sem, ↓reduceIte, zn1, zn3, zn4, q6, bne_self_eq_false] <;> rfl)); (first | refine pickT ?_ | refine pickF ?_ | fail_if_success with_reducible refine pickA ?_)) | ((with_reducible refine SC.draw Tab.mixed ?_ ?_); (focus rfl)) | (with_reducible apply SC.ops)))
            (first | refine SO.callA Tab.go21 (by simp (disch := omega) only [go_sem, ↓reduceIte, zn1, zn2, zn3, zn4, zn5, zn6, reduceCtorEq, zn7, zi1, zi2, if_pos, if_neg] <;> rfl) (by simp (disch := omega) only [go_sem, ↓reduceIte, zn1, zn2, zn3, zn4, zn5, zn6, reduceCtorEq, zn7, zi1, zi2, if_pos, if_neg] <;> rfl) (SApp.of (a3) (by simp (disch := omega) only [go_sem, ↓reduceIte, zn1, zn2, zn3, zn4, zn5, zn6, reduceCtorEq, zn7, zi1, zi2, if_pos, if_neg] <;> rfl) rfl (by simp (disch := omega) only [go_sem, ↓reduceIte, zn1, zn2, zn3, zn4, zn5, zn6, reduceCtorEq, zn7, zi1, zi2, if_pos, if_neg] <;> rfl) ?_) | refine DO.callA Tab.go21 (by simp (disch := omega) only [go_sem, ↓reduceIte] <;> rfl) (by simp (disch := omega) only [go_sem, ↓reduceIte, zn1] <;> rfl) (DApp.of (a3) (by simp (disch := omega) only [go_sem, ↓reduceIte] <;> rfl) rfl (by simp (disch := omega) only [go_sem, ↓reduceIte, zn1, zn4] <;> rfl) ?_))
            (repeat (first | refine DO.nil (by kernel_rfl) ?_ | (with_reducible first | apply oz1 | apply oz2 | apply oz3 | apply oz4 | apply oz5 | apply oz6 | apply oz7 | apply oz8 | apply oz9 | apply ozb | apply ozc | apply oze | apply ozf | apply ozg | apply ozh | apply ozi | apply ozj | apply ozk | refine ozd (by decide) ?_) | ((first | apply SO.call | apply DO.call); (iterate 3 (focus (simp (disch := omega) only [go_sem, ↓reduceIte, zn1] <;> rfl))); (first | apply SCall.ofX | apply DCall.ofX); (focus (first | assumption)); (focus (simp (disch := omega) only [go_sem, ↓reduceIte, zn1, zn2, zn3, zn4, zn5, zn6, reduceCtorEq, zn7, zi1, zi2, if_pos, if_neg] <;> rfl))) | ((with_reducible first | apply SC.condB | apply SC.region | apply SO.run | apply DO.run); (focus (simp (disch := omega) only [go_sem, ↓reduceIte, zn1, zn3, zn4] <;> rfl)); (first | refine pickT ?_ | refine pickF ?_ | fail_if_success with_reducible refine pickA ?_)) | ((with_reducible refine SC.draw Tab.mixed ?_ ?_); (focus rfl)) | (with_reducible apply SC.ops)))
            (first | refine SO.callA Tab.go21 (by simp (disch := omega) only [go_sem, ↓reduceIte, zn1, zn2, zn3, zn4, zn5, zn6, reduceCtorEq, zn7, zi1, zi2, if_pos, if_neg] <;> rfl) (by simp (disch := omega) only [go_sem, ↓reduceIte, zn1, zn2, zn3, zn4, zn5, zn6, reduceCtorEq, zn7, zi1, zi2, if_pos, if_neg] <;> rfl) (SApp.of (a4) (by simp (disch := omega) only [go_sem, ↓reduceIte, zn1, zn2, zn3, zn4, zn5, zn6, reduceCtorEq, zn7, zi1, zi2, if_pos, if_neg] <;> rfl) rfl (by simp (disch := omega) only [go_sem, ↓reduceIte, zn1, zn2, zn3, zn4, zn5, zn6, reduceCtorEq, zn7, zi1, zi2, if_pos, if_neg] <;> rfl) ?_) | refine DO.callA Tab.go21 (by simp (disch := omega) only [go_sem, ↓reduceIte] <;> rfl) (by simp (disch := omega) only [go_sem, ↓reduceIte, zn1] <;> rfl) (DApp.of (a4) (by simp (disch := omega) only [go_sem, ↓reduceIte, zn1] <;> rfl) rfl (by simp (disch := omega) only [go_sem, ↓reduceIte, zn1, zn4] <;> rfl) ?_))
            (repeat (first | refine DO.nil (by kernel_rfl) ?_ | (with_reducible first | apply oz1 | apply oz2 | apply oz3 | apply oz4 | apply oz5 | apply oz6 | apply oz7 | apply oz8 | apply oz9 | apply ozb | apply ozc | apply oze | apply ozf | apply ozg | apply ozh | apply ozi | apply ozj | apply ozk | refine ozd (by decide) ?_) | ((first | apply SO.call | apply DO.call); (iterate 3 (focus (simp (disch := omega) only [go_sem, ↓reduceIte, zn1, if_pos, gl2, gt2, gcl2, List.drop_zero, Nat.mul_one] <;> rfl))); (first | apply SCall.ofX | apply DCall.ofX); (focus (first | assumption)); (focus (simp (disch := omega) only [go_sem] <;> rfl))) | ((with_reducible first | apply SC.condB | apply SC.region | apply SO.run | apply DO.run); (focus (simp (disch := omega) only [go_sem, ↓reduceIte, zn1] <;> rfl)); (first | refine pickT ?_ | refine pickF ?_ | fail_if_success with_reducible refine pickA ?_)) | ((with_reducible refine SC.draw Tab.mixed ?_ ?_); (focus rfl)) | (with_reducible apply SC.ops)))
            refine hK _ (n + 1) ?_ (by omega) (by omega)
            (refine Le.of [] hB (by first | exact ⟨Nat.zero_le _, fun _ _ => Nat.zero_le _⟩ | (constructor <;> (try simp) <;> (try omega))) ?_ ?_ <;> (repeat' (first | exact leSl_nil | exact leHp_nil | refine leSl_cons (by simp (disch := omega) only [go_sem, ↓reduceIte, zn1]; rfl) ?_ ?_ | refine leHp_cons (by simp (disch := omega) only [go_sem, ↓reduceIte, zn1]; rfl) ?_ ?_ | exact VLe.junk _ | exact VLe.refl rfl | exact VLe.nil_sl _ _ _ | exact VLe.int (by first | rfl | omega | (dsimp only; omega)) | exact VLe.bool rfl | exact VLe.sl rfl (by first | rfl | omega | (dsimp only; omega) | (simp; done)) | exact VLe.cap rfl (by first | rfl | omega | (dsimp only; omega) | (simp; done)) | exact VLe.im rfl rfl | exact HLe.new rfl | exact HLe.same rfl (LLe.refl rfl) | refine HLe.same rfl ?_ | exact LLe.nil _ | exact LLe.refl rfl | refine LLe.cons ?_ ?_)))
          · have q6 : ((n : Int) == ((hst_ h).length : Int)) = false := by rw [beq_eq_false_iff_ne]; omega
            rw [if_neg hf] at hat
            subst hat
            (repeat (first | refine DO.nil (by kernel_rfl) ?_ | (with_reducible first | apply oz1 | apply oz2 | apply oz3 | apply oz4 | apply oz5 | apply oz6 | apply oz7 | apply oz8 | apply oz9 | apply ozb | apply ozc | apply oze | apply ozf | apply ozg | apply ozh | apply ozi | apply ozj | apply ozk | refine ozd (by decide) ?_) | ((first | apply SO.call | apply DO.call); (iterate 3 (focus (simp (disch := omega) only [go_sem, ↓reduceIte, zn1] <;> rfl))); (first | apply SCall.ofX | apply DCall.ofX); (focus (first | assumption)); (focus (simp (disch := omega) only [go_sem, ↓reduceIte, zn1, zn2, zn3, zn4, zn5, zn6, reduceCtorEq, zn7, zi1, zi2, if_pos, if_neg, q6, bne_self_eq_false] <;> rfl))) | ((with_reducible first | apply SC.condB | apply SC.region | apply SO.run | apply DO.run); (focus (simp (disch := omega) only [go_sem, ↓reduceIte, zn1, zn3, zn4, q6, bne_self_eq_false] <;> rfl)); (first | refine pickT ?_ | refine pickF ?_ | fail_if_success with_reducible refine pickA ?_)) | ((with_reducible refine SC.draw Tab.mixed ?_ ?_); (focus rfl)) | (with_reducible apply SC.ops)))
            (first | refine SO.callA Tab.go21 (by simp (disch := omega) only [go_sem, ↓reduceIte, zn1, zn2, zn3, zn4, zn5, zn6, reduceCtorEq, zn7, zi1, zi2, if_pos, if_neg] <;> rfl) (by simp (disch := omega) only [go_sem, ↓reduceIte, zn1, zn2, zn3, zn4, zn5, zn6, reduceCtorEq, zn7, zi1, zi2, if_pos, if_neg] <;> rfl) (SApp.of (a3) (by simp (disch := omega) only [go_sem, ↓reduceIte, zn1, zn2, zn3, zn4, zn5, zn6, reduceCtorEq, zn7, zi1, zi2, if_pos, if_neg] <;> rfl) rfl (by simp (disch := omega) only [go_sem, ↓reduceIte, zn1, zn2, zn3, zn4, zn5, zn6, reduceCtorEq, zn7, zi1, zi2, if_pos, if_neg] <;> rfl) ?_) | refine DO.callA Tab.go21 (by simp (disch := omega) only [go_sem, ↓reduceIte] <;> rfl) (by simp (disch := omega) only [go_sem, ↓reduceIte, zn1] <;> rfl) (DApp.of (a3) (by simp (disch := omega) only [go_sem, ↓reduceIte] <;> rfl) rfl (by simp (disch := omega) only [go_sem, ↓reduceIte, zn1, zn4] <;> rfl) ?_))
            (repeat (first | refine DO.nil (by kernel_rfl) ?_ | (with_reducible first | apply oz1 | apply oz2 | apply oz3 | apply oz4 | apply oz5 | apply oz6 | apply oz7 | apply oz8 | apply oz9 | apply ozb | apply ozc | apply oze | apply ozf | apply ozg | apply ozh | apply ozi | apply ozj | apply ozk | refine ozd (by decide) ?_) | ((first | apply SO.call | apply DO.call); (iterate 3 (focus (simp (disch := omega) only [go_sem, ↓reduceIte, zn1] <;> rfl))); (first | apply SCall.ofX | apply DCall.ofX); (focus (first | assumption)); (focus (simp (disch := omega) only [go_sem, ↓reduceIte, zn1, zn2, zn3, zn4, zn5, zn6, reduceCtorEq, zn7, zi1, zi2, if_pos, if_neg] <;> rfl))) | ((with_reducible first | apply SC.condB | apply SC.region | apply SO.run | apply DO.run); (focus (simp (disch := omega) only [go_sem, ↓reduceIte, zn1, zn3, zn4] <;> rfl)); (first | refine pickT ?_ | refine pickF ?_ | fail_if_success with_reducible refine pickA ?_)) | ((with_reducible refine SC.draw Tab.mixed ?_ ?_); (focus rfl)) | (with_reducible apply SC.ops)))
            (first | refine SO.callA Tab.go21 (by simp (disch := omega) only [go_sem, ↓reduceIte, zn1, zn2, zn3, zn4, zn5, zn6, reduceCtorEq, zn7, zi1, zi2, if_pos, if_neg] <;> rfl) (by simp (disch := omega) only [go_sem, ↓reduceIte, zn1, zn2, zn3, zn4, zn5, zn6, reduceCtorEq, zn7, zi1, zi2, if_pos, if_neg] <;> rfl) (SApp.of (a4) (by simp (disch := omega) only [go_sem, ↓reduceIte, zn1, zn2, zn3, zn4, zn5, zn6, reduceCtorEq, zn7, zi1, zi2, if_pos, if_neg] <;> rfl) rfl (by simp (disch := omega) only [go_sem, ↓reduceIte, zn1, zn2, zn3, zn4, zn5, zn6, reduceCtorEq, zn7, zi1, zi2, if_pos, if_neg] <;> rfl) ?_) | refine DO.callA Tab.go21 (by simp (disch := omega) only [go_sem, ↓reduceIte] <;> rfl) (by simp (disch := omega) only [go_sem, ↓reduceIte, zn1] <;> rfl) (DApp.of (a4) (by simp (disch := omega) only [go_sem, ↓reduceIte, zn1] <;> rfl) rfl (by simp (disch := omega) only [go_sem, ↓reduceIte, zn1, zn4] <;> rfl) ?_))
            (repeat (first | refine DO.nil (by kernel_rfl) ?_ | (with_reducible first | apply oz1 | apply oz2 | apply oz3 | apply oz4 | apply oz5 | apply oz6 | apply oz7 | apply oz8 | apply oz9 | apply ozb | apply ozc | apply oze | apply ozf | apply ozg | apply ozh | apply ozi | apply ozj | apply ozk | refine ozd (by decide) ?_) | ((first | apply SO.call | apply DO.call); (iterate 3 (focus (simp (disch := omega) only [go_sem, ↓reduceIte, zn1, if_pos, gl2, gt2, gcl2, List.drop_zero, Nat.mul_one] <;> rfl))); (first | apply SCall.ofX | apply DCall.ofX); (focus (first | assumption)); (focus (simp (disch := omega) only [go_sem] <;> rfl))) | ((with_reducible first | apply SC.condB | apply SC.region | apply SO.run | apply DO.run); (focus (simp (disch := omega) only [go_sem, ↓reduceIte, zn1] <;> rfl)); (first | refine pickT ?_ | refine pickF ?_ | fail_if_success with_reducible refine pickA ?_)) | ((with_reducible refine SC.draw Tab.mixed ?_ ?_); (focus rfl)) | (with_reducible apply SC.ops)))
            refine hK _ (n + 1) ?_ (by omega) (by omega)
            (refine Le.of [] hB (by first | exact ⟨Nat.zero_le _, fun _ _ => Nat.zero_le _⟩ | (constructor <;> (try simp) <;> (try omega))) ?_ ?_ <;> (repeat' (first | exact leSl_nil | exact leHp_nil | refine leSl_cons (by simp (disch := omega) only [go_sem, ↓reduceIte, zn1]; rfl) ?_ ?_ | refine leHp_cons (by simp (disch := omega) only [go_sem, ↓reduceIte, zn1]; rfl) ?_ ?_ | exact VLe.junk _ | exact VLe.refl rfl | exact VLe.nil_sl _ _ _ | exact VLe.int (by first | rfl | omega | (dsimp only; omega)) | exact VLe.bool rfl | exact VLe.sl rfl (by first | rfl | omega | (dsimp only; omega) | (simp; done)) | exact VLe.cap rfl (by first | rfl | omega | (dsimp only; omega) | (simp; done)) | exact VLe.im rfl rfl | exact HLe.new rfl | exact HLe.same rfl (LLe.refl rfl) | refine HLe.same rfl ?_ | exact LLe.nil _ | exact LLe.refl rfl | refine LLe.cons ?_ ?_)))
    · have q2 : decide ((n : Int) ≤ ((hst_ h).length : Int)) = false := by rw [decide_eq_false_iff_not]; omega
      (repeat (first | refine DO.nil (by kernel_rfl) ?_ | (with_reducible first | apply oz1 | apply oz2 | apply oz3 | apply oz4 | apply oz5 | apply oz6 | apply oz7 | apply oz8 | apply oz9 | apply ozb | apply ozc | apply oze | apply ozf | apply ozg | apply ozh | apply ozi | apply ozj | apply ozk | refine ozd (by decide) ?_) | ((with_reducible first | apply SC.condB | apply SC.region | apply SO.run | apply DO.run); (focus (simp (disch := omega) only [go_sem, ↓reduceIte, zn1, zn2, q2] <;> rfl)); (first | refine pickT ?_ | refine pickF ?_ | fail_if_success with_reducible refine pickA ?_)) | ((with_reducible refine SC.draw Tab.mixed ?_ ?_); (focus rfl)) | (with_reducible apply SC.ops)))
      exact retQ_ret Try.results5 rfl rfl rfl
end Go.Proofs.Ytphilljhfdlfdaa
namespace Go.Proofs.Ytphilljhfdlfdaa
open Go.ChangeShapes Go.WideShapes Go.ChangeAt Go.RowKit
end Go.Proofs.Ytphilljhfdlfdaa
namespace Go.Proofs.Ytphilljhfdlfdaa
open Go.RowKit
end Go.Proofs.Ytphilljhfdlfdaa
