/- Texts joined: Eu Ew Ex Ey. -/
import Derived.Test.YtphilljhfdlfdaaZc
import Derived.Test.YtphilljhfdlfdaaZf
import Derived.Test.YtphilljhfdlfdaaZf
import Derived.Test.YtphilljhfdlfdaaZi
import Derived.Test.YtphilljhfdlfdaaZj
set_option linter.all false
open Nat renaming reduceEqDiff → zn1, reduceLT → zn2, reduceLeDiff → zn3, reduceAdd → zn4, reduceMul → zn5, reduceSub → zn6, reduceBEq → zn7
open Int renaming reduceToNat → zi1, reducePow → zi2
namespace Go.Proofs.Ytphilljhfdlfdaa
open Go.RowKit
end Go.Proofs.Ytphilljhfdlfdaa
namespace Go.Proofs.Ytphilljhfdlfdaa
open Go.RowKit
end Go.Proofs.Ytphilljhfdlfdaa
namespace Go.Proofs.Ytphilljhfdlfdaa
open Go.ChangeShapes Go.WideShapes Go.ChangeAt Go.RowKit
theorem getI_full {l : List Int} {z : Int} (h : (limbsOf z.natAbs).length ≤ 4000) : getI (l ++ int_ z) (l ++ int_ z).length l.length = (z, (l ++ int_ z).length, 0) := by
  have ha := At.of l (int_ z) (l ++ int_ z).length
  rw [List.take_length] at ha
  have hl : (l ++ int_ z).length = l.length + (int_ z).length := List.length_append
  have h1 := (int_rds (l ++ int_ z) (l ++ int_ z).length h l.length ha (by omega)).1 (by omega)
  unfold getI getR
  rw [if_neg (by omega), Int.toNat_natCast, h1, if_pos rfl, hl]
theorem getI_cut {l : List Int} {z : Int} (h : (limbsOf z.natAbs).length ≤ 4000) {n : Nat} (h1 : l.length ≤ n) (h2 : n < (l ++ int_ z).length) : getI ((l ++ int_ z).take n) n l.length = (0, 0, 5) := by
  have ha := At.of l (int_ z) n
  have hl : (l ++ int_ z).length = l.length + (int_ z).length := List.length_append
  have h5 := (int_rds ((l ++ int_ z).take n) n h l.length ha h1).2 (by omega)
  unfold getI getR
  rw [if_neg (by omega), Int.toNat_natCast, if_neg (by rw [h5]; decide), h5]
theorem gotM_full {l : List Int} {w : Nat} {M : List (List Int)} (h : MatFit w M) : gotM (l ++ mat_ w M) (l ++ mat_ w M).length l.length = ((w, M), (l ++ mat_ w M).length, 0) := by
  have ha := At.of l (mat_ w M) (l ++ mat_ w M).length
  rw [List.take_length] at ha
  have hl : (l ++ mat_ w M).length = l.length + (mat_ w M).length := List.length_append
  have h1 := (mat_rds (l ++ mat_ w M) (l ++ mat_ w M).length h l.length ha (by omega)).1 (by omega)
  unfold gotM
  rw [if_neg (by omega), Int.toNat_natCast, h1, if_pos rfl, hl]
theorem gotM_cut {l : List Int} {w : Nat} {M : List (List Int)} (h : MatFit w M) {n : Nat} (h1 : l.length ≤ n) (h2 : n < (l ++ mat_ w M).length) : gotM ((l ++ mat_ w M).take n) n l.length = (noM, 0, 5) := by
  have ha := At.of l (mat_ w M) n
  have hl : (l ++ mat_ w M).length = l.length + (mat_ w M).length := List.length_append
  have h5 := (mat_rds ((l ++ mat_ w M).take n) n h l.length ha h1).2 (by omega)
  unfold gotM
  rw [if_neg (by omega), Int.toNat_natCast, if_neg (by rw [h5]; decide), h5]
theorem filL_mi2 {h w : Nat} {l : List Int} (hb : ∀ x ∈ l, -128 ≤ x ∧ x ≤ 127) : MI h w 1 (filL h w l) := mk_mi fun r c _ _ => by
  have := dgt_small (k := r * w + c) hb
  unfold Fits; omega
theorem mi_fit {h w : Nat} {M : List (List Int)} (hM : MI h w 1 M) (hh : h ≤ 4) (hw : w ≤ 4) : MatFit w M ∧ MatOk w M ∧ (mat_ w M).length ≤ 300 := by
  have hl := hM.len
  have hr : ∀ r ∈ M, r.length = w ∧ ∀ x ∈ r, (limbsOf x.natAbs).length ≤ 1 := fun r hr => ⟨(hM.row r hr).1, fun x hx => fits_len ((hM.row r hr).2 x hx)⟩
  refine ⟨⟨by omega, by omega, fun r hrm => ⟨(hr r hrm).1, fun x hx => by have := (hr r hrm).2 x hx; omega⟩⟩, ⟨by omega, by omega, fun r hrm => ⟨(hr r hrm).1, fun x hx => by have := (hr r hrm).2 x hx; omega⟩⟩, ?_⟩
  have h1 := num_10 (n := M.length) (by omega)
  have h2 := num_10 (n := w) (by omega)
  have h3 : ∀ r ∈ M, (row_ r).length ≤ 56 := fun r hrm => by
    have h4 := flat_bound int_ 14 r fun x hx => int_len ((hr r hrm).2 x hx) (by omega)
    rw [(hr r hrm).1] at h4
    have := Nat.mul_le_mul_right 14 hw
    unfold row_
    omega
  have h5 := flat_bound row_ 56 M h3
  have := Nat.mul_le_mul_right 56 (show M.length ≤ 4 by omega)
  unfold mat_
  simp only [List.length_append]
  omega
theorem u8_mat (w : Nat) (M : List (List Int)) : U8s (mat_ w M) := ((u8_num _).app (u8_num _)).app (U8s.flat _ fun r _ => U8s.flat _ fun z _ => u8_int z)
theorem i8_wf (n : Int) (h : (Lit.int .i8 n).wf = true) : -128 ≤ n ∧ n ≤ 127 := by
  have h : (IntKind.i8.min ≤ n ∧ n ≤ IntKind.i8.max) := by simpa [Lit.wf] using h
  have h1 : IntKind.i8.min = -128 := by decide
  have h2 : IntKind.i8.max = 127 := by decide
  omega
theorem raw5_val {x : V} (h : (Shp.st [.int .u8, .int .u8, .slc (.int .i8)]).Val x) : ∃ (a b : Nat) (l : List Int), x = .ag [.sc (.int .u8 a), .sc (.int .u8 b), .im (bv8 l) l.length] ∧ a < 256 ∧ b < 256 ∧ (∀ x ∈ l, -128 ≤ x ∧ x ≤ 127) ∧ l.length ≤ 9223372036854775807 := by
  obtain ⟨ys, rfl, a1, b1, rfl, ⟨n1, rfl, w1⟩, a2, b2, rfl, ⟨n2, rfl, w2⟩, a3, b3, rfl, ⟨yss, hl, rfl, hr⟩, rfl⟩ := h
  obtain ⟨a, rfl, ha⟩ := wf_nat u8_wf w1
  obtain ⟨b, rfl, hb⟩ := wf_nat u8_wf w2
  obtain ⟨l, h1, h2, h3⟩ := reps_ints hr
  unfold maxLen at hl
  refine ⟨a, b, l, ?_, by omega, by omega, fun x hx => i8_wf x (h3 x hx), by omega⟩
  rw [h1, h2]; rfl
theorem numb_val {x : V} (h : (Shp.st [.slc (.int .u32), .bool]).Val x) : ∃ (m : List Nat) (b : Bool), x = .ag [.im (lv m) m.length, .sc (.bool b)] ∧ limbs m := by
  obtain ⟨ys, rfl, a1, b1, rfl, ⟨yss, hl, rfl, hr⟩, a2, b2, rfl, ⟨b, rfl⟩, rfl⟩ := h
  obtain ⟨m, h1, h2, h3⟩ := reps_nats u32_wf hr
  refine ⟨m, b, ?_, fun x hx => by have := h3 x hx; omega⟩
  rw [h1, ← h2]; rfl
end Go.Proofs.Ytphilljhfdlfdaa
namespace Go.Proofs.Ytphilljhfdlfdaa
open Go.RowKit
set_option maxHeartbeats 16000000 in
set_option maxRecDepth 20000 in
theorem wints_s {mg : List Nat} {neg : Bool} {ra rb : Nat} {rl : List Int} {l : List Int} (hmg : limbs mg) (hra : ra < 256) (hrb : rb < 256) (hrl : ∀ x ∈ rl, -128 ≤ x ∧ x ≤ 127) (hrn : rl.length ≤ 9223372036854775807) (hl : U8s l) :
    Spec Try.prog 3 [.ag [.im (lv mg) mg.length, .sc (.bool neg)], .ag [.sc (.int .u8 ra), .sc (.int .u8 rb), .im (bv8 rl) rl.length], .im (bw l) l.length] (.sc (.bool true)) := by
  have c0 := sanity_s
  by_cases h20 : l.length > 20
  · have q1 : decide ((l.length : Int) > 20) = true := by rw [decide_eq_true_iff]; omega
    refine Spec.run Try.func3 rfl Try.ntmps3 (by simp) (by simp (disch := omega) only [go_sem, zn4]; rfl) fun B hB => ?_
    (repeat (first | refine DO.nil (by kernel_rfl) ?_ | (with_reducible first | apply oz1 | apply oz2 | apply oz3 | apply oz4 | apply oz5 | apply oz6 | apply oz7 | apply oz8 | apply oz9 | apply ozb | apply ozc | apply oze | apply ozf | apply ozg | apply ozh | apply ozi | apply ozj | apply ozk | refine ozd (by decide) ?_) | ((first | apply SO.call | apply DO.call); (iterate 3 (focus (simp (disch := omega) only [go_sem] <;> rfl))); (first | apply SCall.ofX | apply DCall.ofX); (focus (first | assumption)); (focus (simp (disch := omega) only [go_sem] <;> rfl))) | ((with_reducible first | apply SC.condB | apply SC.region | apply SO.run | apply DO.run); (focus (simp (disch := omega) only [go_sem, ↓reduceIte, zn1, zn4, reduceCtorEq, q1] <;> rfl)); (first | refine pickT ?_ | refine pickF ?_ | fail_if_success with_reducible refine pickA ?_)) | ((with_reducible refine SC.draw Tab.mixed ?_ ?_); (focus rfl)) | (with_reducible apply SC.ops)))
    exact retQ_ret Try.results3 (by simp (disch := omega) only [go_sem, ↓reduceIte] <;> rfl) rfl rfl
  · have q1 : decide ((l.length : Int) > 20) = false := by rw [decide_eq_false_iff_not]; omega
    have c1 := made_i (mg.take 5) neg (limbs_take hmg 5) (by simp; omega)
    have m5 : (if (5 : Int) < mg.length then (5 : Int) else mg.length) = (((mg.take 5).length : Nat) : Int) := min_take mg 5
    have x0 : ((((mg.take 5).length : Nat) : Int)).toNat = (mg.take 5).length := rfl
    have g5 : (mg.take 5).length ≤ mg.length := take_le _ _
    have glm := lv_len mg
    have gtm : (lv mg).take (mg.take 5).length = lv (mg.take 5) := by rw [lv_take, take_take_len]
    have hz : (limbsOf (sgn neg (val (mg.take 5))).natAbs).length ≤ 5 := sgn_limbs hmg neg
    unfold sv at c1
    generalize sgn neg (val (mg.take 5)) = z at *
    generalize (mg.take 5).length = k5 at *
    generalize lv (mg.take 5) = L5 at *
    have c2 := rmade_s hra hrb hrl hrn
    have hM := filL_mi2 (h := ra % 5) (w := rb % 5) hrl
    have hh5 : ra % 5 ≤ 4 := by omega
    have hw5 : rb % 5 ≤ 4 := by omega
    generalize filL (ra % 5) (rb % 5) rl = M at *
    generalize ra % 5 = hM5 at *
    generalize rb % 5 = w at *
    obtain ⟨hfit, hok, hln⟩ := mi_fit hM hh5 hw5
    have hzl := int_len hz (by omega)
    have hN1 : (l ++ int_ z).length = l.length + (int_ z).length := List.length_append
    have hN2 : (l ++ mat_ w M).length = l.length + (mat_ w M).length := List.length_append
    have c3 := PutInt_s (b := l) z (by omega) (by omega)
    have c4 := PutMat_s (b := l) hok (by omega)
    have a1 := rputint_s z (by omega) 5 l none (by omega)
    have a2 := rputmat_s hok 8 l none (by omega)
    have c5 := same_s (l ++ int_ z)
    have c6 := same_s (l ++ mat_ w M)
    have c7 := GetInt_s (l ++ int_ z) (l ++ int_ z).length l.length (hl.app (u8_int z)) (Nat.le_refl _) (by omega)
    rw [getI_full (by omega)] at c7
    have c8 := GetMat_s (l ++ mat_ w M) (l ++ mat_ w M).length l.length (hl.app (u8_mat w M)) (Nat.le_refl _) (by omega)
    rw [gotM_full hfit] at c8
    have c9 := same_i z z (by unfold Short; omega) (by unfold Short; omega)
    rw [decide_eq_true rfl] at c9
    have c10 := isame_s hM (by omega) (by omega) (by omega)
    have c11 : ∀ n, l.length ≤ n → n < (l ++ int_ z).length → Spec Try.prog 15 [.im (bw ((l ++ int_ z).take n)) n, .sc (.int .i64 l.length)] (tuI (0, 0, 5)) := by
      intro n h1 h2
      have h := GetInt_s ((l ++ int_ z).take n) n l.length ((hl.app (u8_int z)).take n) (by rw [List.length_take]; omega) (by omega)
      rwa [getI_cut (by omega) h1 h2] at h
    have c12 : ∀ n, l.length ≤ n → n < (l ++ mat_ w M).length → Spec Try.prog 16 [.im (bw ((l ++ mat_ w M).take n)) n, .sc (.int .i64 l.length)] (tuM (noM, 0, 5)) := by
      intro n h1 h2
      have h := GetMat_s ((l ++ mat_ w M).take n) n l.length ((hl.app (u8_mat w M)).take n) (by rw [List.length_take]; omega) (by omega)
      rwa [gotM_cut hfit h1 h2] at h
    have gtk1 : ∀ n, (bw (l ++ int_ z)).take n = bw ((l ++ int_ z).take n) := fun n => bw_take _ _
    have gtk2 : ∀ n, (bw (l ++ mat_ w M)).take n = bw ((l ++ mat_ w M).take n) := fun n => bw_take _ _
    have gl1 := bw_len (l ++ int_ z)
    have gt1 : (bw (l ++ int_ z)).take (l ++ int_ z).length = bw (l ++ int_ z) := List.take_of_length_le (by omega)
    have gcl1 := bw_clo (l ++ int_ z)
    have gl2 := bw_len (l ++ mat_ w M)
    have gt2 : (bw (l ++ mat_ w M)).take (l ++ mat_ w M).length = bw (l ++ mat_ w M) := List.take_of_length_le (by omega)
    have gcl2 := bw_clo (l ++ mat_ w M)
    have glb := bw_len l
    have gob := bw_one l
    have gtb : (bw l).take l.length = bw l := List.take_of_length_le (by omega)
    rw [← hN1] at a1
    rw [← hN2] at a2
    have hle1 : l.length ≤ (l ++ int_ z).length := by omega
    have hle2 : l.length ≤ (l ++ mat_ w M).length := by omega
    have hNa : (l ++ int_ z).length ≤ 2000 := by omega
    have hNb : (l ++ mat_ w M).length ≤ 2000 := by omega
    have z0 : ((0 : Nat) : Int) = 0 := rfl
    have z5 : ((5 : Nat) : Int) = 5 := rfl
    have iv0 : iv 0 = .ag [.sc (.bool false), .im [] 0] := rfl
    have mt0 : mat noM.1 noM.2 = .ag [.sc (.int .i64 0), .sc (.int .i64 0), .im [] 0] := rfl
    clear hfit hok hln hzl hN1 hN2 hM hz
    generalize (l ++ int_ z).length = N1 at *
    generalize (l ++ mat_ w M).length = N2 at *
    generalize hE1 : bw (l ++ int_ z) = E1 at *
    generalize hE2 : bw (l ++ mat_ w M) = E2 at *
    unfold tuI at c7 c11
    unfold tuM at c8 c12
    simp only [z0, z5, iv0, mt0] at c7 c8 c11 c12
    unfold mat at c2 c4 c8 c10 a2
    unfold iv at c1 c3 c7 c9 a1
    unfold sv at c1 c3 c7 c9 a1
    refine Spec.run Try.func3 rfl Try.ntmps3 (by simp) (by simp (disch := omega) only [go_sem, zn4]; rfl) fun B hB => ?_
    (repeat (first | refine DO.nil (by kernel_rfl) ?_ | (with_reducible first | apply oz1 | apply oz2 | apply oz3 | apply oz4 | apply oz5 | apply oz6 | apply oz7 | apply oz8 | apply oz9 | apply ozb | apply ozc | apply oze | apply ozf | apply ozg | apply ozh | apply ozi | apply ozj | apply ozk | refine ozd (by decide) ?_) | ((first | apply SO.call | apply DO.call); (iterate 3 (focus (simp (disch := omega) only [go_sem, ↓reduceIte, zn1, if_pos, glb, gtb, List.nil_append, List.drop_zero, Nat.zero_add, Nat.mul_one] <;> rfl))); (first | apply SCall.ofX | apply DCall.ofX); (focus (first | assumption)); (focus (simp (disch := omega) only [go_sem] <;> rfl))) | ((with_reducible first | apply SC.condB | apply SC.region | apply SO.run | apply DO.run); (focus (simp (disch := omega) only [go_sem, ↓reduceIte, zn1, zn3, zn4, reduceCtorEq, if_pos, q1, m5, x0, gtm, glb, gob, List.nil_append, List.take_nil, List.drop_zero, Nat.zero_add, Nat.mul_one, Nat.sub_zero] <;> rfl)); (first | refine pickT ?_ | refine pickF ?_ | fail_if_success with_reducible refine pickA ?_)) | ((with_reducible refine SC.draw Tab.mixed ?_ ?_); (focus rfl)) | (with_reducible apply SC.ops)))
    (first | refine SO.callA Tab.go13 (by simp (disch := omega) only [go_sem, ↓reduceIte, zn1, zn2, zn3, zn4, zn5, zn6, reduceCtorEq, zn7, zi1, zi2, if_pos, if_neg] <;> rfl) (by simp (disch := omega) only [go_sem, ↓reduceIte, zn1, zn2, zn3, zn4, zn5, zn6, reduceCtorEq, zn7, zi1, zi2, if_pos, if_neg] <;> rfl) (SApp.of (a1) (by simp (disch := omega) only [go_sem, ↓reduceIte, zn1, zn2, zn3, zn4, zn5, zn6, reduceCtorEq, zn7, zi1, zi2, if_pos, if_neg] <;> rfl) rfl (by simp (disch := omega) only [go_sem, ↓reduceIte, zn1, zn2, zn3, zn4, zn5, zn6, reduceCtorEq, zn7, zi1, zi2, if_pos, if_neg] <;> rfl) ?_) | refine DO.callA Tab.go13 (by simp (disch := omega) only [go_sem, ↓reduceIte, zn1] <;> rfl) (by simp (disch := omega) only [go_sem] <;> rfl) (DApp.of (a1) (by simp (disch := omega) only [go_sem, ↓reduceIte] <;> rfl) rfl (by simp (disch := omega) only [go_sem, ↓reduceIte, zn1, zn4, reduceCtorEq] <;> rfl) ?_))
    (repeat (first | refine DO.nil (by kernel_rfl) ?_ | (with_reducible first | apply oz1 | apply oz2 | apply oz3 | apply oz4 | apply oz5 | apply oz6 | apply oz7 | apply oz8 | apply oz9 | apply ozb | apply ozc | apply oze | apply ozf | apply ozg | apply ozh | apply ozi | apply ozj | apply ozk | refine ozd (by decide) ?_) | ((first | apply SO.call | apply DO.call); (iterate 3 (focus (simp (disch := omega) only [go_sem, ↓reduceIte, zn1, if_pos, gl1, gt1, gcl1, glb, gtb, List.nil_append, List.drop_zero, Nat.zero_add, Nat.mul_one] <;> rfl))); (first | apply SCall.ofX | apply DCall.ofX); (focus (first | assumption)); (focus (simp (disch := omega) only [go_sem] <;> rfl))) | ((with_reducible first | apply SC.condB | apply SC.region | apply SO.run | apply DO.run); (focus (simp (disch := omega) only [go_sem, ↓reduceIte, zn1, zn3, zn4, reduceCtorEq, if_pos, glb, gob, List.nil_append, List.take_nil, List.drop_zero, Nat.zero_add, Nat.mul_one] <;> rfl)); (first | refine pickT ?_ | refine pickF ?_ | fail_if_success with_reducible refine pickA ?_)) | ((with_reducible refine SC.draw Tab.mixed ?_ ?_); (focus rfl)) | (with_reducible apply SC.ops)))
    (first | refine SO.callA Tab.go14 (by simp (disch := omega) only [go_sem, ↓reduceIte, zn1, zn2, zn3, zn4, zn5, zn6, reduceCtorEq, zn7, zi1, zi2, if_pos, if_neg] <;> rfl) (by simp (disch := omega) only [go_sem, ↓reduceIte, zn1, zn2, zn3, zn4, zn5, zn6, reduceCtorEq, zn7, zi1, zi2, if_pos, if_neg] <;> rfl) (SApp.of (a2) (by simp (disch := omega) only [go_sem, ↓reduceIte, zn1, zn2, zn3, zn4, zn5, zn6, reduceCtorEq, zn7, zi1, zi2, if_pos, if_neg] <;> rfl) rfl (by simp (disch := omega) only [go_sem, ↓reduceIte, zn1, zn2, zn3, zn4, zn5, zn6, reduceCtorEq, zn7, zi1, zi2, if_pos, if_neg] <;> rfl) ?_) | refine DO.callA Tab.go14 (by simp (disch := omega) only [go_sem, ↓reduceIte, zn1] <;> rfl) (by simp (disch := omega) only [go_sem, ↓reduceIte, zn1] <;> rfl) (DApp.of (a2) (by simp (disch := omega) only [go_sem, ↓reduceIte] <;> rfl) rfl (by simp (disch := omega) only [go_sem, ↓reduceIte, zn1, zn4, reduceCtorEq] <;> rfl) ?_))
    (repeat (first | refine DO.nil (by kernel_rfl) ?_ | (with_reducible first | apply oz1 | apply oz2 | apply oz3 | apply oz4 | apply oz5 | apply oz6 | apply oz7 | apply oz8 | apply oz9 | apply ozb | apply ozc | apply oze | apply ozf | apply ozg | apply ozh | apply ozi | apply ozj | apply ozk | refine ozd (by decide) ?_) | ((first | apply SO.call | apply DO.call); (iterate 3 (focus (simp (disch := omega) only [go_sem, ↓reduceIte, zn1, if_pos, gl2, gt2, gcl2, List.drop_zero, Nat.mul_one] <;> rfl))); (first | apply SCall.ofX | apply DCall.ofX); (focus (first | assumption)); (focus (simp (disch := omega) only [go_sem] <;> rfl))) | ((with_reducible first | apply SC.condB | apply SC.region | apply SO.run | apply DO.run); (focus (simp (disch := omega) only [go_sem, ↓reduceIte, zn1, zn3, zn4, reduceCtorEq, List.drop_zero, bne_self_eq_false] <;> rfl)); (first | refine pickT ?_ | refine pickF ?_ | fail_if_success with_reducible refine pickA ?_)) | ((with_reducible refine SC.draw Tab.mixed ?_ ?_); (focus rfl)) | (with_reducible apply SC.ops)))
    refine SC.loop (fun i : Nat => ⟨[(2, .im (bw l) l.length), (7, .sc (.bool true)), (10, .im E1 N1), (11, .im E2 N2), (18, .sc (.int .i64 i))], [], 8, 154⟩) (fun i => l.length ≤ i ∧ i ≤ N1) (fun i => N1 - i) l.length ?_ ⟨Nat.le_refl _, hle1⟩ ?_
    · (refine Le.of [] hB (by first | exact ⟨Nat.zero_le _, fun _ _ => Nat.zero_le _⟩ | (constructor <;> (try simp) <;> (try omega))) ?_ ?_ <;> (repeat' (first | exact leSl_nil | exact leHp_nil | refine leSl_cons (by simp (disch := omega) only [go_sem, ↓reduceIte, zn1, reduceCtorEq]; rfl) ?_ ?_ | refine leHp_cons (by simp (disch := omega) only [go_sem, ↓reduceIte, zn1, zn2, zn3, zn4, zn5, zn6, reduceCtorEq, zn7, zi1, zi2, if_pos, if_neg]; rfl) ?_ ?_ | exact VLe.junk _ | exact VLe.refl rfl | exact VLe.nil_sl _ _ _ | exact VLe.int (by first | rfl | omega | (dsimp only; omega)) | exact VLe.bool rfl | exact VLe.sl rfl (by first | rfl | omega | (dsimp only; omega) | (simp; done)) | exact VLe.cap rfl (by first | rfl | omega | (dsimp only; omega) | (simp; done)) | exact VLe.im rfl rfl | exact HLe.new rfl | exact HLe.same rfl (LLe.refl rfl) | refine HLe.same rfl ?_ | exact LLe.nil _ | exact LLe.refl rfl | refine LLe.cons ?_ ?_)))
    · intro i ⟨hi1, hi2⟩ K hK
      by_cases hlt : i < N1
      · have q2 : decide ((i : Int) < (N1 : Int)) = true := by rw [decide_eq_true_iff]; omega
        have c13 := c11 i hi1 hlt
        have g1 := gtk1 i
        have x1 : ((i : Int)).toNat = i := rfl
        clear c11 gtk1 c12 gtk2 c7 c8
        (repeat (first | refine DO.nil (by kernel_rfl) ?_ | (with_reducible first | apply oz1 | apply oz2 | apply oz3 | apply oz4 | apply oz5 | apply oz6 | apply oz7 | apply oz8 | apply oz9 | apply ozb | apply ozc | apply oze | apply ozf | apply ozg | apply ozh | apply ozi | apply ozj | apply ozk | refine ozd (by decide) ?_) | ((first | apply SO.call | apply DO.call); (iterate 3 (focus (simp (disch := omega) only [go_sem, ↓reduceIte, zn1] <;> rfl))); (first | apply SCall.ofX | apply DCall.ofX); (focus (first | assumption)); (focus (simp (disch := omega) only [go_sem] <;> rfl))) | ((with_reducible first | apply SC.condB | apply SC.region | apply SO.run | apply DO.run); (focus (simp (disch := omega) only [go_sem, ↓reduceIte, zn1, zn3, zn4, if_pos, q2, x1, g1, List.drop_zero, Nat.mul_one, Nat.sub_zero, bne_self_eq_false] <;> rfl)); (first | refine pickT ?_ | refine pickF ?_ | fail_if_success with_reducible refine pickA ?_)) | ((with_reducible refine SC.draw Tab.mixed ?_ ?_); (focus rfl)) | (with_reducible apply SC.ops)))
        refine hK _ (i + 1) ?_ ⟨by omega, by omega⟩ (by omega)
        (refine Le.of [] hB (by first | exact ⟨Nat.zero_le _, fun _ _ => Nat.zero_le _⟩ | (constructor <;> (try simp) <;> (try omega))) ?_ ?_ <;> (repeat' (first | exact leSl_nil | exact leHp_nil | refine leSl_cons (by simp (disch := omega) only [go_sem, ↓reduceIte, zn1]; rfl) ?_ ?_ | refine leHp_cons (by simp (disch := omega) only [go_sem, ↓reduceIte, zn1, zn2, zn3, zn4, zn5, zn6, reduceCtorEq, zn7, zi1, zi2, if_pos, if_neg]; rfl) ?_ ?_ | exact VLe.junk _ | exact VLe.refl rfl | exact VLe.nil_sl _ _ _ | exact VLe.int (by first | rfl | omega | (dsimp only; omega)) | exact VLe.bool rfl | exact VLe.sl rfl (by first | rfl | omega | (dsimp only; omega) | (simp; done)) | exact VLe.cap rfl (by first | rfl | omega | (dsimp only; omega) | (simp; done)) | exact VLe.im rfl rfl | exact HLe.new rfl | exact HLe.same rfl (LLe.refl rfl) | refine HLe.same rfl ?_ | exact LLe.nil _ | exact LLe.refl rfl | refine LLe.cons ?_ ?_)))
      · have q2 : decide ((i : Int) < (N1 : Int)) = false := by rw [decide_eq_false_iff_not]; omega
        (repeat (first | refine DO.nil (by kernel_rfl) ?_ | (with_reducible first | apply oz1 | apply oz2 | apply oz3 | apply oz4 | apply oz5 | apply oz6 | apply oz7 | apply oz8 | apply oz9 | apply ozb | apply ozc | apply oze | apply ozf | apply ozg | apply ozh | apply ozi | apply ozj | apply ozk | refine ozd (by decide) ?_) | ((with_reducible first | apply SC.condB | apply SC.region | apply SO.run | apply DO.run); (focus (simp (disch := omega) only [go_sem, ↓reduceIte, zn1, q2] <;> rfl)); (first | refine pickT ?_ | refine pickF ?_ | fail_if_success with_reducible refine pickA ?_)) | ((with_reducible refine SC.draw Tab.mixed ?_ ?_); (focus rfl)) | (with_reducible apply SC.ops)))
        clear hK
        refine SC.loop (fun i : Nat => ⟨[(2, .im (bw l) l.length), (7, .sc (.bool true)), (11, .im E2 N2), (22, .sc (.int .i64 i))], [], 8, 154⟩) (fun i => l.length ≤ i ∧ i ≤ N2) (fun i => N2 - i) l.length ?_ ⟨Nat.le_refl _, hle2⟩ ?_
        · (refine Le.of [] hB (by first | exact ⟨Nat.zero_le _, fun _ _ => Nat.zero_le _⟩ | (constructor <;> (try simp) <;> (try omega))) ?_ ?_ <;> (repeat' (first | exact leSl_nil | exact leHp_nil | refine leSl_cons (by simp (disch := omega) only [go_sem, ↓reduceIte, zn1]; rfl) ?_ ?_ | refine leHp_cons (by simp (disch := omega) only [go_sem, ↓reduceIte, zn1, zn2, zn3, zn4, zn5, zn6, reduceCtorEq, zn7, zi1, zi2, if_pos, if_neg]; rfl) ?_ ?_ | exact VLe.junk _ | exact VLe.refl rfl | exact VLe.nil_sl _ _ _ | exact VLe.int (by first | rfl | omega | (dsimp only; omega)) | exact VLe.bool rfl | exact VLe.sl rfl (by first | rfl | omega | (dsimp only; omega) | (simp; done)) | exact VLe.cap rfl (by first | rfl | omega | (dsimp only; omega) | (simp; done)) | exact VLe.im rfl rfl | exact HLe.new rfl | exact HLe.same rfl (LLe.refl rfl) | refine HLe.same rfl ?_ | exact LLe.nil _ | exact LLe.refl rfl | refine LLe.cons ?_ ?_)))
        · intro j ⟨hj1, hj2⟩ K2 hK2
          by_cases hlt2 : j < N2
          · have q3 : decide ((j : Int) < (N2 : Int)) = true := by rw [decide_eq_true_iff]; omega
            have c13 := c12 j hj1 hlt2
            have g1 := gtk2 j
            have x1 : ((j : Int)).toNat = j := rfl
            clear c11 gtk1 c12 gtk2 c7 c8
            (repeat (first | refine DO.nil (by kernel_rfl) ?_ | (with_reducible first | apply oz1 | apply oz2 | apply oz3 | apply oz4 | apply oz5 | apply oz6 | apply oz7 | apply oz8 | apply oz9 | apply ozb | apply ozc | apply oze | apply ozf | apply ozg | apply ozh | apply ozi | apply ozj | apply ozk | refine ozd (by decide) ?_) | ((first | apply SO.call | apply DO.call); (iterate 3 (focus (simp (disch := omega) only [go_sem, ↓reduceIte, zn1] <;> rfl))); (first | apply SCall.ofX | apply DCall.ofX); (focus (first | assumption)); (focus (simp (disch := omega) only [go_sem] <;> rfl))) | ((with_reducible first | apply SC.condB | apply SC.region | apply SO.run | apply DO.run); (focus (simp (disch := omega) only [go_sem, ↓reduceIte, zn1, zn3, zn4, if_pos, q3, x1, g1, List.drop_zero, Nat.mul_one, Nat.sub_zero, bne_self_eq_false] <;> rfl)); (first | refine pickT ?_ | refine pickF ?_ | fail_if_success with_reducible refine pickA ?_)) | ((with_reducible refine SC.draw Tab.mixed ?_ ?_); (focus rfl)) | (with_reducible apply SC.ops)))
            refine hK2 _ (j + 1) ?_ ⟨by omega, by omega⟩ (by omega)
            (refine Le.of [] hB (by first | exact ⟨Nat.zero_le _, fun _ _ => Nat.zero_le _⟩ | (constructor <;> (try simp) <;> (try omega))) ?_ ?_ <;> (repeat' (first | exact leSl_nil | exact leHp_nil | refine leSl_cons (by simp (disch := omega) only [go_sem, ↓reduceIte, zn1]; rfl) ?_ ?_ | refine leHp_cons (by simp (disch := omega) only [go_sem, ↓reduceIte, zn1, zn2, zn3, zn4, zn5, zn6, reduceCtorEq, zn7, zi1, zi2, if_pos, if_neg]; rfl) ?_ ?_ | exact VLe.junk _ | exact VLe.refl rfl | exact VLe.nil_sl _ _ _ | exact VLe.int (by first | rfl | omega | (dsimp only; omega)) | exact VLe.bool rfl | exact VLe.sl rfl (by first | rfl | omega | (dsimp only; omega) | (simp; done)) | exact VLe.cap rfl (by first | rfl | omega | (dsimp only; omega) | (simp; done)) | exact VLe.im rfl rfl | exact HLe.new rfl | exact HLe.same rfl (LLe.refl rfl) | refine HLe.same rfl ?_ | exact LLe.nil _ | exact LLe.refl rfl | refine LLe.cons ?_ ?_)))
          · have q3 : decide ((j : Int) < (N2 : Int)) = false := by rw [decide_eq_false_iff_not]; omega
            (repeat (first | refine DO.nil (by kernel_rfl) ?_ | (with_reducible first | apply oz1 | apply oz2 | apply oz3 | apply oz4 | apply oz5 | apply oz6 | apply oz7 | apply oz8 | apply oz9 | apply ozb | apply ozc | apply oze | apply ozf | apply ozg | apply ozh | apply ozi | apply ozj | apply ozk | refine ozd (by decide) ?_) | ((with_reducible first | apply SC.condB | apply SC.region | apply SO.run | apply DO.run); (focus (simp (disch := omega) only [go_sem, ↓reduceIte, zn1, zn2, q3] <;> rfl)); (first | refine pickT ?_ | refine pickF ?_ | fail_if_success with_reducible refine pickA ?_)) | ((with_reducible refine SC.draw Tab.mixed ?_ ?_); (focus rfl)) | (with_reducible apply SC.ops)))
            exact retQ_ret Try.results3 rfl rfl rfl
end Go.Proofs.Ytphilljhfdlfdaa
