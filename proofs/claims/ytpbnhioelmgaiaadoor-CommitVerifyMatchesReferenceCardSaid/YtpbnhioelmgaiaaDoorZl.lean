/- Texts joined: Cy Cz Caa Cab. -/
import Derived.Test.YtpbnhioelmgaiaaDoorZd
import Derived.Test.YtpbnhioelmgaiaaDoorZi
import Derived.Test.YtpbnhioelmgaiaaDoorZk
set_option linter.all false
open Nat renaming reduceEqDiff → zn1, reduceLT → zn2, reduceLeDiff → zn3, reduceAdd → zn4, reduceMul → zn5, reduceSub → zn6, reduceBEq → zn7
open Int renaming reduceToNat → zi1, reducePow → zi2
namespace Go.Proofs.YtpbnhioelmgaiaaDoor
open Go.RowKit
def dirs (n i : Nat) : List Bool :=
  if h : 1 < n then
    (if i < halfN n then dirs (halfN n) i ++ [false]
     else dirs (n - halfN n) (i - halfN n) ++ [true])
  else []
termination_by n
decreasing_by
  · exact (halfN_lt h).2
  · have := halfN_lt h; omega
theorem dirs_one {n i : Nat} (h : ¬ 1 < n) : dirs n i = [] := by rw [dirs, dif_neg h]
theorem dirs_l {n i : Nat} (h : 1 < n) (hi : i < halfN n) : dirs n i = dirs (halfN n) i ++ [false] := by rw [dirs, dif_pos h, if_pos hi]
theorem dirs_r {n i : Nat} (h : 1 < n) (hi : ¬ i < halfN n) : dirs n i = dirs (n - halfN n) (i - halfN n) ++ [true] := by rw [dirs, dif_pos h, if_neg hi]
theorem visN_dirs : ∀ (N n i f : Nat), n ≤ N → (visN n i f).map (fun v => v.2.2) = dirs n i
  | 0, n, i, f, h => by rw [visN_one (by omega), dirs_one (by omega)]; rfl
  | N + 1, n, i, f, h => by
    by_cases h1 : 1 < n
    · have hh := halfN_lt h1
      by_cases hi : i < halfN n
      · rw [visN_l h1 hi, dirs_l h1 hi, List.map_append, visN_dirs N _ _ _ (by omega)]; rfl
      · rw [visN_r h1 hi, dirs_r h1 hi, List.map_append, visN_dirs N _ _ _ (by omega)]; rfl
    · rw [visN_one h1, dirs_one h1]; rfl
theorem dirs_len : ∀ (N n i : Nat), n ≤ N → (dirs n i).length ≤ n
  | 0, n, i, h => by rw [dirs_one (by omega)]; exact Nat.zero_le _
  | N + 1, n, i, h => by
    by_cases h1 : 1 < n
    · have hh := halfN_lt h1
      by_cases hi : i < halfN n
      · have := dirs_len N (halfN n) i (by omega)
        rw [dirs_l h1 hi, List.length_append, List.length_singleton]; omega
      · have := dirs_len N (n - halfN n) (i - halfN n) (by omega)
        rw [dirs_r h1 hi, List.length_append, List.length_singleton]; omega
    · rw [dirs_one h1]; exact Nat.zero_le _
theorem visN_len (n i f : Nat) : (visN n i f).length = (dirs n i).length := by rw [← visN_dirs n n i f (Nat.le_refl _), List.length_map]
def foldD : List Bool → List (List Int) → List Int → List Int
  | b :: bs, p :: ps, x => foldD bs ps (if b then joinL p x else joinL x p)
  | _, _, x => x
theorem foldD_snoc (b : Bool) (p : List Int) : ∀ (bs : List Bool) (ps : List (List Int)) (x : List Int), bs.length = ps.length → foldD (bs ++ [b]) (ps ++ [p]) x = if b then joinL p (foldD bs ps x) else joinL (foldD bs ps x) p
  | [], [], x, _ => by show foldD [] [] _ = _; rfl
  | c :: bs, q :: ps, x, h => by
    show foldD (bs ++ [b]) (ps ++ [p]) _ = _
    rw [foldD_snoc b p bs ps _ (by simpa using h)]; rfl
  | [], _ :: _, _, h => by simp at h
  | _ :: _, [], _, h => by simp at h
theorem joinL_dg (a b : List Int) : Dg (joinL a b) := sumL_dg _
theorem foldD_dg : ∀ (bs : List Bool) (ps : List (List Int)) {x : List Int}, Dg x → Dg (foldD bs ps x)
  | [], _, x, h => by cases ‹List (List Int)› <;> exact h
  | _ :: _, [], x, h => h
  | b :: bs, p :: ps, x, h => by
    show Dg (foldD bs ps _)
    refine foldD_dg bs ps ?_
    split <;> exact joinL_dg _ _
theorem setAll_eq {xs ys : List V} (h : xs.length = ys.length) : setAll ys 0 xs = xs := by
  have := setAll_mid xs ys [] [] h
  simpa using this
theorem vis1_q {k nx : Nat} {H : List (Nat × Blk)} (a b : V) (c : Bool) (n : Nat) (hk : k < nx) (hn : n ≤ 4611686018427387904) : InlQ Tryd.prog 40 [a, b, .sc (.bool c), .pt k 0] ((k, ⟨3, [.sc (.int .i64 n)], false⟩) :: H) nx (fun _ hp' nx' => hp' = (k, ⟨3, [.sc (.int .i64 ((n + 1 : Nat) : Int))], false⟩) :: H ∧ nx' = nx) := by
  refine InlQ.run Tryd.func40 rfl Tryd.ntmps40 (by simp) (by simp (disch := omega) only [go_sem, ↓reduceIte, zn1, zn2, zn3, zn4, zn5, zn6, reduceCtorEq, zn7, zi1, zi2, if_pos, if_neg]; rfl) fun B hB => ?_
  have x1 : (n : Int) + 1 = ((n + 1 : Nat) : Int) := by omega
  (repeat (first | (first | refine DO.nilC (by kernel_rfl) ?_ | refine DO.nil (by kernel_rfl) ?_) | (with_reducible first | apply oz1 | apply oz2 | apply oz3 | apply oz4 | apply oz5 | apply oz6 | apply oz7 | apply oz8 | apply oz9 | apply ozb | apply ozc | apply oze | apply ozf | apply ozg | apply ozh | apply ozi | apply ozj | apply ozk | refine ozd (by decide) ?_) | ((first | apply SO.call | apply DO.call); (iterate 3 (focus (simp (disch := omega) only [go_sem, ↓reduceIte, zn1, zn2, zn3, zn4, zn5, zn6, reduceCtorEq, zn7, zi1, zi2, if_pos, if_neg, x1] <;> rfl))); (first | apply SCall.ofX | apply DCall.ofX); (focus (first | assumption)); (focus (simp (disch := omega) only [go_sem, ↓reduceIte, zn1, zn2, zn3, zn4, zn5, zn6, reduceCtorEq, zn7, zi1, zi2, if_pos, if_neg, x1] <;> rfl))) | ((with_reducible first | apply SC.condB | apply SC.region | apply SO.run | apply DO.run); (focus (simp (disch := omega) only [go_sem, ↓reduceIte, zn1, zn2, zn3, zn4, zn5, zn6, reduceCtorEq, zn7, zi1, zi2, if_pos, if_neg, x1] <;> rfl)); (first | refine pickT ?_ | refine pickF ?_ | fail_if_success with_reducible refine pickA ?_)) | ((with_reducible refine SC.draw Tab.mixed ?_ ?_); (focus (first | rfl | simp (disch := omega) only [go_sem, ↓reduceIte, zn1, zn2, zn3, zn4, zn5, zn6, reduceCtorEq, zn7, zi1, zi2, if_pos, if_neg, x1]))) | (with_reducible apply SC.ops)))
  exact retIQ_normal _ _ _ Tryd.results40 rfl ⟨rfl, rfl⟩ (Le.refl _ _)
set_option maxHeartbeats 4000000 in
set_option maxRecDepth 8000 in
theorem vis2_q {kr kx nx : Nat} {H : List (Nat × Blk)} (a b : V) (c : Bool) {d x : List Int} {p : List (List Int)} (hr : kr < nx) (hx : kx < nx) (hne : kr ≠ kx) (hd : Dg d) (hxd : Dg x) (hp : Dgs p) (hH : klB H nx = true) :
    InlQ Tryd.prog 41 [a, b, .sc (.bool c), .pt kr 0, .pt kx 0] ((kr, ⟨39, [.im (dgC (d :: p)) (p.length + 1)], false⟩) :: (kx, ⟨25, bw x, false⟩) :: H) nx
      (fun _ hp' nx' => hp' = (kr, ⟨39, [.im (dgC p) p.length], false⟩) :: (kx, ⟨25, bw (if c then joinL d x else joinL x d), false⟩) :: H ∧ nx' = nx) := by
  refine InlQ.run Tryd.func41 rfl Tryd.ntmps41 (by simp) (by simp (disch := omega) only [go_sem, ↓reduceIte, zn1, zn2, zn3, zn4, zn5, zn6, reduceCtorEq, zn7, zi1, zi2, if_pos, if_neg]; rfl) fun B hB => ?_
  have e : dgC (d :: p) = bw d ++ dgC p := rfl
  have gd : (bw d).length = 32 := by rw [bw_len, hd.1]
  have gx : (bw x).length = 32 := by rw [bw_len, hxd.1]
  have tx : (bw x).take 32 = bw x := List.take_of_length_le (by omega)
  have td : (bw d ++ dgC p).take 32 = bw d := by rw [List.take_left' gd]
  have dd : (bw d ++ dgC p).drop 32 = dgC p := by rw [List.drop_left' gd]
  have gp : (dgC p).length = p.length * 32 := dgC_len hp
  have tp : (dgC p).take (p.length * 32) = dgC p := List.take_of_length_le (by omega)
  have gl : 32 ≤ (bw d ++ dgC p).length := by rw [List.length_append]; omega
  have gl2 : (bw d ++ dgC p).length = 32 + p.length * 32 := by rw [List.length_append]; omega
  have cx := bw_clo x
  have cd := bw_clo d
  rw [e]
  have n1 : (kr = kx) = False := eq_false hne
  have n2 : (kx = kr) = False := eq_false (Ne.symm hne)
  cases c
  · have c1 := join_s hxd.1 hd.1 hxd.2 hd.2
    obtain ⟨j1, _⟩ := joinL_dg x d
    have e2 : (if false = true then joinL d x else joinL x d) = joinL x d := rfl
    rw [e2]
    unfold joinL at j1 ⊢
    generalize sumL ([1] ++ x ++ d) = D at *
    have hD : (bw D).length = 32 := by rw [bw_len, j1]
    have cD := bw_clo D
    have fD := bw_fl1 D
    have oD := bw_one D
    have sD : setAll (bw x) 0 (bw D) = bw D := setAll_eq (by omega)
    generalize bw d ++ dgC p = DP at *
    (repeat (first | (first | refine DO.nilC (by kernel_rfl) ?_ | refine DO.nil (by kernel_rfl) ?_) | (with_reducible first | apply oz1 | apply oz2 | apply oz3 | apply oz4 | apply oz5 | apply oz6 | apply oz7 | apply oz8 | apply oz9 | apply ozb | apply ozc | apply oze | apply ozf | apply ozg | apply ozh | apply ozi | apply ozj | apply ozk | refine ozd (by decide) ?_) | ((first | apply SO.call | apply DO.call); (iterate 3 (focus (simp (disch := omega) only [go_sem, ↓reduceIte, zn1, zn2, zn3, zn4, zn5, zn6, reduceCtorEq, zn7, zi1, zi2, if_pos, if_neg, klB_cons, hH, hr, hx, and_self, n1, n2, tx, td, gx, gl, gl2, cx, cd, hD, cD, fD, oD, sD, dd, tp, List.drop_zero, Nat.mul_one, Nat.one_mul, Nat.add_sub_cancel] <;> rfl))); (first | apply SCall.ofX | apply DCall.ofX); (focus (first | assumption)); (focus (simp (disch := omega) only [go_sem, ↓reduceIte, zn1, zn2, zn3, zn4, zn5, zn6, reduceCtorEq, zn7, zi1, zi2, if_pos, if_neg, klB_cons, hH, hr, hx, and_self, n1, n2, tx, td, gx, gl, gl2, cx, cd, hD, cD, fD, oD, sD, dd, tp, List.drop_zero, Nat.mul_one, Nat.one_mul, Nat.add_sub_cancel] <;> rfl))) | ((with_reducible first | apply SC.condB | apply SC.region | apply SO.run | apply DO.run); (focus (simp (disch := omega) only [go_sem, ↓reduceIte, zn1, zn2, zn3, zn4, zn5, zn6, reduceCtorEq, zn7, zi1, zi2, if_pos, if_neg, klB_cons, hH, hr, hx, and_self, n1, n2, tx, td, gx, gl, gl2, cx, cd, hD, cD, fD, oD, sD, dd, tp, List.drop_zero, Nat.mul_one, Nat.one_mul, Nat.add_sub_cancel] <;> rfl)); (first | refine pickT ?_ | refine pickF ?_ | fail_if_success with_reducible refine pickA ?_)) | ((with_reducible refine SC.draw Tab.mixed ?_ ?_); (focus (first | rfl | simp (disch := omega) only [go_sem, ↓reduceIte, zn1, zn2, zn3, zn4, zn5, zn6, reduceCtorEq, zn7, zi1, zi2, if_pos, if_neg, klB_cons, hH, hr, hx, and_self, n1, n2, tx, td, gx, gl, gl2, cx, cd, hD, cD, fD, oD, sD, dd, tp, List.drop_zero, Nat.mul_one, Nat.one_mul, Nat.add_sub_cancel]))) | (with_reducible apply SC.ops)))
    exact retIQ_normal _ _ _ Tryd.results41 rfl ⟨rfl, rfl⟩ (Le.refl _ _)
  · have c1 := join_s hd.1 hxd.1 hd.2 hxd.2
    obtain ⟨j1, _⟩ := joinL_dg d x
    have e2 : (if true = true then joinL d x else joinL x d) = joinL d x := rfl
    rw [e2]
    unfold joinL at j1 ⊢
    generalize sumL ([1] ++ d ++ x) = D at *
    have hD : (bw D).length = 32 := by rw [bw_len, j1]
    have cD := bw_clo D
    have fD := bw_fl1 D
    have oD := bw_one D
    have sD : setAll (bw x) 0 (bw D) = bw D := setAll_eq (by omega)
    generalize bw d ++ dgC p = DP at *
    (repeat (first | (first | refine DO.nilC (by kernel_rfl) ?_ | refine DO.nil (by kernel_rfl) ?_) | (with_reducible first | apply oz1 | apply oz2 | apply oz3 | apply oz4 | apply oz5 | apply oz6 | apply oz7 | apply oz8 | apply oz9 | apply ozb | apply ozc | apply oze | apply ozf | apply ozg | apply ozh | apply ozi | apply ozj | apply ozk | refine ozd (by decide) ?_) | ((first | apply SO.call | apply DO.call); (iterate 3 (focus (simp (disch := omega) only [go_sem, ↓reduceIte, zn1, zn2, zn3, zn4, zn5, zn6, reduceCtorEq, zn7, zi1, zi2, if_pos, if_neg, klB_cons, hH, hr, hx, and_self, n1, n2, tx, td, gx, gl, gl2, cx, cd, hD, cD, fD, oD, sD, dd, tp, List.drop_zero, Nat.mul_one, Nat.one_mul, Nat.add_sub_cancel] <;> rfl))); (first | apply SCall.ofX | apply DCall.ofX); (focus (first | assumption)); (focus (simp (disch := omega) only [go_sem, ↓reduceIte, zn1, zn2, zn3, zn4, zn5, zn6, reduceCtorEq, zn7, zi1, zi2, if_pos, if_neg, klB_cons, hH, hr, hx, and_self, n1, n2, tx, td, gx, gl, gl2, cx, cd, hD, cD, fD, oD, sD, dd, tp, List.drop_zero, Nat.mul_one, Nat.one_mul, Nat.add_sub_cancel] <;> rfl))) | ((with_reducible first | apply SC.condB | apply SC.region | apply SO.run | apply DO.run); (focus (simp (disch := omega) only [go_sem, ↓reduceIte, zn1, zn2, zn3, zn4, zn5, zn6, reduceCtorEq, zn7, zi1, zi2, if_pos, if_neg, klB_cons, hH, hr, hx, and_self, n1, n2, tx, td, gx, gl, gl2, cx, cd, hD, cD, fD, oD, sD, dd, tp, List.drop_zero, Nat.mul_one, Nat.one_mul, Nat.add_sub_cancel] <;> rfl)); (first | refine pickT ?_ | refine pickF ?_ | fail_if_success with_reducible refine pickA ?_)) | ((with_reducible refine SC.draw Tab.mixed ?_ ?_); (focus (first | rfl | simp (disch := omega) only [go_sem, ↓reduceIte, zn1, zn2, zn3, zn4, zn5, zn6, reduceCtorEq, zn7, zi1, zi2, if_pos, if_neg, klB_cons, hH, hr, hx, and_self, n1, n2, tx, td, gx, gl, gl2, cx, cd, hD, cD, fD, oD, sD, dd, tp, List.drop_zero, Nat.mul_one, Nat.one_mul, Nat.add_sub_cancel]))) | (with_reducible apply SC.ops)))
    exact retIQ_normal _ _ _ Tryd.results41 rfl ⟨rfl, rfl⟩ (Le.refl _ _)
theorem dgs_app {a b : List (List Int)} (h : Dgs (a ++ b)) : Dgs a ∧ Dgs b := ⟨fun d hd => h d (List.mem_append.2 (.inl hd)), fun d hd => h d (List.mem_append.2 (.inr hd))⟩
set_option maxHeartbeats 8000000 in
set_option maxRecDepth 8000 in
theorem climb_s : ∀ (N n i : Nat) (d : List Int) (p : List (List Int)), n ≤ N → i < n → n ≤ 4294967296 → Dg d → Dgs p → p.length ≤ 1000 →
    ∃ x, Dg x ∧ (p.length = (dirs n i).length → x = foldD (dirs n i) p d) ∧ Spec Tryd.prog 44 [.ag (bw d), .ag [.sc (.int .i64 n), .sc (.int .i64 i)], .im (dgC p) p.length] (.tu [.ag (bw x), .sc (.bool (decide (p.length = (dirs n i).length)))]) := by
  intro N
  induction N with
  | zero => intro n i d p h1 h2; omega
  | succ N ih =>
    intro n i d p hN hi hn hd hp hl
    have gd : (bw d).length = 32 := by rw [bw_len, hd.1]
    have td : (bw d).take 32 = bw d := List.take_of_length_le (by omega)
    have cd := bw_clo d
    have od := bw_one d
    have sd := setAll_full d hd.1
    rw [z32] at sd
    by_cases h1 : 1 < n
    · have q1 : ((n : Int) == 1) = false := by rw [beq_eq_false_iff_ne]; omega
      obtain ⟨hh1, hh2⟩ := halfN_lt h1
      have c0 := rhalf_s (n := n) (by omega) (by omega)
      have hdl : 0 < (dirs n i).length := by
        by_cases hih : i < halfN n
        · rw [dirs_l h1 hih, List.length_append]; exact Nat.succ_pos _
        · rw [dirs_r h1 hih, List.length_append]; exact Nat.succ_pos _
      by_cases hp0 : p.length = 0
      · refine ⟨d, hd, fun h => by omega, ?_⟩
        have e1 : decide (p.length = (dirs n i).length) = false := decide_eq_false (by omega)
        rw [e1]
        have q2 : ((p.length : Int) == 0) = true := by rw [beq_iff_eq]; omega
        refine Spec.run Tryd.func44 rfl Tryd.ntmps44 (by simp) (by simp (disch := omega) only [go_sem, ↓reduceIte, zn1, zn2, zn3, zn4, zn5, zn6, reduceCtorEq, zn7, zi1, zi2, if_pos, if_neg]; rfl) fun B hB => ?_
        (repeat (first | (first | refine DO.nilC (by kernel_rfl) ?_ | refine DO.nil (by kernel_rfl) ?_) | (with_reducible first | apply oz1 | apply oz2 | apply oz3 | apply oz4 | apply oz5 | apply oz6 | apply oz7 | apply oz8 | apply oz9 | apply ozb | apply ozc | apply oze | apply ozf | apply ozg | apply ozh | apply ozi | apply ozj | apply ozk | refine ozd (by decide) ?_) | ((first | apply SO.call | apply DO.call); (iterate 3 (focus (simp (disch := omega) only [go_sem, ↓reduceIte, zn1, zn2, zn3, zn4, zn5, zn6, reduceCtorEq, zn7, zi1, zi2, if_pos, if_neg, q1, q2, gd, td, cd, od, sd, List.drop_zero] <;> rfl))); (first | apply SCall.ofX | apply DCall.ofX); (focus (first | assumption)); (focus (simp (disch := omega) only [go_sem, ↓reduceIte, zn1, zn2, zn3, zn4, zn5, zn6, reduceCtorEq, zn7, zi1, zi2, if_pos, if_neg, q1, q2, gd, td, cd, od, sd, List.drop_zero] <;> rfl))) | ((with_reducible first | apply SC.condB | apply SC.region | apply SO.run | apply DO.run); (focus (simp (disch := omega) only [go_sem, ↓reduceIte, zn1, zn2, zn3, zn4, zn5, zn6, reduceCtorEq, zn7, zi1, zi2, if_pos, if_neg, q1, q2, gd, td, cd, od, sd, List.drop_zero] <;> rfl)); (first | refine pickT ?_ | refine pickF ?_ | fail_if_success with_reducible refine pickA ?_)) | ((with_reducible refine SC.draw Tab.mixed ?_ ?_); (focus (first | rfl | simp (disch := omega) only [go_sem, ↓reduceIte, zn1, zn2, zn3, zn4, zn5, zn6, reduceCtorEq, zn7, zi1, zi2, if_pos, if_neg, q1, q2, gd, td, cd, od, sd, List.drop_zero]))) | (with_reducible apply SC.ops)))
        exact retQ_ret Tryd.results44 (by simp (disch := omega) only [go_sem, ↓reduceIte, zn1, zn2, zn3, zn4, zn5, zn6, reduceCtorEq, zn7, zi1, zi2, if_pos, if_neg, sd, td, gd, cd, List.drop_zero] <;> rfl) (by simp (disch := omega) only [go_sem, ↓reduceIte, zn1, zn2, zn3, zn4, zn5, zn6, reduceCtorEq, zn7, zi1, zi2, if_pos, if_neg, sd, td, gd, cd, List.drop_zero] <;> rfl) rfl
      · have q2 : ((p.length : Int) == 0) = false := by rw [beq_eq_false_iff_ne]; omega
        obtain ⟨q, last, rfl⟩ : ∃ q last, p = q ++ [last] := ⟨p.dropLast, p.getLast (fun e => by subst e; exact hp0 rfl), (List.dropLast_concat_getLast _).symm⟩
        obtain ⟨hq, hlast⟩ := dgs_app hp
        have hla : Dg last := hlast last (by simp)
        rw [List.length_append, List.length_singleton] at hl q2 ⊢
        have ga : (bw last).length = 32 := by rw [bw_len, hla.1]
        have ta : (bw last).take 32 = bw last := List.take_of_length_le (by omega)
        have ca := bw_clo last
        have oa := bw_one last
        have sa := setAll_full last hla.1
        rw [z32] at sa
        have gq : (dgC q).length = q.length * 32 := dgC_len hq
        have e3 : dgC (q ++ [last]) = dgC q ++ bw last := by rw [dgC_app]; congr 1; simp [dgC]
        have d3 : (dgC (q ++ [last])).drop (q.length * 32) = bw last := by rw [e3, ← gq, List.drop_left' rfl]
        have t3 : (dgC (q ++ [last])).take (q.length * 32) = dgC q := by rw [e3, ← gq, List.take_left' rfl]
        have l3 : (dgC (q ++ [last])).length = q.length * 32 + 32 := by rw [e3, List.length_append]; omega
        have x1 : (((q.length + 1 : Nat) : Int) - 1) = (q.length : Int) := by omega
        by_cases hih : i < halfN n
        · obtain ⟨x, hx1, hx2, hx3⟩ := ih (halfN n) i d q (by omega) hih (by omega) hd hq (by omega)
          have e1 : decide (q.length + 1 = (dirs n i).length) = decide (q.length = (dirs (halfN n) i).length) := by
            rw [dirs_l h1 hih, List.length_append, List.length_singleton]
            exact decide_eq_decide.2 ⟨fun h => by omega, fun h => by omega⟩
          refine ⟨joinL x last, joinL_dg _ _, fun h => ?_, ?_⟩
          · rw [dirs_l h1 hih, List.length_append, List.length_singleton] at h
            rw [dirs_l h1 hih, foldD_snoc _ _ _ _ _ (by omega), ← hx2 (by omega)]; rfl
          rw [e1]
          have q3 : decide ((i : Int) < ((halfN n : Nat) : Int)) = true := decide_eq_true (by omega)
          have c2 := pair_s hx1.1 hla.1 hx1.2 hla.2
          obtain ⟨j1, _⟩ := joinL_dg x last
          unfold joinL at j1 ⊢
          generalize sumL ([1] ++ x ++ last) = D at *
          have gD : (bw D).length = 32 := by rw [bw_len, j1]
          have tD : (bw D).take 32 = bw D := List.take_of_length_le (by omega)
          have cD := bw_clo D
          have fD := bw_fl1 D
          have oD := bw_one D
          have sD := setAll_full D j1
          rw [z32] at sD
          have gx : (bw x).length = 32 := by rw [bw_len, hx1.1]
          have tx : (bw x).take 32 = bw x := List.take_of_length_le (by omega)
          have cx := bw_clo x
          have fx := bw_fl1 x
          have ox := bw_one x
          have sx := setAll_full x hx1.1
          rw [z32] at sx
          generalize decide (q.length = (dirs (halfN n) i).length) = ok at *
          generalize halfN n = k at *
          generalize dgC (q ++ [last]) = DP at *
          generalize dgC q = DQ at *
          generalize q.length = m at *
          refine Spec.run Tryd.func44 rfl Tryd.ntmps44 (by simp) (by simp (disch := omega) only [go_sem, ↓reduceIte, zn1, zn2, zn3, zn4, zn5, zn6, reduceCtorEq, zn7, zi1, zi2, if_pos, if_neg]; rfl) fun B hB => ?_
          (repeat (first | (first | refine DO.nilC (by kernel_rfl) ?_ | refine DO.nil (by kernel_rfl) ?_) | (with_reducible first | apply oz1 | apply oz2 | apply oz3 | apply oz4 | apply oz5 | apply oz6 | apply oz7 | apply oz8 | apply oz9 | apply ozb | apply ozc | apply oze | apply ozf | apply ozg | apply ozh | apply ozi | apply ozj | apply ozk | refine ozd (by decide) ?_) | ((first | apply SO.call | apply DO.call); (iterate 3 (focus (simp (disch := omega) only [go_sem, ↓reduceIte, zn1, zn2, zn3, zn4, zn5, zn6, reduceCtorEq, zn7, zi1, zi2, if_pos, if_neg, q1, q2, q3, x1, gd, td, cd, od, sd, ga, ta, ca, oa, sa, d3, t3, l3, gD, tD, cD, fD, oD, sD, gx, tx, cx, fx, ox, sx, Nat.zero_mul, Nat.sub_zero, List.drop_zero, Nat.mul_one] <;> rfl))); (first | apply SCall.ofX | apply DCall.ofX); (focus (first | assumption)); (focus (simp (disch := omega) only [go_sem, ↓reduceIte, zn1, zn2, zn3, zn4, zn5, zn6, reduceCtorEq, zn7, zi1, zi2, if_pos, if_neg, q1, q2, q3, x1, gd, td, cd, od, sd, ga, ta, ca, oa, sa, d3, t3, l3, gD, tD, cD, fD, oD, sD, gx, tx, cx, fx, ox, sx, Nat.zero_mul, Nat.sub_zero, List.drop_zero, Nat.mul_one] <;> rfl))) | ((with_reducible first | apply SC.condB | apply SC.region | apply SO.run | apply DO.run); (focus (simp (disch := omega) only [go_sem, ↓reduceIte, zn1, zn2, zn3, zn4, zn5, zn6, reduceCtorEq, zn7, zi1, zi2, if_pos, if_neg, q1, q2, q3, x1, gd, td, cd, od, sd, ga, ta, ca, oa, sa, d3, t3, l3, gD, tD, cD, fD, oD, sD, gx, tx, cx, fx, ox, sx, Nat.zero_mul, Nat.sub_zero, List.drop_zero, Nat.mul_one] <;> rfl)); (first | refine pickT ?_ | refine pickF ?_ | fail_if_success with_reducible refine pickA ?_)) | ((with_reducible refine SC.draw Tab.mixed ?_ ?_); (focus (first | rfl | simp (disch := omega) only [go_sem, ↓reduceIte, zn1, zn2, zn3, zn4, zn5, zn6, reduceCtorEq, zn7, zi1, zi2, if_pos, if_neg, q1, q2, q3, x1, gd, td, cd, od, sd, ga, ta, ca, oa, sa, d3, t3, l3, gD, tD, cD, fD, oD, sD, gx, tx, cx, fx, ox, sx, Nat.zero_mul, Nat.sub_zero, List.drop_zero, Nat.mul_one]))) | (with_reducible apply SC.ops)))
          exact retQ_ret Tryd.results44 (by simp (disch := omega) only [go_sem, ↓reduceIte, zn1, zn2, zn3, zn4, zn5, zn6, reduceCtorEq, zn7, zi1, zi2, if_pos, if_neg, sD, tD, gD, cD, List.drop_zero] <;> rfl) (by simp (disch := omega) only [go_sem, ↓reduceIte, zn1, zn2, zn3, zn4, zn5, zn6, reduceCtorEq, zn7, zi1, zi2, if_pos, if_neg, sD, tD, gD, cD, List.drop_zero] <;> rfl) rfl
        · obtain ⟨x, hx1, hx2, hx3⟩ := ih (n - halfN n) (i - halfN n) d q (by omega) (by omega) (by omega) hd hq (by omega)
          have e1 : decide (q.length + 1 = (dirs n i).length) = decide (q.length = (dirs (n - halfN n) (i - halfN n)).length) := by
            rw [dirs_r h1 hih, List.length_append, List.length_singleton]
            exact decide_eq_decide.2 ⟨fun h => by omega, fun h => by omega⟩
          refine ⟨joinL last x, joinL_dg _ _, fun h => ?_, ?_⟩
          · rw [dirs_r h1 hih, List.length_append, List.length_singleton] at h
            rw [dirs_r h1 hih, foldD_snoc _ _ _ _ _ (by omega), ← hx2 (by omega)]; rfl
          rw [e1]
          have q3 : decide ((i : Int) < ((halfN n : Nat) : Int)) = false := decide_eq_false (by omega)
          have x2 : (n : Int) - ((halfN n : Nat) : Int) = ((n - halfN n : Nat) : Int) := by omega
          have x3 : (i : Int) - ((halfN n : Nat) : Int) = ((i - halfN n : Nat) : Int) := by omega
          have c2 := pair_s hla.1 hx1.1 hla.2 hx1.2
          obtain ⟨j1, _⟩ := joinL_dg last x
          unfold joinL at j1 ⊢
          generalize sumL ([1] ++ last ++ x) = D at *
          have gD : (bw D).length = 32 := by rw [bw_len, j1]
          have tD : (bw D).take 32 = bw D := List.take_of_length_le (by omega)
          have cD := bw_clo D
          have fD := bw_fl1 D
          have oD := bw_one D
          have sD := setAll_full D j1
          rw [z32] at sD
          have gx : (bw x).length = 32 := by rw [bw_len, hx1.1]
          have tx : (bw x).take 32 = bw x := List.take_of_length_le (by omega)
          have cx := bw_clo x
          have fx := bw_fl1 x
          have ox := bw_one x
          have sx := setAll_full x hx1.1
          rw [z32] at sx
          generalize decide (q.length = (dirs (n - halfN n) (i - halfN n)).length) = ok at *
          generalize halfN n = k at *
          generalize dgC (q ++ [last]) = DP at *
          generalize dgC q = DQ at *
          generalize q.length = m at *
          refine Spec.run Tryd.func44 rfl Tryd.ntmps44 (by simp) (by simp (disch := omega) only [go_sem, ↓reduceIte, zn1, zn2, zn3, zn4, zn5, zn6, reduceCtorEq, zn7, zi1, zi2, if_pos, if_neg]; rfl) fun B hB => ?_
          (repeat (first | (first | refine DO.nilC (by kernel_rfl) ?_ | refine DO.nil (by kernel_rfl) ?_) | (with_reducible first | apply oz1 | apply oz2 | apply oz3 | apply oz4 | apply oz5 | apply oz6 | apply oz7 | apply oz8 | apply oz9 | apply ozb | apply ozc | apply oze | apply ozf | apply ozg | apply ozh | apply ozi | apply ozj | apply ozk | refine ozd (by decide) ?_) | ((first | apply SO.call | apply DO.call); (iterate 3 (focus (simp (disch := omega) only [go_sem, ↓reduceIte, zn1, zn2, zn3, zn4, zn5, zn6, reduceCtorEq, zn7, zi1, zi2, if_pos, if_neg, q1, q2, q3, x1, x2, x3, gd, td, cd, od, sd, ga, ta, ca, oa, sa, d3, t3, l3, gD, tD, cD, fD, oD, sD, gx, tx, cx, fx, ox, sx, Nat.zero_mul, Nat.sub_zero, List.drop_zero, Nat.mul_one] <;> rfl))); (first | apply SCall.ofX | apply DCall.ofX); (focus (first | assumption)); (focus (simp (disch := omega) only [go_sem, ↓reduceIte, zn1, zn2, zn3, zn4, zn5, zn6, reduceCtorEq, zn7, zi1, zi2, if_pos, if_neg, q1, q2, q3, x1, x2, x3, gd, td, cd, od, sd, ga, ta, ca, oa, sa, d3, t3, l3, gD, tD, cD, fD, oD, sD, gx, tx, cx, fx, ox, sx, Nat.zero_mul, Nat.sub_zero, List.drop_zero, Nat.mul_one] <;> rfl))) | ((with_reducible first | apply SC.condB | apply SC.region | apply SO.run | apply DO.run); (focus (simp (disch := omega) only [go_sem, ↓reduceIte, zn1, zn2, zn3, zn4, zn5, zn6, reduceCtorEq, zn7, zi1, zi2, if_pos, if_neg, q1, q2, q3, x1, x2, x3, gd, td, cd, od, sd, ga, ta, ca, oa, sa, d3, t3, l3, gD, tD, cD, fD, oD, sD, gx, tx, cx, fx, ox, sx, Nat.zero_mul, Nat.sub_zero, List.drop_zero, Nat.mul_one] <;> rfl)); (first | refine pickT ?_ | refine pickF ?_ | fail_if_success with_reducible refine pickA ?_)) | ((with_reducible refine SC.draw Tab.mixed ?_ ?_); (focus (first | rfl | simp (disch := omega) only [go_sem, ↓reduceIte, zn1, zn2, zn3, zn4, zn5, zn6, reduceCtorEq, zn7, zi1, zi2, if_pos, if_neg, q1, q2, q3, x1, x2, x3, gd, td, cd, od, sd, ga, ta, ca, oa, sa, d3, t3, l3, gD, tD, cD, fD, oD, sD, gx, tx, cx, fx, ox, sx, Nat.zero_mul, Nat.sub_zero, List.drop_zero, Nat.mul_one]))) | (with_reducible apply SC.ops)))
          exact retQ_ret Tryd.results44 (by simp (disch := omega) only [go_sem, ↓reduceIte, zn1, zn2, zn3, zn4, zn5, zn6, reduceCtorEq, zn7, zi1, zi2, if_pos, if_neg, sD, tD, gD, cD, List.drop_zero] <;> rfl) (by simp (disch := omega) only [go_sem, ↓reduceIte, zn1, zn2, zn3, zn4, zn5, zn6, reduceCtorEq, zn7, zi1, zi2, if_pos, if_neg, sD, tD, gD, cD, List.drop_zero] <;> rfl) rfl
    · have hn1 : n = 1 := by omega
      have q1 : ((n : Int) == 1) = true := by rw [beq_iff_eq]; omega
      refine ⟨d, hd, fun h => ?_, ?_⟩
      · rw [dirs_one h1]; cases p <;> rfl
      · have e1 : decide (p.length = (dirs n i).length) = ((p.length : Int) == 0) := by
          rw [dirs_one h1]
          by_cases h0 : p.length = 0
          · rw [decide_eq_true (show p.length = ([] : List Bool).length from h0)]
            exact (beq_iff_eq.2 (by omega)).symm
          · rw [decide_eq_false (show ¬ p.length = ([] : List Bool).length from h0)]
            exact (beq_eq_false_iff_ne.2 (by omega)).symm
        rw [e1]
        refine Spec.run Tryd.func44 rfl Tryd.ntmps44 (by simp) (by simp (disch := omega) only [go_sem, ↓reduceIte, zn1, zn2, zn3, zn4, zn5, zn6, reduceCtorEq, zn7, zi1, zi2, if_pos, if_neg]; rfl) fun B hB => ?_
        (repeat (first | (first | refine DO.nilC (by kernel_rfl) ?_ | refine DO.nil (by kernel_rfl) ?_) | (with_reducible first | apply oz1 | apply oz2 | apply oz3 | apply oz4 | apply oz5 | apply oz6 | apply oz7 | apply oz8 | apply oz9 | apply ozb | apply ozc | apply oze | apply ozf | apply ozg | apply ozh | apply ozi | apply ozj | apply ozk | refine ozd (by decide) ?_) | ((first | apply SO.call | apply DO.call); (iterate 3 (focus (simp (disch := omega) only [go_sem, ↓reduceIte, zn1, zn2, zn3, zn4, zn5, zn6, reduceCtorEq, zn7, zi1, zi2, if_pos, if_neg, q1, gd, td, cd, od, sd, List.drop_zero] <;> rfl))); (first | apply SCall.ofX | apply DCall.ofX); (focus (first | assumption)); (focus (simp (disch := omega) only [go_sem, ↓reduceIte, zn1, zn2, zn3, zn4, zn5, zn6, reduceCtorEq, zn7, zi1, zi2, if_pos, if_neg, q1, gd, td, cd, od, sd, List.drop_zero] <;> rfl))) | ((with_reducible first | apply SC.condB | apply SC.region | apply SO.run | apply DO.run); (focus (simp (disch := omega) only [go_sem, ↓reduceIte, zn1, zn2, zn3, zn4, zn5, zn6, reduceCtorEq, zn7, zi1, zi2, if_pos, if_neg, q1, gd, td, cd, od, sd, List.drop_zero] <;> rfl)); (first | refine pickT ?_ | refine pickF ?_ | fail_if_success with_reducible refine pickA ?_)) | ((with_reducible refine SC.draw Tab.mixed ?_ ?_); (focus (first | rfl | simp (disch := omega) only [go_sem, ↓reduceIte, zn1, zn2, zn3, zn4, zn5, zn6, reduceCtorEq, zn7, zi1, zi2, if_pos, if_neg, q1, gd, td, cd, od, sd, List.drop_zero]))) | (with_reducible apply SC.ops)))
        exact retQ_ret Tryd.results44 (by simp (disch := omega) only [go_sem, ↓reduceIte, zn1, zn2, zn3, zn4, zn5, zn6, reduceCtorEq, zn7, zi1, zi2, if_pos, if_neg, sd, td, gd, cd, List.drop_zero] <;> rfl) (by simp (disch := omega) only [go_sem, ↓reduceIte, zn1, zn2, zn3, zn4, zn5, zn6, reduceCtorEq, zn7, zi1, zi2, if_pos, if_neg, sd, td, gd, cd, List.drop_zero] <;> rfl) rfl
end Go.Proofs.YtpbnhioelmgaiaaDoor
namespace Go.Proofs.YtpbnhioelmgaiaaDoor
open Go.RowKit
theorem intsOf_bw : ∀ l : List Int, intsOf .u8 (bw l) = some l
  | [] => rfl
  | x :: l => by
    show intsOf .u8 (.sc (.int .u8 x) :: bw l) = _
    rw [intsOf_cons, intsOf_bw l]; rfl
def verB (d : List Int) (rows cols i : Int) (r : List Tm) (p : List (List Int)) : Bool :=
  if 1 ≤ rows ∧ rows ≤ 2147483648 ∧ 0 ≤ i ∧ i < rows ∧ (decide (0 ≤ cols) && okR cols (-1) r) = true ∧ p.length = (dirs rows.toNat i.toNat).length then
    decide (rootL rows cols (foldD (dirs rows.toNat i.toNat) p (sumL (rowB r))) = d) else false
theorem okR_ok {cols : Int} (hc : cols ≤ 9223372036854775807) : ∀ {r : List Tm} {last : Int}, -1 ≤ last → okR cols last r = true → (∀ t ∈ r, t.mag.length ≤ 1000) → ∀ t ∈ r, t.Ok
  | t :: r, last, hl, h, hm, u, hu => by
    rw [okR, Bool.and_eq_true, Bool.and_eq_true, Bool.and_eq_true, decide_eq_true_iff, decide_eq_true_iff] at h
    rcases List.mem_cons.1 hu with rfl | hu
    · exact ⟨by omega, by omega, hm u (by simp)⟩
    · exact okR_ok hc (by omega) h.2 (fun t ht => hm t (by simp [ht])) u hu
def opV (i rows cols : Int) (r : List Tm) (p : List (List Int)) : V := .ag [.sc (.int .i64 i), .sc (.int .i64 rows), .sc (.int .i64 cols), .im (tmsC r) r.length, .im (dgC p) p.length]
set_option maxHeartbeats 8000000 in
set_option maxRecDepth 8000 in
theorem verify_s {d : List Int} {rows cols i : Int} {r : List Tm} {p : List (List Int)} (hd : Dg d) (hp : Dgs p) (hr : r.length ≤ 4) (hm : ∀ t ∈ r, t.mag.length ≤ 1000) (hpl : p.length ≤ 6) (hcols : cols ≤ 9223372036854775807) :
    Spec Tryd.prog 17 [.ag (bw d), opV i rows cols r p] (.sc (.bool (verB d rows cols i r p))) := by
  have gd : (bw d).length = 32 := by rw [bw_len, hd.1]
  have td : (bw d).take 32 = bw d := List.take_of_length_le (by omega)
  have cd := bw_clo d
  have od := bw_one d
  unfold opV
  by_cases h1 : rows < 1
  · have e : verB d rows cols i r p = false := if_neg (fun h => by omega)
    rw [e]
    have q1 : decide (rows < 1) = true := decide_eq_true h1
    refine Spec.run Tryd.func17 rfl Tryd.ntmps17 (by simp) (by simp (disch := omega) only [go_sem, ↓reduceIte, zn1, zn2, zn3, zn4, zn5, zn6, reduceCtorEq, zn7, zi1, zi2, if_pos, if_neg]; rfl) fun B hB => ?_
    (repeat (first | refine DO.nil (by kernel_rfl) ?_ | (with_reducible first | apply oz1 | apply oz2 | apply oz3 | apply oz4 | apply oz5 | apply oz6 | apply oz7 | apply oz8 | apply oz9 | apply ozb | apply ozc | apply oze | apply ozf | apply ozg | apply ozh | apply ozi | apply ozj | apply ozk | refine ozd (by decide) ?_) | ((first | apply SO.call | apply DO.call); (iterate 3 (focus (simp (disch := omega) only [go_sem, ↓reduceIte, zn1, zn2, zn3, zn4, zn5, zn6, reduceCtorEq, zn7, zi1, zi2, if_pos, if_neg, q1] <;> rfl))); (first | apply SCall.ofX | apply DCall.ofX); (focus (first | assumption)); (focus (simp (disch := omega) only [go_sem, ↓reduceIte, zn1, zn2, zn3, zn4, zn5, zn6, reduceCtorEq, zn7, zi1, zi2, if_pos, if_neg, q1] <;> rfl))) | ((with_reducible first | apply SC.condB | apply SC.region | apply SO.run | apply DO.run); (focus (simp (disch := omega) only [go_sem, ↓reduceIte, zn1, zn2, zn3, zn4, zn5, zn6, reduceCtorEq, zn7, zi1, zi2, if_pos, if_neg, q1] <;> rfl)); (first | refine pickT ?_ | refine pickF ?_ | fail_if_success with_reducible refine pickA ?_)) | ((with_reducible refine SC.draw Tab.mixed ?_ ?_); (focus (first | rfl | simp (disch := omega) only [go_sem, ↓reduceIte, zn1, zn2, zn3, zn4, zn5, zn6, reduceCtorEq, zn7, zi1, zi2, if_pos, if_neg, q1]))) | (with_reducible apply SC.ops)))
    exact retQ_ret Tryd.results17 (by simp (disch := omega) only [go_sem, ↓reduceIte, zn1, zn2, zn3, zn4, zn5, zn6, reduceCtorEq, zn7, zi1, zi2, if_pos, if_neg] <;> rfl) (by simp (disch := omega) only [go_sem, ↓reduceIte, zn1, zn2, zn3, zn4, zn5, zn6, reduceCtorEq, zn7, zi1, zi2, if_pos, if_neg] <;> rfl) rfl
  have q1 : decide (rows < 1) = false := decide_eq_false h1
  by_cases h2 : rows > 2147483648
  · have e : verB d rows cols i r p = false := if_neg (fun h => by omega)
    rw [e]
    have q2 : decide (rows > 2147483648) = true := decide_eq_true h2
    have q2' : decide (2147483648 < rows) = true := decide_eq_true h2
    refine Spec.run Tryd.func17 rfl Tryd.ntmps17 (by simp) (by simp (disch := omega) only [go_sem, ↓reduceIte, zn1, zn2, zn3, zn4, zn5, zn6, reduceCtorEq, zn7, zi1, zi2, if_pos, if_neg]; rfl) fun B hB => ?_
    (repeat (first | refine DO.nil (by kernel_rfl) ?_ | (with_reducible first | apply oz1 | apply oz2 | apply oz3 | apply oz4 | apply oz5 | apply oz6 | apply oz7 | apply oz8 | apply oz9 | apply ozb | apply ozc | apply oze | apply ozf | apply ozg | apply ozh | apply ozi | apply ozj | apply ozk | refine ozd (by decide) ?_) | ((first | apply SO.call | apply DO.call); (iterate 3 (focus (simp (disch := omega) only [go_sem, ↓reduceIte, zn1, zn2, zn3, zn4, zn5, zn6, reduceCtorEq, zn7, zi1, zi2, if_pos, if_neg, q1, q2, q2'] <;> rfl))); (first | apply SCall.ofX | apply DCall.ofX); (focus (first | assumption)); (focus (simp (disch := omega) only [go_sem, ↓reduceIte, zn1, zn2, zn3, zn4, zn5, zn6, reduceCtorEq, zn7, zi1, zi2, if_pos, if_neg, q1, q2, q2'] <;> rfl))) | ((with_reducible first | apply SC.condB | apply SC.region | apply SO.run | apply DO.run); (focus (simp (disch := omega) only [go_sem, ↓reduceIte, zn1, zn2, zn3, zn4, zn5, zn6, reduceCtorEq, zn7, zi1, zi2, if_pos, if_neg, q1, q2, q2'] <;> rfl)); (first | refine pickT ?_ | refine pickF ?_ | fail_if_success with_reducible refine pickA ?_)) | ((with_reducible refine SC.draw Tab.mixed ?_ ?_); (focus (first | rfl | simp (disch := omega) only [go_sem, ↓reduceIte, zn1, zn2, zn3, zn4, zn5, zn6, reduceCtorEq, zn7, zi1, zi2, if_pos, if_neg, q1, q2, q2']))) | (with_reducible apply SC.ops)))
    exact retQ_ret Tryd.results17 (by simp (disch := omega) only [go_sem, ↓reduceIte, zn1, zn2, zn3, zn4, zn5, zn6, reduceCtorEq, zn7, zi1, zi2, if_pos, if_neg] <;> rfl) (by simp (disch := omega) only [go_sem, ↓reduceIte, zn1, zn2, zn3, zn4, zn5, zn6, reduceCtorEq, zn7, zi1, zi2, if_pos, if_neg] <;> rfl) rfl
  have q2 : decide (rows > 2147483648) = false := decide_eq_false h2
  have q2' : decide (2147483648 < rows) = false := decide_eq_false h2
  by_cases h3 : i < 0
  · have e : verB d rows cols i r p = false := if_neg (fun h => by omega)
    rw [e]
    have q3 : decide (i < 0) = true := decide_eq_true h3
    refine Spec.run Tryd.func17 rfl Tryd.ntmps17 (by simp) (by simp (disch := omega) only [go_sem, ↓reduceIte, zn1, zn2, zn3, zn4, zn5, zn6, reduceCtorEq, zn7, zi1, zi2, if_pos, if_neg]; rfl) fun B hB => ?_
    (repeat (first | refine DO.nil (by kernel_rfl) ?_ | (with_reducible first | apply oz1 | apply oz2 | apply oz3 | apply oz4 | apply oz5 | apply oz6 | apply oz7 | apply oz8 | apply oz9 | apply ozb | apply ozc | apply oze | apply ozf | apply ozg | apply ozh | apply ozi | apply ozj | apply ozk | refine ozd (by decide) ?_) | ((first | apply SO.call | apply DO.call); (iterate 3 (focus (simp (disch := omega) only [go_sem, ↓reduceIte, zn1, zn2, zn3, zn4, zn5, zn6, reduceCtorEq, zn7, zi1, zi2, if_pos, if_neg, q1, q2, q2', q3] <;> rfl))); (first | apply SCall.ofX | apply DCall.ofX); (focus (first | assumption)); (focus (simp (disch := omega) only [go_sem, ↓reduceIte, zn1, zn2, zn3, zn4, zn5, zn6, reduceCtorEq, zn7, zi1, zi2, if_pos, if_neg, q1, q2, q2', q3] <;> rfl))) | ((with_reducible first | apply SC.condB | apply SC.region | apply SO.run | apply DO.run); (focus (simp (disch := omega) only [go_sem, ↓reduceIte, zn1, zn2, zn3, zn4, zn5, zn6, reduceCtorEq, zn7, zi1, zi2, if_pos, if_neg, q1, q2, q2', q3] <;> rfl)); (first | refine pickT ?_ | refine pickF ?_ | fail_if_success with_reducible refine pickA ?_)) | ((with_reducible refine SC.draw Tab.mixed ?_ ?_); (focus (first | rfl | simp (disch := omega) only [go_sem, ↓reduceIte, zn1, zn2, zn3, zn4, zn5, zn6, reduceCtorEq, zn7, zi1, zi2, if_pos, if_neg, q1, q2, q2', q3]))) | (with_reducible apply SC.ops)))
    exact retQ_ret Tryd.results17 (by simp (disch := omega) only [go_sem, ↓reduceIte, zn1, zn2, zn3, zn4, zn5, zn6, reduceCtorEq, zn7, zi1, zi2, if_pos, if_neg] <;> rfl) (by simp (disch := omega) only [go_sem, ↓reduceIte, zn1, zn2, zn3, zn4, zn5, zn6, reduceCtorEq, zn7, zi1, zi2, if_pos, if_neg] <;> rfl) rfl
  have q3 : decide (i < 0) = false := decide_eq_false h3
  by_cases h4 : i ≥ rows
  · have e : verB d rows cols i r p = false := if_neg (fun h => by omega)
    rw [e]
    have q4 : decide (i ≥ rows) = true := decide_eq_true h4
    have q4' : decide (rows ≤ i) = true := decide_eq_true h4
    refine Spec.run Tryd.func17 rfl Tryd.ntmps17 (by simp) (by simp (disch := omega) only [go_sem, ↓reduceIte, zn1, zn2, zn3, zn4, zn5, zn6, reduceCtorEq, zn7, zi1, zi2, if_pos, if_neg]; rfl) fun B hB => ?_
    (repeat (first | refine DO.nil (by kernel_rfl) ?_ | (with_reducible first | apply oz1 | apply oz2 | apply oz3 | apply oz4 | apply oz5 | apply oz6 | apply oz7 | apply oz8 | apply oz9 | apply ozb | apply ozc | apply oze | apply ozf | apply ozg | apply ozh | apply ozi | apply ozj | apply ozk | refine ozd (by decide) ?_) | ((first | apply SO.call | apply DO.call); (iterate 3 (focus (simp (disch := omega) only [go_sem, ↓reduceIte, zn1, zn2, zn3, zn4, zn5, zn6, reduceCtorEq, zn7, zi1, zi2, if_pos, if_neg, q1, q2, q2', q3, q4, q4'] <;> rfl))); (first | apply SCall.ofX | apply DCall.ofX); (focus (first | assumption)); (focus (simp (disch := omega) only [go_sem, ↓reduceIte, zn1, zn2, zn3, zn4, zn5, zn6, reduceCtorEq, zn7, zi1, zi2, if_pos, if_neg, q1, q2, q2', q3, q4, q4'] <;> rfl))) | ((with_reducible first | apply SC.condB | apply SC.region | apply SO.run | apply DO.run); (focus (simp (disch := omega) only [go_sem, ↓reduceIte, zn1, zn2, zn3, zn4, zn5, zn6, reduceCtorEq, zn7, zi1, zi2, if_pos, if_neg, q1, q2, q2', q3, q4, q4'] <;> rfl)); (first | refine pickT ?_ | refine pickF ?_ | fail_if_success with_reducible refine pickA ?_)) | ((with_reducible refine SC.draw Tab.mixed ?_ ?_); (focus (first | rfl | simp (disch := omega) only [go_sem, ↓reduceIte, zn1, zn2, zn3, zn4, zn5, zn6, reduceCtorEq, zn7, zi1, zi2, if_pos, if_neg, q1, q2, q2', q3, q4, q4']))) | (with_reducible apply SC.ops)))
    exact retQ_ret Tryd.results17 (by simp (disch := omega) only [go_sem, ↓reduceIte, zn1, zn2, zn3, zn4, zn5, zn6, reduceCtorEq, zn7, zi1, zi2, if_pos, if_neg] <;> rfl) (by simp (disch := omega) only [go_sem, ↓reduceIte, zn1, zn2, zn3, zn4, zn5, zn6, reduceCtorEq, zn7, zi1, zi2, if_pos, if_neg] <;> rfl) rfl
  have q4 : decide (i ≥ rows) = false := decide_eq_false h4
  have q4' : decide (rows ≤ i) = false := decide_eq_false h4
  have c1 := svalid_s (r := r) (cols := cols) (by omega) hm
  have ct := tmsC_clo r
  cases h5 : (decide (0 ≤ cols) && okR cols (-1) r) with
  | false =>
    have e : verB d rows cols i r p = false := if_neg (fun h => by rw [h5] at h; exact absurd h.2.2.2.2.1 (by simp))
    rw [e]
    rw [h5] at c1
    refine Spec.run Tryd.func17 rfl Tryd.ntmps17 (by simp) (by simp (disch := omega) only [go_sem, ↓reduceIte, zn1, zn2, zn3, zn4, zn5, zn6, reduceCtorEq, zn7, zi1, zi2, if_pos, if_neg]; rfl) fun B hB => ?_
    (repeat (first | refine DO.nil (by kernel_rfl) ?_ | (with_reducible first | apply oz1 | apply oz2 | apply oz3 | apply oz4 | apply oz5 | apply oz6 | apply oz7 | apply oz8 | apply oz9 | apply ozb | apply ozc | apply oze | apply ozf | apply ozg | apply ozh | apply ozi | apply ozj | apply ozk | refine ozd (by decide) ?_) | ((first | apply SO.call | apply DO.call); (iterate 3 (focus (simp (disch := omega) only [go_sem, ↓reduceIte, zn1, zn2, zn3, zn4, zn5, zn6, reduceCtorEq, zn7, zi1, zi2, if_pos, if_neg, q1, q2, q2', q3, q4, q4', ct] <;> rfl))); (first | apply SCall.ofX | apply DCall.ofX); (focus (first | assumption)); (focus (simp (disch := omega) only [go_sem, ↓reduceIte, zn1, zn2, zn3, zn4, zn5, zn6, reduceCtorEq, zn7, zi1, zi2, if_pos, if_neg, q1, q2, q2', q3, q4, q4', ct] <;> rfl))) | ((with_reducible first | apply SC.condB | apply SC.region | apply SO.run | apply DO.run); (focus (simp (disch := omega) only [go_sem, ↓reduceIte, zn1, zn2, zn3, zn4, zn5, zn6, reduceCtorEq, zn7, zi1, zi2, if_pos, if_neg, q1, q2, q2', q3, q4, q4', ct] <;> rfl)); (first | refine pickT ?_ | refine pickF ?_ | fail_if_success with_reducible refine pickA ?_)) | ((with_reducible refine SC.draw Tab.mixed ?_ ?_); (focus (first | rfl | simp (disch := omega) only [go_sem, ↓reduceIte, zn1, zn2, zn3, zn4, zn5, zn6, reduceCtorEq, zn7, zi1, zi2, if_pos, if_neg, q1, q2, q2', q3, q4, q4', ct]))) | (with_reducible apply SC.ops)))
    exact retQ_ret Tryd.results17 (by simp (disch := omega) only [go_sem, ↓reduceIte, zn1, zn2, zn3, zn4, zn5, zn6, reduceCtorEq, zn7, zi1, zi2, if_pos, if_neg] <;> rfl) (by simp (disch := omega) only [go_sem, ↓reduceIte, zn1, zn2, zn3, zn4, zn5, zn6, reduceCtorEq, zn7, zi1, zi2, if_pos, if_neg] <;> rfl) rfl
  | true =>
    rw [h5] at c1
    obtain ⟨n, rfl⟩ := Int.eq_ofNat_of_zero_le (show 0 ≤ rows by omega)
    obtain ⟨k, rfl⟩ := Int.eq_ofNat_of_zero_le (show 0 ≤ i by omega)
    refine Spec.run Tryd.func17 rfl Tryd.ntmps17 (by simp) (by simp (disch := omega) only [go_sem, ↓reduceIte, zn1, zn2, zn3, zn4, zn5, zn6, reduceCtorEq, zn7, zi1, zi2, if_pos, if_neg]; rfl) fun B hB => ?_
    (repeat (first | refine DO.nil (by kernel_rfl) ?_ | (with_reducible first | apply oz1 | apply oz2 | apply oz3 | apply oz4 | apply oz5 | apply oz6 | apply oz7 | apply oz8 | apply oz9 | apply ozb | apply ozc | apply oze | apply ozf | apply ozg | apply ozh | apply ozi | apply ozj | apply ozk | refine ozd (by decide) ?_) | ((first | apply SO.call | apply DO.call); (iterate 3 (focus (simp (disch := omega) only [go_sem, ↓reduceIte, zn1, zn2, zn3, zn4, zn5, zn6, reduceCtorEq, zn7, zi1, zi2, if_pos, if_neg, q1, q2, q2', q3, q4, q4', ct] <;> rfl))); (first | apply SCall.ofX | apply DCall.ofX); (focus (first | assumption)); (focus (simp (disch := omega) only [go_sem, ↓reduceIte, zn1, zn2, zn3, zn4, zn5, zn6, reduceCtorEq, zn7, zi1, zi2, if_pos, if_neg, q1, q2, q2', q3, q4, q4', ct] <;> rfl))) | ((with_reducible first | apply SC.condB | apply SC.region | apply SO.run | apply DO.run); (focus (simp (disch := omega) only [go_sem, ↓reduceIte, zn1, zn2, zn3, zn4, zn5, zn6, reduceCtorEq, zn7, zi1, zi2, if_pos, if_neg, q1, q2, q2', q3, q4, q4', ct] <;> rfl)); (first | refine pickT ?_ | refine pickF ?_ | fail_if_success with_reducible refine pickA ?_)) | ((with_reducible refine SC.draw Tab.mixed ?_ ?_); (focus (first | rfl | simp (disch := omega) only [go_sem, ↓reduceIte, zn1, zn2, zn3, zn4, zn5, zn6, reduceCtorEq, zn7, zi1, zi2, if_pos, if_neg, q1, q2, q2', q3, q4, q4', ct]))) | (with_reducible apply SC.ops)))
    have hn4 : n ≤ 2147483648 := by omega
    have hkn : k < n := by omega
    have hdl := dirs_len n n k (Nat.le_refl _)
    have hvl := visN_len n k 0
    have hw1 := walk_q (g := 40) (cap := [.pt 3 0]) Tab.go40 (visN n k 0) (fun done hp nx => hp = (3, ⟨3, [.sc (.int .i64 (done.length : Nat))], false⟩) :: [(2, ⟨38, [.im (tmsC r) r.length], false⟩), (1, ⟨41, [.sc (.int .i64 k), .sc (.int .i64 n), .sc (.int .i64 cols), .im (tmsC r) r.length, .im (dgC p) p.length], false⟩), (0, ⟨25, bw d, false⟩)] ∧ nx = 4)
      (fun done f t b tl hp nx ht h => by
        obtain ⟨rfl, rfl⟩ := h
        have hdn : done.length ≤ n := by
          have h1 := congrArg List.length ht
          rw [List.length_append] at h1
          omega
        refine InlQ.mono (vis1_q _ _ b done.length (by omega) (by omega)) fun y hp' nx' h => ?_
        obtain ⟨rfl, rfl⟩ := h
        exact ⟨by rw [List.length_append, List.length_singleton], rfl⟩)
      n n k 0 [] [] _ 4 (Nat.le_refl _) hkn (by omega) (by simp) ⟨rfl, rfl⟩
    rw [List.nil_append, hvl, Nat.zero_add, Nat.zero_add] at hw1
    refine SO.inlQ (by simp (disch := omega) only [go_sem, ↓reduceIte, zn1, zn2, zn3, zn4, zn5, zn6, reduceCtorEq, zn7, zi1, zi2, if_pos, if_neg] <;> rfl) Tab.go29 (by simp (disch := omega) only [go_sem, ↓reduceIte, zn1, zn2, zn3, zn4, zn5, zn6, reduceCtorEq, zn7, zi1, zi2, if_pos, if_neg] <;> rfl) (by simp (disch := omega) only [go_sem, ↓reduceIte, zn1, zn2, zn3, zn4, zn5, zn6, reduceCtorEq, zn7, zi1, zi2, if_pos, if_neg] <;> rfl) (SInlQ.all hw1 ?_)
    rintro y hp1 nx1 ⟨rfl, rfl⟩
    by_cases h6 : p.length = (dirs n k).length
    · have q5 : (((dirs n k).length : Int) != (p.length : Int)) = false := by rw [h6]; exact bne_self_eq_false _
      have e : verB d (n : Int) cols (k : Int) r p = decide (rootL n cols (foldD (dirs n k) p (sumL (rowB r))) = d) := if_pos ⟨by omega, by omega, by omega, by omega, h5, h6⟩
      rw [e]
      rw [Bool.and_eq_true, decide_eq_true_iff] at h5
      have hok := okR_ok hcols (by omega) h5.2 hm
      have c2 := row_s hok (by omega)
      obtain ⟨s1, s2⟩ := sumL_dg (rowB r)
      have hX : Dg (sumL (rowB r)) := ⟨s1, s2⟩
      generalize sumL (rowB r) = X at *
      have gX : (bw X).length = 32 := by rw [bw_len, s1]
      have tX : (bw X).take 32 = bw X := List.take_of_length_le (by omega)
      have cX := bw_clo X
      have fX := bw_fl1 X
      have oX := bw_one X
      have sX := setAll_full X s1
      rw [z32] at sX
      (repeat (first | refine DO.nil (by kernel_rfl) ?_ | (with_reducible first | apply oz1 | apply oz2 | apply oz3 | apply oz4 | apply oz5 | apply oz6 | apply oz7 | apply oz8 | apply oz9 | apply ozb | apply ozc | apply oze | apply ozf | apply ozg | apply ozh | apply ozi | apply ozj | apply ozk | refine ozd (by decide) ?_) | ((first | apply SO.call | apply DO.call); (iterate 3 (focus (simp (disch := omega) only [go_sem, ↓reduceIte, zn1, zn2, zn3, zn4, zn5, zn6, reduceCtorEq, zn7, zi1, zi2, if_pos, if_neg, q5, gX, tX, cX, fX, oX, sX, ct] <;> rfl))); (first | apply SCall.ofX | apply DCall.ofX); (focus (first | assumption)); (focus (simp (disch := omega) only [go_sem, ↓reduceIte, zn1, zn2, zn3, zn4, zn5, zn6, reduceCtorEq, zn7, zi1, zi2, if_pos, if_neg, q5, gX, tX, cX, fX, oX, sX, ct] <;> rfl))) | ((with_reducible first | apply SC.condB | apply SC.region | apply SO.run | apply DO.run); (focus (simp (disch := omega) only [go_sem, ↓reduceIte, zn1, zn2, zn3, zn4, zn5, zn6, reduceCtorEq, zn7, zi1, zi2, if_pos, if_neg, q5, gX, tX, cX, fX, oX, sX, ct] <;> rfl)); (first | refine pickT ?_ | refine pickF ?_ | fail_if_success with_reducible refine pickA ?_)) | ((with_reducible refine SC.draw Tab.mixed ?_ ?_); (focus (first | rfl | simp (disch := omega) only [go_sem, ↓reduceIte, zn1, zn2, zn3, zn4, zn5, zn6, reduceCtorEq, zn7, zi1, zi2, if_pos, if_neg, q5, gX, tX, cX, fX, oX, sX, ct]))) | (with_reducible apply SC.ops)))
      have hfd := foldD_dg (dirs n k) p hX
      have c3 := root_s (rows := n) (cols := cols) hfd.1 hfd.2 (by omega) (by omega) (by omega) hcols
      obtain ⟨r1, _⟩ := sumL_dg ([2] ++ n8b n ++ n8b cols ++ foldD (dirs n k) p X)
      unfold rootL
      have hvd := visN_dirs n n k 0 (Nat.le_refl _)
      have hw2 := walk_q (g := 41) (cap := [.pt 5 0, .pt 4 0]) Tab.go41 (visN n k 0) (fun done hp nx => ∃ x p' bs, Dg x ∧ Dgs p' ∧ bs.length = p'.length ∧ foldD bs p' x = foldD (dirs n k) p X ∧ done.map (fun v => v.2.2) ++ bs = dirs n k ∧ hp = (5, ⟨39, [.im (dgC p') p'.length], false⟩) :: (4, ⟨25, bw x, false⟩) :: [(3, ⟨3, [.sc (.int .i64 ((dirs n k).length : Nat))], false⟩), (2, ⟨38, [.im (tmsC r) r.length], false⟩), (1, ⟨41, [.sc (.int .i64 k), .sc (.int .i64 n), .sc (.int .i64 cols), .im (tmsC r) r.length, .im (dgC p) p.length], false⟩), (0, ⟨25, bw d, false⟩)] ∧ nx = 6)
        (fun done f t b tl hp nx ht h => by
          obtain ⟨x, p', bs, hx, hp', hbs, hf, hb, rfl, rfl⟩ := h
          have h1 : done.map (fun v => v.2.2) ++ (b :: tl.map fun v => v.2.2) = dirs n k := by rw [← hvd, ← ht, List.map_append]; rfl
          have h2 : bs = b :: tl.map fun v => v.2.2 := List.append_cancel_left (hb.trans h1.symm)
          subst h2
          cases p' with
          | nil => simp at hbs
          | cons q p'' =>
            have hq := hp' q (by simp)
            have hp2 : Dgs p'' := fun u hu => hp' u (by simp [hu])
            refine InlQ.mono (vis2_q _ _ b (by omega) (by omega) (by omega) hq hx hp2 rfl) fun y hp' nx' h => ?_
            obtain ⟨rfl, rfl⟩ := h
            refine ⟨if b then joinL q x else joinL x q, p'', tl.map (fun v : Nat × Nat × Bool => v.2.2), ?_, hp2, by simpa using hbs, hf, ?_, rfl, rfl⟩
            · split <;> exact joinL_dg _ _
            · rw [← h1, List.map_append, List.append_assoc]; rfl)
        n n k 0 [] [] _ 6 (Nat.le_refl _) hkn (by omega) (by simp) ⟨X, p, dirs n k, hX, hp, h6.symm, rfl, rfl, rfl, rfl⟩
      rw [List.nil_append, Nat.zero_add, Nat.zero_add] at hw2
      refine SO.inlQ (by simp (disch := omega) only [go_sem, ↓reduceIte, zn1, zn2, zn3, zn4, zn5, zn6, reduceCtorEq, zn7, zi1, zi2, if_pos, if_neg] <;> rfl) Tab.go29 (by simp (disch := omega) only [go_sem, ↓reduceIte, zn1, zn2, zn3, zn4, zn5, zn6, reduceCtorEq, zn7, zi1, zi2, if_pos, if_neg] <;> rfl) (by simp (disch := omega) only [go_sem, ↓reduceIte, zn1, zn2, zn3, zn4, zn5, zn6, reduceCtorEq, zn7, zi1, zi2, if_pos, if_neg] <;> rfl) (SInlQ.all hw2 ?_)
      rintro y hp1 nx1 ⟨x, p', bs, hx, hp', hbs, hf, hb, rfl, rfl⟩
      have hb0 : bs = [] := by
        rw [hvd] at hb
        have := congrArg List.length hb
        rw [List.length_append] at this
        exact List.eq_nil_of_length_eq_zero (by omega)
      subst hb0
      have hp0 : p' = [] := List.eq_nil_of_length_eq_zero hbs.symm
      subst hp0
      have hx2 : x = foldD (dirs n k) p X := hf
      rw [← hx2] at c3 r1 ⊢
      clear hw2 hw1 hf hx2 hfd
      generalize sumL ([2] ++ n8b n ++ n8b cols ++ x) = D at *
      have gD : (bw D).length = 32 := by rw [bw_len, r1]
      have tD : (bw D).take 32 = bw D := List.take_of_length_le (by omega)
      have cD := bw_clo D
      have fD := bw_fl1 D
      have gx : (bw x).length = 32 := by rw [bw_len, hx.1]
      have tx : (bw x).take 32 = bw x := List.take_of_length_le (by omega)
      have cx := bw_clo x
      have hd1 := hd.1
      (repeat (first | refine DO.nil (by kernel_rfl) ?_ | (with_reducible first | apply oz1 | apply oz2 | apply oz3 | apply oz4 | apply oz5 | apply oz6 | apply oz7 | apply oz8 | apply oz9 | apply ozb | apply ozc | apply oze | apply ozf | apply ozg | apply ozh | apply ozi | apply ozj | apply ozk | refine ozd (by decide) ?_) | ((first | apply SO.call | apply DO.call); (iterate 3 (focus (simp (disch := omega) only [go_sem, ↓reduceIte, zn1, zn2, zn3, zn4, zn5, zn6, reduceCtorEq, zn7, zi1, zi2, if_pos, if_neg, gD, tD, cD, fD, gx, tx, cx, gd, td, cd, r1, hd1, intsOf_bw, List.drop_zero] <;> rfl))); (first | apply SCall.ofX | apply DCall.ofX); (focus (first | assumption)); (focus (simp (disch := omega) only [go_sem, ↓reduceIte, zn1, zn2, zn3, zn4, zn5, zn6, reduceCtorEq, zn7, zi1, zi2, if_pos, if_neg, gD, tD, cD, fD, gx, tx, cx, gd, td, cd, r1, hd1, intsOf_bw, List.drop_zero] <;> rfl))) | ((with_reducible first | apply SC.condB | apply SC.region | apply SO.run | apply DO.run); (focus (simp (disch := omega) only [go_sem, ↓reduceIte, zn1, zn2, zn3, zn4, zn5, zn6, reduceCtorEq, zn7, zi1, zi2, if_pos, if_neg, gD, tD, cD, fD, gx, tx, cx, gd, td, cd, r1, hd1, intsOf_bw, List.drop_zero] <;> rfl)); (first | refine pickT ?_ | refine pickF ?_ | fail_if_success with_reducible refine pickA ?_)) | ((with_reducible refine SC.draw Tab.mixed ?_ ?_); (focus (first | rfl | simp (disch := omega) only [go_sem, ↓reduceIte, zn1, zn2, zn3, zn4, zn5, zn6, reduceCtorEq, zn7, zi1, zi2, if_pos, if_neg, gD, tD, cD, fD, gx, tx, cx, gd, td, cd, r1, hd1, intsOf_bw, List.drop_zero]))) | (with_reducible apply SC.ops)))
      exact retQ_ret Tryd.results17 (by simp (disch := omega) only [go_sem, ↓reduceIte, zn1, zn2, zn3, zn4, zn5, zn6, reduceCtorEq, zn7, zi1, zi2, if_pos, if_neg] <;> rfl) (by simp (disch := omega) only [go_sem, ↓reduceIte, zn1, zn2, zn3, zn4, zn5, zn6, reduceCtorEq, zn7, zi1, zi2, if_pos, if_neg] <;> rfl) rfl
    · have q5 : (((dirs n k).length : Int) != (p.length : Int)) = true := by rw [bne_iff_ne]; omega
      have e : verB d (n : Int) cols (k : Int) r p = false := if_neg (fun h => h6 h.2.2.2.2.2)
      rw [e]
      (repeat (first | refine DO.nil (by kernel_rfl) ?_ | (with_reducible first | apply oz1 | apply oz2 | apply oz3 | apply oz4 | apply oz5 | apply oz6 | apply oz7 | apply oz8 | apply oz9 | apply ozb | apply ozc | apply oze | apply ozf | apply ozg | apply ozh | apply ozi | apply ozj | apply ozk | refine ozd (by decide) ?_) | ((first | apply SO.call | apply DO.call); (iterate 3 (focus (simp (disch := omega) only [go_sem, ↓reduceIte, zn1, zn2, zn3, zn4, zn5, zn6, reduceCtorEq, zn7, zi1, zi2, if_pos, if_neg, q5] <;> rfl))); (first | apply SCall.ofX | apply DCall.ofX); (focus (first | assumption)); (focus (simp (disch := omega) only [go_sem, ↓reduceIte, zn1, zn2, zn3, zn4, zn5, zn6, reduceCtorEq, zn7, zi1, zi2, if_pos, if_neg, q5] <;> rfl))) | ((with_reducible first | apply SC.condB | apply SC.region | apply SO.run | apply DO.run); (focus (simp (disch := omega) only [go_sem, ↓reduceIte, zn1, zn2, zn3, zn4, zn5, zn6, reduceCtorEq, zn7, zi1, zi2, if_pos, if_neg, q5] <;> rfl)); (first | refine pickT ?_ | refine pickF ?_ | fail_if_success with_reducible refine pickA ?_)) | ((with_reducible refine SC.draw Tab.mixed ?_ ?_); (focus (first | rfl | simp (disch := omega) only [go_sem, ↓reduceIte, zn1, zn2, zn3, zn4, zn5, zn6, reduceCtorEq, zn7, zi1, zi2, if_pos, if_neg, q5]))) | (with_reducible apply SC.ops)))
      exact retQ_ret Tryd.results17 (by simp (disch := omega) only [go_sem, ↓reduceIte, zn1, zn2, zn3, zn4, zn5, zn6, reduceCtorEq, zn7, zi1, zi2, if_pos, if_neg] <;> rfl) (by simp (disch := omega) only [go_sem, ↓reduceIte, zn1, zn2, zn3, zn4, zn5, zn6, reduceCtorEq, zn7, zi1, zi2, if_pos, if_neg] <;> rfl) rfl
set_option maxHeartbeats 8000000 in
set_option maxRecDepth 8000 in
theorem rverify_s {d : List Int} {rows cols i : Int} {r : List Tm} {p : List (List Int)} (hd : Dg d) (hp : Dgs p) (hr : r.length ≤ 4) (hm : ∀ t ∈ r, t.mag.length ≤ 1000) (hpl : p.length ≤ 6) (hcols : cols ≤ 9223372036854775807) :
    Spec Tryd.prog 18 [.ag (bw d), opV i rows cols r p] (.sc (.bool (verB d rows cols i r p))) := by
  have gd : (bw d).length = 32 := by rw [bw_len, hd.1]
  have td : (bw d).take 32 = bw d := List.take_of_length_le (by omega)
  have cd := bw_clo d
  have od := bw_one d
  unfold opV
  by_cases h1 : rows < 1
  · have e : verB d rows cols i r p = false := if_neg (fun h => by omega)
    rw [e]
    have q1 : decide (rows < 1) = true := decide_eq_true h1
    refine Spec.run Tryd.func18 rfl Tryd.ntmps18 (by simp) (by simp (disch := omega) only [go_sem, ↓reduceIte, zn1, zn2, zn3, zn4, zn5, zn6, reduceCtorEq, zn7, zi1, zi2, if_pos, if_neg]; rfl) fun B hB => ?_
    (repeat (first | refine DO.nil (by kernel_rfl) ?_ | (with_reducible first | apply oz1 | apply oz2 | apply oz3 | apply oz4 | apply oz5 | apply oz6 | apply oz7 | apply oz8 | apply oz9 | apply ozb | apply ozc | apply oze | apply ozf | apply ozg | apply ozh | apply ozi | apply ozj | apply ozk | refine ozd (by decide) ?_) | ((first | apply SO.call | apply DO.call); (iterate 3 (focus (simp (disch := omega) only [go_sem, ↓reduceIte, zn1, zn2, zn3, zn4, zn5, zn6, reduceCtorEq, zn7, zi1, zi2, if_pos, if_neg, q1] <;> rfl))); (first | apply SCall.ofX | apply DCall.ofX); (focus (first | assumption)); (focus (simp (disch := omega) only [go_sem, ↓reduceIte, zn1, zn2, zn3, zn4, zn5, zn6, reduceCtorEq, zn7, zi1, zi2, if_pos, if_neg, q1] <;> rfl))) | ((with_reducible first | apply SC.condB | apply SC.region | apply SO.run | apply DO.run); (focus (simp (disch := omega) only [go_sem, ↓reduceIte, zn1, zn2, zn3, zn4, zn5, zn6, reduceCtorEq, zn7, zi1, zi2, if_pos, if_neg, q1] <;> rfl)); (first | refine pickT ?_ | refine pickF ?_ | fail_if_success with_reducible refine pickA ?_)) | ((with_reducible refine SC.draw Tab.mixed ?_ ?_); (focus (first | rfl | simp (disch := omega) only [go_sem, ↓reduceIte, zn1, zn2, zn3, zn4, zn5, zn6, reduceCtorEq, zn7, zi1, zi2, if_pos, if_neg, q1]))) | (with_reducible apply SC.ops)))
    exact retQ_ret Tryd.results18 (by simp (disch := omega) only [go_sem, ↓reduceIte, zn1, zn2, zn3, zn4, zn5, zn6, reduceCtorEq, zn7, zi1, zi2, if_pos, if_neg] <;> rfl) (by simp (disch := omega) only [go_sem, ↓reduceIte, zn1, zn2, zn3, zn4, zn5, zn6, reduceCtorEq, zn7, zi1, zi2, if_pos, if_neg] <;> rfl) rfl
  have q1 : decide (rows < 1) = false := decide_eq_false h1
  by_cases h2 : rows > 2147483648
  · have e : verB d rows cols i r p = false := if_neg (fun h => by omega)
    rw [e]
    have q2 : decide (rows > 2147483648) = true := decide_eq_true h2
    have q2' : decide (2147483648 < rows) = true := decide_eq_true h2
    refine Spec.run Tryd.func18 rfl Tryd.ntmps18 (by simp) (by simp (disch := omega) only [go_sem, ↓reduceIte, zn1, zn2, zn3, zn4, zn5, zn6, reduceCtorEq, zn7, zi1, zi2, if_pos, if_neg]; rfl) fun B hB => ?_
    (repeat (first | refine DO.nil (by kernel_rfl) ?_ | (with_reducible first | apply oz1 | apply oz2 | apply oz3 | apply oz4 | apply oz5 | apply oz6 | apply oz7 | apply oz8 | apply oz9 | apply ozb | apply ozc | apply oze | apply ozf | apply ozg | apply ozh | apply ozi | apply ozj | apply ozk | refine ozd (by decide) ?_) | ((first | apply SO.call | apply DO.call); (iterate 3 (focus (simp (disch := omega) only [go_sem, ↓reduceIte, zn1, zn2, zn3, zn4, zn5, zn6, reduceCtorEq, zn7, zi1, zi2, if_pos, if_neg, q1, q2, q2'] <;> rfl))); (first | apply SCall.ofX | apply DCall.ofX); (focus (first | assumption)); (focus (simp (disch := omega) only [go_sem, ↓reduceIte, zn1, zn2, zn3, zn4, zn5, zn6, reduceCtorEq, zn7, zi1, zi2, if_pos, if_neg, q1, q2, q2'] <;> rfl))) | ((with_reducible first | apply SC.condB | apply SC.region | apply SO.run | apply DO.run); (focus (simp (disch := omega) only [go_sem, ↓reduceIte, zn1, zn2, zn3, zn4, zn5, zn6, reduceCtorEq, zn7, zi1, zi2, if_pos, if_neg, q1, q2, q2'] <;> rfl)); (first | refine pickT ?_ | refine pickF ?_ | fail_if_success with_reducible refine pickA ?_)) | ((with_reducible refine SC.draw Tab.mixed ?_ ?_); (focus (first | rfl | simp (disch := omega) only [go_sem, ↓reduceIte, zn1, zn2, zn3, zn4, zn5, zn6, reduceCtorEq, zn7, zi1, zi2, if_pos, if_neg, q1, q2, q2']))) | (with_reducible apply SC.ops)))
    exact retQ_ret Tryd.results18 (by simp (disch := omega) only [go_sem, ↓reduceIte, zn1, zn2, zn3, zn4, zn5, zn6, reduceCtorEq, zn7, zi1, zi2, if_pos, if_neg] <;> rfl) (by simp (disch := omega) only [go_sem, ↓reduceIte, zn1, zn2, zn3, zn4, zn5, zn6, reduceCtorEq, zn7, zi1, zi2, if_pos, if_neg] <;> rfl) rfl
  have q2 : decide (rows > 2147483648) = false := decide_eq_false h2
  have q2' : decide (2147483648 < rows) = false := decide_eq_false h2
  by_cases h0 : cols < 0
  · have e : verB d rows cols i r p = false := if_neg (fun h => by
      have := h.2.2.2.2.1
      rw [Bool.and_eq_true, decide_eq_true_iff] at this
      omega)
    rw [e]
    have q0 : decide (cols < 0) = true := decide_eq_true h0
    refine Spec.run Tryd.func18 rfl Tryd.ntmps18 (by simp) (by simp (disch := omega) only [go_sem, ↓reduceIte, zn1, zn2, zn3, zn4, zn5, zn6, reduceCtorEq, zn7, zi1, zi2, if_pos, if_neg]; rfl) fun B hB => ?_
    (repeat (first | refine DO.nil (by kernel_rfl) ?_ | (with_reducible first | apply oz1 | apply oz2 | apply oz3 | apply oz4 | apply oz5 | apply oz6 | apply oz7 | apply oz8 | apply oz9 | apply ozb | apply ozc | apply oze | apply ozf | apply ozg | apply ozh | apply ozi | apply ozj | apply ozk | refine ozd (by decide) ?_) | ((first | apply SO.call | apply DO.call); (iterate 3 (focus (simp (disch := omega) only [go_sem, ↓reduceIte, zn1, zn2, zn3, zn4, zn5, zn6, reduceCtorEq, zn7, zi1, zi2, if_pos, if_neg, q0, q1, q2, q2'] <;> rfl))); (first | apply SCall.ofX | apply DCall.ofX); (focus (first | assumption)); (focus (simp (disch := omega) only [go_sem, ↓reduceIte, zn1, zn2, zn3, zn4, zn5, zn6, reduceCtorEq, zn7, zi1, zi2, if_pos, if_neg, q0, q1, q2, q2'] <;> rfl))) | ((with_reducible first | apply SC.condB | apply SC.region | apply SO.run | apply DO.run); (focus (simp (disch := omega) only [go_sem, ↓reduceIte, zn1, zn2, zn3, zn4, zn5, zn6, reduceCtorEq, zn7, zi1, zi2, if_pos, if_neg, q0, q1, q2, q2'] <;> rfl)); (first | refine pickT ?_ | refine pickF ?_ | fail_if_success with_reducible refine pickA ?_)) | ((with_reducible refine SC.draw Tab.mixed ?_ ?_); (focus (first | rfl | simp (disch := omega) only [go_sem, ↓reduceIte, zn1, zn2, zn3, zn4, zn5, zn6, reduceCtorEq, zn7, zi1, zi2, if_pos, if_neg, q0, q1, q2, q2']))) | (with_reducible apply SC.ops)))
    exact retQ_ret Tryd.results18 (by simp (disch := omega) only [go_sem, ↓reduceIte, zn1, zn2, zn3, zn4, zn5, zn6, reduceCtorEq, zn7, zi1, zi2, if_pos, if_neg] <;> rfl) (by simp (disch := omega) only [go_sem, ↓reduceIte, zn1, zn2, zn3, zn4, zn5, zn6, reduceCtorEq, zn7, zi1, zi2, if_pos, if_neg] <;> rfl) rfl
  have q0 : decide (cols < 0) = false := decide_eq_false h0
  by_cases h3 : i < 0
  · have e : verB d rows cols i r p = false := if_neg (fun h => by omega)
    rw [e]
    have q3 : decide (i < 0) = true := decide_eq_true h3
    refine Spec.run Tryd.func18 rfl Tryd.ntmps18 (by simp) (by simp (disch := omega) only [go_sem, ↓reduceIte, zn1, zn2, zn3, zn4, zn5, zn6, reduceCtorEq, zn7, zi1, zi2, if_pos, if_neg]; rfl) fun B hB => ?_
    (repeat (first | refine DO.nil (by kernel_rfl) ?_ | (with_reducible first | apply oz1 | apply oz2 | apply oz3 | apply oz4 | apply oz5 | apply oz6 | apply oz7 | apply oz8 | apply oz9 | apply ozb | apply ozc | apply oze | apply ozf | apply ozg | apply ozh | apply ozi | apply ozj | apply ozk | refine ozd (by decide) ?_) | ((first | apply SO.call | apply DO.call); (iterate 3 (focus (simp (disch := omega) only [go_sem, ↓reduceIte, zn1, zn2, zn3, zn4, zn5, zn6, reduceCtorEq, zn7, zi1, zi2, if_pos, if_neg, q0, q1, q2, q2', q3] <;> rfl))); (first | apply SCall.ofX | apply DCall.ofX); (focus (first | assumption)); (focus (simp (disch := omega) only [go_sem, ↓reduceIte, zn1, zn2, zn3, zn4, zn5, zn6, reduceCtorEq, zn7, zi1, zi2, if_pos, if_neg, q0, q1, q2, q2', q3] <;> rfl))) | ((with_reducible first | apply SC.condB | apply SC.region | apply SO.run | apply DO.run); (focus (simp (disch := omega) only [go_sem, ↓reduceIte, zn1, zn2, zn3, zn4, zn5, zn6, reduceCtorEq, zn7, zi1, zi2, if_pos, if_neg, q0, q1, q2, q2', q3] <;> rfl)); (first | refine pickT ?_ | refine pickF ?_ | fail_if_success with_reducible refine pickA ?_)) | ((with_reducible refine SC.draw Tab.mixed ?_ ?_); (focus (first | rfl | simp (disch := omega) only [go_sem, ↓reduceIte, zn1, zn2, zn3, zn4, zn5, zn6, reduceCtorEq, zn7, zi1, zi2, if_pos, if_neg, q0, q1, q2, q2', q3]))) | (with_reducible apply SC.ops)))
    exact retQ_ret Tryd.results18 (by simp (disch := omega) only [go_sem, ↓reduceIte, zn1, zn2, zn3, zn4, zn5, zn6, reduceCtorEq, zn7, zi1, zi2, if_pos, if_neg] <;> rfl) (by simp (disch := omega) only [go_sem, ↓reduceIte, zn1, zn2, zn3, zn4, zn5, zn6, reduceCtorEq, zn7, zi1, zi2, if_pos, if_neg] <;> rfl) rfl
  have q3 : decide (i < 0) = false := decide_eq_false h3
  by_cases h4 : i ≥ rows
  · have e : verB d rows cols i r p = false := if_neg (fun h => by omega)
    rw [e]
    have q4 : decide (i ≥ rows) = true := decide_eq_true h4
    have q4' : decide (rows ≤ i) = true := decide_eq_true h4
    refine Spec.run Tryd.func18 rfl Tryd.ntmps18 (by simp) (by simp (disch := omega) only [go_sem, ↓reduceIte, zn1, zn2, zn3, zn4, zn5, zn6, reduceCtorEq, zn7, zi1, zi2, if_pos, if_neg]; rfl) fun B hB => ?_
    (repeat (first | refine DO.nil (by kernel_rfl) ?_ | (with_reducible first | apply oz1 | apply oz2 | apply oz3 | apply oz4 | apply oz5 | apply oz6 | apply oz7 | apply oz8 | apply oz9 | apply ozb | apply ozc | apply oze | apply ozf | apply ozg | apply ozh | apply ozi | apply ozj | apply ozk | refine ozd (by decide) ?_) | ((first | apply SO.call | apply DO.call); (iterate 3 (focus (simp (disch := omega) only [go_sem, ↓reduceIte, zn1, zn2, zn3, zn4, zn5, zn6, reduceCtorEq, zn7, zi1, zi2, if_pos, if_neg, q0, q1, q2, q2', q3, q4, q4'] <;> rfl))); (first | apply SCall.ofX | apply DCall.ofX); (focus (first | assumption)); (focus (simp (disch := omega) only [go_sem, ↓reduceIte, zn1, zn2, zn3, zn4, zn5, zn6, reduceCtorEq, zn7, zi1, zi2, if_pos, if_neg, q0, q1, q2, q2', q3, q4, q4'] <;> rfl))) | ((with_reducible first | apply SC.condB | apply SC.region | apply SO.run | apply DO.run); (focus (simp (disch := omega) only [go_sem, ↓reduceIte, zn1, zn2, zn3, zn4, zn5, zn6, reduceCtorEq, zn7, zi1, zi2, if_pos, if_neg, q0, q1, q2, q2', q3, q4, q4'] <;> rfl)); (first | refine pickT ?_ | refine pickF ?_ | fail_if_success with_reducible refine pickA ?_)) | ((with_reducible refine SC.draw Tab.mixed ?_ ?_); (focus (first | rfl | simp (disch := omega) only [go_sem, ↓reduceIte, zn1, zn2, zn3, zn4, zn5, zn6, reduceCtorEq, zn7, zi1, zi2, if_pos, if_neg, q0, q1, q2, q2', q3, q4, q4']))) | (with_reducible apply SC.ops)))
    exact retQ_ret Tryd.results18 (by simp (disch := omega) only [go_sem, ↓reduceIte, zn1, zn2, zn3, zn4, zn5, zn6, reduceCtorEq, zn7, zi1, zi2, if_pos, if_neg] <;> rfl) (by simp (disch := omega) only [go_sem, ↓reduceIte, zn1, zn2, zn3, zn4, zn5, zn6, reduceCtorEq, zn7, zi1, zi2, if_pos, if_neg] <;> rfl) rfl
  have q4 : decide (i ≥ rows) = false := decide_eq_false h4
  have q4' : decide (rows ≤ i) = false := decide_eq_false h4
  have q5 : decide ((p.length : Int) > 40) = false := decide_eq_false (by omega)
  have q5' : decide ((40 : Int) < p.length) = false := decide_eq_false (by omega)
  have c1 := vrow_s (r := r) (cols := cols) (by omega) (by omega) hm
  have e0 : decide (0 ≤ cols) = true := decide_eq_true (by omega)
  cases h5 : okR cols (-1) r with
  | false =>
    have e : verB d rows cols i r p = false := if_neg (fun h => by have := h.2.2.2.2.1; rw [h5, Bool.and_false] at this; cases this)
    rw [e]
    rw [h5] at c1
    refine Spec.run Tryd.func18 rfl Tryd.ntmps18 (by simp) (by simp (disch := omega) only [go_sem, ↓reduceIte, zn1, zn2, zn3, zn4, zn5, zn6, reduceCtorEq, zn7, zi1, zi2, if_pos, if_neg]; rfl) fun B hB => ?_
    (repeat (first | refine DO.nil (by kernel_rfl) ?_ | (with_reducible first | apply oz1 | apply oz2 | apply oz3 | apply oz4 | apply oz5 | apply oz6 | apply oz7 | apply oz8 | apply oz9 | apply ozb | apply ozc | apply oze | apply ozf | apply ozg | apply ozh | apply ozi | apply ozj | apply ozk | refine ozd (by decide) ?_) | ((first | apply SO.call | apply DO.call); (iterate 3 (focus (simp (disch := omega) only [go_sem, ↓reduceIte, zn1, zn2, zn3, zn4, zn5, zn6, reduceCtorEq, zn7, zi1, zi2, if_pos, if_neg, q0, q1, q2, q2', q3, q4, q4', q5, q5'] <;> rfl))); (first | apply SCall.ofX | apply DCall.ofX); (focus (first | assumption)); (focus (simp (disch := omega) only [go_sem, ↓reduceIte, zn1, zn2, zn3, zn4, zn5, zn6, reduceCtorEq, zn7, zi1, zi2, if_pos, if_neg, q0, q1, q2, q2', q3, q4, q4', q5, q5'] <;> rfl))) | ((with_reducible first | apply SC.condB | apply SC.region | apply SO.run | apply DO.run); (focus (simp (disch := omega) only [go_sem, ↓reduceIte, zn1, zn2, zn3, zn4, zn5, zn6, reduceCtorEq, zn7, zi1, zi2, if_pos, if_neg, q0, q1, q2, q2', q3, q4, q4', q5, q5'] <;> rfl)); (first | refine pickT ?_ | refine pickF ?_ | fail_if_success with_reducible refine pickA ?_)) | ((with_reducible refine SC.draw Tab.mixed ?_ ?_); (focus (first | rfl | simp (disch := omega) only [go_sem, ↓reduceIte, zn1, zn2, zn3, zn4, zn5, zn6, reduceCtorEq, zn7, zi1, zi2, if_pos, if_neg, q0, q1, q2, q2', q3, q4, q4', q5, q5']))) | (with_reducible apply SC.ops)))
    exact retQ_ret Tryd.results18 (by simp (disch := omega) only [go_sem, ↓reduceIte, zn1, zn2, zn3, zn4, zn5, zn6, reduceCtorEq, zn7, zi1, zi2, if_pos, if_neg] <;> rfl) (by simp (disch := omega) only [go_sem, ↓reduceIte, zn1, zn2, zn3, zn4, zn5, zn6, reduceCtorEq, zn7, zi1, zi2, if_pos, if_neg] <;> rfl) rfl
  | true =>
    rw [h5] at c1
    obtain ⟨n, rfl⟩ := Int.eq_ofNat_of_zero_le (show 0 ≤ rows by omega)
    obtain ⟨k, rfl⟩ := Int.eq_ofNat_of_zero_le (show 0 ≤ i by omega)
    have hok := okR_ok hcols (by omega) h5 hm
    have c2 := rrow_s hok (by omega)
    have hX := sumL_dg (rowB r)
    obtain ⟨x, hx, hx2, c3⟩ := climb_s n n k (sumL (rowB r)) p (Nat.le_refl _) (by omega) (by omega) hX hp (by omega)
    obtain ⟨s1, s2⟩ := hX
    have cX := bw_clo (sumL (rowB r))
    have fX := bw_fl1 (sumL (rowB r))
    have gx : (bw x).length = 32 := by rw [bw_len, hx.1]
    have tx : (bw x).take 32 = bw x := List.take_of_length_le (by omega)
    have cx := bw_clo x
    have fx := bw_fl1 x
    have ox := bw_one x
    have sx := setAll_full x hx.1
    rw [z32] at sx
    by_cases h6 : p.length = (dirs n k).length
    · have e : verB d (n : Int) cols (k : Int) r p = decide (rootL n cols (foldD (dirs n k) p (sumL (rowB r))) = d) := if_pos ⟨by omega, by omega, by omega, by omega, by rw [e0, h5]; rfl, h6⟩
      rw [e, ← hx2 h6]
      rw [decide_eq_true h6] at c3
      have c4 := whole_s (rows := n) (cols := cols) hx.1 hx.2 (by omega) (by omega) (by omega) hcols
      obtain ⟨r1, _⟩ := sumL_dg ([2] ++ n8b n ++ n8b cols ++ x)
      unfold rootL
      generalize sumL (rowB r) = X at *
      generalize sumL ([2] ++ n8b n ++ n8b cols ++ x) = D at *
      have cD := bw_clo D
      have fD := bw_fl1 D
      have hd1 := hd.1
      have ec : decide (d = D) = decide (D = d) := decide_eq_decide.2 eq_comm
      refine Spec.run Tryd.func18 rfl Tryd.ntmps18 (by simp) (by simp (disch := omega) only [go_sem, ↓reduceIte, zn1, zn2, zn3, zn4, zn5, zn6, reduceCtorEq, zn7, zi1, zi2, if_pos, if_neg]; rfl) fun B hB => ?_
      (repeat (first | refine DO.nil (by kernel_rfl) ?_ | (with_reducible first | apply oz1 | apply oz2 | apply oz3 | apply oz4 | apply oz5 | apply oz6 | apply oz7 | apply oz8 | apply oz9 | apply ozb | apply ozc | apply oze | apply ozf | apply ozg | apply ozh | apply ozi | apply ozj | apply ozk | refine ozd (by decide) ?_) | ((first | apply SO.call | apply DO.call); (iterate 3 (focus (simp (disch := omega) only [go_sem, ↓reduceIte, zn1, zn2, zn3, zn4, zn5, zn6, reduceCtorEq, zn7, zi1, zi2, if_pos, if_neg, q0, q1, q2, q2', q3, q4, q4', q5, q5', cX, fX, gx, tx, cx, fx, ox, sx, cD, fD, gd, td, cd, r1, hd1, intsOf_bw, ec, List.drop_zero] <;> rfl))); (first | apply SCall.ofX | apply DCall.ofX); (focus (first | assumption)); (focus (simp (disch := omega) only [go_sem, ↓reduceIte, zn1, zn2, zn3, zn4, zn5, zn6, reduceCtorEq, zn7, zi1, zi2, if_pos, if_neg, q0, q1, q2, q2', q3, q4, q4', q5, q5', cX, fX, gx, tx, cx, fx, ox, sx, cD, fD, gd, td, cd, r1, hd1, intsOf_bw, ec, List.drop_zero] <;> rfl))) | ((with_reducible first | apply SC.condB | apply SC.region | apply SO.run | apply DO.run); (focus (simp (disch := omega) only [go_sem, ↓reduceIte, zn1, zn2, zn3, zn4, zn5, zn6, reduceCtorEq, zn7, zi1, zi2, if_pos, if_neg, q0, q1, q2, q2', q3, q4, q4', q5, q5', cX, fX, gx, tx, cx, fx, ox, sx, cD, fD, gd, td, cd, r1, hd1, intsOf_bw, ec, List.drop_zero] <;> rfl)); (first | refine pickT ?_ | refine pickF ?_ | fail_if_success with_reducible refine pickA ?_)) | ((with_reducible refine SC.draw Tab.mixed ?_ ?_); (focus (first | rfl | simp (disch := omega) only [go_sem, ↓reduceIte, zn1, zn2, zn3, zn4, zn5, zn6, reduceCtorEq, zn7, zi1, zi2, if_pos, if_neg, q0, q1, q2, q2', q3, q4, q4', q5, q5', cX, fX, gx, tx, cx, fx, ox, sx, cD, fD, gd, td, cd, r1, hd1, intsOf_bw, ec, List.drop_zero]))) | (with_reducible apply SC.ops)))
      exact retQ_ret Tryd.results18 (by simp (disch := omega) only [go_sem, ↓reduceIte, zn1, zn2, zn3, zn4, zn5, zn6, reduceCtorEq, zn7, zi1, zi2, if_pos, if_neg] <;> rfl) (by simp (disch := omega) only [go_sem, ↓reduceIte, zn1, zn2, zn3, zn4, zn5, zn6, reduceCtorEq, zn7, zi1, zi2, if_pos, if_neg] <;> rfl) rfl
    · have e : verB d (n : Int) cols (k : Int) r p = false := if_neg (fun h => h6 h.2.2.2.2.2)
      rw [e]
      rw [decide_eq_false h6] at c3
      generalize sumL (rowB r) = X at *
      refine Spec.run Tryd.func18 rfl Tryd.ntmps18 (by simp) (by simp (disch := omega) only [go_sem, ↓reduceIte, zn1, zn2, zn3, zn4, zn5, zn6, reduceCtorEq, zn7, zi1, zi2, if_pos, if_neg]; rfl) fun B hB => ?_
      (repeat (first | refine DO.nil (by kernel_rfl) ?_ | (with_reducible first | apply oz1 | apply oz2 | apply oz3 | apply oz4 | apply oz5 | apply oz6 | apply oz7 | apply oz8 | apply oz9 | apply ozb | apply ozc | apply oze | apply ozf | apply ozg | apply ozh | apply ozi | apply ozj | apply ozk | refine ozd (by decide) ?_) | ((first | apply SO.call | apply DO.call); (iterate 3 (focus (simp (disch := omega) only [go_sem, ↓reduceIte, zn1, zn2, zn3, zn4, zn5, zn6, reduceCtorEq, zn7, zi1, zi2, if_pos, if_neg, q0, q1, q2, q2', q3, q4, q4', q5, q5', cX, fX, gx, tx, cx, fx, ox, sx, gd, td, cd, List.drop_zero] <;> rfl))); (first | apply SCall.ofX | apply DCall.ofX); (focus (first | assumption)); (focus (simp (disch := omega) only [go_sem, ↓reduceIte, zn1, zn2, zn3, zn4, zn5, zn6, reduceCtorEq, zn7, zi1, zi2, if_pos, if_neg, q0, q1, q2, q2', q3, q4, q4', q5, q5', cX, fX, gx, tx, cx, fx, ox, sx, gd, td, cd, List.drop_zero] <;> rfl))) | ((with_reducible first | apply SC.condB | apply SC.region | apply SO.run | apply DO.run); (focus (simp (disch := omega) only [go_sem, ↓reduceIte, zn1, zn2, zn3, zn4, zn5, zn6, reduceCtorEq, zn7, zi1, zi2, if_pos, if_neg, q0, q1, q2, q2', q3, q4, q4', q5, q5', cX, fX, gx, tx, cx, fx, ox, sx, gd, td, cd, List.drop_zero] <;> rfl)); (first | refine pickT ?_ | refine pickF ?_ | fail_if_success with_reducible refine pickA ?_)) | ((with_reducible refine SC.draw Tab.mixed ?_ ?_); (focus (first | rfl | simp (disch := omega) only [go_sem, ↓reduceIte, zn1, zn2, zn3, zn4, zn5, zn6, reduceCtorEq, zn7, zi1, zi2, if_pos, if_neg, q0, q1, q2, q2', q3, q4, q4', q5, q5', cX, fX, gx, tx, cx, fx, ox, sx, gd, td, cd, List.drop_zero]))) | (with_reducible apply SC.ops)))
      exact retQ_ret Tryd.results18 (by simp (disch := omega) only [go_sem, ↓reduceIte, zn1, zn2, zn3, zn4, zn5, zn6, reduceCtorEq, zn7, zi1, zi2, if_pos, if_neg] <;> rfl) (by simp (disch := omega) only [go_sem, ↓reduceIte, zn1, zn2, zn3, zn4, zn5, zn6, reduceCtorEq, zn7, zi1, zi2, if_pos, if_neg] <;> rfl) rfl
end Go.Proofs.YtpbnhioelmgaiaaDoor
namespace Go.Proofs.YtpbnhioelmgaiaaDoor
open Go.RowKit
set_option maxHeartbeats 8000000 in
set_option maxRecDepth 8000 in
theorem lverify_s {l : List Int} {a b c : Nat} {rows cols i : Int} {r : List Tm} {p : List (List Int)} (ha : a < 256) (hb : b < 256) (hc : c < 256) (hl : l.length ≤ 9223372036854775807) (h8 : ∀ x ∈ l, -128 ≤ x ∧ x ≤ 127)
    (hp : Dgs p) (hcols : cols ≤ 9223372036854775807) :
    Spec Tryd.prog 5 [.ag [.sc (.int .u8 a), .sc (.int .u8 b), .im (i8v l) l.length, .sc (.int .u8 c)], opV i rows cols r p] (.sc (.bool true)) := by
  have c0 := sanity_s
  have c1 := made_s ha hb hc hl h8
  have c2 := rrootM_s (rows := ((a % 10 : Nat) : Int)) (cols := ((b % 5 : Nat) : Int)) (spL_ok l (h := a % 10) (w := b % 5) (by omega) (by omega)) (by omega) (by omega) (by omega) (by omega)
  rw [spL_len] at c2
  unfold spV at c1
  have hd : Dg (rootL ((a % 10 : Nat) : Int) ((b % 5 : Nat) : Int) (treeL (spL l (a % 10) (b % 5)))) := sumL_dg _
  generalize rootL ((a % 10 : Nat) : Int) ((b % 5 : Nat) : Int) (treeL (spL l (a % 10) (b % 5))) = d at *
  have gc := rsC_clo (spL l (a % 10) (b % 5))
  generalize rsC (spL l (a % 10) (b % 5)) = RS at *
  have gd : (bw d).length = 32 := by rw [bw_len, hd.1]
  have td : (bw d).take 32 = bw d := List.take_of_length_le (by omega)
  have cd := bw_clo d
  have od := bw_one d
  have fd := bw_fl1 d
  have sd := setAll_full d hd.1
  rw [z32] at sd
  generalize (if a % 10 = 0 then (0 : Int) else ((c % (a % 10) : Nat) : Int)) = kk at *
  by_cases h1 : p.length > 6
  · have q1 : decide ((p.length : Int) > 6) = true := decide_eq_true (by omega)
    have q1' : decide ((6 : Int) < p.length) = true := decide_eq_true (by omega)
    unfold opV
    refine Spec.run Tryd.func5 rfl Tryd.ntmps5 (by simp) (by simp (disch := omega) only [go_sem, ↓reduceIte, zn1, zn2, zn3, zn4, zn5, zn6, reduceCtorEq, zn7, zi1, zi2, if_pos, if_neg]; rfl) fun B hB => ?_
    (repeat (first | refine DO.nil (by kernel_rfl) ?_ | (with_reducible first | apply oz1 | apply oz2 | apply oz3 | apply oz4 | apply oz5 | apply oz6 | apply oz7 | apply oz8 | apply oz9 | apply ozb | apply ozc | apply oze | apply ozf | apply ozg | apply ozh | apply ozi | apply ozj | apply ozk | refine ozd (by decide) ?_) | ((first | apply SO.call | apply DO.call); (iterate 3 (focus (simp (disch := omega) only [go_sem, ↓reduceIte, zn1, zn2, zn3, zn4, zn5, zn6, reduceCtorEq, zn7, zi1, zi2, if_pos, if_neg, q1, q1', gd, td, cd, od, fd, sd, List.drop_zero] <;> rfl))); (first | apply SCall.ofX | apply DCall.ofX); (focus (first | assumption)); (focus (simp (disch := omega) only [go_sem, ↓reduceIte, zn1, zn2, zn3, zn4, zn5, zn6, reduceCtorEq, zn7, zi1, zi2, if_pos, if_neg, q1, q1', gd, td, cd, od, fd, sd, List.drop_zero] <;> rfl))) | ((with_reducible first | apply SC.condB | apply SC.region | apply SO.run | apply DO.run); (focus (simp (disch := omega) only [go_sem, ↓reduceIte, zn1, zn2, zn3, zn4, zn5, zn6, reduceCtorEq, zn7, zi1, zi2, if_pos, if_neg, q1, q1', gd, td, cd, od, fd, sd, List.drop_zero] <;> rfl)); (first | refine pickT ?_ | refine pickF ?_ | fail_if_success with_reducible refine pickA ?_)) | ((with_reducible refine SC.draw Tab.mixed ?_ ?_); (focus (first | rfl | simp (disch := omega) only [go_sem, ↓reduceIte, zn1, zn2, zn3, zn4, zn5, zn6, reduceCtorEq, zn7, zi1, zi2, if_pos, if_neg, q1, q1', gd, td, cd, od, fd, sd, List.drop_zero]))) | (with_reducible apply SC.ops)))
    exact retQ_ret Tryd.results5 (by simp (disch := omega) only [go_sem, ↓reduceIte, zn1, zn2, zn3, zn4, zn5, zn6, reduceCtorEq, zn7, zi1, zi2, if_pos, if_neg] <;> rfl) (by simp (disch := omega) only [go_sem, ↓reduceIte, zn1, zn2, zn3, zn4, zn5, zn6, reduceCtorEq, zn7, zi1, zi2, if_pos, if_neg] <;> rfl) rfl
  have q1 : decide ((p.length : Int) > 6) = false := decide_eq_false (by omega)
  have q1' : decide ((6 : Int) < p.length) = false := decide_eq_false (by omega)
  by_cases h2 : r.length > 4
  · have q2 : decide ((r.length : Int) > 4) = true := decide_eq_true (by omega)
    have q2' : decide ((4 : Int) < r.length) = true := decide_eq_true (by omega)
    unfold opV
    refine Spec.run Tryd.func5 rfl Tryd.ntmps5 (by simp) (by simp (disch := omega) only [go_sem, ↓reduceIte, zn1, zn2, zn3, zn4, zn5, zn6, reduceCtorEq, zn7, zi1, zi2, if_pos, if_neg]; rfl) fun B hB => ?_
    (repeat (first | refine DO.nil (by kernel_rfl) ?_ | (with_reducible first | apply oz1 | apply oz2 | apply oz3 | apply oz4 | apply oz5 | apply oz6 | apply oz7 | apply oz8 | apply oz9 | apply ozb | apply ozc | apply oze | apply ozf | apply ozg | apply ozh | apply ozi | apply ozj | apply ozk | refine ozd (by decide) ?_) | ((first | apply SO.call | apply DO.call); (iterate 3 (focus (simp (disch := omega) only [go_sem, ↓reduceIte, zn1, zn2, zn3, zn4, zn5, zn6, reduceCtorEq, zn7, zi1, zi2, if_pos, if_neg, q1, q1', q2, q2', gd, td, cd, od, fd, sd, List.drop_zero] <;> rfl))); (first | apply SCall.ofX | apply DCall.ofX); (focus (first | assumption)); (focus (simp (disch := omega) only [go_sem, ↓reduceIte, zn1, zn2, zn3, zn4, zn5, zn6, reduceCtorEq, zn7, zi1, zi2, if_pos, if_neg, q1, q1', q2, q2', gd, td, cd, od, fd, sd, List.drop_zero] <;> rfl))) | ((with_reducible first | apply SC.condB | apply SC.region | apply SO.run | apply DO.run); (focus (simp (disch := omega) only [go_sem, ↓reduceIte, zn1, zn2, zn3, zn4, zn5, zn6, reduceCtorEq, zn7, zi1, zi2, if_pos, if_neg, q1, q1', q2, q2', gd, td, cd, od, fd, sd, List.drop_zero] <;> rfl)); (first | refine pickT ?_ | refine pickF ?_ | fail_if_success with_reducible refine pickA ?_)) | ((with_reducible refine SC.draw Tab.mixed ?_ ?_); (focus (first | rfl | simp (disch := omega) only [go_sem, ↓reduceIte, zn1, zn2, zn3, zn4, zn5, zn6, reduceCtorEq, zn7, zi1, zi2, if_pos, if_neg, q1, q1', q2, q2', gd, td, cd, od, fd, sd, List.drop_zero]))) | (with_reducible apply SC.ops)))
    exact retQ_ret Tryd.results5 (by simp (disch := omega) only [go_sem, ↓reduceIte, zn1, zn2, zn3, zn4, zn5, zn6, reduceCtorEq, zn7, zi1, zi2, if_pos, if_neg] <;> rfl) (by simp (disch := omega) only [go_sem, ↓reduceIte, zn1, zn2, zn3, zn4, zn5, zn6, reduceCtorEq, zn7, zi1, zi2, if_pos, if_neg] <;> rfl) rfl
  have q2 : decide ((r.length : Int) > 4) = false := decide_eq_false (by omega)
  have q2' : decide ((4 : Int) < r.length) = false := decide_eq_false (by omega)
  have c3 : (∀ t ∈ r, t.mag.length ≤ 1000) → _ := fun hm => verify_s (rows := rows) (i := i) hd hp (by omega) hm (by omega) hcols
  have c4 : (∀ t ∈ r, t.mag.length ≤ 1000) → _ := fun hm => rverify_s (rows := rows) (i := i) hd hp (by omega) hm (by omega) hcols
  generalize verB d rows cols i r p = ok at *
  unfold opV at *
  refine Spec.run Tryd.func5 rfl Tryd.ntmps5 (by simp) (by simp (disch := omega) only [go_sem, ↓reduceIte, zn1, zn2, zn3, zn4, zn5, zn6, reduceCtorEq, zn7, zi1, zi2, if_pos, if_neg]; rfl) fun B hB => ?_
  (repeat (first | refine DO.nil (by kernel_rfl) ?_ | (with_reducible first | apply oz1 | apply oz2 | apply oz3 | apply oz4 | apply oz5 | apply oz6 | apply oz7 | apply oz8 | apply oz9 | apply ozb | apply ozc | apply oze | apply ozf | apply ozg | apply ozh | apply ozi | apply ozj | apply ozk | refine ozd (by decide) ?_) | ((first | apply SO.call | apply DO.call); (iterate 3 (focus (simp (disch := omega) only [go_sem, ↓reduceIte, zn1, zn2, zn3, zn4, zn5, zn6, reduceCtorEq, zn7, zi1, zi2, if_pos, if_neg, q1, q1', q2, q2', gd, td, cd, od, fd, sd, List.drop_zero] <;> rfl))); (first | apply SCall.ofX | apply DCall.ofX); (focus (first | assumption)); (focus (simp (disch := omega) only [go_sem, ↓reduceIte, zn1, zn2, zn3, zn4, zn5, zn6, reduceCtorEq, zn7, zi1, zi2, if_pos, if_neg, q1, q1', q2, q2', gd, td, cd, od, fd, sd, List.drop_zero] <;> rfl))) | ((with_reducible first | apply SC.condB | apply SC.region | apply SO.run | apply DO.run); (focus (simp (disch := omega) only [go_sem, ↓reduceIte, zn1, zn2, zn3, zn4, zn5, zn6, reduceCtorEq, zn7, zi1, zi2, if_pos, if_neg, q1, q1', q2, q2', gd, td, cd, od, fd, sd, List.drop_zero] <;> rfl)); (first | refine pickT ?_ | refine pickF ?_ | fail_if_success with_reducible refine pickA ?_)) | ((with_reducible refine SC.draw Tab.mixed ?_ ?_); (focus (first | rfl | simp (disch := omega) only [go_sem, ↓reduceIte, zn1, zn2, zn3, zn4, zn5, zn6, reduceCtorEq, zn7, zi1, zi2, if_pos, if_neg, q1, q1', q2, q2', gd, td, cd, od, fd, sd, List.drop_zero]))) | (with_reducible apply SC.ops)))
  refine SC.loop (fun j : Nat => ⟨[(3, .pt 1 0), (5, .sc (.bool true)), (8, .pt 3 0), (9, .sc (.int .i64 j))], [(3, ⟨25, bw d, false⟩), (1, ⟨41, [.sc (.int .i64 i), .sc (.int .i64 rows), .sc (.int .i64 cols), .im (tmsC r) r.length, .im (dgC p) p.length], false⟩)], 4, 56⟩)
    (fun j => j ≤ r.length ∧ ∀ t ∈ r.take j, t.mag.length ≤ 8) (fun j => r.length - j) 0 ?_ ?_ ?_
  · (refine Le.slots ?_ ?_ ?_ <;> (repeat' (first | (exact fun _ _ h => h) | exact Nat.le_refl _ | exact leSl_nil | refine leSl_cons (by simp (disch := omega) only [go_sem, ↓reduceIte, zn1, zn2, zn3, zn4, zn5, zn6, reduceCtorEq, zn7, zi1, zi2, if_pos, if_neg] <;> rfl) ?_ ?_ | exact VLe.junk _ | exact VLe.refl rfl | exact VLe.nil_sl _ _ _ | exact VLe.int (by first | rfl | omega | (dsimp only; omega)) | exact VLe.bool rfl | exact VLe.sl rfl (by first | rfl | omega) | exact VLe.cap rfl (by first | rfl | omega) | exact VLe.im rfl rfl | omega | (refine fun id k h => ?_; simp only [hget] at h ⊢; (repeat' (split at h)) <;> first | (cases h; done) | (simp (disch := omega) only [if_pos, if_neg]; exact h)))))
  · exact ⟨Nat.zero_le _, fun t ht => by cases ht⟩
  · rintro j ⟨hj, hJ⟩ K hK
    by_cases hcj : j < r.length
    · have q3 : decide ((j : Int) < (r.length : Int)) = true := decide_eq_true (by omega)
      have g1 := tmsC_drop hcj
      have g2 := tmsC_len r
      have g3 : j * 3 < (tmsC r).length := by omega
      have hK2 : ∀ s' : SS, _ → (r.getD j ⟨0, false, []⟩).mag.length ≤ 8 → K s' := fun s' h hx => hK s' (j + 1) h ⟨by omega, fun t ht => by
        rw [List.take_add_one, getD_some (d := ⟨0, false, []⟩) hcj] at ht
        rcases List.mem_append.1 ht with ht | ht
        · exact hJ t ht
        · have : t = r.getD j ⟨0, false, []⟩ := by simpa using ht
          rw [this]; exact hx⟩ (by omega)
      clear hK
      generalize r.getD j ⟨0, false, []⟩ = t at *
      obtain ⟨tc, tb, tm⟩ := t
      simp only at hK2
      unfold tmC at g1
      simp only at g1
      generalize (tmsC r).drop ((j + 1) * 3) = DD at *
      by_cases k1 : tm.length > 8
      · have q4 : decide ((tm.length : Int) > 8) = true := decide_eq_true (by omega)
        have q4' : decide ((8 : Int) < tm.length) = true := decide_eq_true (by omega)
        (repeat (first | refine DO.nil (by kernel_rfl) ?_ | (with_reducible first | apply oz1 | apply oz2 | apply oz3 | apply oz4 | apply oz5 | apply oz6 | apply oz7 | apply oz8 | apply oz9 | apply ozb | apply ozc | apply oze | apply ozf | apply ozg | apply ozh | apply ozi | apply ozj | apply ozk | refine ozd (by decide) ?_) | ((first | apply SO.call | apply DO.call); (iterate 3 (focus (simp (disch := omega) only [go_sem, ↓reduceIte, zn1, zn2, zn3, zn4, zn5, zn6, reduceCtorEq, zn7, zi1, zi2, if_pos, if_neg, q3, q4, q4', g1, g3, List.cons_append, List.nil_append] <;> rfl))); (first | apply SCall.ofX | apply DCall.ofX); (focus (first | assumption)); (focus (simp (disch := omega) only [go_sem, ↓reduceIte, zn1, zn2, zn3, zn4, zn5, zn6, reduceCtorEq, zn7, zi1, zi2, if_pos, if_neg, q3, q4, q4', g1, g3, List.cons_append, List.nil_append] <;> rfl))) | ((with_reducible first | apply SC.condB | apply SC.region | apply SO.run | apply DO.run); (focus (simp (disch := omega) only [go_sem, ↓reduceIte, zn1, zn2, zn3, zn4, zn5, zn6, reduceCtorEq, zn7, zi1, zi2, if_pos, if_neg, q3, q4, q4', g1, g3, List.cons_append, List.nil_append] <;> rfl)); (first | refine pickT ?_ | refine pickF ?_ | fail_if_success with_reducible refine pickA ?_)) | ((with_reducible refine SC.draw Tab.mixed ?_ ?_); (focus (first | rfl | simp (disch := omega) only [go_sem, ↓reduceIte, zn1, zn2, zn3, zn4, zn5, zn6, reduceCtorEq, zn7, zi1, zi2, if_pos, if_neg, q3, q4, q4', g1, g3, List.cons_append, List.nil_append]))) | (with_reducible apply SC.ops)))
        exact retQ_ret Tryd.results5 (by simp (disch := omega) only [go_sem, ↓reduceIte, zn1, zn2, zn3, zn4, zn5, zn6, reduceCtorEq, zn7, zi1, zi2, if_pos, if_neg] <;> rfl) (by simp (disch := omega) only [go_sem, ↓reduceIte, zn1, zn2, zn3, zn4, zn5, zn6, reduceCtorEq, zn7, zi1, zi2, if_pos, if_neg] <;> rfl) rfl
      · have q4 : decide ((tm.length : Int) > 8) = false := decide_eq_false (by omega)
        have q4' : decide ((8 : Int) < tm.length) = false := decide_eq_false (by omega)
        (repeat (first | refine DO.nil (by kernel_rfl) ?_ | (with_reducible first | apply oz1 | apply oz2 | apply oz3 | apply oz4 | apply oz5 | apply oz6 | apply oz7 | apply oz8 | apply oz9 | apply ozb | apply ozc | apply oze | apply ozf | apply ozg | apply ozh | apply ozi | apply ozj | apply ozk | refine ozd (by decide) ?_) | ((first | apply SO.call | apply DO.call); (iterate 3 (focus (simp (disch := omega) only [go_sem, ↓reduceIte, zn1, zn2, zn3, zn4, zn5, zn6, reduceCtorEq, zn7, zi1, zi2, if_pos, if_neg, q3, q4, q4', g1, g3, List.cons_append, List.nil_append] <;> rfl))); (first | apply SCall.ofX | apply DCall.ofX); (focus (first | assumption)); (focus (simp (disch := omega) only [go_sem, ↓reduceIte, zn1, zn2, zn3, zn4, zn5, zn6, reduceCtorEq, zn7, zi1, zi2, if_pos, if_neg, q3, q4, q4', g1, g3, List.cons_append, List.nil_append] <;> rfl))) | ((with_reducible first | apply SC.condB | apply SC.region | apply SO.run | apply DO.run); (focus (simp (disch := omega) only [go_sem, ↓reduceIte, zn1, zn2, zn3, zn4, zn5, zn6, reduceCtorEq, zn7, zi1, zi2, if_pos, if_neg, q3, q4, q4', g1, g3, List.cons_append, List.nil_append] <;> rfl)); (first | refine pickT ?_ | refine pickF ?_ | fail_if_success with_reducible refine pickA ?_)) | ((with_reducible refine SC.draw Tab.mixed ?_ ?_); (focus (first | rfl | simp (disch := omega) only [go_sem, ↓reduceIte, zn1, zn2, zn3, zn4, zn5, zn6, reduceCtorEq, zn7, zi1, zi2, if_pos, if_neg, q3, q4, q4', g1, g3, List.cons_append, List.nil_append]))) | (with_reducible apply SC.ops)))
        refine hK2 _ ?_ (by omega)
        (refine Le.slots ?_ ?_ ?_ <;> (repeat' (first | (exact fun _ _ h => h) | exact Nat.le_refl _ | exact leSl_nil | refine leSl_cons (by simp (disch := omega) only [go_sem, ↓reduceIte, zn1, zn2, zn3, zn4, zn5, zn6, reduceCtorEq, zn7, zi1, zi2, if_pos, if_neg] <;> rfl) ?_ ?_ | exact VLe.junk _ | exact VLe.refl rfl | exact VLe.nil_sl _ _ _ | exact VLe.int (by first | rfl | omega | (dsimp only; omega)) | exact VLe.bool rfl | exact VLe.sl rfl (by first | rfl | omega) | exact VLe.cap rfl (by first | rfl | omega) | exact VLe.im rfl rfl | omega | (refine fun id k h => ?_; simp only [hget] at h ⊢; (repeat' (split at h)) <;> first | (cases h; done) | (simp (disch := omega) only [if_pos, if_neg]; exact h)))))
    · have q3 : decide ((j : Int) < (r.length : Int)) = false := decide_eq_false (by omega)
      have hjn : j = r.length := by omega
      subst hjn
      rw [List.take_of_length_le (Nat.le_refl _)] at hJ
      have hm : ∀ t ∈ r, t.mag.length ≤ 1000 := fun t ht => by have := hJ t ht; omega
      have c5 := c3 hm
      have c6 := c4 hm
      (repeat (first | refine DO.nil (by kernel_rfl) ?_ | (with_reducible first | apply oz1 | apply oz2 | apply oz3 | apply oz4 | apply oz5 | apply oz6 | apply oz7 | apply oz8 | apply oz9 | apply ozb | apply ozc | apply oze | apply ozf | apply ozg | apply ozh | apply ozi | apply ozj | apply ozk | refine ozd (by decide) ?_) | ((first | apply SO.call | apply DO.call); (iterate 3 (focus (simp (disch := omega) only [go_sem, ↓reduceIte, zn1, zn2, zn3, zn4, zn5, zn6, reduceCtorEq, zn7, zi1, zi2, if_pos, if_neg, q3, gd, td, cd, List.drop_zero, beq_self_eq_true] <;> rfl))); (first | apply SCall.ofX | apply DCall.ofX); (focus (first | assumption)); (focus (simp (disch := omega) only [go_sem, ↓reduceIte, zn1, zn2, zn3, zn4, zn5, zn6, reduceCtorEq, zn7, zi1, zi2, if_pos, if_neg, q3, gd, td, cd, List.drop_zero, beq_self_eq_true] <;> rfl))) | ((with_reducible first | apply SC.condB | apply SC.region | apply SO.run | apply DO.run); (focus (simp (disch := omega) only [go_sem, ↓reduceIte, zn1, zn2, zn3, zn4, zn5, zn6, reduceCtorEq, zn7, zi1, zi2, if_pos, if_neg, q3, gd, td, cd, List.drop_zero, beq_self_eq_true] <;> rfl)); (first | refine pickT ?_ | refine pickF ?_ | fail_if_success with_reducible refine pickA ?_)) | ((with_reducible refine SC.draw Tab.mixed ?_ ?_); (focus (first | rfl | simp (disch := omega) only [go_sem, ↓reduceIte, zn1, zn2, zn3, zn4, zn5, zn6, reduceCtorEq, zn7, zi1, zi2, if_pos, if_neg, q3, gd, td, cd, List.drop_zero, beq_self_eq_true]))) | (with_reducible apply SC.ops)))
      exact retQ_ret Tryd.results5 (by simp (disch := omega) only [go_sem, ↓reduceIte, zn1, zn2, zn3, zn4, zn5, zn6, reduceCtorEq, zn7, zi1, zi2, if_pos, if_neg] <;> rfl) (by simp (disch := omega) only [go_sem, ↓reduceIte, zn1, zn2, zn3, zn4, zn5, zn6, reduceCtorEq, zn7, zi1, zi2, if_pos, if_neg] <;> rfl) rfl
end Go.Proofs.YtpbnhioelmgaiaaDoor
namespace Go.Proofs.YtpbnhioelmgaiaaDoor
open Go.ChangeShapes Go.WideShapes Go.ChangeAt Go.RowKit
theorem i8_wf (n : Int) (h : (Lit.int .i8 n).wf = true) : -128 ≤ n ∧ n ≤ 127 := by
  have h : (IntKind.i8.min ≤ n ∧ n ≤ IntKind.i8.max) := by simpa [Lit.wf] using h
  have h1 : IntKind.i8.min = -128 := by decide
  have h2 : IntKind.i8.max = 127 := by decide
  omega
theorem i64_wf (n : Int) (h : (Lit.int .i64 n).wf = true) : -9223372036854775808 ≤ n ∧ n ≤ 9223372036854775807 := by
  have h1 : IntKind.i64.min = -9223372036854775808 := rfl
  have h2 : IntKind.i64.max = 9223372036854775807 := rfl
  simp [Lit.wf] at h
  omega
theorem case_val {x : V} (h : (Shp.st [.st [.int .u8, .int .u8, .slc (.int .i8)], .int .u8]).Val x) : ∃ (a b c : Nat) (l : List Int), x = .ag [.sc (.int .u8 a), .sc (.int .u8 b), .im (i8v l) l.length, .sc (.int .u8 c)] ∧ a < 256 ∧ b < 256 ∧ c < 256 ∧ (∀ x ∈ l, -128 ≤ x ∧ x ≤ 127) ∧ l.length ≤ 9223372036854775807 := by
  obtain ⟨ys, rfl, a0, b0, rfl, ⟨a1, b1, rfl, ⟨n1, rfl, w1⟩, a2, b2, rfl, ⟨n2, rfl, w2⟩, a3, b3, rfl, ⟨yss, hl, rfl, hr⟩, rfl⟩, a4, b4, rfl, ⟨n4, rfl, w4⟩, rfl⟩ := h
  obtain ⟨a, rfl, ha⟩ := wf_nat u8_wf w1
  obtain ⟨b, rfl, hb⟩ := wf_nat u8_wf w2
  obtain ⟨c, rfl, hc⟩ := wf_nat u8_wf w4
  obtain ⟨l, h1, h2, h3⟩ := reps_ints hr
  unfold maxLen at hl
  refine ⟨a, b, c, l, ?_, by omega, by omega, by omega, fun x hx => i8_wf x (h3 x hx), by omega⟩
  rw [h1, h2]; rfl
theorem tms_val : ∀ {yss : List (List V)}, (∀ z ∈ yss, (Shp.st [.int .i64, .st [.bool, .slc (.int .u32)]]).Rep z) → ∃ l : List Tm, yss.flatten = tmsC l ∧ l.length = yss.length
  | [], _ => ⟨[], rfl, rfl⟩
  | y :: r, h => by
    obtain ⟨a1, b1, rfl, ⟨n1, rfl, w1⟩, a2, b2, rfl, ⟨a3, b3, rfl, ⟨bb, rfl⟩, a4, b4, rfl, ⟨zss, hl, rfl, hr⟩, rfl⟩, rfl⟩ := h y (by simp)
    obtain ⟨m, h1, h2, h3⟩ := reps_ints hr
    obtain ⟨l, e1, e2⟩ := tms_val (yss := r) fun z hz => h z (by simp [hz])
    refine ⟨⟨n1, bb, m⟩ :: l, ?_, by simp [e2]⟩
    rw [List.flatten_cons, e1, h1, ← h2]; rfl
theorem dg_rep {y : List V} (h : (Shp.arr 32 (.int .u8)).Rep y) : ∃ d : List Int, y = bw d ∧ Dg d := by
  obtain ⟨yss, hl, rfl, hr⟩ := h
  obtain ⟨d, h1, h2, h3⟩ := reps_ints hr
  refine ⟨d, h1, by omega, fun x hx => ?_⟩
  have := u8_wf x (h3 x hx)
  omega
theorem dgs_val : ∀ {yss : List (List V)}, (∀ z ∈ yss, (Shp.arr 32 (.int .u8)).Rep z) → ∃ l : List (List Int), yss.flatten = dgC l ∧ l.length = yss.length ∧ Dgs l
  | [], _ => ⟨[], rfl, rfl, fun d hd => by cases hd⟩
  | y :: r, h => by
    obtain ⟨d, rfl, hd⟩ := dg_rep (h y (by simp))
    obtain ⟨l, e1, e2, e3⟩ := dgs_val (yss := r) fun z hz => h z (by simp [hz])
    refine ⟨d :: l, ?_, by simp [e2], fun u hu => ?_⟩
    · rw [List.flatten_cons, e1]; rfl
    · rcases List.mem_cons.1 hu with rfl | hu
      · exact hd
      · exact e3 u hu
end Go.Proofs.YtpbnhioelmgaiaaDoor
