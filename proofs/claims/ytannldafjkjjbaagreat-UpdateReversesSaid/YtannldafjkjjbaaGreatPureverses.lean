/- 'UpdateReverses' returns true for every input, and each argument reads afterwards as it read before. No conditions. -/
import Derived.Test.YtannldafjkjjbaaGreatRows
import Derived.Test.YtannldafjkjjbaaGreatVn
set_option linter.all false
set_option maxHeartbeats 16000000
open Nat renaming reduceEqDiff → zn1, reduceLT → zn2, reduceLeDiff → zn3, reduceAdd → zn4, reduceMul → zn5, reduceSub → zn6, reduceBEq → zn7, mul_one → zn8, zero_add → zn9, one_mul → zna, le_refl → znb, zero_le → znc, add_sub_cancel_left → znd, sub_eq_zero_of_le → zne, add_assoc → znf
open Int renaming reduceToNat → zi1, reducePow → zi2
open List renaming length_append → zl1, drop_zero → zl2, take_succ_cons → zl3, take_zero → zl4, getElem?_drop → zl5, append_assoc → zl6, nil_append → zl7, cons_append → zl8, drop_succ_cons → zl9, take_of_length_le → zla, getElem?_eq_getElem → zlb, getElem?_eq_some_iff → zlc, map_cons → zld, map_nil → zle, all_eq_true → zlf

namespace Go.Proofs.YtannldafjkjjbaaGreat
open Go.ChangeShapes Go.WideShapes Go.ChangeAt Go.RowKit
set_option maxRecDepth 20000 in
theorem lureverses_s {h w i : Nat} {A : List (List Int)} {X : V} {x : Chg} (hh : h < 5) (hw : w < 5) (hA : Bm 9 h w A) (hX : ∃ (a b : Nat) (cs : List V) (n : Nat), X = .ag [.sc (.int .u8 a), .sc (.int .u8 b), .im cs n])
  (hi : i < 256) (hx : ChOk x) (x1 : Spec Tryz.prog 13 [X] (mat w A)) :
  Spec Tryz.prog 9 [X, .sc (.int .u8 i), .ag (chC x)] (.sc (.bool true)) := by
 obtain ⟨k, ci, u0, v0⟩ := x
 obtain ⟨g1, g2, g3, g4, g5, g6⟩ := hx
 simp only at g1 g2 g3 g4 g5 g6
 have cs := sanity_s
 have hkr := kr_le
 have hl := hA.sh.len
 have r1 := row_s (n := w) g3 g5
 have r2 := row_s (n := w) g4 g6
 have r3 := row_s (n := h) g3 g5
 rw [Nat.min_eq_left om] at r1 r2 r3
 have hul := rowD_len u0 w
 have hus := rowD_small (n := w) g3
 have hvl := rowD_len v0 w
 have hvs := rowD_small (n := w) g4
 have htl := rowD_len u0 h
 have hts := rowD_small (n := h) g3
 generalize rowD u0 w = u at *
 generalize rowD v0 w = v at *
 generalize rowD u0 h = t at *
 have hu5 : ∀ x ∈ u, x.natAbs ≤ 511 := fun x hx => Nat.le_trans (hus x hx) om
 have hv5 : ∀ x ∈ v, x.natAbs ≤ 511 := fun x hx => Nat.le_trans (hvs x hx) om
 have ht5 : ∀ x ∈ t, x.natAbs ≤ 511 := fun x hx => Nat.le_trans (hts x hx) om
 obtain ⟨j, hj⟩ : ∃ j : Nat, j = i % (h + 1) := ⟨_, rfl⟩
 have wj : (i : Int) % ((h : Int) + 1) = (j : Int) := by rw [hj]; push_cast; rfl
 have hjh : j ≤ h := by have := Nat.mod_lt i (show 0 < h + 1 by omega); omega
 have ww : IntKind.i64.wrap (i : Int) = i := IntWalk.i64_in _ om
 have hB := hA.ins hjh hul hus
 have hC := hB.ins (i := h + 1) (znb _) hvl hvs
 have hD := hA.ins (i := h) (znb _) hvl hvs
 have hR := hA.rai (u := t) (v := v) hts hvs
 obtain ⟨lA, kA⟩ := kp_ex hA om om
 obtain ⟨lB, kB⟩ := kp_ex hB om om
 obtain ⟨lC, kC⟩ := kp_ex hC om om
 obtain ⟨lD, kD⟩ := kp_ex hD om om
 obtain ⟨lR, kR⟩ := kp_ex hR om om
 have eB : delI (insI A j u) j = A := del_ins om
 have eC : insI (insI A h v) j u = insI (insI A j u) (h + 1) v := ins_turn hl hjh
 have eR : raiI h w (raiI h w A t v) (negL t) v = A := rai_back kA.mA
 have c1 := start_ok kA om
 have c2 := ins_ok kA kB om hjh hul
 have c3 := kB.rcheck om
 have c4 : Spec Tryz.prog 22 [keptS (h + 1) w (insI A j u) lB, .sc (.int .i64 j)] (.tu [keptS h w A lA, .sc (.int .i64 0)]) := by
  have := del_ok (l1 := lA) kB (by rw [eB]; exact kA) om (show j < h + 1 by omega)
  rw [eB] at this; exact this
 have c5 := ins_ok kB kC om (znb _) hvl
 have c6 := ins_ok kA kD om (znb _) hvl
 have c7 := kD.rcheck om
 have c8 : Spec Tryz.prog 19 [keptS (h + 1) w (insI A h v) lD, .sc (.int .i64 j), .im (ivR u) w] (.tu [keptS (h + 1 + 1) w (insI (insI A j u) (h + 1) v) lC, .sc (.int .i64 0)]) := by
  have := ins_ok (i := j) (v := u) (l1 := lC) kD (by rw [eC]; exact kC) om om hul
  rw [eC] at this; exact this
 have c9 := rai_ok kA kR om htl hvl ht5 hv5
 have c10 := kR.rcheck om
 have c11 : Spec Tryz.prog 24 [keptS h w (raiI h w A t v) lR, .im (ivR (negL t)) h, .im (ivR v) w] (.tu [keptS h w A lA, .sc (.int .i64 0)]) := by
  have := rai_ok (u := negL t) (v := v) (l1 := lA) kR (by rw [eR]; exact kA) om (by rw [negL_len]; exact htl) hvl (negL_small ht5) hv5
  rw [eR] at this; exact this
 have c12 := isame_s kC.mA om om om
 have c13 := isame_s kC.mH om om om
 have c14 := isame_s kA.mA om om om
 have c15 := isame_s kA.mH om om om
 obtain ⟨pa0, pa1, pa2, pa3, pa4, pa5, pa6, pa7, pa8, pa9, pa10, pa11, pa12, pa13, pa14, ea1, ea2, ea3⟩ := kept_op2 kA
 obtain ⟨pb0, pb1, pb2, pb3, pb4, pb5, pb6, pb7, pb8, pb9, pb10, pb11, pb12, pb13, pb14, pb15, pb16, pb17, eb1, eb2, eb3⟩ := kept_op3 kB
 obtain ⟨pc0, pc1, pc2, pc3, pc4, pc5, pc6, pc7, pc8, pc9, pc10, pc11, pc12, pc13, pc14, pc15, pc16, pc17, ec1, ec2, ec3⟩ := kept_op3 kC
 obtain ⟨pd0, pd1, pd2, pd3, pd4, pd5, pd6, pd7, pd8, pd9, pd10, pd11, pd12, pd13, pd14, pd15, pd16, pd17, ed1, ed2, ed3⟩ := kept_op3 kD
 obtain ⟨pr0, pr1, pr2, pr3, pr4, pr5, pr6, pr7, pr8, pr9, pr10, pr11, pr12, pr13, pr14, pr15, pr16, pr17, er1, er2, er3⟩ := kept_op3 kR
 simp only [ea1, eb1, ec1, ed1, er1] at c1 c2 c3 c4 c5 c6 c7 c8 c9 c10 c11
 simp only [ea2, ea3, ec2, ec3] at c1 c12 c13 c14 c15 x1
 clear ea1 ea2 ea3 eb1 eb2 eb3 ec1 ec2 ec3 ed1 ed2 ed3 er1 er2 er3 kA kB kC kD kR hA hB hC hD hR eB eC eR
 obtain ⟨xa, xb, xs, xn, rfl⟩ := hX
 have gtl := ivR_len t
 have gnl := ivR_len (negL t)
 rw [negL_len] at gnl
 rw [htl] at gtl gnl
 have e1 : ((h + 1 : Nat) : Int) = (h : Int) + 1 := by omega
 rw [e1] at c5
 have n1 := fun j (hj : j < h) => neg_i (t.getD j 0) 1 (fits_small ht5 _ (getD_mem (d := 0) om)) om
 show Spec Tryz.prog 9 [_, _, .ag [.sc (.int .u8 k), .sc (.int .i8 ci), .im (bv8 u0) u0.length, .im (bv8 v0) v0.length]] _
 generalize ivR u = U at *
 generalize ivR v = W at *
 refine qF Tryz.func9 Tryz.ntmps9 fun B hB => ?_
 refine qWf (Q2 @wj @ww) ?_
 clear c1 c2 c3 c4 c5 c6 c7 c8 c9 c10 r1 r2 r3 cs
 refine SC.loop (fun i : Nat => ⟨[(7, .sc (.bool true)), (8, .pt 2 0), (9, .pt 3 0), (12, .im W w), (15, .pt 5 0), (17, .pt 6 0), (21, .pt 8 0), (23, .im (ivR t) h), (24, .pt 9 0), (26, .sl 10 0 i 2 none), (27, .sc (.int .i64 i))], [(10, ⟨68, ivR ((negL t).take i), false⟩), (9, ⟨34, [.sc (.int .i64 pr0), .sc (.int .i64 pr1), .im pr2 pr3, .sc (.int .i64 pr4), .sc (.int .i64 pr5), .im pr6 pr7, .sc (.int .i64 pr8), .sc (.int .i64 pr9), .im pr10 pr11, .sc (.int .i64 pr12), .sc (.int .i64 pr13), .im pr14 pr15, .im pr16 pr17], false⟩), (8, ⟨34, [.sc (.int .i64 pc0), .sc (.int .i64 pc1), .im pc2 pc3, .sc (.int .i64 pc4), .sc (.int .i64 pc5), .im pc6 pc7, .sc (.int .i64 pc8), .sc (.int .i64 pc9), .im pc10 pc11, .sc (.int .i64 pc12), .sc (.int .i64 pc13), .im pc14 pc15, .im pc16 pc17], false⟩), (6, ⟨34, [.sc (.int .i64 pc0), .sc (.int .i64 pc1), .im pc2 pc3, .sc (.int .i64 pc4), .sc (.int .i64 pc5), .im pc6 pc7, .sc (.int .i64 pc8), .sc (.int .i64 pc9), .im pc10 pc11, .sc (.int .i64 pc12), .sc (.int .i64 pc13), .im pc14 pc15, .im pc16 pc17], false⟩), (5, ⟨34, [.sc (.int .i64 h), .sc (.int .i64 w), .im pa0 h, .sc (.int .i64 pa1), .sc (.int .i64 pa2), .im pa3 pa4, .sc (.int .i64 pa5), .sc (.int .i64 pa6), .im pa7 pa8, .sc (.int .i64 pa9), .sc (.int .i64 pa10), .im pa11 pa12, .im pa13 pa14], false⟩), (3, ⟨34, [.sc (.int .i64 h), .sc (.int .i64 w), .im pa0 h, .sc (.int .i64 pa1), .sc (.int .i64 pa2), .im pa3 pa4, .sc (.int .i64 pa5), .sc (.int .i64 pa6), .im pa7 pa8, .sc (.int .i64 pa9), .sc (.int .i64 pa10), .im pa11 pa12, .im pa13 pa14], false⟩), (2, ⟨28, [.sc (.int .i64 h), .sc (.int .i64 w), .im pa0 h], false⟩)], 11, 208⟩) (fun i => i ≤ h) (fun i => h - i) 0 ?_ (znc _) ?_
 ·exact qL
 intro i hi K1 hK1
 have gn := ivR_len ((negL t).take i)
 rw [List.length_take, negL_len, htl, Nat.min_eq_left hi] at gn
 by_cases hc : i < h
 ·have q1 := decide_eq_true (p := (i : Int) < (h : Int)) om
  have cn := n1 i hc
  have gd := ivR_drop (l := t) (i := i) om
  have gz : i * 2 < (ivR t).length := by omega
  have eS : ivR ((negL t).take i) ++ ivC (-(t.getD i 0)) = ivR ((negL t).take (i + 1)) := by
   rw [ivR_snoc, List.take_add_one, ← negL_get, List.getD_eq_getElem?_getD, zlb (by rw [negL_len]; omega)]; rfl
  have gnt : (ivR ((negL t).take i)).take (i * 2) = ivR ((negL t).take i) := zla om
  have gcl := ivR_clo ((negL t).take (i + 1))
  have gon := ivR_one ((negL t).take i)
  clear c11 c12 c13 c14 c15 n1
  generalize hZ : ivR ((negL t).take i) = Z at *
  generalize hZ1 : ivR ((negL t).take (i + 1)) = Z1 at *
  generalize (ivR t).drop ((i + 1) * 2) = D1 at *
  generalize ivR t = T at *
  generalize t.getD i 0 = y at *
  unfold iv sv at cn
  unfold ivC sv at gd eS
  simp only [zl8, zl7] at gd
  refine qWf (Q7 @q1 @gd @gz @gtl @gn @gnt @gon) ?_
  refine hK1 _ (i + 1) ?_ om om
  simp only [hZ1]
  rw [← eS] at gcl ⊢
  refine Le.ren 10 12 hB om om om ?_ ?_
  ·exact qN
  ·(repeat' (first | exact mapHp_nil | refine mapHp_cons (qSf @gcl) ?_ ?_ | exact BMap.clo (by first | rfl | assumption | exact wv_clo _ | exact imR_clo _ _ | exact nv_clo _) | refine BMap.list ?_ | exact mapL_nil | refine mapL_cons ?_ ?_ | exact VMap.junk _ | exact VMap.sc _ | exact VMap.clo rfl | exact VMap.sl rfl om | exact VMap.cap rfl om | exact VMap.pt rfl om | exact VMap.nil_sl _ _ _ | exact VMap.int (by first | rfl | omega | (dsimp only; omega))))
 ·have q1 := decide_eq_false (p := (i : Int) < (h : Int)) om
  have hih : i = h := by omega
  subst hih
  have et : (negL t).take i = negL t := zla (by rw [negL_len]; omega)
  have gcl := ivR_clo (negL t)
  rw [et] at gn ⊢
  have gnt : (ivR (negL t)).take (i * 2) = ivR (negL t) := zla om
  generalize ivR (negL t) = T1 at *
  refine qWf (Q4 @q1 @gn @gnt @gcl) ?_
  exact qE Tryz.results9
theorem spec_all (xs : List V) (h : Shp.Vals [.st [.int .u8, .int .u8, .slc (.int .i8)], .int .u8, .st [.int .u8, .int .i8, .slc (.int .i8), .slc (.int .i8)]] xs) : Spec Tryz.prog 9 xs (.sc (.bool true)) := by
 obtain ⟨x0, ys0, rfl, h0, x1, ys1, rfl, h1, x2, ys2, rfl, h2, rfl⟩ := h
 obtain ⟨a, b, l, rfl, ha, hb, hx, hl⟩ := raw5_val h0
 obtain ⟨i, rfl, hi⟩ := h1
 obtain ⟨m, rfl, hm⟩ := wf_nat u8_wf hi
 obtain ⟨y, rfl, hy⟩ := chg_val h2
 exact lureverses_s (Nat.mod_lt _ om) (Nat.mod_lt _ om) (filL_bm hx) ⟨_, _, _, _, rfl⟩ om hy (rmade_s ha hb hx hl)
theorem own : ownKnob Tryz.prog.godebug = none := by kernel_rfl
theorem laidOut : laidOutB Tryz.prog = true := by kernel_rfl
set_option maxRecDepth 100000 in
theorem law_lifted (os : Os) (started : os.Started) (H : Type) (enc : TypeId × Value → H) :
  ReturnsInHanded {} Tryz.checked os 9 .any (Rows.updateReversesSpec.pre6 enc Tryz.prog Tryz.f9 Rows.updateReversesRow.domain false) (Rows.updateReversesSpec.post enc Tryz.prog Tryz.f9 false true false false) := by
 refine returnsInHanded_of_change (C := Tryz.checked) own started (by kernel_rfl) Tryz.func9
  (ChangeSpec.witness6 (enc := enc) (C := Tryz.checked) false ⟨#[], #[.agg #[.int .u8 0, .int .u8 0, .slice none 0 0], .int .u8 0, .agg #[.int .u8 0, .int .i8 0, .slice none 0 0, .slice none 0 0]], []⟩ 8 (by kernel_rfl) (by kernel_rfl) (by kernel_rfl) (by kernel_rfl)) ?_
 intro W base args ds gs before hval0 hW hcnd _
 have hW' := hW
 obtain ⟨p, q, hA0, hV, rfl, hfz, hnd⟩ := hW
 obtain ⟨hl, hc⟩ := law_calls (enc := enc) [.st [.int .u8, .int .u8, .slc (.int .i8)], .int .u8, .st [.int .u8, .int .i8, .slc (.int .i8), .slc (.int .i8)]] (by kernel_rfl) hval0 hA0 (fun g cs h => by cases h) spec_all
 refine hc.mono fun e W' ⟨he, hb⟩ => ?_
 subst he
 rw [show Tryz.f9.params.size = 3 by kernel_rfl] at hl
 obtain ⟨d0, d1, d2, rfl⟩ : ∃ d0 d1 d2, ds = [d0, d1, d2] := by
  match ds, hl with
  | [a0, a1, a2], _ => exact ⟨a0, a1, a2, rfl⟩
 exact ⟨_, rfl, law_post laidOut (by kernel_rfl) (by kernel_rfl) Tryz.underlying4 rfl rfl hW' hb⟩
theorem law_holds : Rows.UpdateReversesSaid :=
 OpenClaim.holds_of_wide 9 Tryz.f9 rfl rfl rfl rfl rfl rfl rfl ⟨rfl, rfl, rfl, rfl, rfl⟩ rfl rfl rfl rfl rfl (by kernel_rfl) Tryz.func9 (by kernel_rfl)
  (of_decide_eq_true (by kernel_rfl)) (by unfold Func.isWrapper; first | (rw [if_pos (by decide +kernel)]; kernel_rfl) | (rw [if_neg (by decide +kernel)]; exact ⟨rfl, rfl⟩))
  (fun os started H enc _ => law_lifted os started H enc)
#print axioms law_holds
end Go.Proofs.YtannldafjkjjbaaGreat
