/- 'UpdateReplays' returns true for every input, and each argument reads afterwards as it read before. No conditions. -/
import Derived.Test.YtannldafjkjjbaaGreatRows
import Derived.Test.YtannldafjkjjbaaGreatVn
set_option linter.all false
set_option maxHeartbeats 16000000
open Nat renaming reduceEqDiff → zn1, reduceLT → zn2, reduceLeDiff → zn3, reduceAdd → zn4, reduceMul → zn5, reduceSub → zn6, reduceBEq → zn7, mul_one → zn8, zero_add → zn9, one_mul → zna, le_refl → znb, zero_le → znc, add_sub_cancel_left → znd, sub_eq_zero_of_le → zne, add_assoc → znf
open Int renaming reduceToNat → zi1, reducePow → zi2
open List renaming length_append → zl1, drop_zero → zl2, take_succ_cons → zl3, take_zero → zl4, getElem?_drop → zl5, append_assoc → zl6, nil_append → zl7, cons_append → zl8, drop_succ_cons → zl9, take_of_length_le → zla, getElem?_eq_getElem → zlb, getElem?_eq_some_iff → zlc, map_cons → zld, map_nil → zle, all_eq_true → zlf

namespace Go.Proofs.YtannldafjkjjbaaGreat
open Go.ChangeShapes Go.WideShapes Go.ChangeAt Go.RowKit
theorem kept_op4 {h w : Nat} {A : List (List Int)} {l : List OpL} (hk : Kp h w KR A l) : ∃ X1 X2 v5 v6 X3 n3 v7 v8 X4 n4, keptS h w A l = .ag [.sc (.int .i64 h), .sc (.int .i64 w), .im X1 h, .sc (.int .i64 h), .sc (.int .i64 w), .im X2 h, .sc (.int .i64 v5), .sc (.int .i64 v6), .im X3 n3, .sc (.int .i64 v7), .sc (.int .i64 v8), .im X4 n4, .im (opsC l) l.length] ∧ mat w A = .ag [.sc (.int .i64 h), .sc (.int .i64 w), .im X1 h] ∧ mat w (actsO A l) = .ag [.sc (.int .i64 h), .sc (.int .i64 w), .im X2 h] := by
 refine ⟨_, _, _, _, _, _, _, _, _, _, rfl, ?_, ?_⟩
 ·unfold mat; rw [hk.mA.len]
 ·unfold mat; rw [hk.mH.len]
set_option maxRecDepth 20000 in
theorem lureplays_s {a b : Nat} {v : List Int} {L : List Chg} (ha : a < 256) (hb : b < 256) (hv : ∀ x ∈ v, -128 ≤ x ∧ x ≤ 127) (hvl : v.length ≤ 9223372036854775807) (hL : ∀ x ∈ L, ChOk x) (hll : L.length ≤ 9223372036854775807) :
  Spec Tryz.prog 10 [.ag [.sc (.int .u8 a), .sc (.int .u8 b), .im (bv8 v) v.length], .im (chs L) L.length] (.sc (.bool true)) := by
 have cs := sanity_s
 have hkr := kr_le
 have x1 := rmade_s (a := a % 4) (b := b % 4) om om hv hvl
 have qa : (a : Int) % 4 = ((a % 4 : Nat) : Int) := by omega
 have qb : (b : Int) % 4 = ((b % 4 : Nat) : Int) := by omega
 have hA : Bm 9 (a % 4 % 5) (b % 4 % 5) (filL (a % 4 % 5) (b % 4 % 5) v) := filL_bm hv
 have hh : a % 4 % 5 ≤ 3 ∧ b % 4 % 5 ≤ 3 := by omega
 generalize filL (a % 4 % 5) (b % 4 % 5) v = A at *
 generalize a % 4 % 5 = h at *
 generalize b % 4 % 5 = w at *
 obtain ⟨l, hk⟩ := kp_ex hA om om
 have c1 := start_ok hk om
 have gcl := chs_len L
 obtain ⟨v0, v1, v2, v3, v4, v5, v6, v7, v8, v9, v10, v11, v12, v13, v14, v15, v16, v17, e1⟩ := kept_op h w A l
 obtain ⟨u1, u2, u3, u4, e2⟩ := mat_op w A
 rw [e1, e2] at c1
 rw [e2] at x1
 generalize a % 4 = a4 at *
 generalize b % 4 = b4 at *
 refine qF Tryz.func10 Tryz.ntmps10 fun B hB => ?_
 refine qWf (Q2 @qa @qb) ?_
 refine SC.loop (fun x : Nat × Nat × Nat × List (List Int) × List OpL => ⟨[(1, .im (chs L) L.length), (5, .sc (.bool true)), (6, .pt 1 0), (7, .pt 2 0), (8, .sc (.int .i64 x.1))], [(2, ⟨34, kC (keptS x.2.1 x.2.2.1 x.2.2.2.1 x.2.2.2.2), false⟩), (1, ⟨28, kC (mat x.2.2.1 x.2.2.2.1), false⟩)], 3, 143⟩)
  (fun x => x.1 ≤ 4 ∧ Kp x.2.1 x.2.2.1 KR x.2.2.2.1 x.2.2.2.2 ∧ Bm (9 + 81 * x.1) x.2.1 x.2.2.1 x.2.2.2.1 ∧ x.2.1 ≤ 3 + x.1 ∧ x.2.2.1 ≤ 3 + x.1 ∧ x.2.1 + x.2.2.1 ≤ 6 + x.1) (fun x => 4 - x.1) (0, h, w, A, l) ?_ ⟨by omega, hk, hA, by simp only; omega, by simp only; omega, by simp only; omega⟩ ?_
 ·simp only [e1, e2, kC]
  exact qL
 clear x1 c1 e1 e2 hk hA
 rintro ⟨i, h, w, A, l⟩ ⟨hi, hk, hA, b1, b2, b3⟩ K1 hK1
 simp only at hi hk hA b1 b2 b3 ⊢
 by_cases hc : i < L.length ∧ i < 4
 ·have q1 := decide_eq_true (p := (i : Int) < (L.length : Int)) om
  have q2 := decide_eq_true (p := (i : Int) < 4) om
  have gd := chs_drop (l := L) (i := i) hc.1
  have g2 : i * 4 < (chs L).length := by omega
  have g3 : i * 4 + 4 ≤ (chs L).length := by omega
  have hQ := change_ex hA om hk om om (hL _ (getD_mem (d := ch0) hc.1))
  obtain ⟨v0, v1, v2, v3, v4, v5, v6, v7, v8, v9, v10, v11, v12, v13, v14, v15, v16, v17, e1⟩ := kept_op h w A l
  obtain ⟨u1, u2, u3, u4, e2⟩ := mat_op w A
  generalize L.getD i ch0 = x at *
  generalize (chs L).drop ((i + 1) * 4) = D at *
  generalize hCC : chs L = CC at *
  unfold chC at gd
  simp only [zl8, zl7] at gd
  rcases hQ with ⟨h1, w1, A1, l1, p1, p2, p3, hk1, hBm, d1, d2⟩ | ⟨d1, d2⟩
  ·have c3 := isized_s hk1.mA om om om
   obtain ⟨y0, y1, y2, y3, y4, y5, y6, y7, y8, y9, y10, y11, y12, y13, y14, e3, e4, _⟩ := kept_op2 hk1
   simp only [e1, e2, e3, e4] at d1 d2 c3
   simp only [e1, e2, kC]
   unfold chC at d1 d2
   refine qWf (Q5 @q1 @q2 @gd @g2 @g3) ?_
   refine hK1 _ (i + 1, h1, w1, A1, l1) ?_ ⟨by simp only; omega, hk1, hBm.mono (by simp only; omega), by simp only; omega, by simp only; omega, by simp only; omega⟩ (by simp only; omega)
   simp only [e3, e4, kC]
   exact qL
  ·simp only [e1, e2, keptZ_eq, matZ_eq] at d1 d2
   simp only [e1, e2, kC]
   unfold chC at d1 d2
   refine qWf (Q5 @q1 @q2 @gd @g2 @g3) ?_
   refine hK1 _ (i + 1, h, w, A, l) ?_ ⟨by simp only; omega, hk, hA.mono (by simp only; omega), by simp only; omega, by simp only; omega, by simp only; omega⟩ (by simp only; omega)
   simp only [e1, e2, kC]
   exact qL
 ·have c3 := iValid_s hk.mH om om om
  have c4 := lvalid_s hk.red.ok hk.red.len
  have c5 := lapply_s hk.mA hk.red.ok (fun i _ => hk.hA i) om hk.red.len om om
  have c6 := linv_s hk.red.ok hk.red.len
  have hil := invL_len l
  have c7 := lapply_s (l := invL l) hk.mH (fun o ho => invL_ok hk.red.ok o ho) (fun i _ => hk.hH i) om (by rw [hil]; exact hk.red.len) om om
  rw [hil, hk.back] at c7
  have c8 := isame_s hk.mH om om om
  have c9 := isame_s hk.mA om om om
  have c10 := lis_s hk.mH om om om
  have hF : isF (actsO A l) w h 0 (-1) = true := by
   have := hk.chk
   unfold chkF at this
   rw [Bool.and_eq_true] at this
   exact this.1
  rw [hF] at c10
  obtain ⟨y0, y1, y2, y3, y4, y5, y6, y7, y8, y9, e3, e4, e5⟩ := kept_op4 hk
  simp only [e4, e5] at c3 c5 c7 c8 c9 c10
  simp only [e3, e4, kC]
  clear e3 e4 e5 hF hk hA hK1 hL
  generalize opsC l = lo at *
  generalize opsC (invL l) = li at *
  generalize l.length = n at *
  by_cases hc1 : i < L.length
  ·have q1 := decide_eq_true (p := (i : Int) < (L.length : Int)) om
   have q2 := decide_eq_false (p := (i : Int) < 4) om
   refine qWf (Q2 @q1 @q2) ?_
   exact qE Tryz.results10
  ·have q1 := decide_eq_false (p := (i : Int) < (L.length : Int)) om
   refine qWf @q1 ?_
   exact qE Tryz.results10
theorem spec_all (xs : List V) (h : Shp.Vals [.st [.int .u8, .int .u8, .slc (.int .i8)], .slc (.st [.int .u8, .int .i8, .slc (.int .i8), .slc (.int .i8)])] xs) : Spec Tryz.prog 10 xs (.sc (.bool true)) := by
 obtain ⟨x0, ys0, rfl, h0, x1, ys1, rfl, h1, rfl⟩ := h
 obtain ⟨a, b, l, rfl, ha, hb, hx, hl⟩ := raw5_val h0
 obtain ⟨L, rfl, hL, hc⟩ := chgs_val h1
 exact lureplays_s ha hb hx hl hc hL
theorem own : ownKnob Tryz.prog.godebug = none := by kernel_rfl
theorem laidOut : laidOutB Tryz.prog = true := by kernel_rfl
set_option maxRecDepth 100000 in
theorem law_lifted (os : Os) (started : os.Started) (H : Type) (enc : TypeId × Value → H) :
  ReturnsInHanded {} Tryz.checked os 10 .any (Rows.updateReplaysSpec.pre6 enc Tryz.prog Tryz.f10 Rows.updateReplaysRow.domain false) (Rows.updateReplaysSpec.post enc Tryz.prog Tryz.f10 false true false false) := by
 refine returnsInHanded_of_change (C := Tryz.checked) own started (by kernel_rfl) Tryz.func10
  (ChangeSpec.witness6 (enc := enc) (C := Tryz.checked) false ⟨#[], #[.agg #[.int .u8 0, .int .u8 0, .slice none 0 0], .slice none 0 0], []⟩ 8 (by kernel_rfl) (by kernel_rfl) (by kernel_rfl) (by kernel_rfl)) ?_
 intro W base args ds gs before hval0 hW hcnd _
 have hW' := hW
 obtain ⟨p, q, hA0, hV, rfl, hfz, hnd⟩ := hW
 obtain ⟨hl, hc⟩ := law_calls (enc := enc) [.st [.int .u8, .int .u8, .slc (.int .i8)], .slc (.st [.int .u8, .int .i8, .slc (.int .i8), .slc (.int .i8)])] (by kernel_rfl) hval0 hA0 (fun g cs h => by cases h) spec_all
 refine hc.mono fun e W' ⟨he, hb⟩ => ?_
 subst he
 rw [show Tryz.f10.params.size = 2 by kernel_rfl] at hl
 obtain ⟨d0, d1, rfl⟩ : ∃ d0 d1, ds = [d0, d1] := by
  match ds, hl with
  | [a0, a1], _ => exact ⟨a0, a1, rfl⟩
 exact ⟨_, rfl, law_post laidOut (by kernel_rfl) (by kernel_rfl) Tryz.underlying4 rfl rfl hW' hb⟩
theorem law_holds : Rows.UpdateReplaysSaid :=
 OpenClaim.holds_of_wide 10 Tryz.f10 rfl rfl rfl rfl rfl rfl rfl ⟨rfl, rfl, rfl, rfl, rfl⟩ rfl rfl rfl rfl rfl (by kernel_rfl) Tryz.func10 (by kernel_rfl)
  (of_decide_eq_true (by kernel_rfl)) (by unfold Func.isWrapper; first | (rw [if_pos (by decide +kernel)]; kernel_rfl) | (rw [if_neg (by decide +kernel)]; exact ⟨rfl, rfl⟩))
  (fun os started H enc _ => law_lifted os started H enc)
#print axioms law_holds
end Go.Proofs.YtannldafjkjjbaaGreat
