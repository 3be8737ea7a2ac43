/- 'ComplexMatchesReference' returns true for every input, and each argument reads afterwards as it read before. No conditions. -/
import Derived.Test.YtdkkgndibagihaaRows
import Derived.Test.YtdkkgndibagihaaVm
set_option linter.all false
open Nat renaming reduceEqDiff → zn1, reduceLT → zn2, reduceLeDiff → zn3, reduceAdd → zn4, reduceMul → zn5, reduceSub → zn6, reduceBEq → zn7, mul_one → zn8, zero_add → zn9, one_mul → zna, le_refl → znb, zero_le → znc, add_sub_cancel_left → znd, sub_eq_zero_of_le → zne, add_assoc → znf
open Int renaming reduceToNat → zi1, reducePow → zi2
open List renaming length_append → zl1, drop_zero → zl2, take_succ_cons → zl3, take_zero → zl4, getElem?_drop → zl5, append_assoc → zl6, nil_append → zl7, cons_append → zl8, drop_succ_cons → zl9, take_of_length_le → zla, getElem?_eq_getElem → zlb, getElem?_eq_some_iff → zlc, map_cons → zld, map_nil → zle, all_eq_true → zlf

namespace Go.Proofs.Ytdkkgndibagihaa
open Go.ChangeShapes Go.WideShapes Go.ChangeAt Go.RowKit
theorem cbM_mi2 {C : List Cx} {K : Nat} (hC : CxOk K C) (hV : VAL C) (k k' : Int) : MI (idsL C k).length (idsL C k').length K (cbM C k k') where
 len := by unfold cbM; rw [List.length_map]
 row := fun r hr => by
  obtain ⟨id, hid, rfl⟩ := List.mem_map.1 hr
  obtain ⟨x, hx, hd, rfl⟩ := idsL_mem hid
  refine ⟨rowL_len _ _, fun z hz => ?_⟩
  obtain ⟨m, _, rfl⟩ := List.mem_map.1 hz
  have hb : bOf C x.id = x.b := by unfold bOf; rw [hV.find hx]; rfl
  rw [hb]
  exact cfn_fits (hV.faces x hx).vg (hC.all x hx).cf m
set_option maxHeartbeats 16000000 in
set_option maxRecDepth 8000 in
theorem lmatch_s {C : List Cx} {k id : Int} {xs : List V} {xn : Nat} (hG : Good C) (hl : C.length ≤ 12) (hk : I64 k) (hid : I64 id) (cm : Spec Try.prog 12 [.im xs xn] (cxV C)) :
  Spec Try.prog 3 [.im xs xn, .sc (.int .i64 k), .sc (.int .i64 id)] (.sc (.bool true)) := by
 have hC := hG.ok
 have hV := hG.val
 have cs := sanity_s
 have hCl := hC.len
 unfold cxV at cm
 refine qF Try.func3 Try.ntmps3 fun B hB => ?_
 refine qW ?_
 obtain ⟨k2, hk2⟩ : ∃ k2, k2 = k % 256 % 6 := ⟨_, rfl⟩
 rw [← hk2]
 have dim : ∀ d : Int, ∃ d' : Int, IntKind.i64.wrap (d - 1) = d' := fun d => ⟨_, rfl⟩
 refine SC.loop (fun j : Nat => ⟨[(2, .sc (.int .i64 id)), (7, .sc (.bool true)), (8, .im (cxs C) C.length), (9, .pt 0 0), (10, .sc (.int .i64 (j : Nat)))], [(0, ⟨27, [.sc (.int .i64 k), .sc (.int .i64 k2)], false⟩)], 1, 127⟩) (fun j => j ≤ 2) (fun j => 2 - j) 0 ?_ ?_ ?_
 ·exact qLc
 ·exact znc _
 rintro j hj K0 hK0
 have round : ∀ d : Int, ∃ n n' M, Spec Try.prog 14 [.im (cxs C) C.length, .sc (.int .i64 d)] (.im (nsC (idsL C d)) n) ∧ Spec Try.prog 15 [.im (cxs C) C.length, .sc (.int .i64 d)] (.im (nsC (idsL C d)) n) ∧
   Spec Try.prog 13 [.im (nsC (idsL C d)) n, .im (nsC (idsL C d)) n] (.sc (.bool true)) ∧
   Spec Try.prog 17 [.im (cxs C) C.length, .sc (.int .i64 d)] (.ag [.sc (.int .i64 (n : Nat)), .sc (.int .i64 (n' : Nat)), .im M n]) ∧ Spec Try.prog 18 [.im (cxs C) C.length, .sc (.int .i64 d)] (.ag [.sc (.int .i64 (n : Nat)), .sc (.int .i64 (n' : Nat)), .im M n]) ∧
   Spec Try.prog 16 [.ag [.sc (.int .i64 (n : Nat)), .sc (.int .i64 (n' : Nat)), .im M n], .ag [.sc (.int .i64 (n : Nat)), .sc (.int .i64 (n' : Nat)), .im M n]] (.sc (.bool true)) := by
  intro d
  obtain ⟨d', hd'⟩ := dim d
  have m := cbM_mi2 hC hV d d'
  have l0 := idsL_len C d
  have l1 := idsL_len C d'
  have e := m.len
  have c1 := cells_s (k := d) hCl
  have c2 := rcells_s (k := d) hCl
  have c3 := ints_s (l := idsL C d) (by omega)
  have c4 := boundary_s hC hV hd'
  have c5 := rboundary_s hC (fun y hy => (hV.faces y hy).vg) hd'
  have c6 := isame_s m (by omega) (by omega) (by omega)
  unfold mat at c4 c5 c6
  rw [e] at c4 c5 c6
  exact ⟨_, _, _, c1, c2, c3, c4, c5, c6⟩
 by_cases hc : j < 2
 ·have q1 : decide ((j : Int) < 2) = true := decide_eq_true (by omega)
  rcases (by omega : j = 0 ∨ j = 1) with rfl | rfl
  ·obtain ⟨n, n', M, c1, c2, c3, c4, c5, c6⟩ := round k
   refine qW ?_
   refine hK0 _ 1 ?_ (by omega) (by omega)
   exact qLc
  ·obtain ⟨n, n', M, c1, c2, c3, c4, c5, c6⟩ := round k2
   refine qW ?_
   refine hK0 _ 2 ?_ (by omega) (by omega)
   exact qLc
 have hj2 : j = 2 := by omega
 subst hj2
 clear hK0 round dim hk2
 refine qW ?_
 obtain ⟨i2, hi2⟩ : ∃ i2, i2 = id % 256 % 32 - 2 := ⟨_, rfl⟩
 rw [← hi2]
 refine SC.loop (fun j : Nat => ⟨[(7, .sc (.bool true)), (8, .im (cxs C) C.length), (11, .pt 1 0), (12, .sc (.int .i64 (j : Nat)))], [(1, ⟨27, [.sc (.int .i64 id), .sc (.int .i64 i2)], false⟩)], 2, 127⟩) (fun j => j ≤ 2) (fun j => 2 - j) 0 ?_ ?_ ?_
 ·exact qLc
 ·exact znc _
 rintro j hj K0 hK0
 have round : ∀ d : Int, ∃ y1 y2 B b, ∃ n : Nat, Spec Try.prog 19 [.im (cxs C) C.length, .sc (.int .i64 d)] (.tu [.ag [.sc (.int .i64 y1), .sc (.int .i64 y2), .im (fcs B) n], .sc (.bool b)]) ∧
   Spec Try.prog 20 [.im (cxs C) C.length, .sc (.int .i64 d)] (.tu [.ag [.sc (.int .i64 y1), .sc (.int .i64 y2), .im (fcs B) n], .sc (.bool b)]) ∧
   Spec Try.prog 21 [.im (fcs B) n, .im (fcs B) n] (.sc (.bool true)) := by
  intro d
  have c1 := cfind_s (id := d) hV.srt hCl
  have c2 := rcfind_s (id := d) hCl
  have hp : PlainCh 50000000001 ((findL C d).getD cx0).b := by
   cases h : findL C d with
   | none => exact ⟨znc _, fun f hf => by cases hf⟩
   | some y => exact plain_of hC hV y (findL_mem h).1
  have c3 := rsamechain_s hp (by omega)
  exact ⟨_, _, _, _, _, c1, c2, c3⟩
 by_cases hc : j < 2
 ·have q1 : decide ((j : Int) < 2) = true := decide_eq_true (by omega)
  rcases (by omega : j = 0 ∨ j = 1) with rfl | rfl
  ·obtain ⟨y1, y2, B', b, n, c1, c2, c3⟩ := round id
   refine qW ?_
   refine hK0 _ 1 ?_ (by omega) (by omega)
   exact qLc
  ·obtain ⟨y1, y2, B', b, n, c1, c2, c3⟩ := round i2
   refine qW ?_
   refine hK0 _ 2 ?_ (by omega) (by omega)
   exact qLc
 have hj2 : j = 2 := by omega
 subst hj2
 clear hK0 round hi2
 have c1 := euler_s hCl
 have c2 := reuler_s hCl
 have c3 := top_s hCl
 have c4 := rtop25_s hCl
 have c5 := pvalid_t hC hV (by omega)
 unfold cxV at c1 c2 c3 c4 c5
 refine qW ?_
 exact qE Try.results3
theorem spec_all (xs : List V) (h : Shp.Vals [.slc (.st [.int .u8, .int .u8, .slc (.int .i8)]), .int .i64, .int .i64] xs) : Spec Try.prog 3 xs (.sc (.bool true)) := by
 obtain ⟨x0, ys0, rfl, h0, x1, ys1, rfl, ⟨n, rfl, hn⟩, x2, ys2, rfl, ⟨m, rfl, hm⟩, rfl⟩ := h
 obtain ⟨l, rfl, hl, hx⟩ := rws_val h0
 obtain ⟨C, cm, hG, hC⟩ := lmade_ex hl hx
 exact lmatch_s hG hC (i64w n hn) (i64w m hm) cm
theorem own : ownKnob Try.prog.godebug = none := by kernel_rfl
theorem laidOut : laidOutB Try.prog = true := by kernel_rfl
set_option maxRecDepth 100000 in
theorem law_lifted (os : Os) (started : os.Started) (H : Type) (enc : TypeId × Value → H) :
  ReturnsInHanded {} Try.checked os 3 .any (Rows.complexMatchesReferenceSpec.pre6 enc Try.prog Try.f3 Rows.complexMatchesReferenceRow.domain false) (Rows.complexMatchesReferenceSpec.post enc Try.prog Try.f3 false true false false) := by
 refine returnsInHanded_of_change (C := Try.checked) own started (by kernel_rfl) Try.func3
  (ChangeSpec.witness6 (enc := enc) (C := Try.checked) false ⟨#[], #[.slice none 0 0, .int .i64 0, .int .i64 0], []⟩ 8 (by kernel_rfl) (by kernel_rfl) (by kernel_rfl) (by kernel_rfl)) ?_
 intro W base args ds gs before hval0 hW hcnd _
 have hW' := hW
 obtain ⟨p, q, hA0, hV, rfl, hfz, hnd⟩ := hW
 obtain ⟨hl, hc⟩ := law_calls (enc := enc) [.slc (.st [.int .u8, .int .u8, .slc (.int .i8)]), .int .i64, .int .i64] (by kernel_rfl) hval0 hA0 (fun g cs h => by cases h) spec_all
 refine hc.mono fun e W' ⟨he, hb⟩ => ?_
 subst he
 rw [show Try.f3.params.size = 3 by kernel_rfl] at hl
 obtain ⟨d0, d1, d2, rfl⟩ : ∃ d0 d1 d2, ds = [d0, d1, d2] := by
  match ds, hl with
  | [a0, a1, a2], _ => exact ⟨a0, a1, a2, rfl⟩
 exact ⟨_, rfl, law_post laidOut (by kernel_rfl) (by kernel_rfl) Try.underlying4 rfl rfl hW' hb⟩
theorem law_holds : Rows.ComplexMatchesReferenceSaid :=
 OpenClaim.holds_of_wide 3 Try.f3 rfl rfl rfl rfl rfl rfl rfl ⟨rfl, rfl, rfl, rfl, rfl⟩ rfl rfl rfl rfl rfl (by kernel_rfl) Try.func3 (by kernel_rfl)
  (of_decide_eq_true (by kernel_rfl)) (by unfold Func.isWrapper; first | (rw [if_pos (by decide +kernel)]; kernel_rfl) | (rw [if_neg (by decide +kernel)]; exact ⟨rfl, rfl⟩))
  (fun os started H enc _ => law_lifted os started H enc)
#print axioms law_holds
end Go.Proofs.Ytdkkgndibagihaa
