/- Texts joined: Ba Bf At Bg Gl Op Bh Bj Bk Bl Bm. -/
import Derived.WalkKit
import Derived.ProofKit
import Derived.OpenShut
import Derived.Carry
import Derived.Test.YtdkkgndibagihaaVb
import Derived.Test.YtdkkgndibagihaaVe
import Derived.Test.YtdkkgndibagihaaVi
import Derived.Test.YtdkkgndibagihaaVl
set_option linter.all false
open Nat renaming reduceEqDiff → zn1, reduceLT → zn2, reduceLeDiff → zn3, reduceAdd → zn4, reduceMul → zn5, reduceSub → zn6, reduceBEq → zn7, mul_one → zn8, zero_add → zn9, one_mul → zna, le_refl → znb, zero_le → znc, add_sub_cancel_left → znd, sub_eq_zero_of_le → zne, add_assoc → znf
open Int renaming reduceToNat → zi1, reducePow → zi2
open List renaming length_append → zl1, drop_zero → zl2, take_succ_cons → zl3, take_zero → zl4, getElem?_drop → zl5, append_assoc → zl6, nil_append → zl7, cons_append → zl8, drop_succ_cons → zl9, take_of_length_le → zla, getElem?_eq_getElem → zlb, getElem?_eq_some_iff → zlc, map_cons → zld, map_nil → zle, all_eq_true → zlf
namespace Go.Proofs.Ytdkkgndibagihaa
theorem lbn_found {C : List Cx} {id : Int} (hs : Srt C) {y : Cx} (h : findL C id = some y) : lbn C id < C.length ∧ C.getD (lbn C id) cx0 = y ∧ y.id = id := by
 have e := find_lbn (C := C) (id := id) hs
 rw [h] at e
 by_cases hc : lbn C id < C.length ∧ (C.getD (lbn C id) cx0).id = id
 ·rw [if_pos hc] at e
  cases e
  exact ⟨hc.1, rfl, hc.2⟩
 ·rw [if_neg hc] at e; cases e
theorem rem_idx {C : List Cx} {id : Int} (hs : Srt C) {y : Cx} (h : findL C id = some y) : remL C id = C.take (lbn C id) ++ C.drop (lbn C id + 1) := by
 obtain ⟨h1, h2, h3⟩ := lbn_found hs h
 have eC : C = C.take (lbn C id) ++ y :: C.drop (lbn C id + 1) := by
  conv => lhs; rw [← List.take_append_drop (lbn C id) C]
  congr 1
  rw [List.drop_eq_getElem_cons h1]
  rw [List.getD_eq_getElem?_getD, zlb h1] at h2
  exact congrArg (· :: _) h2
 generalize hk : lbn C id = k at *
 have ht : (C.take k).filter (fun z => decide (z.id ≠ id)) = C.take k := List.filter_eq_self.2 fun z hz => decide_eq_true (by
  obtain ⟨i, hi, e⟩ := mem_idx hz
  rw [List.length_take] at hi
  have e2 : C.getD i cx0 = z := by
   rw [← e, List.getD_eq_getElem?_getD, List.getD_eq_getElem?_getD, List.getElem?_take, if_pos (by omega)]
  have := lbn_lt (C := C) (id := id) (i := i) (by omega)
  rw [e2] at this
  omega)
 have hd : (C.drop (k + 1)).filter (fun z => decide (z.id ≠ id)) = C.drop (k + 1) := List.filter_eq_self.2 fun z hz => decide_eq_true (by
  obtain ⟨i, hi, e⟩ := mem_idx hz
  rw [List.length_drop] at hi
  have e2 : C.getD (k + 1 + i) cx0 = z := by
   rw [← e, List.getD_eq_getElem?_getD, List.getD_eq_getElem?_getD, zl5]
  have := hs k (k + 1 + i) (by omega) (by omega)
  rw [e2, h2, h3] at this
  omega)
 have : remL C id = (C.take k ++ y :: C.drop (k + 1)).filter (fun z => decide (z.id ≠ id)) := by unfold remL; rw [← eC]
 rw [this, List.filter_append, List.filter_cons_of_neg (by simp [h3]), ht, hd]
end Go.Proofs.Ytdkkgndibagihaa
namespace Go.Proofs.Ytdkkgndibagihaa
open Go.RowKit
set_option maxHeartbeats 8000000 in
set_option maxRecDepth 8000 in
theorem remove_s {C : List Cx} {K : Nat} {id : Int} (hs : Srt C) (hC : CxOk K C) : Spec Try.prog 33 [cxV C, .sc (.int .i64 id)] (remV C id) := by
 have hCl := hC.len
 have c1 := place_s (id := id) hs hCl
 have gl := cxs_len C
 have ef : decide (lbn C id < C.length ∧ (C.getD (lbn C id) cx0).id = id) = (findL C id).isSome := by
  rw [find_lbn hs]
  by_cases h : lbn C id < C.length ∧ (C.getD (lbn C id) cx0).id = id
  ·rw [decide_eq_true h, if_pos h]; rfl
  ·rw [decide_eq_false h, if_neg h]; rfl
 rw [ef] at c1
 have hE : (remE C id = 250 ∧ (findL C id).isSome = false) ∨ (findL C id).isSome = true ∧ ((remE C id = 253 ∧ usesL C id = true) ∨ (remE C id = 0 ∧ usesL C id = false)) := by
  unfold remE
  cases (findL C id).isSome with
  | false => exact .inl ⟨rfl, rfl⟩
  | true => refine .inr ⟨rfl, ?_⟩; cases usesL C id <;> simp
 have hrem : (findL C id).isSome = true → remL C id = delAt C (lbn C id) ∧ lbn C id < C.length := fun h => by
  obtain ⟨y, hy⟩ := Option.isSome_iff_exists.1 h
  exact ⟨rem_idx hs hy, (lbn_found hs hy).1⟩
 unfold remV
 rcases hE with ⟨e1, e2⟩ | ⟨e2, hE⟩
 ·rw [e1, if_neg (by omega)]
  rw [e2] at c1
  generalize lbn C id = at_ at c1
  unfold cxV at *
  refine qF Try.func33 Try.ntmps33 fun B hB => ?_
  refine qW ?_
  exact qE Try.results33
 obtain ⟨h1, h2⟩ := hrem e2
 clear hrem
 rw [e2] at c1
 have c5 := fun nx => clonecx_s (C := C) nx hCl
 have c6 := delete_w hCl h2
 rw [h1]
 have hlen : (delAt C (lbn C id)).length = C.length - 1 := by unfold delAt; simp; omega
 have gL := cxs_len (delAt C (lbn C id))
 have hcC := cxs_clo (delAt C (lbn C id))
 rw [hlen] at gL
 unfold DelQ at c6
 generalize delAt C (lbn C id) = L at *
 clear h1 ef
 generalize lbn C id = at_ at *
 generalize hie : remE C id = ie at *
 clear hie e2
 unfold cxV at *
 refine qF Try.func33 Try.ntmps33 fun B hB => ?_
 refine qW ?_
 refine SC.loop (fun i : Nat => ⟨[(0, .im (cxs C) C.length), (1, .sc (.int .i64 id)), (6, .sc (.int .i64 (at_ : Nat))), (20, .im (cxs C) C.length), (21, .sc (.int .i64 (C.length : Nat))), (22, .sc (.int .i64 (i : Nat)))], [], 0, 45⟩) (fun i => i ≤ C.length ∧ usesL (C.take i) id = false) (fun i => C.length - i) 0 ?_ ?_ ?_
 ·exact qLc
 ·exact ⟨znc _, rfl⟩
 rintro i ⟨hi, hI⟩ K0 hK0
 by_cases hc : i < C.length
 ·have q1 : decide ((i : Int) < (C.length : Int)) = true := decide_eq_true (by omega)
  have gd := cxs_drop hc
  have hx := (hC.get hc).len
  have hT := usesL_take hc id
  have hM := usesL_mem (id := id) hc
  generalize C.getD i cx0 = x at *
  obtain ⟨xi, xd, xb⟩ := x
  have g2 : i * 3 < (cxs C).length := by omega
  have glb := fcs_len xb
  unfold cxC at gd
  simp only [zl8, zl7] at gd hT hM hx
  refine qWf (Q5 @q1 @gd @gl @g2 @glb) ?_
  refine SC.loop (fun j : Nat => ⟨[(0, .im (cxs C) C.length), (1, .sc (.int .i64 id)), (6, .sc (.int .i64 (at_ : Nat))), (20, .im (cxs C) C.length), (21, .sc (.int .i64 (C.length : Nat))), (22, .sc (.int .i64 (i : Nat))), (27, .im (fcs xb) xb.length), (28, .sc (.int .i64 (xb.length : Nat))), (29, .sc (.int .i64 (j : Nat)))], [], 0, 45⟩) (fun j => j ≤ xb.length ∧ useF (xb.take j) id = false) (fun j => xb.length - j) 0 ?_ ?_ ?_
  ·exact qLc
  ·exact ⟨znc _, rfl⟩
  rintro j ⟨hj, hJ⟩ K1 hK1
  by_cases hc2 : j < xb.length
  ·have q2 : decide ((j : Int) < (xb.length : Int)) = true := decide_eq_true (by omega)
   have gf := fcs_drop hc2
   have hT2 := useF_take hc2 id
   have hM2 := useF_mem (id := id) hc2
   obtain ⟨nf, lf, hqf⟩ := cfC_two (xb.getD j (0, some 0)).2
   rw [fcC, hqf] at gf
   generalize (xb.getD j (0, some 0)).1 = fi at *
   have g3 : j * 3 < (fcs xb).length := by omega
   simp only [zl8, zl7] at gf
   by_cases he : fi = id
   ·have q3 : (fi == id) = true := by rw [beq_iff_eq]; exact he
    have hr1 : usesL C id = true := hM (hM2 he)
    have hie : ie = 253 := by
     rcases hE with ⟨h, _⟩ | ⟨_, h⟩
     ·exact h
     ·rw [hr1] at h; cases h
    subst hie
    rw [if_neg (by omega)]
    refine qWf (Q10 @q1 @q2 @q3 @gd @gl @g2 @gf @glb @g3 @gD) ?_
    exact qE Try.results33
   ·have q3 : (fi == id) = false := by rw [beq_eq_false_iff_ne]; exact he
    refine qWf (Q10 @q1 @q2 @q3 @gd @gl @g2 @gf @glb @g3 @gD) ?_
    refine hK1 _ (j + 1) ?_ ⟨by omega, by rw [hT2, hJ, decide_eq_false he]; rfl⟩ (by omega)
    exact qLc
  ·have q2 : decide ((j : Int) < (xb.length : Int)) = false := decide_eq_false (by omega)
   rw [zla (by omega)] at hJ
   refine qWf (Q6 @q1 @q2 @gd @gl @g2 @glb) ?_
   refine hK0 _ (i + 1) ?_ ⟨by omega, by rw [hT, hI, hJ]; rfl⟩ (by omega)
   exact qLc
 ·have q1 : decide ((i : Int) < (C.length : Int)) = false := decide_eq_false (by omega)
  rw [zla (by omega)] at hI
  have hie : ie = 0 := by
   rcases hE with ⟨_, h⟩ | ⟨h, _⟩
   ·rw [hI] at h; cases h
   ·exact h
  subst hie
  rw [if_pos rfl, hlen]
  refine qWf @q1 ?_
  refine SO.inl qS (by rfl) qS qS (SInl.of (c5 0) (by simp (disch := omega) only [go_sem, ↓reduceIte, zn1, zn2, zn3, zn4, zn5, zn6, reduceCtorEq, zn7, zi1, zi2, if_pos, if_neg, Int.reduceAdd, zn8, zna, Nat.zero_mul, Nat.add_zero, zn9, Nat.sub_zero, zl2, zl4, zl3, zl9, zl7, zl8, List.append_nil, List.take_length, List.take_nil, List.drop_nil, List.length_nil, List.length_set, List.length_replicate, List.flatten_nil, List.flatten_cons, Bool.not_true, Bool.not_false, Bool.false_eq_true, Bool.or_true, Bool.true_or, Bool.or_false, Bool.or_self, bne_self_eq_false, beq_self_eq_true]) (by simp (disch := omega) only [go_sem, ↓reduceIte, zn1, zn2, zn3, zn4, zn5, zn6, reduceCtorEq, zn7, zi1, zi2, if_pos, if_neg, Int.reduceAdd, zn8, zna, Nat.zero_mul, Nat.add_zero, zn9, Nat.sub_zero, zl2, zl4, zl3, zl9, zl7, zl8, List.append_nil, List.take_length, List.take_nil, List.drop_nil, List.length_nil, List.length_set, List.length_replicate, List.flatten_nil, List.flatten_cons, Bool.not_true, Bool.not_false, Bool.false_eq_true, Bool.or_true, Bool.true_or, Bool.or_false, Bool.or_self, bne_self_eq_false, beq_self_eq_true]; exact only_true _) (by simp (disch := omega) only [go_sem, ↓reduceIte, zn1, zn2, zn3, zn4, zn5, zn6, reduceCtorEq, zn7, zi1, zi2, if_pos, if_neg, Int.reduceAdd, zn8, zna, Nat.zero_mul, Nat.add_zero, zn9, Nat.sub_zero, zl2, zl4, zl3, zl9, zl7, zl8, List.append_nil, List.take_length, List.take_nil, List.drop_nil, List.length_nil, List.length_set, List.length_replicate, List.flatten_nil, List.flatten_cons, Bool.not_true, Bool.not_false, Bool.false_eq_true, Bool.or_true, Bool.true_or, Bool.or_false, Bool.or_self, bne_self_eq_false, beq_self_eq_true]; exact onlyH_true _) qS qS ?_)
  refine qW ?_
  refine SO.inlQ qS (by rfl) qS qS (SInlQ.all c6 ?_)
  rintro y hp' nx' ⟨q, c, Z, hq, rfl, rfl⟩
  have gt : (cxs L ++ Z).take ((C.length - 1) * 3) = cxs L := by rw [List.take_append_of_le_length (by omega), zla (by omega)]
  have gT : (cxs L ++ Z).length = 3 * (C.length - 1) + Z.length := by rw [zl1, gL]
  refine qW ?_
  exact retQ_ret Try.results33 qS (qSf (Q3 @gT @gt @hcC)) rfl
end Go.Proofs.Ytdkkgndibagihaa
namespace Go.Proofs.Ytdkkgndibagihaa
open Go.RowKit
structure PlainCh (K : Nat) (l : Ch) : Prop where
 len : l.length ≤ 1000
 cf : ∀ f ∈ l, ∃ z, f.2 = some z ∧ Fits K z
set_option maxHeartbeats 4000000 in
theorem rsamechain_s {K : Nat} {l : Ch} (h : PlainCh K l) (hK : K ≤ 100000000000) : Spec Try.prog 21 [chV l, chV l] (.sc (.bool true)) := by
 have gl := fcs_len l
 have hl := h.len
 unfold chV
 refine qF Try.func21 Try.ntmps21 fun B hB => ?_
 refine qW ?_
 refine SC.loop (fun i : Nat => ⟨[(0, .im (fcs l) l.length), (1, .im (fcs l) l.length), (5, .sc (.int .i64 (i : Nat)))], [], 0, 42⟩) (fun i => i ≤ l.length) (fun i => l.length - i) 0 ?_ ?_ ?_
 ·exact qLc
 ·exact znc _
 rintro i hi K0 hK0
 by_cases hc : i < l.length
 ·have q1 : decide ((i : Int) < (l.length : Int)) = true := decide_eq_true (by omega)
  have gd := fcs_drop hc
  obtain ⟨z, hz, hf⟩ := h.cf _ (getD_mem (d := (0, some 0)) hc)
  have hs := fits_short hf (by omega)
  have c1 := same_i z z hs hs
  rw [decide_eq_true rfl] at c1
  rw [fcC, hz] at gd
  have gd' : (fcs l).drop (i * 3) = [.sc (.int .i64 (l.getD i (0, some 0)).1), .sc (.bool (decide (z < 0))), .im (lv (limbsOf z.natAbs)) (limbsOf z.natAbs).length] ++ (fcs l).drop ((i + 1) * 3) := gd
  clear gd
  generalize (l.getD i (0, some 0)).1 = fi at *
  have g2 : i * 3 < (fcs l).length := by omega
  unfold iv sv at c1
  simp only [zl8, zl7] at gd'
  refine qWf (Q5 @q1 @gd' @gl @g2 @gD) ?_
  refine hK0 _ (i + 1) ?_ (by omega) (by omega)
  exact qLc
 ·have q1 : decide ((i : Int) < (l.length : Int)) = false := decide_eq_false (by omega)
  refine qWf @q1 ?_
  exact qE Try.results21
set_option maxHeartbeats 4000000 in
theorem rsame25_s {K : Nat} {C : List Cx} (hl : C.length ≤ 1000) (h : ∀ x ∈ C, PlainCh K x.b) (hK : K ≤ 100000000000) : Spec Try.prog 32 [cxV C, cxV C] (.sc (.bool true)) := by
 have gl := cxs_len C
 unfold cxV
 refine qF Try.func32 Try.ntmps32 fun B hB => ?_
 refine qW ?_
 refine SC.loop (fun i : Nat => ⟨[(0, .im (cxs C) C.length), (1, .im (cxs C) C.length), (5, .sc (.int .i64 (i : Nat)))], [], 0, 55⟩) (fun i => i ≤ C.length) (fun i => C.length - i) 0 ?_ ?_ ?_
 ·exact qLc
 ·exact znc _
 rintro i hi K0 hK0
 by_cases hc : i < C.length
 ·have q1 : decide ((i : Int) < (C.length : Int)) = true := decide_eq_true (by omega)
  have gd := cxs_drop hc
  have hp := h _ (getD_mem (d := cx0) hc)
  have c1 := rsamechain_s hp hK
  have hpl := hp.len
  generalize C.getD i cx0 = x at *
  obtain ⟨xi, xd, xb⟩ := x
  have g2 : i * 3 < (cxs C).length := by omega
  have glb := fcs_len xb
  unfold chV at c1
  unfold cxC at gd
  simp only [zl8, zl7] at c1 gd hpl
  refine qWf (Q6 @q1 @gd @gl @g2 @glb @gD) ?_
  refine hK0 _ (i + 1) ?_ (by omega) (by omega)
  exact qLc
 ·have q1 : decide ((i : Int) < (C.length : Int)) = false := decide_eq_false (by omega)
  refine qWf @q1 ?_
  exact qE Try.results32
end Go.Proofs.Ytdkkgndibagihaa
namespace Go.Proofs.Ytdkkgndibagihaa
open Go.RowKit
def okXB (x : Cx) : Bool := decide (-1000 ≤ x.id) && decide (x.id ≤ 1000) && decide (-1000 ≤ x.dim) && decide (x.dim ≤ 1000) && decide (x.b.length ≤ 10) && x.b.all fun f => decide (-1000 ≤ f.1) && decide (f.1 ≤ 1000) && decide ((cv f.2).natAbs ≤ 1000)
theorem okXB_s {x : Cx} (h : okXB x = true) : CxK 1 x := by
 simp only [okXB, Bool.and_eq_true, decide_eq_true_eq, zlf] at h
 obtain ⟨⟨⟨⟨⟨h1, h2⟩, h3⟩, h4⟩, h5⟩, h6⟩ := h
 exact ⟨⟨by omega, by omega⟩, ⟨by omega, by omega⟩, by omega, fun f hf => ⟨by have := h6 f hf; omega, by have := h6 f hf; omega⟩, fun f hf => by have := (h6 f hf).2; unfold Fits; omega⟩
def okCB (C : List Cx) : Bool := decide (C.length ≤ 10) && C.all okXB
theorem okCB_s {C : List Cx} (h : okCB C = true) : CxOk 1 C := by
 simp only [okCB, Bool.and_eq_true, decide_eq_true_eq, zlf] at h
 exact ⟨by omega, fun x hx => okXB_s (h.2 x hx)⟩
def srtB : List Cx → Bool
 | [] => true
 | x :: r => (r.all fun y => decide (x.id < y.id)) && srtB r
theorem srtB_pw : ∀ {C : List Cx}, srtB C = true ↔ C.Pairwise (fun a b => a.id < b.id)
 | [] => by simp [srtB]
 | x :: r => by rw [srtB, Bool.and_eq_true, srtB_pw, List.pairwise_cons, zlf]; simp
theorem srtB_s {C : List Cx} : srtB C = true ↔ Srt C := srtB_pw.trans ⟨srt_of_pw, Srt.pw⟩
def closedB (C : List Cx) (b : Ch) : Bool := (b.flatMap fun f => (bOf C f.1).map (·.1)).all fun n => decide (bdn C b n = 0)
theorem bdn_no {C : List Cx} {n : Int} : ∀ {b : Ch}, (∀ f ∈ b, ∀ g ∈ bOf C f.1, g.1 ≠ n) → bdn C b n = 0
 | [], _ => rfl
 | f :: r, h => by
  show cv f.2 * cfn (bOf C f.1) n + bdn C r n = 0
  rw [bdn_no fun g hg => h g (List.mem_cons_of_mem _ hg), cfn_none (h f List.mem_cons_self), Int.mul_zero]; rfl
theorem closedB_s {C : List Cx} {b : Ch} : closedB C b = true ↔ ∀ n, bdn C b n = 0 := by
 unfold closedB
 rw [zlf]
 constructor
 ·intro h n
  by_cases hn : n ∈ b.flatMap fun f => (bOf C f.1).map (·.1)
  ·exact of_decide_eq_true (h n hn)
  ·exact bdn_no fun f hf g hg e => hn (List.mem_flatMap.2 ⟨f, hf, List.mem_map.2 ⟨g, hg, e⟩⟩)
 ·intro h n _; exact decide_eq_true (h n)
def fitsB (C : List Cx) (x : Cx) : Int := if facesL C x = 0 then (if closedB C x.b then 0 else 252) else facesL C x
theorem fitsB_s (C : List Cx) (x : Cx) : FitsP C x (fitsB C x) := by
 obtain ⟨e, he⟩ := fits_ex C x
 have h := facesL_fits he
 have h0 := @faces_zero C x
 suffices hs : fitsB C x = e by rw [hs]; exact he
 unfold fitsB
 rcases he with ⟨h1, h2⟩ | ⟨h2, ⟨h1, h3⟩ | ⟨h3, ⟨h1, h4⟩ | ⟨h1, h4⟩⟩⟩
 ·rw [if_pos (.inl h1)] at h; rw [if_neg (by omega), h]
 ·rw [if_pos (.inr h1)] at h; rw [if_neg (by omega), h]
 ·rw [if_pos (h0.2 h3), if_neg (fun h => h4 (closedB_s.1 h))]; omega
 ·rw [if_pos (h0.2 h3), if_pos (closedB_s.2 h4)]; omega
def valB (C : List Cx) : Bool := decide (C.length ≤ 400) && srtB C && C.all fun x => decide (fitsB C x = 0)
theorem valB_s {C : List Cx} : valB C = true ↔ VAL C := by
 unfold valB
 rw [Bool.and_eq_true, Bool.and_eq_true, decide_eq_true_eq, zlf, srtB_s]
 constructor
 ·rintro ⟨⟨h1, h2⟩, h3⟩
  have h4 := fun x hx => (FitsP.zero (fitsB_s C x)).1 (of_decide_eq_true (h3 x hx))
  exact ⟨h1, h2, fun x hx => (h4 x hx).1, fun x hx => (h4 x hx).2⟩
 ·intro h
  exact ⟨⟨h.len, h.srt⟩, fun x hx => decide_eq_true ((FitsP.zero (fitsB_s C x)).2 ⟨h.faces x hx, h.closed x hx⟩)⟩
def inlS (f : Nat) : Bool := f == 38
theorem ev_san {f : Nat} {ys : List V} {x : V} (h : runV Try.prog (fun _ _ => none) (exX Try.prog (fun _ _ => none) (fun _ => false) 200) f ys = some x) : Spec Try.prog f ys x := Spec.eval (K := fun _ _ => none) (fun _ _ _ h => by cases h) 200 (fun _ => false) h
theorem evn_san {f : Nat} {ys : List V} {x : V} (h : runV Try.prog (fun _ _ => none) (exX Try.prog (fun _ _ => none) inlS 200) f ys = some x) : Spec Try.prog f ys x := Spec.eval (K := fun _ _ => none) (fun _ _ _ h => by cases h) 200 inlS h
theorem ins_san {C : List Cx} {x : Cx} {a b r : V} (h1 : srtB C = true) (h2 : okCB C = true) (h3 : okXB x = true) (ha : cxV C = a) (hb : .ag (cxC x) = b) (hr : insV C x (fitsB C x) = r) : Spec Try.prog 30 [a, b] r := by
 subst ha; subst hb; subst hr
 exact insert_s (srtB_s.1 h1) (okCB_s h2) (okXB_s h3) (by omega) (fitsB_s C x)
theorem rem_san {C : List Cx} {id : Int} {a r : V} (h1 : srtB C = true) (h2 : okCB C = true) (ha : cxV C = a) (hr : remV C id = r) : Spec Try.prog 33 [a, .sc (.int .i64 id)] r := by
 subst ha; subst hr
 exact remove_s (srtB_s.1 h1) (okCB_s h2)
theorem bd_san {C : List Cx} {k k' : Int} {a r : V} (h1 : valB C = true) (h2 : okCB C = true) (ha : cxV C = a) (hk : IntKind.i64.wrap (k - 1) = k') (hr : mat (idsL C k').length (cbM C k k') = r) : Spec Try.prog 17 [a, .sc (.int .i64 k)] r := by
 subst ha; subst hr
 exact boundary_s (okCB_s h2) (valB_s.1 h1) hk
theorem val_san {C : List Cx} {a : V} {r : Bool} (h2 : okCB C = true) (ha : cxV C = a) (hr : valB C = r) : Spec Try.prog 26 [a] (.sc (.bool r)) := by
 subst ha
 obtain ⟨r', c, h⟩ := cvalid_s (okCB_s h2) (by omega)
 have : r' = r := by
  rw [← hr]
  cases hb : valB C with
  | true => exact h.2 (valB_s.1 hb)
  | false => cases r' with
   | false => rfl
   | true => rw [valB_s.2 (h.1 rfl)] at hb; cases hb
 rw [← this]; exact c
theorem find_san {C : List Cx} {id : Int} {a r : V} (h1 : srtB C = true) (h2 : okCB C = true) (ha : cxV C = a) (hr : (.tu [.ag (cxC ((findL C id).getD cx0)), .sc (.bool (findL C id).isSome)]) = r) : Spec Try.prog 19 [a, .sc (.int .i64 id)] r := by
 subst ha; subst hr
 exact cfind_s (srtB_s.1 h1) (okCB_s h2).len
set_option maxHeartbeats 8000000 in
set_option maxRecDepth 8000 in
theorem sanity_s : Spec Try.prog 11 [] (.sc (.bool true)) := by
 have c1 : Spec Try.prog 39 [.sc (.int .i64 1)] (.ag [.sc (.int .i64 1), .sc (.int .i64 0), .im [] 0]) := ev_san (by kernel_rfl)
 have c2 : Spec Try.prog 39 [.sc (.int .i64 2)] (.ag [.sc (.int .i64 2), .sc (.int .i64 0), .im [] 0]) := ev_san (by kernel_rfl)
 have c3 : Spec Try.prog 40 [.im [.sc (.int .i64 1), .sc (.int .i64 1)] 2] (.im [.sc (.int .i64 1), .sc (.bool false), .im [.sc (.int .u32 1)] 1] 1) := ev_san (by kernel_rfl)
 have c4 : Spec Try.prog 40 [.im [.sc (.int .i64 7), .sc (.int .i64 1)] 2] (.im [.sc (.int .i64 7), .sc (.bool false), .im [.sc (.int .u32 1)] 1] 1) := ev_san (by kernel_rfl)
 have c5 : Spec Try.prog 40 [.im [.sc (.int .i64 3), .sc (.int .i64 1)] 2] (.im [.sc (.int .i64 3), .sc (.bool false), .im [.sc (.int .u32 1)] 1] 1) := ev_san (by kernel_rfl)
 have c6 : Spec Try.prog 40 [.im [.sc (.int .i64 2), .sc (.int .i64 1), .sc (.int .i64 1), .sc (.int .i64 1)] 4] (.im [.sc (.int .i64 2), .sc (.bool false), .im [.sc (.int .u32 1)] 1, .sc (.int .i64 1), .sc (.bool false), .im [.sc (.int .u32 1)] 1] 2) := ev_san (by kernel_rfl)
 have c7 : Spec Try.prog 41 [.sc (.int .i64 3), .sc (.int .i64 1), .sc (.int .i64 2)] (.ag [.sc (.int .i64 3), .sc (.int .i64 1), .im [.sc (.int .i64 1), .sc (.bool true), .im [.sc (.int .u32 1)] 1, .sc (.int .i64 2), .sc (.bool false), .im [.sc (.int .u32 1)] 1] 2]) := ev_san (by kernel_rfl)
 have c8 : Spec Try.prog 42 [] (.im [.sc (.int .i64 1), .sc (.int .i64 0), .im [] 0, .sc (.int .i64 2), .sc (.int .i64 0), .im [] 0, .sc (.int .i64 3), .sc (.int .i64 1), .im [.sc (.int .i64 1), .sc (.bool true), .im [.sc (.int .u32 1)] 1, .sc (.int .i64 2), .sc (.bool false), .im [.sc (.int .u32 1)] 1] 2] 3) := ev_san (by kernel_rfl)
 have c9 : Spec Try.prog 30 [.im [.sc (.int .i64 1), .sc (.int .i64 0), .im [] 0, .sc (.int .i64 2), .sc (.int .i64 0), .im [] 0] 2, .ag [.sc (.int .i64 3), .sc (.int .i64 1), .im [.sc (.int .i64 1), .sc (.bool true), .im [.sc (.int .u32 1)] 1, .sc (.int .i64 2), .sc (.bool false), .im [.sc (.int .u32 1)] 1] 2]] (.tu [.im [.sc (.int .i64 1), .sc (.int .i64 0), .im [] 0, .sc (.int .i64 2), .sc (.int .i64 0), .im [] 0, .sc (.int .i64 3), .sc (.int .i64 1), .im [.sc (.int .i64 1), .sc (.bool true), .im [.sc (.int .u32 1)] 1, .sc (.int .i64 2), .sc (.bool false), .im [.sc (.int .u32 1)] 1] 2] 3, .sc (.int .i64 0)]) := ins_san (C := [⟨1, 0, []⟩, ⟨2, 0, []⟩]) (x := ⟨3, 1, [(1, some (-1)), (2, some 1)]⟩) (by kernel_rfl) (by kernel_rfl) (by kernel_rfl) (by kernel_rfl) (by kernel_rfl) (by kernel_rfl)
 have c10 : Spec Try.prog 30 [.im [.sc (.int .i64 1), .sc (.int .i64 0), .im [] 0, .sc (.int .i64 2), .sc (.int .i64 0), .im [] 0] 2, .ag [.sc (.int .i64 1), .sc (.int .i64 0), .im [] 0]] (.tu [.im [] 0, .sc (.int .i64 253)]) := ins_san (C := [⟨1, 0, []⟩, ⟨2, 0, []⟩]) (x := ⟨1, 0, []⟩) (by kernel_rfl) (by kernel_rfl) (by kernel_rfl) (by kernel_rfl) (by kernel_rfl) (by kernel_rfl)
 have c11 : Spec Try.prog 30 [.im [.sc (.int .i64 1), .sc (.int .i64 0), .im [] 0] 1, .ag [.sc (.int .i64 3), .sc (.int .i64 1), .im [.sc (.int .i64 7), .sc (.bool false), .im [.sc (.int .u32 1)] 1] 1]] (.tu [.im [] 0, .sc (.int .i64 251)]) := ins_san (C := [⟨1, 0, []⟩]) (x := ⟨3, 1, [(7, some 1)]⟩) (by kernel_rfl) (by kernel_rfl) (by kernel_rfl) (by kernel_rfl) (by kernel_rfl) (by kernel_rfl)
 have c12 : Spec Try.prog 30 [.im [.sc (.int .i64 1), .sc (.int .i64 0), .im [] 0] 1, .ag [.sc (.int .i64 3), .sc (.int .i64 2), .im [.sc (.int .i64 1), .sc (.bool false), .im [.sc (.int .u32 1)] 1] 1]] (.tu [.im [] 0, .sc (.int .i64 260)]) := ins_san (C := [⟨1, 0, []⟩]) (x := ⟨3, 2, [(1, some 1)]⟩) (by kernel_rfl) (by kernel_rfl) (by kernel_rfl) (by kernel_rfl) (by kernel_rfl) (by kernel_rfl)
 have c13 : Spec Try.prog 30 [.im [.sc (.int .i64 1), .sc (.int .i64 0), .im [] 0, .sc (.int .i64 2), .sc (.int .i64 0), .im [] 0, .sc (.int .i64 3), .sc (.int .i64 1), .im [.sc (.int .i64 1), .sc (.bool true), .im [.sc (.int .u32 1)] 1, .sc (.int .i64 2), .sc (.bool false), .im [.sc (.int .u32 1)] 1] 2] 3, .ag [.sc (.int .i64 4), .sc (.int .i64 2), .im [.sc (.int .i64 3), .sc (.bool false), .im [.sc (.int .u32 1)] 1] 1]] (.tu [.im [] 0, .sc (.int .i64 252)]) := ins_san (C := [⟨1, 0, []⟩, ⟨2, 0, []⟩, ⟨3, 1, [(1, some (-1)), (2, some 1)]⟩]) (x := ⟨4, 2, [(3, some 1)]⟩) (by kernel_rfl) (by kernel_rfl) (by kernel_rfl) (by kernel_rfl) (by kernel_rfl) (by kernel_rfl)
 have c14 : Spec Try.prog 30 [.im [.sc (.int .i64 1), .sc (.int .i64 0), .im [] 0, .sc (.int .i64 2), .sc (.int .i64 0), .im [] 0] 2, .ag [.sc (.int .i64 9), .sc (.int .i64 4), .im [] 0]] (.tu [.im [] 0, .sc (.int .i64 260)]) := ins_san (C := [⟨1, 0, []⟩, ⟨2, 0, []⟩]) (x := ⟨9, 4, []⟩) (by kernel_rfl) (by kernel_rfl) (by kernel_rfl) (by kernel_rfl) (by kernel_rfl) (by kernel_rfl)
 have c15 : Spec Try.prog 30 [.im [.sc (.int .i64 1), .sc (.int .i64 0), .im [] 0, .sc (.int .i64 2), .sc (.int .i64 0), .im [] 0] 2, .ag [.sc (.int .i64 9), .sc (.int .i64 1), .im [.sc (.int .i64 2), .sc (.bool false), .im [.sc (.int .u32 1)] 1, .sc (.int .i64 1), .sc (.bool false), .im [.sc (.int .u32 1)] 1] 2]] (.tu [.im [] 0, .sc (.int .i64 251)]) := ins_san (C := [⟨1, 0, []⟩, ⟨2, 0, []⟩]) (x := ⟨9, 1, [(2, some 1), (1, some 1)]⟩) (by kernel_rfl) (by kernel_rfl) (by kernel_rfl) (by kernel_rfl) (by kernel_rfl) (by kernel_rfl)
 have c16 : Spec Try.prog 33 [.im [.sc (.int .i64 1), .sc (.int .i64 0), .im [] 0, .sc (.int .i64 3), .sc (.int .i64 1), .im [.sc (.int .i64 1), .sc (.bool false), .im [.sc (.int .u32 1)] 1] 1] 2, .sc (.int .i64 1)] (.tu [.im [] 0, .sc (.int .i64 253)]) := rem_san (C := [⟨1, 0, []⟩, ⟨3, 1, [(1, some 1)]⟩]) (by kernel_rfl) (by kernel_rfl) (by kernel_rfl) (by kernel_rfl)
 have c17 : Spec Try.prog 33 [.im [.sc (.int .i64 1), .sc (.int .i64 0), .im [] 0, .sc (.int .i64 3), .sc (.int .i64 1), .im [.sc (.int .i64 1), .sc (.bool false), .im [.sc (.int .u32 1)] 1] 1] 2, .sc (.int .i64 3)] (.tu [.im [.sc (.int .i64 1), .sc (.int .i64 0), .im [] 0] 1, .sc (.int .i64 0)]) := rem_san (C := [⟨1, 0, []⟩, ⟨3, 1, [(1, some 1)]⟩]) (by kernel_rfl) (by kernel_rfl) (by kernel_rfl) (by kernel_rfl)
 have c18 : Spec Try.prog 33 [.im [.sc (.int .i64 1), .sc (.int .i64 0), .im [] 0, .sc (.int .i64 3), .sc (.int .i64 1), .im [.sc (.int .i64 1), .sc (.bool false), .im [.sc (.int .u32 1)] 1] 1] 2, .sc (.int .i64 5)] (.tu [.im [] 0, .sc (.int .i64 250)]) := rem_san (C := [⟨1, 0, []⟩, ⟨3, 1, [(1, some 1)]⟩]) (by kernel_rfl) (by kernel_rfl) (by kernel_rfl) (by kernel_rfl)
 have c19 : Spec Try.prog 32 [.im [.sc (.int .i64 1), .sc (.int .i64 0), .im [] 0, .sc (.int .i64 2), .sc (.int .i64 0), .im [] 0, .sc (.int .i64 3), .sc (.int .i64 1), .im [.sc (.int .i64 1), .sc (.bool true), .im [.sc (.int .u32 1)] 1, .sc (.int .i64 2), .sc (.bool false), .im [.sc (.int .u32 1)] 1] 2] 3, .im [.sc (.int .i64 1), .sc (.int .i64 0), .im [] 0, .sc (.int .i64 2), .sc (.int .i64 0), .im [] 0, .sc (.int .i64 3), .sc (.int .i64 1), .im [.sc (.int .i64 1), .sc (.bool true), .im [.sc (.int .u32 1)] 1, .sc (.int .i64 2), .sc (.bool false), .im [.sc (.int .u32 1)] 1] 2] 3] (.sc (.bool true)) := ev_san (by kernel_rfl)
 have c20 : Spec Try.prog 32 [.im [.sc (.int .i64 1), .sc (.int .i64 0), .im [] 0] 1, .im [.sc (.int .i64 1), .sc (.int .i64 0), .im [] 0] 1] (.sc (.bool true)) := ev_san (by kernel_rfl)
 have c21 : Spec Try.prog 17 [.im [.sc (.int .i64 1), .sc (.int .i64 0), .im [] 0, .sc (.int .i64 2), .sc (.int .i64 0), .im [] 0, .sc (.int .i64 3), .sc (.int .i64 1), .im [.sc (.int .i64 1), .sc (.bool true), .im [.sc (.int .u32 1)] 1, .sc (.int .i64 2), .sc (.bool false), .im [.sc (.int .u32 1)] 1] 2] 3, .sc (.int .i64 1)] (.ag [.sc (.int .i64 1), .sc (.int .i64 2), .im [.im [.sc (.bool true), .im [.sc (.int .u32 1)] 1, .sc (.bool false), .im [.sc (.int .u32 1)] 1] 2] 1]) := bd_san (C := [⟨1, 0, []⟩, ⟨2, 0, []⟩, ⟨3, 1, [(1, some (-1)), (2, some 1)]⟩]) (k' := 0) (by kernel_rfl) (by kernel_rfl) (by kernel_rfl) (by decide) (by kernel_rfl)
 have c22 : Spec Try.prog 17 [.im [.sc (.int .i64 1), .sc (.int .i64 0), .im [] 0, .sc (.int .i64 2), .sc (.int .i64 0), .im [] 0, .sc (.int .i64 3), .sc (.int .i64 1), .im [.sc (.int .i64 1), .sc (.bool true), .im [.sc (.int .u32 1)] 1, .sc (.int .i64 2), .sc (.bool false), .im [.sc (.int .u32 1)] 1] 2] 3, .sc (.int .i64 0)] (.ag [.sc (.int .i64 2), .sc (.int .i64 0), .im [.im [] 0, .im [] 0] 2]) := bd_san (C := [⟨1, 0, []⟩, ⟨2, 0, []⟩, ⟨3, 1, [(1, some (-1)), (2, some 1)]⟩]) (k' := (-1)) (by kernel_rfl) (by kernel_rfl) (by kernel_rfl) (by decide) (by kernel_rfl)
 have c23 : Spec Try.prog 17 [.im [.sc (.int .i64 1), .sc (.int .i64 0), .im [] 0, .sc (.int .i64 2), .sc (.int .i64 0), .im [] 0, .sc (.int .i64 3), .sc (.int .i64 1), .im [.sc (.int .i64 1), .sc (.bool true), .im [.sc (.int .u32 1)] 1, .sc (.int .i64 2), .sc (.bool false), .im [.sc (.int .u32 1)] 1] 2] 3, .sc (.int .i64 2)] (.ag [.sc (.int .i64 0), .sc (.int .i64 1), .im [] 0]) := bd_san (C := [⟨1, 0, []⟩, ⟨2, 0, []⟩, ⟨3, 1, [(1, some (-1)), (2, some 1)]⟩]) (k' := 1) (by kernel_rfl) (by kernel_rfl) (by kernel_rfl) (by decide) (by kernel_rfl)
 have c24 : Spec Try.prog 43 [.sc (.int .i64 1), .sc (.int .i64 2), .im [.sc (.int .i64 (-1)), .sc (.int .i64 1)] 2] (.ag [.sc (.int .i64 1), .sc (.int .i64 2), .im [.im [.sc (.bool true), .im [.sc (.int .u32 1)] 1, .sc (.bool false), .im [.sc (.int .u32 1)] 1] 2] 1]) := evn_san (by kernel_rfl)
 have c25 : Spec Try.prog 38 [.sc (.int .i64 2), .sc (.int .i64 0)] (.ag [.sc (.int .i64 2), .sc (.int .i64 0), .im [.im [] 0, .im [] 0] 2]) := ev_san (by kernel_rfl)
 have c26 : Spec Try.prog 38 [.sc (.int .i64 0), .sc (.int .i64 1)] (.ag [.sc (.int .i64 0), .sc (.int .i64 1), .im [] 0]) := ev_san (by kernel_rfl)
 have c27 : Spec Try.prog 16 [.ag [.sc (.int .i64 1), .sc (.int .i64 2), .im [.im [.sc (.bool true), .im [.sc (.int .u32 1)] 1, .sc (.bool false), .im [.sc (.int .u32 1)] 1] 2] 1], .ag [.sc (.int .i64 1), .sc (.int .i64 2), .im [.im [.sc (.bool true), .im [.sc (.int .u32 1)] 1, .sc (.bool false), .im [.sc (.int .u32 1)] 1] 2] 1]] (.sc (.bool true)) := ev_san (by kernel_rfl)
 have c28 : Spec Try.prog 16 [.ag [.sc (.int .i64 2), .sc (.int .i64 0), .im [.im [] 0, .im [] 0] 2], .ag [.sc (.int .i64 2), .sc (.int .i64 0), .im [.im [] 0, .im [] 0] 2]] (.sc (.bool true)) := ev_san (by kernel_rfl)
 have c29 : Spec Try.prog 16 [.ag [.sc (.int .i64 0), .sc (.int .i64 1), .im [] 0], .ag [.sc (.int .i64 0), .sc (.int .i64 1), .im [] 0]] (.sc (.bool true)) := ev_san (by kernel_rfl)
 have c30 : Spec Try.prog 22 [.im [.sc (.int .i64 1), .sc (.int .i64 0), .im [] 0, .sc (.int .i64 2), .sc (.int .i64 0), .im [] 0, .sc (.int .i64 3), .sc (.int .i64 1), .im [.sc (.int .i64 1), .sc (.bool true), .im [.sc (.int .u32 1)] 1, .sc (.int .i64 2), .sc (.bool false), .im [.sc (.int .u32 1)] 1] 2] 3] (.sc (.int .i64 1)) := ev_san (by kernel_rfl)
 have c31 : Spec Try.prog 24 [.im [.sc (.int .i64 1), .sc (.int .i64 0), .im [] 0, .sc (.int .i64 2), .sc (.int .i64 0), .im [] 0, .sc (.int .i64 3), .sc (.int .i64 1), .im [.sc (.int .i64 1), .sc (.bool true), .im [.sc (.int .u32 1)] 1, .sc (.int .i64 2), .sc (.bool false), .im [.sc (.int .u32 1)] 1] 2] 3] (.sc (.int .i64 1)) := ev_san (by kernel_rfl)
 have c32 : Spec Try.prog 22 [.im [] 0] (.sc (.int .i64 0)) := ev_san (by kernel_rfl)
 have c33 : Spec Try.prog 24 [.im [] 0] (.sc (.int .i64 (-1))) := ev_san (by kernel_rfl)
 have c34 : Spec Try.prog 26 [.im [] 0] (.sc (.bool true)) := val_san (C := []) (by kernel_rfl) (by kernel_rfl) (by kernel_rfl)
 have c35 : Spec Try.prog 26 [.im [.sc (.int .i64 1), .sc (.int .i64 0), .im [] 0, .sc (.int .i64 2), .sc (.int .i64 0), .im [] 0, .sc (.int .i64 3), .sc (.int .i64 1), .im [.sc (.int .i64 1), .sc (.bool true), .im [.sc (.int .u32 1)] 1, .sc (.int .i64 2), .sc (.bool false), .im [.sc (.int .u32 1)] 1] 2] 3] (.sc (.bool true)) := val_san (C := [⟨1, 0, []⟩, ⟨2, 0, []⟩, ⟨3, 1, [(1, some (-1)), (2, some 1)]⟩]) (by kernel_rfl) (by kernel_rfl) (by kernel_rfl)
 have c36 : Spec Try.prog 26 [.im [.sc (.int .i64 2), .sc (.int .i64 0), .im [] 0, .sc (.int .i64 1), .sc (.int .i64 0), .im [] 0] 2] (.sc (.bool false)) := val_san (C := [⟨2, 0, []⟩, ⟨1, 0, []⟩]) (by kernel_rfl) (by kernel_rfl) (by kernel_rfl)
 have c37 : Spec Try.prog 26 [.im [.sc (.int .i64 3), .sc (.int .i64 1), .im [.sc (.int .i64 1), .sc (.bool true), .im [.sc (.int .u32 1)] 1, .sc (.int .i64 2), .sc (.bool false), .im [.sc (.int .u32 1)] 1] 2] 1] (.sc (.bool false)) := val_san (C := [⟨3, 1, [(1, some (-1)), (2, some 1)]⟩]) (by kernel_rfl) (by kernel_rfl) (by kernel_rfl)
 have c38 : Spec Try.prog 19 [.im [.sc (.int .i64 1), .sc (.int .i64 0), .im [] 0, .sc (.int .i64 2), .sc (.int .i64 0), .im [] 0, .sc (.int .i64 3), .sc (.int .i64 1), .im [.sc (.int .i64 1), .sc (.bool true), .im [.sc (.int .u32 1)] 1, .sc (.int .i64 2), .sc (.bool false), .im [.sc (.int .u32 1)] 1] 2] 3, .sc (.int .i64 3)] (.tu [.ag [.sc (.int .i64 3), .sc (.int .i64 1), .im [.sc (.int .i64 1), .sc (.bool true), .im [.sc (.int .u32 1)] 1, .sc (.int .i64 2), .sc (.bool false), .im [.sc (.int .u32 1)] 1] 2], .sc (.bool true)]) := find_san (C := [⟨1, 0, []⟩, ⟨2, 0, []⟩, ⟨3, 1, [(1, some (-1)), (2, some 1)]⟩]) (by kernel_rfl) (by kernel_rfl) (by kernel_rfl) (by kernel_rfl)
 have c39 : Spec Try.prog 19 [.im [.sc (.int .i64 1), .sc (.int .i64 0), .im [] 0, .sc (.int .i64 2), .sc (.int .i64 0), .im [] 0, .sc (.int .i64 3), .sc (.int .i64 1), .im [.sc (.int .i64 1), .sc (.bool true), .im [.sc (.int .u32 1)] 1, .sc (.int .i64 2), .sc (.bool false), .im [.sc (.int .u32 1)] 1] 2] 3, .sc (.int .i64 4)] (.tu [.ag [.sc (.int .i64 0), .sc (.int .i64 0), .im [] 0], .sc (.bool false)]) := find_san (C := [⟨1, 0, []⟩, ⟨2, 0, []⟩, ⟨3, 1, [(1, some (-1)), (2, some 1)]⟩]) (by kernel_rfl) (by kernel_rfl) (by kernel_rfl) (by kernel_rfl)
 refine qF Try.func11 Try.ntmps11 fun B hB => ?_
 refine qWi ?_
 exact retQ_ret Try.results11 (by first | rfl | (simp (disch := omega) only [go_sem, ↓reduceIte, zn1, zn2, zn3, zn4, zn5, zn6, reduceCtorEq, zn7, zi1, zi2, if_pos, if_neg, Int.reduceAdd, zn8, zna, Nat.zero_mul, Nat.add_zero, zn9, Nat.sub_zero, zl2, zl4, zl3, zl9, zl7, zl8, List.append_nil, List.take_length, List.take_nil, List.drop_nil, List.length_nil, List.length_set, List.length_replicate, List.flatten_nil, List.flatten_cons, Bool.not_true, Bool.not_false, Bool.false_eq_true, Bool.or_true, Bool.true_or, Bool.or_false, Bool.or_self, bne_self_eq_false, beq_self_eq_true] <;> rfl)) (by first | rfl | (simp (disch := omega) only [go_sem, ↓reduceIte, zn1, zn2, zn3, zn4, zn5, zn6, reduceCtorEq, zn7, zi1, zi2, if_pos, if_neg, Int.reduceAdd, zn8, zna, Nat.zero_mul, Nat.add_zero, zn9, Nat.sub_zero, zl2, zl4, zl3, zl9, zl7, zl8, List.append_nil, List.take_length, List.take_nil, List.drop_nil, List.length_nil, List.length_set, List.length_replicate, List.flatten_nil, List.flatten_cons, Bool.not_true, Bool.not_false, Bool.false_eq_true, Bool.or_true, Bool.true_or, Bool.or_false, Bool.or_self, bne_self_eq_false, beq_self_eq_true] <;> rfl)) rfl
end Go.Proofs.Ytdkkgndibagihaa
namespace Go.Proofs.Ytdkkgndibagihaa
open Go.ChangeShapes Go.WideShapes Go.ChangeAt Go.RowKit
section
variable {H : Type} {enc : TypeId × Value → H} {P : Program} {W W' : World}
theorem trodAll_below (hl : laidOutB P = true) (hb : Below W.heap.size W W') : ∀ {ts : List TypeId} {vs : List Value} {ds : List (DataW H)} {ps : List MemPlace}, (ts.all fun t => P.readableRec t && decide (t < P.types.size)) = true → (∀ x ∈ ps, x.block < W.heap.size) →
  DataW.TrodAll enc P W 0 (fun _ => true) true ts vs ds ps → DataW.TrodAll enc P W' 0 (fun b => decide (b < W.heap.size)) true ts vs ds ps
 | [], vs, ds, ps, _, _, h => by obtain ⟨rfl, rfl, rfl⟩ := trodAll_nil h; exact trodAll_mk0
 | t :: ts, vs, ds, ps, hr, hlt, h => by
  obtain ⟨v, vs', d, ds', p, q, rfl, rfl, rfl, h1, h2⟩ := trodAll_cons h
  simp only [List.all_cons, Bool.and_eq_true, decide_eq_true_eq] at hr
  exact trodAll_cons_mk (Below.trod hl hr.1.1 hr.1.2 h1 hb fun x hx => hlt x (List.mem_append.2 (.inl hx))) (trodAll_below hl hb hr.2 (fun x hx => hlt x (List.mem_append.2 (.inr hx))) h2)
theorem law_post {f : Func} {s : ChangeSpec} {args : Array Value} {ds gs : List (DataW H)} {before : List MemPlace} {tb : TypeId} (hl : laidOutB P = true) (hr : (f.params.toList.all fun t => P.readableRec t && decide (t < P.types.size)) = true) (hres : f.resultTypes = #[tb])
  (htb : P.underlying tb = some .bool) (hvars : s.vars = []) (hs : s.fn H ds = { results := [.lit (.bool true)], args := ds }) (hW : DataW.Whole enc P f.params.toList s.vars false W args.toList ds gs before) (hb : Below W.heap.size W W') :
  s.post enc P f false true false false W args (.bool true) W' := by
 have hW' := hW
 obtain ⟨p, q, hA, hV, rfl, hz, hn⟩ := hW
 have hlt := hW'.lt
 rw [hvars] at hV
 obtain ⟨rfl, rfl⟩ := trodVars_none hV
 have e : s.fn H (ds ++ []) = { results := [.lit (.bool true)], args := ds } := by rw [List.append_nil]; exact hs
 refine ⟨ds, [], p ++ [], [], p, [], hW', ?_, ?_, ?_, hb.frame _, fun h => by cases h⟩
 ·rw [e, hres]; exact trodAll_mk1 (shut_bool htb true)
 ·rw [e]; exact trodAll_below hl hb hr (fun x hx => hlt x (List.mem_append.2 (.inl hx))) hA
 ·rw [e, hvars]; exact rfl
theorem Rc.sc (S : Nat → Prop) (w : World) (v : Value) : Rc S w (.sc v) v := R.sc v
theorem Rc.scs (S : Nat → Prop) (w : World) (l : List Value) : Rc S w (.ag (l.map .sc)) (.agg l.toArray) :=
 R.ag (by simp) fun i x u hx hu => by
  rw [List.getElem?_map] at hx
  rw [List.getElem?_toArray] at hu
  rw [hu] at hx
  cases hx; exact .sc _
theorem AllC.nil (S : Nat → Prop) (w : World) : AllC S w [] [] := ⟨rfl, fun i x u hx => by simp at hx⟩
theorem AllC.cons {S : Nat → Prop} {w : World} {x : V} {v : Value} {xs : List V} {vs : List Value} (h : Rc S w x v) (k : AllC S w xs vs) : AllC S w (x :: xs) (v :: vs) :=
 ⟨by simp [k.1], fun i y u hy hu => by
  cases i with
  | zero => simp at hy hu; subst hy; subst hu; exact h
  | succ i => simp at hy hu; exact k.2 i y u hy hu⟩
theorem Spec.law {f : Nat} {xs : List V} {args : Array Value} (h : Spec P f xs (.sc (.bool true))) (ht : TabOK (fun b => b < W.heap.size) W) (ha : AllC (fun b => b < W.heap.size) W xs args.toList) : Calls P f args W fun e W' => e = .returned (.bool true) ∧ Below W.heap.size W W' := by
 refine (h _ W args (fun _ h => h) ht ha).mono ?_
 rintro e W' ⟨v, rfl, hg, hx⟩
 have : v = .bool true := by
  generalize hq : V.sc (.bool true) = q at hx
  cases hx <;> cases hq
  rfl
 exact ⟨by rw [this], hg.os, hg.tape, hg.output, hg.size, hg.block⟩
theorem u8_wf (n : Int) (h : (Lit.int .u8 n).wf = true) : 0 ≤ n ∧ n ≤ (255 : Nat) := by
 have h1 : IntKind.u8.min = 0 := rfl
 have h2 : IntKind.u8.max = 255 := rfl
 simp [Lit.wf] at h
 omega
end
end Go.Proofs.Ytdkkgndibagihaa
namespace Go.Proofs.Ytdkkgndibagihaa
open Go.ChangeShapes Go.WideShapes Go.ChangeAt Go.RowKit
inductive Shp where
 | int (k : IntKind) | bool | str
 | arr (n : Nat) (s : Shp)
 | slc (s : Shp)
 | st (l : List Shp)
mutual
/-- the cells of a value of the shape, as trees -/
def Shp.Rep : Shp → List V → Prop
 | .int k, ys => ∃ n : Int, ys = [.sc (.int k n)] ∧ (Lit.int k n).wf = true
 | .bool, ys => ∃ b, ys = [.sc (.bool b)]
 | .str, ys => ∃ s : ByteArray, ys = [.sc (.string s)] ∧ s.size ≤ maxLen
 | .arr n s, ys => ∃ yss : List (List V), yss.length = n ∧ ys = yss.flatten ∧ ∀ z ∈ yss, s.Rep z
 | .slc s, ys => ∃ yss : List (List V), yss.length ≤ maxLen ∧ ys = [.im yss.flatten yss.length] ∧ ∀ z ∈ yss, s.Rep z
 | .st l, ys => Shp.Reps l ys
def Shp.Reps : List Shp → List V → Prop
 | [], ys => ys = []
 | s :: r, ys => ∃ a b, ys = a ++ b ∧ s.Rep a ∧ Shp.Reps r b
end
mutual
/-- the type has the shape -/
def Shp.ok (P : Program) : Shp → TypeId → Bool
 | .int k, t => match P.underlying t with
  | some (.int k') => k' == k && P.cellsOf t == 1
  | _ => false
 | .bool, t => match P.underlying t with
  | some .bool => P.cellsOf t == 1
  | _ => false
 | .str, t => match P.underlying t with
  | some .string => P.cellsOf t == 1
  | _ => false
 | .arr n s, t => match P.underlying t with
  | some (.array m e) => m == n && s.ok P e && P.cellsOf t == n * P.cellsOf e
  | _ => false
 | .slc s, t => match P.underlying t with
  | some (.slice e) => s.ok P e && P.cellsOf t == 1
  | _ => false
 | .st l, t => match P.underlying t with
  | some (.struct fs) => Shp.oks P l fs.toList 0 (P.cellsOf t)
  | _ => false
def Shp.oks (P : Program) : List Shp → List Field → Nat → Nat → Bool
 | [], fs, off, n => fs.isEmpty && off == n
 | s :: r, fs, off, n => match fs with
  | f :: fs => f.offset == off && s.ok P f.type && Shp.oks P r fs (off + P.cellsOf f.type) n
  | [] => false
end
section
variable {S : Nat → Prop} {w : World}
theorem AllC.append {xs ys : List V} {vs us : List Value} (h : AllC S w xs vs) (k : AllC S w ys us) : AllC S w (xs ++ ys) (vs ++ us) := by
 refine ⟨by simp [h.1, k.1], fun i x u hx hu => ?_⟩
 have hl := h.1
 rw [List.getElem?_append] at hx hu
 by_cases hi : i < xs.length
 ·rw [if_pos hi] at hx; rw [if_pos (by omega)] at hu
  exact h.2 i x u hx hu
 ·rw [if_neg hi] at hx; rw [if_neg (by omega), ← hl] at hu
  exact k.2 _ x u hx hu
theorem AllC.rows {Q : List V → Prop} {sz : Nat} : ∀ (n : Nat) (cs : List Value), cs.length = n * sz → (∀ i, i < n → ∃ ys, Q ys ∧ AllC S w ys ((cs.drop (i * sz)).take sz)) → ∃ yss : List (List V), yss.length = n ∧ (∀ z ∈ yss, Q z) ∧ AllC S w yss.flatten cs
 | 0, cs, hl, _ => by
  have : cs = [] := List.eq_nil_of_length_eq_zero (by simpa using hl)
  subst this
  exact ⟨[], rfl, fun z hz => by simp at hz, AllC.nil _ _⟩
 | n + 1, cs, hl, h => by
  obtain ⟨ys, hq, ha⟩ := h 0 (by omega)
  rw [Nat.zero_mul, zl2] at ha
  have hl' : cs.length = n * sz + sz := by rw [hl, Nat.add_mul, zna]
  obtain ⟨yss, h1, h2, h3⟩ := AllC.rows (Q := Q) (sz := sz) n (cs.drop sz) (by simp [hl']) fun i hi => by
   obtain ⟨zs, hz, hb⟩ := h (i + 1) (by omega)
   refine ⟨zs, hz, ?_⟩
   rwa [List.drop_drop, show sz + i * sz = (i + 1) * sz by rw [Nat.add_mul]; omega]
  refine ⟨ys :: yss, by simp [h1], fun z hz => ?_, ?_⟩
  ·rcases List.mem_cons.1 hz with rfl | hz
   ·exact hq
   ·exact h2 z hz
  ·have := ha.append h3
   rwa [List.take_append_drop] at this
end
theorem addr_add (a : Addr) (i j : Nat) : (a.add i).add j = a.add (i + j) := by
 unfold Addr.add
 by_cases hj : j = 0
 ·subst hj; simp
 ·by_cases hi : i = 0
  ·subst hi; simp
  ·rw [if_neg hj, if_neg hi, if_neg (by omega)]; simp; omega
section
variable {H : Type} {enc : TypeId × Value → H} {P : Program} {w : World} {base : Nat} {sp : Nat → Bool} {held : Bool}
mutual
theorem open_rep : ∀ (s : Shp) {t : TypeId} {fuel : Nat} {cs : List Value} {x : DataW H × List MemPlace}, s.ok P t = true → DataW.trod enc P w base sp held fuel t cs = some x → cs.length = P.cellsOf t ∧ ∃ ys, s.Rep ys ∧ AllC (fun b => b < w.heap.size) w ys cs
 | .int k, t, fuel, cs, x, ho, h => by
  simp only [Shp.ok] at ho
  split at ho
  ·rename_i k' hu
   simp only [Bool.and_eq_true, beq_iff_eq] at ho
   obtain ⟨rfl, hc⟩ := ho
   obtain ⟨n, rfl, _, hw⟩ := DataW.trod_int hu h
   exact ⟨hc.symm, _, ⟨n, rfl, hw⟩, AllC.cons (Rc.sc _ _ _) (AllC.nil _ _)⟩
  ·cases ho
 | .bool, t, fuel, cs, x, ho, h => by
  simp only [Shp.ok] at ho
  split at ho
  ·rename_i hu
   simp only [beq_iff_eq] at ho
   obtain ⟨n, rfl, _⟩ := DataW.trod_bool hu h
   exact ⟨ho.symm, _, ⟨n, rfl⟩, AllC.cons (Rc.sc _ _ _) (AllC.nil _ _)⟩
  ·cases ho
 | .str, t, fuel, cs, x, ho, h => by
  simp only [Shp.ok] at ho
  split at ho
  ·rename_i hu
   simp only [beq_iff_eq] at ho
   obtain ⟨n, rfl, _, hl⟩ := DataW.trod_string hu h
   exact ⟨ho.symm, _, ⟨n, rfl, hl⟩, AllC.cons (Rc.sc _ _ _) (AllC.nil _ _)⟩
  ·cases ho
 | .arr n s, t, fuel, cs, x, ho, h => by
  simp only [Shp.ok] at ho
  split at ho
  ·rename_i m e hu
   simp only [Bool.and_eq_true, beq_iff_eq] at ho
   obtain ⟨⟨rfl, ho⟩, hc⟩ := ho
   obtain ⟨xs, q, _, _, hl, hn, hel⟩ := DataW.trod_array hu h
   refine ⟨hl, ?_⟩
   obtain ⟨yss, h1, h2, h3⟩ := AllC.rows (S := fun b => b < w.heap.size) (w := w) (Q := s.Rep) m cs (by rw [hl, hc]) fun i hi => by
    have := hel i hi
    rw [zlb (by omega)] at this
    exact (open_rep s ho this).2
   exact ⟨_, ⟨yss, h1, rfl, h2⟩, h3⟩
  ·cases ho
 | .slc s, t, fuel, cs, x, ho, h => by
  simp only [Shp.ok] at ho
  split at ho
  ·rename_i e hu
   simp only [Bool.and_eq_true, beq_iff_eq] at ho
   obtain ⟨ho, hc⟩ := ho
   rcases DataW.trod_slice hu h with ⟨rfl, _⟩ | ⟨a, len, cap, elems, rest, n, _, rfl, _, hb, hl, hm, hlen, hel, _, _⟩
   ·exact ⟨hc.symm, _, ⟨[], by simp, rfl, fun z hz => by simp at hz⟩, AllC.cons (.im0 (znb _) (by unfold maxLen; omega) (fun _ => rfl)) (AllC.nil _ _)⟩
   ·refine ⟨hc.symm, ?_⟩
    obtain ⟨f, hf⟩ : ∃ f : Nat → Value, f = fun i => (w.cell? (a.add i)).getD undef := ⟨_, rfl⟩
    have each : ∀ i, i < len → w.cells? base (a.add (i * P.cellsOf e)) (P.cellsOf e) = some ((((List.range (len * P.cellsOf e)).map f).drop (i * P.cellsOf e)).take (P.cellsOf e)) ∧ ∃ y, DataW.trod enc P w base sp held n e ((((List.range (len * P.cellsOf e)).map f).drop (i * P.cellsOf e)).take (P.cellsOf e)) = some y := by
     intro i hi
     have h1 := hel i hi
     rw [zlb (by omega), Option.bind_eq_some_iff] at h1
     obtain ⟨cs', h2, h3⟩ := h1
     obtain ⟨_, h4, h5⟩ := World.cells?_some h2
     have hle : i * P.cellsOf e + P.cellsOf e ≤ len * P.cellsOf e := by
      have := Nat.mul_le_mul_right (P.cellsOf e) (show i + 1 ≤ len by omega)
      rwa [Nat.add_mul, zna] at this
     have he : cs' = (((List.range (len * P.cellsOf e)).map f).drop (i * P.cellsOf e)).take (P.cellsOf e) := by
      refine List.ext_getElem? fun j => ?_
      rw [List.getElem?_take]
      split
      ·rename_i hj
       have h6 := h5 j hj
       rw [addr_add] at h6
       rw [zl5, List.getElem?_map, List.getElem?_range (by omega), Option.map_some, hf]
       simp only
       rw [h6, zlb (by omega)]; rfl
      ·rw [List.getElem?_eq_none (by omega)]
     rw [← he]
     exact ⟨h2, _, h3⟩
    obtain ⟨yss, h1, h2, h3⟩ := AllC.rows (S := fun b => b < w.heap.size) (w := w) (Q := s.Rep) (sz := P.cellsOf e) len ((List.range (len * P.cellsOf e)).map f) (by simp) fun i hi => by
     obtain ⟨_, y, hy⟩ := each i hi
     exact (open_rep s ho hy).2
    refine ⟨_, ⟨yss, by omega, rfl, h2⟩, AllC.cons ?_ (AllC.nil _ _)⟩
    rw [h1]
    by_cases h0 : yss.flatten = []
    ·rw [h0]; exact .im0 hl hm (fun h => by cases h)
    ·have hpos : 0 < len * P.cellsOf e := by
      have h4 := h3.1
      simp only [List.length_map, List.length_range] at h4
      rw [← h4]
      exact List.length_pos_iff.2 h0
     have cell : ∀ i, i < len * P.cellsOf e → w.cell? (a.add i) = some (f i) := by
      intro i hi
      have hsz : 0 < P.cellsOf e := Nat.pos_of_ne_zero fun h => by rw [h, Nat.mul_zero] at hpos; omega
      have hd : i / P.cellsOf e < len := (Nat.div_lt_iff_lt_mul hsz).2 hi
      obtain ⟨h4, _⟩ := each (i / P.cellsOf e) hd
      obtain ⟨_, _, h5⟩ := World.cells?_some h4
      have h6 := h5 (i % P.cellsOf e) (Nat.mod_lt _ hsz)
      rw [addr_add, Nat.mul_comm, Nat.div_add_mod, List.getElem?_take, if_pos (Nat.mod_lt _ hsz), zl5, Nat.mul_comm, Nat.mul_comm, List.getElem?_map] at h6
      rw [h6, Nat.div_add_mod, List.getElem?_range hi]; rfl
     have c0 := cell 0 hpos
     rw [show a.add 0 = a by simp [Addr.add]] at c0
     obtain ⟨b, off, spot⟩ := a
     have hsp : spot = none := by
      cases spot with
      | none => rfl
      | some _ =>
       simp only [World.cell?] at c0
       split at c0
       ·simp at c0
       ·cases c0
     subst hsp
     have hbl : b < w.heap.size := by
      simp only [World.cell?] at c0
      split at c0
      ·rename_i hb'; exact (Array.getElem?_eq_some_iff.1 hb').1
      ·cases c0
     refine .im1 f hl hm hbl (fun i x hx => ?_) (fun i x hx => ?_)
     ·have hi : i < len * P.cellsOf e := by
       have := (List.getElem?_eq_some_iff.1 hx).1
       have h4 := h3.1
       simp only [List.length_map, List.length_range] at h4
       omega
      have := cell i hi
      unfold Addr.add at this
      split at this
      ·rename_i hi0; subst hi0; exact this
      ·exact this
     ·have hi : i < len * P.cellsOf e := by
       have := (List.getElem?_eq_some_iff.1 hx).1
       have h4 := h3.1
       simp only [List.length_map, List.length_range] at h4
       omega
      exact h3.2 i x (f i) hx (by rw [List.getElem?_map, List.getElem?_range hi]; rfl)
  ·cases ho
 | .st l, t, fuel, cs, x, ho, h => by
  simp only [Shp.ok] at ho
  split at ho
  ·rename_i fs hu
   obtain ⟨xs, n, _, _, hl, hn, hel⟩ := DataW.trod_struct hu h
   refine ⟨hl, ?_⟩
   obtain ⟨ys, h1, h2⟩ := open_reps l (fs := fs.toList) (off := 0) (cs := cs) (n := n) (m := P.cellsOf t) ho hl (fun i f hf => by
    have := hel i f (by simpa using hf)
    have hi := (List.getElem?_eq_some_iff.1 hf).1
    rw [zlb (by rw [hn]; simpa using hi)] at this
    exact ⟨_, this⟩)
   rw [zl2] at h2
   exact ⟨ys, h1, h2⟩
  ·cases ho
theorem open_reps : ∀ (l : List Shp) {fs : List Field} {off n m : Nat} {cs : List Value}, Shp.oks P l fs off m = true → cs.length = m → (∀ (i : Nat) (f : Field), fs[i]? = some f → ∃ x : DataW H × List MemPlace, DataW.trod enc P w base sp held n f.type ((cs.drop f.offset).take (P.cellsOf f.type)) = some x) →
  ∃ ys, Shp.Reps l ys ∧ AllC (fun b => b < w.heap.size) w ys (cs.drop off)
 | [], fs, off, n, m, cs, ho, hl, h => by
  simp only [Shp.oks, Bool.and_eq_true, beq_iff_eq] at ho
  refine ⟨[], rfl, ?_⟩
  rw [List.drop_of_length_le (by omega)]
  exact AllC.nil _ _
 | s :: r, [], off, n, m, cs, ho, hl, h => by simp [Shp.oks] at ho
 | s :: r, f :: fs, off, n, m, cs, ho, hl, h => by
  simp only [Shp.oks, Bool.and_eq_true, beq_iff_eq] at ho
  obtain ⟨⟨h1, h2⟩, h3⟩ := ho
  obtain ⟨x, hx⟩ := h 0 f rfl
  obtain ⟨hlen, ys, h4, h5⟩ := open_rep s h2 hx
  obtain ⟨zs, h6, h7⟩ := open_reps r h3 hl fun i g hg => h (i + 1) g (by simpa using hg)
  refine ⟨ys ++ zs, ⟨ys, zs, rfl, h4, h6⟩, ?_⟩
  have := h5.append h7
  rwa [h1, ← List.drop_drop, List.take_append_drop] at this
end
def Shp.Val : Shp → V → Prop
 | .arr n s, x => ∃ ys, x = .ag ys ∧ (Shp.arr n s).Rep ys
 | .st l, x => ∃ ys, x = .ag ys ∧ Shp.Reps l ys
 | .int k, x => ∃ n : Int, x = .sc (.int k n) ∧ (Lit.int k n).wf = true
 | .bool, x => ∃ b, x = .sc (.bool b)
 | .str, x => ∃ s : ByteArray, x = .sc (.string s) ∧ s.size ≤ maxLen
 | .slc s, x => ∃ yss : List (List V), yss.length ≤ maxLen ∧ x = .im yss.flatten yss.length ∧ ∀ z ∈ yss, s.Rep z
def Shp.Vals : List Shp → List V → Prop
 | [], xs => xs = []
 | s :: r, xs => ∃ x ys, xs = x :: ys ∧ s.Val x ∧ Shp.Vals r ys
theorem rc_agg {S : Nat → Prop} {ys : List V} {cs : Array Value} (h : AllC S w ys cs.toList) : Rc S w (.ag ys) (.agg cs) :=
 .ag (by have := h.1; simpa using this) fun i x u hx hu => h.2 i x u hx (by simpa using hu)
theorem open_arg (s : Shp) {t : TypeId} {v : Value} {d : DataW H} {ps : List MemPlace} (ho : s.ok P t = true) (hval : Value.okWide P w .any 0 t v) (hd : DataW.Trod enc P w 0 (fun _ => true) true t v d ps) : ∃ x, s.Val x ∧ Rc (fun b => b < w.heap.size) w x v := by
 obtain ⟨fuel, hf⟩ := hd
 obtain ⟨_, ys, h1, h2⟩ := open_rep s ho hf
 have one : ∀ {y : V}, (∀ cs, v ≠ .agg cs) → ys = [y] → Rc (fun b => b < w.heap.size) w y v := by
  intro y hv e
  subst e
  have hc : v.cells.toList = [v] := by cases v <;> first | rfl | exact absurd rfl (hv _)
  rw [hc] at h2
  exact h2.2 0 y v rfl rfl
 cases s with
 | int k =>
  obtain ⟨n, rfl, hw⟩ := h1
  simp only [Shp.ok] at ho
  split at ho
  ·rename_i hu
   obtain ⟨m, rfl⟩ := okWide_int hu hval
   exact ⟨_, ⟨n, rfl, hw⟩, one (fun cs e => by cases e) rfl⟩
  ·cases ho
 | bool =>
  obtain ⟨b, rfl⟩ := h1
  simp only [Shp.ok] at ho
  split at ho
  ·rename_i hu
   obtain ⟨m, rfl⟩ := okWide_bool hu hval
   exact ⟨_, ⟨b, rfl⟩, one (fun cs e => by cases e) rfl⟩
  ·cases ho
 | str =>
  obtain ⟨b, rfl, hl⟩ := h1
  simp only [Shp.ok] at ho
  split at ho
  ·rename_i hu
   refine ⟨_, ⟨b, rfl, hl⟩, one (fun cs e => ?_) rfl⟩
   subst e
   simp [Value.okWide, Cell.okWide, Cell.ok, hu] at hval
  ·cases ho
 | slc s =>
  obtain ⟨yss, h3, rfl, h4⟩ := h1
  simp only [Shp.ok] at ho
  split at ho
  ·rename_i hu
   refine ⟨_, ⟨yss, h3, rfl, h4⟩, one (fun cs e => ?_) rfl⟩
   subst e
   simp [Value.okWide, Cell.okWide, Cell.ok, hu] at hval
  ·cases ho
 | arr n s =>
  have ho' := ho
  simp only [Shp.ok] at ho
  split at ho
  ·rename_i hu
   obtain ⟨cs, rfl, _⟩ : ∃ cs, v = .agg cs ∧ cs.size = P.cellsOf t ∧ Row.okWide P w .any 0 t cs := by simpa [Value.okWide, hu] using hval
   exact ⟨_, ⟨ys, rfl, h1⟩, rc_agg h2⟩
  ·cases ho
 | st l =>
  simp only [Shp.ok] at ho
  split at ho
  ·rename_i hu
   obtain ⟨cs, rfl, _⟩ : ∃ cs, v = .agg cs ∧ cs.size = P.cellsOf t ∧ Row.okWide P w .any 0 t cs := by simpa [Value.okWide, hu] using hval
   exact ⟨_, ⟨ys, rfl, h1⟩, rc_agg h2⟩
  ·cases ho
def Shp.okL (P : Program) : List Shp → List TypeId → Bool
 | [], [] => true
 | s :: r, t :: ts => s.ok P t && Shp.okL P r ts
 | _, _ => false
theorem open_args : ∀ (ss : List Shp) {ts : List TypeId} {vs : List Value} {ds : List (DataW H)} {ps : List MemPlace}, Shp.okL P ss ts = true → (∀ (j : Nat) t v, ts[j]? = some t → vs[j]? = some v → Value.okWide P w .any 0 t v) → DataW.TrodAll enc P w 0 (fun _ => true) true ts vs ds ps →
  ∃ xs, Shp.Vals ss xs ∧ AllC (fun b => b < w.heap.size) w xs vs ∧ ds.length = ts.length
 | [], [], vs, ds, ps, _, _, h => by obtain ⟨rfl, rfl, rfl⟩ := trodAll_nil h; exact ⟨[], rfl, AllC.nil _ _, rfl⟩
 | [], t :: ts, _, _, _, ho, _, _ => by cases ho
 | s :: r, [], _, _, _, ho, _, _ => by cases ho
 | s :: r, t :: ts, vs, ds, ps, ho, hv, h => by
  simp only [Shp.okL, Bool.and_eq_true] at ho
  obtain ⟨v, vs', d, ds', p, q, rfl, rfl, rfl, h1, h2⟩ := trodAll_cons h
  obtain ⟨x, h3, h4⟩ := open_arg s ho.1 (hv 0 t v rfl rfl) h1
  obtain ⟨xs, h5, h6, h7⟩ := open_args r ho.2 (fun j t v a b => hv (j + 1) t v (by simpa using a) (by simpa using b)) h2
  exact ⟨x :: xs, ⟨x, xs, rfl, h3, h5⟩, AllC.cons h4 h6, by simp [h7]⟩
theorem law_calls {f : Nat} {fn : Func} (ss : List Shp) {args : Array Value} {ds : List (DataW H)} {p : List MemPlace} (hok : Shp.okL P ss fn.params.toList = true)
  (hval : ∀ (j : Nat) t v, fn.params[j]? = some t → args[j]? = some v → Value.okWide P w .any 0 t v) (hA : DataW.TrodAll enc P w 0 (fun _ => true) true fn.params.toList args.toList ds p)
  (ht : TabOK (fun b => b < w.heap.size) w) (hs : ∀ xs, Shp.Vals ss xs → Spec P f xs (.sc (.bool true))) : ds.length = fn.params.size ∧ Calls P f args w fun e w' => e = .returned (.bool true) ∧ Below w.heap.size w w' := by
 obtain ⟨xs, h1, h2, h3⟩ := open_args ss hok (fun j t v a b => hval j t v (by simpa using a) (by simpa using b)) hA
 exact ⟨by simpa using h3, Spec.law (hs xs h1) ht h2⟩
theorem reps_ints {k : IntKind} : ∀ {yss : List (List V)}, (∀ z ∈ yss, (Shp.int k).Rep z) → ∃ ns : List Int, yss.flatten = ns.map (fun n => .sc (.int k n)) ∧ ns.length = yss.length ∧ ∀ n ∈ ns, (Lit.int k n).wf = true
 | [], _ => ⟨[], rfl, rfl, fun n hn => by simp at hn⟩
 | y :: r, h => by
  obtain ⟨n, rfl, hw⟩ := h y (by simp)
  obtain ⟨ns, h1, h2, h3⟩ := reps_ints (yss := r) fun z hz => h z (by simp [hz])
  exact ⟨n :: ns, by simp [h1], by simp [h2], fun m hm => by
   rcases List.mem_cons.1 hm with rfl | hm
   ·exact hw
   ·exact h3 m hm⟩
theorem wf_nat {k : IntKind} {M : Nat} (hk : ∀ n, (Lit.int k n).wf = true → 0 ≤ n ∧ n ≤ M) {n : Int} (h : (Lit.int k n).wf = true) : ∃ m : Nat, n = m ∧ m ≤ M := by
 obtain ⟨h1, h2⟩ := hk n h
 exact ⟨n.toNat, by omega, by omega⟩
end
end Go.Proofs.Ytdkkgndibagihaa
namespace Go.Proofs.Ytdkkgndibagihaa
open Go.ChangeShapes Go.WideShapes Go.ChangeAt Go.RowKit
theorem i8w (n : Int) (h : (Lit.int .i8 n).wf = true) : -128 ≤ n ∧ n ≤ 127 := by
 have h : (IntKind.i8.min ≤ n ∧ n ≤ IntKind.i8.max) := by simpa [Lit.wf] using h
 have h1 : IntKind.i8.min = -128 := by decide
 have h2 : IntKind.i8.max = 127 := by decide
 omega
theorem rw_rep {y : List V} (h : (Shp.st [.int .u8, .int .u8, .slc (.int .i8)]).Rep y) : ∃ x : Rwc, y = rwC x ∧ RwcOk x := by
 obtain ⟨a1, b1, rfl, ⟨n1, rfl, w1⟩, a2, b2, rfl, ⟨n2, rfl, w2⟩, a3, b3, rfl, ⟨yss, hl, rfl, hr⟩, rfl⟩ := h
 obtain ⟨a, rfl, ha⟩ := wf_nat u8_wf w1
 obtain ⟨b, rfl, hb⟩ := wf_nat u8_wf w2
 obtain ⟨l, h1, h2, h3⟩ := reps_ints hr
 unfold maxLen at hl
 refine ⟨⟨a, b, l⟩, ?_, by show a < _; omega, by show b < _; omega, fun x hx => i8w x (h3 x hx), by show l.length ≤ _; omega⟩
 rw [h1, ← h2]; rfl
theorem rw_val {x : V} (h : (Shp.st [.int .u8, .int .u8, .slc (.int .i8)]).Val x) : ∃ y : Rwc, x = .ag (rwC y) ∧ RwcOk y := by
 obtain ⟨ys, rfl, hr⟩ := h
 obtain ⟨y, rfl, hy⟩ := rw_rep hr
 exact ⟨y, rfl, hy⟩
theorem rws_rep : ∀ {yss : List (List V)}, (∀ z ∈ yss, (Shp.st [.int .u8, .int .u8, .slc (.int .i8)]).Rep z) → ∃ l : List Rwc, yss.flatten = rwcs l ∧ l.length = yss.length ∧ ∀ x ∈ l, RwcOk x
 | [], _ => ⟨[], rfl, rfl, fun o ho => by cases ho⟩
 | y :: r, h => by
  obtain ⟨x, rfl, hx⟩ := rw_rep (h y (by simp))
  obtain ⟨l, e1, e2, e3⟩ := rws_rep (yss := r) fun z hz => h z (by simp [hz])
  refine ⟨x :: l, by rw [List.flatten_cons, e1]; rfl, by simp [e2], fun z hz => ?_⟩
  rcases List.mem_cons.1 hz with rfl | hz
  ·exact hx
  ·exact e3 z hz
theorem rws_val {x : V} (h : (Shp.slc (.st [.int .u8, .int .u8, .slc (.int .i8)])).Val x) : ∃ l : List Rwc, x = .im (rwcs l) l.length ∧ l.length ≤ 9223372036854775807 ∧ ∀ x ∈ l, RwcOk x := by
 obtain ⟨yss, hl, rfl, hr⟩ := h
 obtain ⟨l, h1, h2, h3⟩ := rws_rep hr
 unfold maxLen at hl
 exact ⟨l, by rw [h1, h2], by omega, h3⟩
theorem lmade_ex {l : List Rwc} (hl : l.length ≤ 9223372036854775807) (hx : ∀ x ∈ l, RwcOk x) : ∃ C, Spec Try.prog 12 [.im (rwcs l) l.length] (cxV C) ∧ Good C ∧ C.length ≤ 12 := by
 obtain ⟨C, c1, h1, h2⟩ := made_ex hl hx
 refine ⟨C, ?_, h1, h2⟩
 unfold cxV at *
 refine qF Try.func12 Try.ntmps12 fun B hB => ?_
 refine qW ?_
 exact qE Try.results12
end Go.Proofs.Ytdkkgndibagihaa
namespace Go.Proofs.Ytdkkgndibagihaa
open Go.RowKit
theorem plain_of {C : List Cx} {K : Nat} (hC : CxOk K C) (hV : VAL C) : ∀ x ∈ C, PlainCh K x.b := fun x hx => ⟨(hC.all x hx).len, fun f hf => by
 obtain ⟨z, hz, _⟩ := (hV.faces x hx).vg.mem f hf
 have := (hC.all x hx).cf f hf
 rw [hz] at this
 exact ⟨z, hz, this⟩⟩
theorem CxOk.ins {C : List Cx} {K : Nat} {a : Cx} (hC : CxOk K C) (ha : CxK K a) (hl : C.length ≤ 999) : CxOk K (insL C a) := ⟨by rw [ins_len]; omega, fun z hz => by
 rcases mem_ins.1 hz with e | e
 ·rw [e]; exact ha
 ·exact hC.all z e⟩
theorem rvalid_t {C : List Cx} {K : Nat} (hC : CxOk K C) (hV : VAL C) (hK : K ≤ 100000000000) : Spec Try.prog 28 [cxV C] (.sc (.bool true)) := by
 obtain ⟨r, c, h⟩ := rcvalid_s hC hK
 rw [h.2 hV] at c; exact c
theorem pvalid_t {C : List Cx} {K : Nat} (hC : CxOk K C) (hV : VAL C) (hK : K ≤ 100000000000) : Spec Try.prog 26 [cxV C] (.sc (.bool true)) := by
 obtain ⟨r, c, h⟩ := cvalid_s hC hK
 rw [h.2 hV] at c; exact c
structure MadeC (C : List Cx) (x : Rwc) (a : Cx) : Prop where
 run : Spec Try.prog 29 [cxV C, .ag (rwC x)] (.ag (cxC a))
 k : CxK 50000000001 a
 fo : FacesOk C a
 cl : ∀ n, bdn C a.b n = 0
theorem madec_ex {C : List Cx} (hG : Good C) (hl : C.length ≤ 12) {x : Rwc} (hx : RwcOk x) : ∃ a, MadeC C x a := by
 obtain ⟨a, c, h⟩ := cell_ex hG hl hx
 obtain ⟨h1, h2⟩ := h.fits hG.val
 exact ⟨a, c, (h.ok hG hl hx).1, h1, h2⟩
end Go.Proofs.Ytdkkgndibagihaa
namespace Go.Proofs.Ytdkkgndibagihaa
open Go.RowKit
theorem cxs_set {C : List Cx} {i : Nat} (h : i < C.length) (x : Cx) : cxs (C.set i x) = (cxs C).take (i * 3) ++ cxC x ++ (cxs C).drop ((i + 1) * 3) := by
 have e1 : (cxs C).take (i * 3) = cxs (C.take i) := fm_take cxC_len C i
 have e2 : (cxs C).drop ((i + 1) * 3) = cxs (C.drop (i + 1)) := fm_dropL cxC_len C (i + 1)
 rw [e1, e2, List.set_eq_take_append_cons_drop, if_pos h]; unfold cxs; simp
theorem fcs_set {b : Ch} {i : Nat} (h : i < b.length) (x : Fc) : fcs (b.set i x) = (fcs b).take (i * 3) ++ fcC x ++ (fcs b).drop ((i + 1) * 3) := by
 have e1 : (fcs b).take (i * 3) = fcs (b.take i) := fm_take fcC_len b i
 have e2 : (fcs b).drop ((i + 1) * 3) = fcs (b.drop (i + 1)) := fm_dropL fcC_len b (i + 1)
 rw [e1, e2, List.set_eq_take_append_cons_drop, if_pos h]; unfold fcs; simp
theorem cxs_cut {C : List Cx} {i : Nat} (h : i < C.length) : cxs C = (cxs C).take (i * 3) ++ cxC (C.getD i cx0) ++ (cxs C).drop ((i + 1) * 3) := by
 rw [zl6, ← cxs_drop h, List.take_append_drop]
theorem set_seg0 {A D : List V} {p q r x : V} {a : Nat} (h : A.length = a) : (A ++ [p, q, r] ++ D).set a x = A ++ [x, q, r] ++ D := by subst h; simp [List.set_append]
theorem set_seg1 {A D : List V} {p q r x : V} {a : Nat} (h : A.length = a) : (A ++ [p, q, r] ++ D).set (a + 1) x = A ++ [p, x, r] ++ D := by subst h; simp [List.set_append]
theorem set_seg2 {A D : List V} {p q r x : V} {a : Nat} (h : A.length = a) : (A ++ [p, q, r] ++ D).set (a + 2) x = A ++ [p, q, x] ++ D := by subst h; simp [List.set_append]
theorem cxs_take_len {C : List Cx} {i : Nat} (h : i < C.length) : ((cxs C).take (i * 3)).length = i * 3 := by rw [List.length_take, cxs_len]; omega
theorem fcs_take_len {b : Ch} {i : Nat} (h : i < b.length) : ((fcs b).take (i * 3)).length = i * 3 := by rw [List.length_take, fcs_len]; omega
theorem cxs_set0 {C : List Cx} {i : Nat} {x : Cx} (h : i < C.length) (e : C.getD i cx0 = x) (n : Int) : (cxs C).set (i * 3) (.sc (.int .i64 n)) = cxs (C.set i ⟨n, x.dim, x.b⟩) := by
 conv => lhs; rw [cxs_cut h, e]
 rw [cxs_set h]; exact set_seg0 (cxs_take_len h)
theorem cxs_set1 {C : List Cx} {i : Nat} {x : Cx} (h : i < C.length) (e : C.getD i cx0 = x) (n : Int) : (cxs C).set (i * 3 + 1) (.sc (.int .i64 n)) = cxs (C.set i ⟨x.id, n, x.b⟩) := by
 conv => lhs; rw [cxs_cut h, e]
 rw [cxs_set h]; exact set_seg1 (cxs_take_len h)
theorem cxs_set2 {C : List Cx} {i : Nat} {x : Cx} (h : i < C.length) (e : C.getD i cx0 = x) (b : Ch) : (cxs C).set (i * 3 + 2) (.im (fcs b) b.length) = cxs (C.set i ⟨x.id, x.dim, b⟩) := by
 conv => lhs; rw [cxs_cut h, e]
 rw [cxs_set h]; exact set_seg2 (cxs_take_len h)
theorem getD_set0 {C : List Cx} {i : Nat} (h : i < C.length) (x : Cx) : (C.set i x).getD i cx0 = x := by
 rw [List.getD_eq_getElem?_getD, List.getElem?_set_self h]; rfl
theorem cxs_set3 {C : List Cx} {i : Nat} (h : i < C.length) (x : Cx) : (((cxs C).set (i * 3) (.sc (.int .i64 x.id))).set (i * 3 + 1) (.sc (.int .i64 x.dim))).set (i * 3 + 1 + 1) (.im (fcs x.b) x.b.length) = cxs (C.set i x) := by
 rw [cxs_set0 h rfl, cxs_set1 (by rw [List.length_set]; exact h) (getD_set0 h _), List.set_set, cxs_set2 (by rw [List.length_set]; exact h) (getD_set0 h _), List.set_set]
theorem cxs_at {C : List Cx} {i r : Nat} (h : i < C.length) (hr : r < 3) : (cxs C)[i * 3 + r]? = (cxC (C.getD i cx0))[r]? := by
 rw [← zl5, cxs_drop h, List.getElem?_append_left (by rw [cxC_len]; exact hr)]
theorem fcs_cut {b : Ch} {i : Nat} (h : i < b.length) : fcs b = (fcs b).take (i * 3) ++ fcC (b.getD i (0, some 0)) ++ (fcs b).drop ((i + 1) * 3) := by
 rw [zl6, ← fcs_drop h, List.take_append_drop]
theorem fcs_setq {b : Ch} {i : Nat} (h : i < b.length) {p r : V} (q : Cf) (hq : cfC q = [p, r]) : ((fcs b).set (i * 3 + 1) p).set (i * 3 + 1 + 1) r = fcs (b.set i ((b.getD i (0, some 0)).1, q)) := by
 obtain ⟨u, v, huv⟩ : ∃ u v, fcC (b.getD i (0, some 0)) = [.sc (.int .i64 (b.getD i (0, some 0)).1), u, v] := by
  obtain ⟨nf, lf, h⟩ := cfC_two (b.getD i (0, some 0)).2
  exact ⟨_, _, by unfold fcC; rw [h]⟩
 conv => lhs; rw [fcs_cut h, huv]
 rw [set_seg1 (fcs_take_len h), set_seg2 (fcs_take_len h), fcs_set h]
 unfold fcC; rw [hq]
theorem frz_clo {hp : List (Nat × Blk)} {n : Nat} {c : V} (h : clo c = true) : frz (n + 1) hp c = some (c, []) := by
 cases c with
 | sc v => cases v <;> first | rfl | (simp [clo] at h)
 | im cs n => rfl
 | pi cs => rfl
 | _ => simp [clo] at h
theorem frzAll_clo {g : V → Option (V × List Nat)} (hg : ∀ c, clo c = true → g c = some (c, [])) : ∀ {L : List V}, L.all clo = true → frzAll g L = some (L, [])
 | [], _ => rfl
 | x :: L, h => by
  rw [List.all_cons, Bool.and_eq_true] at h
  rw [frzAll, hg x h.1, frzAll_clo hg h.2]; rfl
theorem frzAll_set {g : V → Option (V × List Nat)} (hg : ∀ c, clo c = true → g c = some (c, [])) {q q' : V} (hq : g q = some (q', [])) : ∀ {L : List V} {i : Nat}, L.all clo = true → i < L.length → frzAll g (L.set i q) = some (L.set i q', [])
 | [], _, _, h => by simp at h
 | x :: L, 0, h, _ => by
  rw [List.all_cons, Bool.and_eq_true] at h
  rw [List.set_cons_zero, List.set_cons_zero, frzAll, hq, frzAll_clo hg h.2]; rfl
 | x :: L, i + 1, h, hi => by
  rw [List.all_cons, Bool.and_eq_true] at h
  rw [List.set_cons_succ, List.set_cons_succ, frzAll, hg x h.1, frzAll_set hg hq h.2 (by simpa using hi)]; rfl
theorem frzL_set {hp : List (Nat × Blk)} {n : Nat} {L : List V} {i : Nat} (h : L.all clo = true) (hi : i < L.length) : frzL (frz (n + 1) hp) (L.set i (.sc (.slice none 0 0))) = some (L.set i (.im [] 0), []) := by
 unfold frzL
 rw [if_neg, frzAll_set (fun c hc => frz_clo hc) (q' := .im [] 0) rfl h hi]
 intro h2
 have := List.all_eq_true.1 h2 (.sc (.slice none 0 0)) (List.mem_of_getElem? (by rw [List.getElem?_set_self hi]))
 cases this
theorem all_set {L : List V} {i : Nat} {v : V} (h : L.all clo = true) (hv : clo v = true) : (L.set i v).all clo = true := List.all_eq_true.2 fun x hx => by
 rcases List.mem_or_eq_of_mem_set hx with h1 | h1
 ·exact List.all_eq_true.1 h x h1
 ·rw [h1]; exact hv
def spF (b : Ch) (k : Nat) (q : Cf) : Ch := if b.length = 0 then b else b.set (k % b.length) ((b.getD (k % b.length) (0, some 0)).1, q)
def spoilL (C : List Cx) (w i k : Nat) (c : Int) : List Cx :=
 if C.length = 0 then C else
 let I := i % C.length
 let K := k % C.length
 let x := C.getD I cx0
 let y := C.getD K cx0
 if w % 7 = 0 then (C.set I y).set K x else
 if w % 7 = 1 then C.set I ⟨x.id, x.dim + c, x.b⟩ else
 if w % 7 = 2 then C.set I ⟨y.id, x.dim, x.b⟩ else
 if w % 7 = 3 then C.set I ⟨x.id, x.dim, x.b ++ [(y.id, some c)]⟩ else
 if w % 7 = 4 then C.set I ⟨x.id, x.dim, spF x.b k (some c)⟩ else
 if w % 7 = 5 then C.take I ++ C.drop (I + 1) else
 C.set I ⟨x.id, x.dim, spF x.b k none⟩
set_option maxHeartbeats 16000000 in
set_option maxRecDepth 8000 in
theorem spoilt_s {C : List Cx} {K : Nat} {w i k : Nat} {c : Int} (hC : CxOk K C) (hw : w < 256) (hi : i < 256) (hk : k < 256) (hc : -128 ≤ c ∧ c ≤ 127) :
  Spec Try.prog 27 [cxV C, .ag [.sc (.int .u8 (w : Nat)), .sc (.int .u8 (i : Nat)), .sc (.int .u8 (k : Nat)), .sc (.int .i8 c)]] (cxV (spoilL C w i k c)) := by
 have hCl := hC.len
 have gl := cxs_len C
 have h1 := cxs_one C
 have gt : (cxs C).take (C.length * 3) = cxs C := zla (by omega)
 have hcl := cxs_clo C
 unfold spoilL
 by_cases h0 : C.length = 0
 ·rw [if_pos h0]
  have hC0 : C = [] := List.eq_nil_of_length_eq_zero h0
  subst hC0
  unfold cxV
  simp only [show cxs [] = [] from rfl, List.length_nil]
  refine qF Try.func27 Try.ntmps27 fun B hB => ?_
  refine qW ?_
  exact qE Try.results27
 ·rw [if_neg h0]
  have hpos : 0 < C.length := by omega
  have hI : i % C.length < C.length := Nat.mod_lt _ hpos
  have hK : k % C.length < C.length := Nat.mod_lt _ hpos
  have ei : (i : Int) % (C.length : Int) = ((i % C.length : Nat) : Int) := rfl
  have ek : (k : Int) % (C.length : Int) = ((k % C.length : Nat) : Int) := rfl
  simp only
  generalize i % C.length = I at *
  generalize k % C.length = J at *
  have gd := cxs_drop hI
  have gd2 := cxs_drop hK
  have gI : I * 3 + 3 ≤ (cxs C).length := by omega
  have gJ : J * 3 + 3 ≤ (cxs C).length := by omega
  have hxk := hC.get hI
  have hyk := hC.get hK
  unfold cxV
  refine qF Try.func27 Try.ntmps27 fun B hB => ?_
  have q0 : ((C.length : Int) == 0) = false := by rw [beq_eq_false_iff_ne]; omega
  have a0 := cxs_at (r := 0) hI (by omega)
  have a1 := cxs_at (r := 1) hI (by omega)
  have a2 := cxs_at (r := 2) hI (by omega)
  have b0 := cxs_at (r := 0) hK (by omega)
  have b1 := cxs_at (r := 1) hK (by omega)
  have b2 := cxs_at (r := 2) hK (by omega)
  generalize hgx : C.getD I cx0 = x at *
  generalize hgy : C.getD J cx0 = y at *
  obtain ⟨xi, xd, xb⟩ := x
  obtain ⟨yi, yd, yb⟩ := y
  rw [Nat.add_zero] at a0 b0
  unfold cxC at a0 a1 a2 b0 b1 b2 gd gd2
  simp only [List.getElem?_cons_zero, List.getElem?_cons_succ, zl8, zl7] at a0 a1 a2 b0 b1 b2 gd gd2
  have gxl := fcs_len xb
  have ox := fcs_one xb
  have tx : (fcs xb).take (xb.length * 3) = fcs xb := zla (by omega)
  have hxl := hxk.len
  have hxd := hxk.dim
  simp only at hxl hxd ⊢
  clear hxk hyk
  obtain ⟨m, hm⟩ : ∃ m, m = w % 7 := ⟨_, rfl⟩
  have ew : (w : Int) % 7 = (m : Int) := by omega
  rw [← hm]
  refine qWf (Q16 @gl @h1 @gt @ei @ek @q0 @a0 @a1 @a2 @b0 @b1 @b2 @gxl @ox @tx @ew) ?_
  refine SC.weak (s' := ⟨[(3, .pt 0 0), (5, .sl 2 0 C.length 3 none), (6, .sc (.int .i64 (I : Nat))), (7, .sc (.int .i64 (J : Nat))), (8, .sl 4 0 xb.length 3 none), (37, .sc (.int .u8 (m : Nat))), (56, .sc (.bool ((m : Int) == 0)))], [(4, ⟨86, fcs xb, false⟩), (2, ⟨39, cxs C, false⟩), (0, ⟨48, [.sc (.int .u8 (w : Nat)), .sc (.int .u8 (i : Nat)), .sc (.int .u8 (k : Nat)), .sc (.int .i8 c)], false⟩)], 5, 151⟩) (by simp) ?_ ?_
  ·exact qLc
  have hm7 : m < 7 := by omega
  clear hm ew
  have fin : ∀ L : List Cx, L.length = C.length → (cxs L).length = 3 * C.length ∧ (cxs L).take (C.length * 3) = cxs L ∧ (cxs L).all clo = true := fun L hL => ⟨by rw [cxs_len, hL], zla (by rw [cxs_len, hL]; omega), cxs_clo L⟩
  rcases (by omega : m = 0 ∨ m = 1 ∨ m = 2 ∨ m = 3 ∨ m = 4 ∨ m = 5 ∨ m = 6) with rfl | rfl | rfl | rfl | rfl | rfl | rfl
  ·rw [if_pos rfl]
   have e1 := cxs_set3 hI ⟨yi, yd, yb⟩
   have e2 := cxs_set3 (C := C.set I ⟨yi, yd, yb⟩) (i := J) (by rw [List.length_set]; exact hK) ⟨xi, xd, xb⟩
   simp only at e1 e2
   obtain ⟨f1, f2, f3⟩ := fin _ (by rw [List.length_set, List.length_set] : ((C.set I ⟨yi, yd, yb⟩).set J ⟨xi, xd, xb⟩).length = C.length)
   refine qWif (Q9 @gl @a0 @a1 @a2 @b0 @b1 @b2 @gd @gd2) ?_
   rw [e1, e2]
   exact retQ_ret Try.results27 qS (qSf (Q3 @f1 @f2 @f3)) (by rw [List.length_set, List.length_set])
  ·rw [if_neg (by omega), if_pos rfl]
   have e1 := cxs_set1 hI hgx (xd + c)
   obtain ⟨f1, f2, f3⟩ := fin _ (List.length_set : (C.set I ⟨xi, xd + c, xb⟩).length = C.length)
   refine qWif (Q9 @gl @a0 @a1 @a2 @b0 @b1 @b2 @gd @gd2) ?_
   rw [e1]
   exact retQ_ret Try.results27 qS (qSf (Q3 @f1 @f2 @f3)) (by rw [List.length_set])
  ·rw [if_neg (by omega), if_neg (by omega), if_pos rfl]
   have e1 := cxs_set0 hI hgx yi
   obtain ⟨f1, f2, f3⟩ := fin _ (List.length_set : (C.set I ⟨yi, xd, xb⟩).length = C.length)
   refine qWif (Q9 @gl @a0 @a1 @a2 @b0 @b1 @b2 @gd @gd2) ?_
   rw [e1]
   exact retQ_ret Try.results27 qS (qSf (Q3 @f1 @f2 @f3)) (by rw [List.length_set])
  ·rw [if_neg (by omega), if_neg (by omega), if_neg (by omega), if_pos rfl]
   have c1 := of_i c (by omega) (by omega)
   obtain ⟨nc, lc, hqc⟩ := cfC_two (some c)
   rw [show iv c = .ag (cfC (some c)) from rfl, hqc] at c1
   have e1 := cxs_set2 hI hgx (xb ++ [(yi, some c)])
   have e2 : fcs (xb ++ [(yi, some c)]) = fcs xb ++ [.sc (.int .i64 yi), .sc (.bool nc), .im (lv lc) lc.length] := by
    unfold fcs; rw [List.flatMap_append, List.flatMap_singleton]; unfold fcC; rw [hqc]
   have e3 : (xb ++ [(yi, some c)]).length = xb.length + 1 := by simp
   obtain ⟨f1, f2, f3⟩ := fin _ (List.length_set : (C.set I ⟨xi, xd, xb ++ [(yi, some c)]⟩).length = C.length)
   refine qUif (Q12 @gl @a0 @a1 @a2 @b0 @b1 @b2 @gd @gd2 @gxl @ox @tx) ?_
   refine SC.drawT 17 (by simp only [zl3, zl4]; rfl) (by simp only [zl9, zl2]; rfl) Tab.mixed ?_ (by kernel_rfl) ?_
   ·simp (disch := omega) only [go_sem, ↓reduceIte, zn1, zn2, zn3, zn4, zn5, zn6, reduceCtorEq, zn7, zi1, zi2, if_pos, if_neg, Int.reduceAdd, zn8, zna, Nat.zero_mul, Nat.add_zero, zn9, Nat.sub_zero, zl2, zl4, zl3, zl9, zl7, zl8, List.append_nil, List.take_length, List.take_nil, List.drop_nil, List.length_nil, List.length_set, List.length_replicate, List.flatten_nil, List.flatten_cons, Bool.not_true, Bool.not_false, Bool.false_eq_true, Bool.or_true, Bool.true_or, Bool.or_false, Bool.or_self, bne_self_eq_false, beq_self_eq_true]
    intro id q hq
    repeat' (split at hq)
    all_goals first | omega | cases hq
   refine qWif (Q12 @gl @a0 @a1 @a2 @b0 @b1 @b2 @gd @gd2 @gxl @ox @tx) ?_
   show SO _ _ _ _ _ _ _
   rw [← e2]
   rw [e3] at e1
   have g1 := fcs_len (xb ++ [(yi, some c)])
   have g3 := fcs_clo (xb ++ [(yi, some c)])
   rw [e3] at g1
   have g2 : (fcs (xb ++ [(yi, some c)])).take ((xb.length + 1) * 3) = fcs (xb ++ [(yi, some c)]) := zla (by omega)
   refine SO.weakL (Le.frz (y := .im (fcs (xb ++ [(yi, some c)])) (xb.length + 1)) (ids := [6]) 114 (show 114 < 151 by omega) (qSf (Q3 @g1 @g2 @g3))) ?_
   refine qWf @gl ?_
   rw [e1]
   exact retQ_ret Try.results27 qS (qSf (Q3 @f1 @f2 @f3)) (by rw [List.length_set])
  ·rw [if_neg (by omega), if_neg (by omega), if_neg (by omega), if_neg (by omega), if_pos rfl]
   obtain ⟨nc, lc, hqc⟩ := cfC_two (some c)
   have c1 := of_i c (by omega) (by omega)
   rw [show iv c = .ag (cfC (some c)) from rfl, hqc] at c1
   by_cases hb : xb.length = 0
   ·have eS : spF xb k (some c) = xb := by unfold spF; rw [if_pos hb]
    rw [eS]
    have e1 := cxs_set2 hI hgx xb
    obtain ⟨f1, f2, f3⟩ := fin _ (List.length_set : (C.set I ⟨xi, xd, xb⟩).length = C.length)
    have q4 : decide ((xb.length : Int) > 0) = false := decide_eq_false (by omega)
    have g3 := fcs_clo xb
    refine qUif (Q9 @gl @a0 @a1 @a2 @b0 @b1 @b2 @gd @gd2) ?_
    refine SC.frz (y := .im (fcs xb) xb.length) (ids := [4]) 8 (by simp) (qSf (Q3 @gxl @tx @g3)) (by omega) qS ?_
    refine qWif (Q10 @gl @a0 @a1 @a2 @b0 @b1 @b2 @gd @gd2 @q4) ?_
    rw [e1]
    exact retQ_ret Try.results27 qS (qSf (Q3 @f1 @f2 @f3)) (by rw [List.length_set])
   ·have q4 : decide ((xb.length : Int) > 0) = true := decide_eq_true (by omega)
    have hj : k % xb.length < xb.length := Nat.mod_lt _ (by omega)
    have ej : (k : Int) % (xb.length : Int) = ((k % xb.length : Nat) : Int) := rfl
    have eS : spF xb k (some c) = xb.set (k % xb.length) ((xb.getD (k % xb.length) (0, some 0)).1, some c) := by unfold spF; rw [if_neg hb]
    have e4 := fcs_setq hj (some c) hqc
    rw [← eS] at e4
    have e5 : (spF xb k (some c)).length = xb.length := by rw [eS, List.length_set]
    generalize spF xb k (some c) = b' at *
    have e1 := cxs_set2 hI hgx b'
    rw [e5] at e1
    have g1 := fcs_len b'
    have g3 := fcs_clo b'
    rw [e5] at g1
    have g2 : (fcs b').take (xb.length * 3) = fcs b' := zla (by omega)
    obtain ⟨f1, f2, f3⟩ := fin _ (List.length_set : (C.set I ⟨xi, xd, b'⟩).length = C.length)
    generalize k % xb.length = j at *
    refine qUif (Q10 @gl @a0 @a1 @a2 @b0 @b1 @b2 @gd @gd2 @gxl) ?_
    (iterate 1 (first | refine DO.nil (by kernel_rfl) ?_ | (with_reducible refine SC.condB (qTf @q4) ?_; first | with_reducible refine pickT ?_ | with_reducible refine pickF ?_) | (with_reducible refine qO ?_) | ((with_reducible apply SC.region); (focus (simp (disch := omega) only [go_sem, ↓reduceIte, zn1, zn2, zn3, zn4, zn5, zn6, reduceCtorEq, zn7, zi1, zi2, if_pos, if_neg, Int.reduceAdd, zn8, zna, Nat.zero_mul, Nat.add_zero, zn9, Nat.sub_zero, zl2, zl4, zl3, zl9, zl7, zl8, List.append_nil, List.take_length, List.take_nil, List.drop_nil, List.length_nil, List.length_set, List.length_replicate, List.flatten_nil, List.flatten_cons, Bool.not_true, Bool.not_false, Bool.false_eq_true, Bool.or_true, Bool.true_or, Bool.or_false, Bool.or_self, bne_self_eq_false, beq_self_eq_true, q4]; rfl))) | (with_reducible refine SC.draw Tab.mixed rfl ?_; (repeat (refine DO.run (qTf @q4) ?_)); refine DO.nil (by kernel_rfl) ?_)))
    refine SC.drawT 13 (by simp only [zl3, zl4]; rfl) (by simp only [zl9, zl2]; rfl) Tab.mixed ?_ (by kernel_rfl) ?_
    ·simp (disch := omega) only [go_sem, ↓reduceIte, zn1, zn2, zn3, zn4, zn5, zn6, reduceCtorEq, zn7, zi1, zi2, if_pos, if_neg, Int.reduceAdd, zn8, zna, Nat.zero_mul, Nat.add_zero, zn9, Nat.sub_zero, zl2, zl4, zl3, zl9, zl7, zl8, List.append_nil, List.take_length, List.take_nil, List.drop_nil, List.length_nil, List.length_set, List.length_replicate, List.flatten_nil, List.flatten_cons, Bool.not_true, Bool.not_false, Bool.false_eq_true, Bool.or_true, Bool.true_or, Bool.or_false, Bool.or_self, bne_self_eq_false, beq_self_eq_true]
     intro id q hq
     repeat' (split at hq)
     all_goals first | omega | cases hq
    refine qWf (Q3 @gl @gxl @ej) ?_
    show SO _ _ _ _ _ _ _
    refine SO.run (qSf @gxl) ?_
    rw [e4]
    refine SO.weakL (Le.frz (y := .im (fcs b') xb.length) (ids := [4]) 8 (show 8 < 151 by omega) (qSf (Q3 @g1 @g2 @g3))) ?_
    refine qWf (Q9 @gl @a0 @a1 @a2 @b0 @b1 @b2 @gd @gd2) ?_
    rw [e1]
    exact retQ_ret Try.results27 qS (qSf (Q3 @f1 @f2 @f3)) (by rw [List.length_set])
  ·rw [if_neg (by omega), if_neg (by omega), if_neg (by omega), if_neg (by omega), if_neg (by omega), if_pos rfl]
   have m2 : ((I : Int) + 1).toNat = I + 1 := by omega
   have hL : (C.take I ++ C.drop (I + 1)).length = C.length - 1 := by rw [zl1, List.length_take, List.length_drop]; omega
   have eL : cxs (C.take I ++ C.drop (I + 1)) = (cxs C).take (I * 3) ++ (cxs C).drop ((I + 1) * 3) := by
    rw [cxs_take, cxs_dropL, cxs_app]
   have f1 : (cxs (C.take I ++ C.drop (I + 1))).length = 3 * (C.length - 1) := by rw [cxs_len, hL]
   have f2 : (cxs (C.take I ++ C.drop (I + 1))).take ((C.length - 1) * 3) = cxs (C.take I ++ C.drop (I + 1)) := zla (by omega)
   have f3 := cxs_clo (C.take I ++ C.drop (I + 1))
   rw [hL]
   by_cases hn : I + 1 = C.length
   ·have z0 : C.length - (I + 1) = 0 := by omega
    have z1 : I = C.length - 1 := by omega
    have e5 : (cxs C).take (I * 3) = cxs (C.take I ++ C.drop (I + 1)) := by rw [eL, List.drop_of_length_le (l := cxs C) (by omega), List.append_nil]
    rw [← z1] at f1 f2 ⊢
    refine qWif (Q16 @gl @h1 @a0 @a1 @a2 @b0 @b1 @b2 @gd @gd2 @gxl @ox @tx @m2 @z0 @orT) ?_
    rw [e5]
    exact retQ_ret Try.results27 qS (qSf (Q3 @f1 @f2 @f3)) rfl
   ·have gdl : ((cxs C).drop ((I + 1) * 3)).length = (C.length - (I + 1)) * 3 := by rw [List.length_drop, gl]; omega
    have gtd : ((cxs C).drop ((I + 1) * 3)).take ((C.length - (I + 1)) * 3) = (cxs C).drop ((I + 1) * 3) := zla (by omega)
    have gda : ((cxs C).drop ((I + 1) * 3)).all V.one = true := List.all_eq_true.2 fun y hy => List.all_eq_true.1 h1 y (List.mem_of_mem_drop hy)
    have m5 : I + (C.length - (I + 1)) = C.length - 1 := by omega
    refine qWif (Q19 @gl @h1 @a0 @a1 @a2 @b0 @b1 @b2 @gd @gd2 @gxl @ox @tx @m2 @gdl @gtd @gda @m5 @orT) ?_
    rw [← eL]
    exact retQ_ret Try.results27 qS (qSf (Q3 @f1 @f2 @f3)) rfl
  ·rw [if_neg (by omega), if_neg (by omega), if_neg (by omega), if_neg (by omega), if_neg (by omega), if_neg (by omega)]
   have hqc : cfC none = [.sc (.bool true), .im [] 0] := rfl
   by_cases hb : xb.length = 0
   ·have eS : spF xb k (none) = xb := by unfold spF; rw [if_pos hb]
    rw [eS]
    have e1 := cxs_set2 hI hgx xb
    obtain ⟨f1, f2, f3⟩ := fin _ (List.length_set : (C.set I ⟨xi, xd, xb⟩).length = C.length)
    have q4 : decide ((xb.length : Int) > 0) = false := decide_eq_false (by omega)
    have g3 := fcs_clo xb
    refine qUif (Q9 @gl @a0 @a1 @a2 @b0 @b1 @b2 @gd @gd2) ?_
    refine SC.frz (y := .im (fcs xb) xb.length) (ids := [4]) 8 (by simp) (qSf (Q3 @gxl @tx @g3)) (by omega) qS ?_
    refine qWif (Q10 @gl @a0 @a1 @a2 @b0 @b1 @b2 @gd @gd2 @q4) ?_
    rw [e1]
    exact retQ_ret Try.results27 qS (qSf (Q3 @f1 @f2 @f3)) (by rw [List.length_set])
   ·have q4 : decide ((xb.length : Int) > 0) = true := decide_eq_true (by omega)
    have hj : k % xb.length < xb.length := Nat.mod_lt _ (by omega)
    have ej : (k : Int) % (xb.length : Int) = ((k % xb.length : Nat) : Int) := rfl
    have eS : spF xb k (none) = xb.set (k % xb.length) ((xb.getD (k % xb.length) (0, some 0)).1, none) := by unfold spF; rw [if_neg hb]
    have e4 := fcs_setq hj (none) hqc
    rw [← eS] at e4
    have e5 : (spF xb k (none)).length = xb.length := by rw [eS, List.length_set]
    generalize spF xb k (none) = b' at *
    have e1 := cxs_set2 hI hgx b'
    rw [e5] at e1
    have g1 := fcs_len b'
    have g3 := fcs_clo b'
    rw [e5] at g1
    have g2 : (fcs b').take (xb.length * 3) = fcs b' := zla (by omega)
    obtain ⟨f1, f2, f3⟩ := fin _ (List.length_set : (C.set I ⟨xi, xd, b'⟩).length = C.length)
    generalize k % xb.length = j at *
    refine qUif (Q10 @gl @a0 @a1 @a2 @b0 @b1 @b2 @gd @gd2 @gxl) ?_
    (iterate 2 (first | refine DO.nil (by kernel_rfl) ?_ | (with_reducible refine SC.condB (qTf (Q3 @q4 @gxl @ej)) ?_; first | with_reducible refine pickT ?_ | with_reducible refine pickF ?_) | (with_reducible refine qO ?_) | ((with_reducible apply SC.region); (focus (simp (disch := omega) only [go_sem, ↓reduceIte, zn1, zn2, zn3, zn4, zn5, zn6, reduceCtorEq, zn7, zi1, zi2, if_pos, if_neg, Int.reduceAdd, zn8, zna, Nat.zero_mul, Nat.add_zero, zn9, Nat.sub_zero, zl2, zl4, zl3, zl9, zl7, zl8, List.append_nil, List.take_length, List.take_nil, List.drop_nil, List.length_nil, List.length_set, List.length_replicate, List.flatten_nil, List.flatten_cons, Bool.not_true, Bool.not_false, Bool.false_eq_true, Bool.or_true, Bool.true_or, Bool.or_false, Bool.or_self, bne_self_eq_false, beq_self_eq_true, q4, gxl, ej]; rfl))) | (with_reducible refine SC.draw Tab.mixed rfl ?_; (repeat (refine DO.run (qTf (Q3 @q4 @gxl @ej)) ?_)); refine DO.nil (by kernel_rfl) ?_)))
    have hM : (((fcs xb).set (j * 3 + 1) (V.sc (.bool true))).set (j * 3 + 1 + 1) (V.sc (.slice none 0 0))).length = 3 * xb.length := by rw [List.length_set, List.length_set, gxl]
    have hMt : (((fcs xb).set (j * 3 + 1) (V.sc (.bool true))).set (j * 3 + 1 + 1) (V.sc (.slice none 0 0))).take (xb.length * 3) = ((fcs xb).set (j * 3 + 1) (V.sc (.bool true))).set (j * 3 + 1 + 1) (V.sc (.slice none 0 0)) := zla (by omega)
    have hfz : ∀ hp n, frzL (frz (n + 1) hp) (((fcs xb).set (j * 3 + 1) (V.sc (.bool true))).set (j * 3 + 1 + 1) (V.sc (.slice none 0 0))) = some (fcs b', []) := fun hp n => by
     rw [frzL_set (all_set (fcs_clo xb) rfl) (by rw [List.length_set]; omega), e4]
    refine SC.frz (y := .im (fcs b') xb.length) (ids := [4]) 8 (by simp) (qSf (Q3 @hM @hMt @hfz)) (by omega) qS ?_
    refine qWf (Q9 @gl @a0 @a1 @a2 @b0 @b1 @b2 @gd @gd2) ?_
    rw [e1]
    exact retQ_ret Try.results27 qS (qSf (Q3 @f1 @f2 @f3)) (by rw [List.length_set])
end Go.Proofs.Ytdkkgndibagihaa
namespace Go.Proofs.Ytdkkgndibagihaa
open Go.RowKit
theorem cntP_lt {α : Type} {p q : α → Bool} (hqp : ∀ y, q y = true → p y = true) : ∀ {C : List α} {x : α}, x ∈ C → p x = true → q x = false → C.countP q + 1 ≤ C.countP p
 | y :: C, x, hx, hp, hq => by
  rw [List.countP_cons, List.countP_cons]
  have hle : C.countP q ≤ C.countP p := List.countP_mono_left fun y _ => hqp y
  rcases List.mem_cons.1 hx with rfl | hx
  ·rw [hp, hq]; simp; omega
  ·have := cntP_lt hqp hx hp hq
   by_cases h : q y = true
   ·rw [h, hqp y h]; simp; omega
   ·rw [if_neg h]; split <;> omega
def gtP : Option Int → Cx → Bool
 | none, _ => true
 | some q, x => decide (q < x.id)
theorem vg_len {C : List Cx} : ∀ {b : Ch} {p : Option Int}, VG p b → (∀ f ∈ b, ∃ y, findL C f.1 = some y) → b.length ≤ C.countP (gtP p)
 | [], _, _, _ => znc _
 | f :: r, p, hv, ht => by
  obtain ⟨y, hy⟩ := ht f List.mem_cons_self
  obtain ⟨hm, he⟩ := findL_mem hy
  have h1 := vg_len hv.2.2 fun g hg => ht g (List.mem_cons_of_mem _ hg)
  have h2 : C.countP (gtP (some f.1)) + 1 ≤ C.countP (gtP p) := cntP_lt (fun z hz => by
   cases p with
   | none => rfl
   | some q => have := hv.1 q rfl; have hz := of_decide_eq_true hz; exact decide_eq_true (by omega)) hm (by
   cases p with
   | none => rfl
   | some q => have := hv.1 q rfl; exact decide_eq_true (by omega)) (decide_eq_false (by omega))
  rw [List.length_cons]; omega
theorem faces_len {C : List Cx} {x : Cx} (h : FacesOk C x) : x.b.length ≤ C.length := Nat.le_trans (vg_len h.vg h.there) List.countP_le_length
def SpB (m : Nat) (C : List Cx) : Prop := ∀ x ∈ C, -(m : Int) ≤ x.dim ∧ x.dim ≤ m ∧ x.b.length ≤ m
theorem val_spb {C : List Cx} (hV : VAL C) (hl : C.length ≤ 13) : SpB 13 C := fun x hx => by
 have h1 := (hV.faces x hx).dim
 have h2 := faces_len (hV.faces x hx)
 exact ⟨by omega, by omega, by omega⟩
theorem spoil_ok {C : List Cx} {K m w i k : Nat} {c : Int} (hC : CxOk K C) (hK : 1 ≤ K) (hb : SpB m C) (hm : m ≤ 800) (hc : -128 ≤ c ∧ c ≤ 127) : CxOk K (spoilL C w i k c) ∧ SpB (m + 128) (spoilL C w i k c) := by
 have hcf : Fits K c := by
  have : Fits 1 c := by unfold Fits; omega
  exact this.mono hK
 suffices hs : (spoilL C w i k c).length ≤ 1000 ∧ ∀ z ∈ spoilL C w i k c, CxK K z ∧ -((m + 128 : Nat) : Int) ≤ z.dim ∧ z.dim ≤ ((m + 128 : Nat) : Int) ∧ z.b.length ≤ m + 128 from
  ⟨⟨hs.1, fun z hz => (hs.2 z hz).1⟩, fun z hz => (hs.2 z hz).2⟩
 have old : ∀ z ∈ C, CxK K z ∧ -((m + 128 : Nat) : Int) ≤ z.dim ∧ z.dim ≤ ((m + 128 : Nat) : Int) ∧ z.b.length ≤ m + 128 := fun z hz => by
  have := hb z hz
  exact ⟨hC.all z hz, by omega, by omega, by omega⟩
 have hCl := hC.len
 unfold spoilL
 by_cases h0 : C.length = 0
 ·rw [if_pos h0]; exact ⟨hCl, old⟩
 ·rw [if_neg h0]
  have hI : i % C.length < C.length := Nat.mod_lt _ (by omega)
  have hJ : k % C.length < C.length := Nat.mod_lt _ (by omega)
  have hx := getD_mem (d := cx0) hI
  have hy := getD_mem (d := cx0) hJ
  have kx := hC.all _ hx
  have ky := hC.all _ hy
  simp only
  have bx := hb _ hx
  have ox := old _ hx
  have oy := old _ hy
  generalize C.getD (i % C.length) cx0 = x at *
  generalize C.getD (k % C.length) cx0 = y at *
  have st : ∀ (D : List Cx) (n : Nat) (z' : Cx), (∀ z ∈ D, CxK K z ∧ -((m + 128 : Nat) : Int) ≤ z.dim ∧ z.dim ≤ ((m + 128 : Nat) : Int) ∧ z.b.length ≤ m + 128) → (CxK K z' ∧ -((m + 128 : Nat) : Int) ≤ z'.dim ∧ z'.dim ≤ ((m + 128 : Nat) : Int) ∧ z'.b.length ≤ m + 128) → ∀ z ∈ D.set n z', CxK K z ∧ -((m + 128 : Nat) : Int) ≤ z.dim ∧ z.dim ≤ ((m + 128 : Nat) : Int) ∧ z.b.length ≤ m + 128 := fun D n z' h1 h2 z hz => by
   rcases List.mem_or_eq_of_mem_set hz with h | h
   ·exact h1 z h
   ·rw [h]; exact h2
  have spf : ∀ q : Cf, Fits K (cv q) → CxK K ⟨x.id, x.dim, spF x.b k q⟩ ∧ (spF x.b k q).length = x.b.length := fun q hq => by
   unfold spF
   by_cases hb0 : x.b.length = 0
   ·rw [if_pos hb0]; exact ⟨kx, rfl⟩
   ·rw [if_neg hb0]
    have hj : k % x.b.length < x.b.length := Nat.mod_lt _ (by omega)
    refine ⟨⟨kx.id, kx.dim, by rw [List.length_set]; exact kx.len, fun f hf => ?_, fun f hf => ?_⟩, List.length_set⟩
    ·rcases List.mem_or_eq_of_mem_set hf with h | h
     ·exact kx.fid f h
     ·rw [h]; exact (kx.get hj).1
    ·rcases List.mem_or_eq_of_mem_set hf with h | h
     ·exact kx.cf f h
     ·rw [h]; exact hq
  split
  ·exact ⟨by rw [List.length_set, List.length_set]; exact hCl, st _ _ _ (st _ _ _ old oy) ox⟩
  split
  ·exact ⟨by rw [List.length_set]; exact hCl, st _ _ _ old ⟨⟨kx.id, by simp only; omega, kx.len, kx.fid, kx.cf⟩, by simp only; omega, by simp only; omega, by simp only; omega⟩⟩
  split
  ·exact ⟨by rw [List.length_set]; exact hCl, st _ _ _ old ⟨⟨ky.id, kx.dim, kx.len, kx.fid, kx.cf⟩, ox.2⟩⟩
  split
  ·refine ⟨by rw [List.length_set]; exact hCl, st _ _ _ old ⟨⟨kx.id, kx.dim, by rw [zl1]; simp; omega, fun f hf => ?_, fun f hf => ?_⟩, ox.2.1, ox.2.2.1, by simp; omega⟩⟩
   ·rcases List.mem_append.1 hf with h | h
    ·exact kx.fid f h
    ·rw [List.mem_singleton] at h; rw [h]; exact ky.id
   ·rcases List.mem_append.1 hf with h | h
    ·exact kx.cf f h
    ·rw [List.mem_singleton] at h; rw [h]; exact hcf
  split
  ·obtain ⟨h1, h2⟩ := spf (some c) hcf
   exact ⟨by rw [List.length_set]; exact hCl, st _ _ _ old ⟨h1, ox.2.1, ox.2.2.1, by simp only; omega⟩⟩
  split
  ·refine ⟨by rw [zl1, List.length_take, List.length_drop]; omega, fun z hz => ?_⟩
   rcases List.mem_append.1 hz with h | h
   ·exact old z (List.mem_of_mem_take h)
   ·exact old z (List.mem_of_mem_drop h)
  ·obtain ⟨h1, h2⟩ := spf none (Nat.pow_pos (by omega))
   exact ⟨by rw [List.length_set]; exact hCl, st _ _ _ old ⟨h1, ox.2.1, ox.2.2.1, by simp only; omega⟩⟩
end Go.Proofs.Ytdkkgndibagihaa
namespace Go.Proofs.Ytdkkgndibagihaa
open Go.ChangeShapes Go.WideShapes Go.ChangeAt Go.RowKit
theorem sp_val {x : V} (h : (Shp.st [.int .u8, .int .u8, .int .u8, .int .i8]).Val x) : ∃ (w i k : Nat) (c : Int), x = .ag [.sc (.int .u8 (w : Nat)), .sc (.int .u8 (i : Nat)), .sc (.int .u8 (k : Nat)), .sc (.int .i8 c)] ∧ w < 256 ∧ i < 256 ∧ k < 256 ∧ -128 ≤ c ∧ c ≤ 127 := by
 obtain ⟨ys, rfl, a1, b1, rfl, ⟨n1, rfl, w1⟩, a2, b2, rfl, ⟨n2, rfl, w2⟩, a3, b3, rfl, ⟨n3, rfl, w3⟩, a4, b4, rfl, ⟨n4, rfl, w4⟩, rfl⟩ := h
 obtain ⟨m1, rfl, h1⟩ := wf_nat u8_wf w1
 obtain ⟨m2, rfl, h2⟩ := wf_nat u8_wf w2
 obtain ⟨m3, rfl, h3⟩ := wf_nat u8_wf w3
 have := i8w n4 w4
 exact ⟨m1, m2, m3, n4, rfl, by omega, by omega, by omega, this.1, this.2⟩
theorem two_valid {C : List Cx} {K : Nat} (hC : CxOk K C) (hK : K ≤ 100000000000) : ∃ r : Bool, Spec Try.prog 26 [cxV C] (.sc (.bool r)) ∧ Spec Try.prog 28 [cxV C] (.sc (.bool r)) := by
 obtain ⟨r, c1, h1⟩ := cvalid_s hC hK
 obtain ⟨r', c2, h2⟩ := rcvalid_s hC hK
 have : r' = r := by
  cases r <;> cases r'
  ·rfl
  ·have := h1.2 (h2.1 rfl); cases this
  ·have := h2.2 (h1.1 rfl); cases this
  ·rfl
 rw [this] at c2
 exact ⟨r, c1, c2⟩
end Go.Proofs.Ytdkkgndibagihaa
