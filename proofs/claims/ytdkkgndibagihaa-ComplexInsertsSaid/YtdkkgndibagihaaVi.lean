/- Texts joined: Al Am Rd Re Rf Rg Tj Tk Rh Ri Rj Rk An Tf Ao Rl Rm Rn Tg Ro Rp Rq Rr Rs Ha Hb Hc. -/
import Derived.Test.YtdkkgndibagihaaVe
import Derived.Test.YtdkkgndibagihaaVf
import Derived.Test.YtdkkgndibagihaaVg
import Derived.Test.YtdkkgndibagihaaVh
set_option linter.all false
open Nat renaming reduceEqDiff → zn1, reduceLT → zn2, reduceLeDiff → zn3, reduceAdd → zn4, reduceMul → zn5, reduceSub → zn6, reduceBEq → zn7, mul_one → zn8, zero_add → zn9, one_mul → zna, le_refl → znb, zero_le → znc, add_sub_cancel_left → znd, sub_eq_zero_of_le → zne, add_assoc → znf
open Int renaming reduceToNat → zi1, reducePow → zi2
open List renaming length_append → zl1, drop_zero → zl2, take_succ_cons → zl3, take_zero → zl4, getElem?_drop → zl5, append_assoc → zl6, nil_append → zl7, cons_append → zl8, drop_succ_cons → zl9, take_of_length_le → zla, getElem?_eq_getElem → zlb, getElem?_eq_some_iff → zlc, map_cons → zld, map_nil → zle, all_eq_true → zlf
namespace Go.Proofs.Ytdkkgndibagihaa
open Go.RowKit
set_option maxHeartbeats 8000000 in
set_option maxRecDepth 8000 in
theorem rcvalid_s {C : List Cx} {K : Nat} (hC : CxOk K C) (hK : K ≤ 100000000000) : ∃ r : Bool, Spec Try.prog 28 [cxV C] (.sc (.bool r)) ∧ (r = true ↔ VAL C) := by
 obtain ⟨r, hr⟩ : ∃ r : Bool, (r = true ↔ VAL C) := by
  by_cases h : VAL C
  ·exact ⟨true, by simp [h]⟩
  ·exact ⟨false, by simp [h]⟩
 refine ⟨r, ?_, hr⟩
 have hCl := hC.len
 have gl := cxs_len C
 unfold cxV
 refine qF Try.func28 Try.ntmps28 fun B hB => ?_
 by_cases h400 : 400 < C.length
 ·have q1 : decide ((C.length : Int) > 400) = true := decide_eq_true (by omega)
  have hF : r = false := by cases r with | false => rfl | true => have := (hr.1 rfl).len; omega
  subst hF
  refine qWf @q1 ?_
  exact qE Try.results28
 have q1 : decide ((C.length : Int) > 400) = false := decide_eq_false (by omega)
 refine qWf @q1 ?_
 refine SC.loop (fun i : Nat => ⟨[(0, .im (cxs C) C.length), (3, .sc (.int .i64 (i : Nat)))], [], 0, 52⟩)
  (fun i => i ≤ C.length ∧ (∀ k, 0 < k → k < i → (C.getD (k - 1) cx0).id < (C.getD k cx0).id) ∧ ∀ k, k < i → VG none (C.getD k cx0).b) (fun i => C.length - i) 0 ?_ ?_ ?_
 ·exact qLc
 ·exact ⟨znc _, fun k h1 h2 => by omega, fun k h => by omega⟩
 rintro i ⟨hi, hI, hJ⟩ K0 hK0
 by_cases hc : i < C.length
 ·have q2 : decide ((i : Int) < (C.length : Int)) = true := decide_eq_true (by omega)
  have gd := cxs_drop hc
  have hx := hC.get hc
  have hm : C.getD i cx0 ∈ C := getD_mem hc
  obtain ⟨r2, c1, hr2⟩ := vchain_s hx.len hx.cf hK
  have hJ2 : VG none (C.getD i cx0).b → ∀ k, k < i + 1 → VG none (C.getD k cx0).b := fun h k hk => by
   rcases Nat.lt_or_ge k i with h3 | h3
   ·exact hJ k h3
   ·rw [show k = i by omega]; exact h
  clear hJ
  have fin : r2 = false → r = false := fun h => by
   cases r with
   | false => rfl
   | true => have := hr2.2 ((hr.1 rfl).faces _ hm).vg; rw [h] at this; cases this
  by_cases hi0 : i = 0
  ·have q3 : decide ((i : Int) > 0) = false := decide_eq_false (by omega)
   generalize C.getD i cx0 = x at *
   obtain ⟨id, dim, b⟩ := x
   unfold chV at c1
   unfold cxC at gd
   simp only at c1 gd hr2 hJ2
   cases r2 with
   | true =>
    refine qWf (Q4 @q2 @q3 @gd @gl) ?_
    refine hK0 _ (i + 1) ?_ ⟨by omega, fun k h1 h2 => by omega, hJ2 (hr2.1 rfl)⟩ (by omega)
    exact qLc
   | false =>
    have hF := fin rfl
    subst hF
    refine qWf (Q4 @q2 @q3 @gd @gl) ?_
    exact qE Try.results28
  ·have q3 : decide ((i : Int) > 0) = true := decide_eq_true (by omega)
   have e1 : ((i : Int) - 1).toNat = i - 1 := by omega
   have gp := cxs_drop (C := C) (i := i - 1) (by omega)
   by_cases hlt : (C.getD (i - 1) cx0).id < (C.getD i cx0).id
   ·have q4 : decide ((C.getD (i - 1) cx0).id ≥ (C.getD i cx0).id) = false := decide_eq_false (by omega)
    have hI2 : ∀ k, 0 < k → k < i + 1 → (C.getD (k - 1) cx0).id < (C.getD k cx0).id := fun k h1 h2 => by
     rcases Nat.lt_or_ge k i with h3 | h3
     ·exact hI k h1 h3
     ·rw [show k = i by omega]; exact hlt
    clear hlt hI
    generalize C.getD (i - 1) cx0 = y at gp q4
    generalize C.getD i cx0 = x at gd q4 c1 hr2 hJ2 hm hx
    obtain ⟨id, dim, b⟩ := x
    unfold chV at c1
    unfold cxC at gd gp
    simp only at c1 gd hr2 hJ2
    cases r2 with
    | true =>
     refine qWf (Q7 @q2 @q3 @e1 @gd @gp @gl @q4) ?_
     refine hK0 _ (i + 1) ?_ ⟨by omega, hI2, hJ2 (hr2.1 rfl)⟩ (by omega)
     exact qLc
    | false =>
     have hF := fin rfl
     subst hF
     refine qWf (Q7 @q2 @q3 @e1 @gd @gp @gl @q4) ?_
     exact qE Try.results28
   ·have q4 : decide ((C.getD (i - 1) cx0).id ≥ (C.getD i cx0).id) = true := decide_eq_true (by omega)
    have hF : r = false := by cases r with | false => rfl | true => exact absurd ((hr.1 rfl).srt (i - 1) i (by omega) hc) hlt
    subst hF
    clear hlt hI
    generalize C.getD (i - 1) cx0 = y at gp q4
    generalize C.getD i cx0 = x at gd q4
    unfold cxC at gd gp
    refine qWf (Q7 @q2 @q3 @e1 @gd @gp @gl @q4) ?_
    exact qE Try.results28
 have q2 : decide ((i : Int) < (C.length : Int)) = false := decide_eq_false (by omega)
 have hs : Srt C := adj_srt fun k h1 h2 => hI k h1 (by omega)
 have hV : ∀ y ∈ C, VG none y.b := fun y hy => by
  obtain ⟨k, hk, rfl⟩ := List.mem_iff_getElem.1 hy
  have := hJ k (by omega)
  rwa [List.getD_eq_getElem?_getD, zlb hk] at this
 clear hI hJ
 refine qWf @q2 ?_
 refine SC.loop (fun i : Nat => ⟨[(0, .im (cxs C) C.length), (4, .sc (.int .i64 (i : Nat)))], [], 0, 52⟩)
  (fun i => i ≤ C.length ∧ ∀ k, k < i → FacesOk C (C.getD k cx0) ∧ ∀ n, bdn C (C.getD k cx0).b n = 0) (fun i => C.length - i) 0 ?_ ?_ ?_
 ·exact qLc
 ·exact ⟨znc _, fun k h2 => by omega⟩
 clear hi hc q2 hK0
 rintro i ⟨hi, hI⟩ K1 hK1
 by_cases hc : i < C.length
 ·have q2 : decide ((i : Int) < (C.length : Int)) = true := decide_eq_true (by omega)
  have gd := cxs_drop hc
  have hx := hC.get hc
  have hm : C.getD i cx0 ∈ C := getD_mem hc
  obtain ⟨e, he⟩ := fits_ex C (C.getD i cx0)
  have c1 := rfits_s hC hV hx hK he
  have hst : FacesOk C (C.getD i cx0) → (∀ n, bdn C (C.getD i cx0).b n = 0) → ∀ k, k < i + 1 → FacesOk C (C.getD k cx0) ∧ ∀ n, bdn C (C.getD k cx0).b n = 0 := fun h1 h2 k hk => by
   rcases Nat.lt_or_ge k i with h3 | h3
   ·exact hI k h3
   ·rw [show k = i by omega]; exact ⟨h1, h2⟩
  have hz := he.zero
  clear hI he
  generalize C.getD i cx0 = x at *
  by_cases h0 : e = 0
  ·obtain ⟨k1, k2⟩ := hz.1 h0
   subst h0
   have hst2 := hst k1 k2
   clear hst k1 k2 hz hm hx
   unfold cxV cxC at c1
   unfold cxC at gd
   refine qWf (Q3 @q2 @gd @gl) ?_
   refine hK1 _ (i + 1) ?_ ⟨by omega, hst2⟩ (by omega)
   exact qLc
  ·have q5 : (e != 0) = true := by rw [bne_iff_ne]; exact h0
   have hF : r = false := by cases r with | false => rfl | true => exact absurd (hz.2 ⟨(hr.1 rfl).faces x hm, (hr.1 rfl).closed x hm⟩) h0
   subst hF
   clear hst hz hm hx
   unfold cxV cxC at c1
   unfold cxC at gd
   refine qWf (Q4 @q2 @gd @gl @q5) ?_
   exact qE Try.results28
 ·have q2 : decide ((i : Int) < (C.length : Int)) = false := decide_eq_false (by omega)
  have hF : r = true := hr.2 ⟨by omega, hs, fun x hx => by
   obtain ⟨k, hk, rfl⟩ := List.mem_iff_getElem.1 hx
   have := (hI k (by omega)).1
   rwa [List.getD_eq_getElem?_getD, zlb hk] at this, fun x hx => by
   obtain ⟨k, hk, rfl⟩ := List.mem_iff_getElem.1 hx
   have := (hI k (by omega)).2
   rwa [List.getD_eq_getElem?_getD, zlb hk] at this⟩
  subst hF
  refine qWf @q2 ?_
  exact qE Try.results28
def insL (C : List Cx) (x : Cx) : List Cx := C.take (lbn C x.id) ++ x :: C.drop (lbn C x.id)
def insE (C : List Cx) (x : Cx) (e : Int) : Int := if (findL C x.id).isSome then 253 else if e ≠ 0 then e else if 400 ≤ C.length then 2 else 0
def insV (C : List Cx) (x : Cx) (e : Int) : V := .tu [cxV (if insE C x e = 0 then insL C x else []), .sc (.int .i64 (insE C x e))]
theorem cxs_take (C : List Cx) (i : Nat) : (cxs C).take (i * 3) = cxs (C.take i) := fm_take cxC_len C i
theorem cxs_dropL (C : List Cx) (i : Nat) : (cxs C).drop (i * 3) = cxs (C.drop i) := fm_dropL cxC_len C i
theorem cxs_app (C D : List Cx) : cxs C ++ cxs D = cxs (C ++ D) := by unfold cxs; simp
set_option maxHeartbeats 8000000 in
set_option maxRecDepth 8000 in
theorem rinsert_s {C : List Cx} {x : Cx} {K : Nat} {e : Int} (hC : CxOk K C) (hV : ∀ y ∈ C, VG none y.b) (hx : CxK K x) (hK : K ≤ 100000000000) (he : FitsP C x e) (he1 : e = 0 ∨ e = 251 ∨ e = 252 ∨ e = 260) :
  Spec Try.prog 31 [cxV C, .ag (cxC x)] (insV C x e) := by
 have hCl := hC.len
 have c1 := rfits_s hC hV hx hK he
 have c2 := rcfind_s (id := x.id) hCl
 have gl := cxs_len C
 have hE : (insE C x e = 253 ∧ (findL C x.id).isSome = true) ∨ (findL C x.id).isSome = false ∧ ((insE C x e = e ∧ e ≠ 0) ∨ (e = 0 ∧ ((insE C x e = 2 ∧ 400 ≤ C.length) ∨ (insE C x e = 0 ∧ ¬ 400 ≤ C.length)))) := by
  unfold insE
  cases (findL C x.id).isSome with
  | true => exact .inl ⟨rfl, rfl⟩
  | false =>
   refine .inr ⟨rfl, ?_⟩
   by_cases h0 : e = 0
   ·refine .inr ⟨h0, ?_⟩
    by_cases h4 : 400 ≤ C.length
    ·exact .inl ⟨by simp [h0, h4], h4⟩
    ·exact .inr ⟨by simp [h0, h4], h4⟩
   ·exact .inl ⟨by simp [h0], h0⟩
 unfold insV
 generalize insE C x e = ie at hE ⊢
 generalize (findL C x.id).getD cx0 = y at c2
 generalize (findL C x.id).isSome = us at *
 clear he hx hV hC
 unfold insL
 obtain ⟨id, dim, b⟩ := x
 simp only at c1 c2 ⊢
 rcases hE with ⟨rfl, rfl⟩ | ⟨rfl, ⟨rfl, h0⟩ | ⟨rfl, ⟨rfl, h4⟩ | ⟨rfl, h4⟩⟩⟩
 ·unfold cxV cxC at *
  simp only at c1 c2
  refine qF Try.func31 Try.ntmps31 fun B hB => ?_
  refine qW ?_
  exact qE Try.results31
 ·have q5 : (ie != 0) = true := by rw [bne_iff_ne]; exact h0
  rw [if_neg h0]
  unfold cxV cxC at *
  simp only at c1 c2
  refine qF Try.func31 Try.ntmps31 fun B hB => ?_
  refine qWf @q5 ?_
  exact qE Try.results31
 ·have q4 : decide ((C.length : Int) ≥ 400) = true := decide_eq_true (by omega)
  unfold cxV cxC at *
  simp only at c1 c2
  refine qF Try.func31 Try.ntmps31 fun B hB => ?_
  refine qWf @q4 ?_
  exact qE Try.results31
 ·have q4 : decide ((C.length : Int) ≥ 400) = false := decide_eq_false (by omega)
  rw [if_pos rfl]
  unfold cxV
  have c1' := c1
  have c2' := c2
  unfold cxV cxC at c1' c2'
  unfold cxC
  simp only at c1' c2' ⊢
  refine qF Try.func31 Try.ntmps31 fun B hB => ?_
  refine qWf @q4 ?_
  refine SC.loop (fun i : Nat => ⟨[(0, .im (cxs C) C.length), (3, .pt 0 0), (9, .sc (.int .i64 (i : Nat)))], [(0, ⟨39, [.sc (.int .i64 id), .sc (.int .i64 dim), .im (fcs b) b.length], false⟩)], 1, 58⟩)
   (fun i => i ≤ C.length ∧ ∀ k, k < i → (C.getD k cx0).id < id) (fun i => C.length - i) 0 ?_ ?_ ?_
  ·exact qLc
  ·exact ⟨znc _, fun k h => by omega⟩
  rintro i ⟨hi, hI⟩ K0 hK0
  by_cases hc : i < C.length
  ·have q1 : decide ((i : Int) < (C.length : Int)) = true := decide_eq_true (by omega)
   have gd := cxs_drop hc
   by_cases hlt : (C.getD i cx0).id < id
   ·have q2 : decide ((C.getD i cx0).id < id) = true := decide_eq_true hlt
    have hI2 : ∀ k, k < i + 1 → (C.getD k cx0).id < id := fun k hk => by
     rcases Nat.lt_or_ge k i with h3 | h3
     ·exact hI k h3
     ·rw [show k = i by omega]; exact hlt
    clear hI hlt
    generalize C.getD i cx0 = w at gd q2
    unfold cxC at gd
    refine qWf (Q4 @q1 @gd @gl @q2) ?_
    refine hK0 _ (i + 1) ?_ ⟨by omega, hI2⟩ (by omega)
    exact qLc
   ·have q2 : decide ((C.getD i cx0).id < id) = false := decide_eq_false hlt
    have hl := lbn_eq hi hI (fun _ => by omega)
    clear hI hlt
    have h00 : (cxs (C.drop i))[0]? = some (.sc (.int .i64 (C.getD i cx0).id)) := by rw [← cxs_dropL, gd]; rfl
    clear gd
    generalize C.getD i cx0 = w at h00 q2
    rw [hl]
    have ht := cxs_take C i
    have hd := cxs_dropL C i
    have g1 := cxs_len (C.take i)
    have g2 := cxs_len (C.drop i)
    rw [List.length_take, Nat.min_eq_left hi] at g1
    rw [List.length_drop] at g2
    have o1 := cxs_one (C.take i)
    have o2 := cxs_one (C.drop i)
    have t1 : (cxs (C.take i)).take (i * 3) = cxs (C.take i) := zla (by omega)
    have t2 : (cxs (C.drop i)).take ((C.length - i) * 3) = cxs (C.drop i) := zla (by omega)
    have t3 : (cxs (C.take i) ++ [V.sc (.int .i64 id), .sc (.int .i64 dim), .im (fcs b) b.length]).take ((i + 1) * 3) = cxs (C.take i) ++ [V.sc (.int .i64 id), .sc (.int .i64 dim), .im (fcs b) b.length] := zla (by rw [zl1, g1]; simp; omega)
    have gA : (cxs (C.take i) ++ [V.sc (.int .i64 id), .sc (.int .i64 dim), .im (fcs b) b.length]).length = (i + 1) * 3 := by rw [zl1, g1]; simp; omega
    have t4 : cxs (C.take i) ++ ([V.sc (.int .i64 id), .sc (.int .i64 dim), .im (fcs b) b.length] ++ cxs (C.drop i)) = cxs (C.take i ++ ⟨id, dim, b⟩ :: C.drop i) := by rw [← cxs_app]; rfl
    have hLl : (C.take i ++ (⟨id, dim, b⟩ : Cx) :: C.drop i).length = i + 1 + (C.length - i) := by rw [zl1, List.length_take, Nat.min_eq_left hi, List.length_cons, List.length_drop]; omega
    have gL := cxs_len (C.take i ++ (⟨id, dim, b⟩ : Cx) :: C.drop i)
    rw [hLl] at gL
    refine qWf (Q14 @q1 @gl @q2 @ht @hd @h00 @g1 @g2 @o1 @o2 @t1 @t2 @t3 @gA) ?_
    have t5 : cxs (C.take i) ++ [V.sc (.int .i64 id), .sc (.int .i64 dim), .im (fcs b) b.length] ++ cxs (C.drop i) = cxs (C.take i ++ ⟨id, dim, b⟩ :: C.drop i) := by rw [zl6]; exact t4
    rw [t5]
    have t6 : (cxs (C.take i ++ (⟨id, dim, b⟩ : Cx) :: C.drop i)).take ((i + 1 + (C.length - i)) * 3) = cxs (C.take i ++ ⟨id, dim, b⟩ :: C.drop i) := zla (by omega)
    refine retQ_ret Try.results31 qS (qSf (Q2 @gL @t6)) (by rw [hLl])
  ·have q1 : decide ((i : Int) < (C.length : Int)) = false := decide_eq_false (by omega)
   have hl := lbn_eq hi hI (fun h => by omega)
   rw [hl]
   have ht := cxs_take C i
   have hd := cxs_dropL C i
   have g1 := cxs_len (C.take i)
   have g2 := cxs_len (C.drop i)
   rw [List.length_take, Nat.min_eq_left hi] at g1
   rw [List.length_drop] at g2
   have o1 := cxs_one (C.take i)
   have o2 := cxs_one (C.drop i)
   have t1 : (cxs (C.take i)).take (i * 3) = cxs (C.take i) := zla (by omega)
   have t2 : (cxs (C.drop i)).take ((C.length - i) * 3) = cxs (C.drop i) := zla (by omega)
   have t3 : (cxs (C.take i) ++ [V.sc (.int .i64 id), .sc (.int .i64 dim), .im (fcs b) b.length]).take ((i + 1) * 3) = cxs (C.take i) ++ [V.sc (.int .i64 id), .sc (.int .i64 dim), .im (fcs b) b.length] := zla (by rw [zl1, g1]; simp; omega)
   have gA : (cxs (C.take i) ++ [V.sc (.int .i64 id), .sc (.int .i64 dim), .im (fcs b) b.length]).length = (i + 1) * 3 := by rw [zl1, g1]; simp; omega
   have t4 : cxs (C.take i) ++ ([V.sc (.int .i64 id), .sc (.int .i64 dim), .im (fcs b) b.length] ++ cxs (C.drop i)) = cxs (C.take i ++ ⟨id, dim, b⟩ :: C.drop i) := by rw [← cxs_app]; rfl
   have hLl : (C.take i ++ (⟨id, dim, b⟩ : Cx) :: C.drop i).length = i + 1 + (C.length - i) := by rw [zl1, List.length_take, Nat.min_eq_left hi, List.length_cons, List.length_drop]; omega
   have gL := cxs_len (C.take i ++ (⟨id, dim, b⟩ : Cx) :: C.drop i)
   rw [hLl] at gL
   clear hI
   refine qWf (Q11 @q1 @ht @hd @g1 @g2 @o1 @o2 @t1 @t2 @t3 @gA) ?_
   have t5 : cxs (C.take i) ++ [V.sc (.int .i64 id), .sc (.int .i64 dim), .im (fcs b) b.length] ++ cxs (C.drop i) = cxs (C.take i ++ ⟨id, dim, b⟩ :: C.drop i) := by rw [zl6]; exact t4
   rw [t5]
   have t6 : (cxs (C.take i ++ (⟨id, dim, b⟩ : Cx) :: C.drop i)).take ((i + 1 + (C.length - i)) * 3) = cxs (C.take i ++ ⟨id, dim, b⟩ :: C.drop i) := zla (by omega)
   refine retQ_ret Try.results31 qS (qSf (Q2 @gL @t6)) (by rw [hLl])
end Go.Proofs.Ytdkkgndibagihaa
namespace Go.Proofs.Ytdkkgndibagihaa
open Go.RowKit
theorem take_getD {C : List Cx} {i : Nat} (h : i < C.length) : C.take (i + 1) = C.take i ++ [C.getD i cx0] := by
 rw [List.take_succ_eq_append_getElem h, List.getD_eq_getElem?_getD, zlb h]; rfl
def nsC (l : List Int) : List V := l.map fun n => .sc (.int .i64 n)
theorem nsC_len (l : List Int) : (nsC l).length = l.length := by simp [nsC]
@[go_sem] theorem nsC_clo (l : List Int) : (nsC l).all clo = true := by simp [nsC, clo]
theorem nsC_app (a b : List Int) : nsC a ++ nsC b = nsC (a ++ b) := by simp [nsC]
theorem nsC_get {l : List Int} {i : Nat} (h : i < l.length) : (nsC l)[i]? = some (.sc (.int .i64 (l.getD i 0))) := by
 unfold nsC; rw [List.getElem?_map, getD_get' (d := 0) h]; rfl
theorem nsC_take (l : List Int) : (nsC l).take l.length = nsC l := zla (by rw [nsC_len]; omega)
def nsV (l : List Int) : V := .im (nsC l) l.length
def idsL (C : List Cx) (k : Int) : List Int := (C.filter fun x => decide (x.dim = k)).map (·.id)
theorem idsL_take {C : List Cx} {i : Nat} (h : i < C.length) (k : Int) : idsL (C.take (i + 1)) k = idsL (C.take i) k ++ if (C.getD i cx0).dim = k then [(C.getD i cx0).id] else [] := by
 rw [take_getD h]
 unfold idsL
 rw [List.filter_append, List.map_append]
 congr 1
 by_cases e : (C.getD i cx0).dim = k
 ·rw [if_pos e, List.filter_cons_of_pos (by simpa using e)]; rfl
 ·rw [if_neg e, List.filter_cons_of_neg (by simpa using e)]; rfl
theorem idsL_len (C : List Cx) (k : Int) : (idsL C k).length ≤ C.length := by
 unfold idsL; rw [List.length_map]; exact List.length_filter_le _ _
set_option maxHeartbeats 4000000 in
theorem cells_s {C : List Cx} {k : Int} (hl : C.length ≤ 1000) : Spec Try.prog 14 [cxV C, .sc (.int .i64 k)] (nsV (idsL C k)) := by
 have gl := cxs_len C
 unfold cxV
 generalize hR : idsL C k = R
 refine qF Try.func14 Try.ntmps14 fun B hB => ?_
 refine qW ?_
 refine SC.loop (fun i : Nat => ⟨[(0, .im (cxs C) C.length), (1, .sc (.int .i64 k)), (8, .im (cxs C) C.length), (9, .sc (.int .i64 (C.length : Nat))), (5, .sl 0 0 (idsL (C.take i) k).length 1 none), (10, .sc (.int .i64 (i : Nat)))], [(0, ⟨3, nsC (idsL (C.take i) k), false⟩)], 1, 25⟩)
  (fun i => i ≤ C.length) (fun i => C.length - i) 0 ?_ ?_ ?_
 ·(refine Le.of [0] hB (by first | exact ⟨znc _, fun _ _ => znc _⟩ | (constructor <;> (try simp) <;> (try omega))) ?_ ?_ <;> (repeat' (first | exact leSl_nil | exact leHp_nil | refine leSl_cons qT ?_ ?_ | refine leHp_cons qT ?_ ?_ | exact VLe.junk _ | exact VLe.refl rfl | exact VLe.nil_sl _ _ _ | exact VLe.int (by first | rfl | omega | (dsimp only; omega)) | exact VLe.bool rfl | exact VLe.sl rfl (by first | rfl | omega | (dsimp only; omega) | (simp; done)) | exact VLe.cap rfl (by first | rfl | omega | (dsimp only; omega) | (simp; done)) | exact VLe.im rfl rfl | exact HLe.new rfl | exact HLe.same rfl (LLe.refl rfl) | refine HLe.same rfl ?_ | exact LLe.nil _ | exact LLe.refl rfl | exact LLe.cl rfl qS | exact LLe.clR rfl qS | refine LLe.cons ?_ ?_)))
 ·exact znc _
 rintro i hi K0 hK0
 by_cases hc : i < C.length
 ·have q1 : decide ((i : Int) < (C.length : Int)) = true := decide_eq_true (by omega)
  have gd := cxs_drop hc
  have e := idsL_take hc k
  have hll := idsL_len (C.take i) k
  rw [List.length_take, Nat.min_eq_left hi] at hll
  have hnext : ∀ s', Le B s' _ → K0 s' := fun s' h => hK0 s' (i + 1) h (by omega) (by omega)
  rw [e] at hnext
  generalize idsL (C.take i) k = l at *
  generalize C.getD i cx0 = x at *
  unfold cxC at gd
  have gn := nsC_len l
  have gt := nsC_take l
  by_cases hd : x.dim = k
  ·rw [if_pos hd] at hnext
   have q2 : (x.dim == k) = true := by rw [beq_iff_eq]; exact hd
   have es : nsC l ++ [.sc (.int .i64 x.id)] = nsC (l ++ [x.id]) := by rw [← nsC_app]; rfl
   have el : (l ++ [x.id]).length = l.length + 1 := by simp
   rw [el] at hnext
   refine qWf (Q6 @q1 @gd @gl @q2 @gn @gt) ?_
   rw [es]
   refine hnext _ (Le.swap 0 3 hB (by omega) (by omega) ?_)
   exact qLc
  ·rw [if_neg hd, List.append_nil] at hnext
   have q2 : (x.dim == k) = false := by rw [beq_eq_false_iff_ne]; exact hd
   refine qWf (Q4 @q1 @gd @gl @q2) ?_
   refine hnext _ ?_
   exact qLc
 ·have q1 : decide ((i : Int) < (C.length : Int)) = false := decide_eq_false (by omega)
  rw [zla (by omega), hR]
  have gn := nsC_len R
  have gt := nsC_take R
  unfold nsV
  refine qWf @q1 ?_
  exact retQ_ret Try.results14 qS (qSf (Q2 @gn @gt)) rfl
set_option maxHeartbeats 4000000 in
theorem rcells_s {C : List Cx} {k : Int} (hl : C.length ≤ 1000) : Spec Try.prog 15 [cxV C, .sc (.int .i64 k)] (nsV (idsL C k)) := by
 have gl := cxs_len C
 unfold cxV
 generalize hR : idsL C k = R
 refine qF Try.func15 Try.ntmps15 fun B hB => ?_
 refine qW ?_
 refine SC.loop (fun i : Nat => ⟨[(0, .im (cxs C) C.length), (1, .sc (.int .i64 k)), (5, .sl 0 0 (idsL (C.take i) k).length 1 none), (6, .sc (.int .i64 (i : Nat)))], [(0, ⟨3, nsC (idsL (C.take i) k), false⟩)], 1, 30⟩)
  (fun i => i ≤ C.length) (fun i => C.length - i) 0 ?_ ?_ ?_
 ·exact qLc
 ·exact znc _
 rintro i hi K0 hK0
 by_cases hc : i < C.length
 ·have q1 : decide ((i : Int) < (C.length : Int)) = true := decide_eq_true (by omega)
  have gd := cxs_drop hc
  have e := idsL_take hc k
  have hll := idsL_len (C.take i) k
  rw [List.length_take, Nat.min_eq_left hi] at hll
  have hnext : ∀ s', Le B s' _ → K0 s' := fun s' h => hK0 s' (i + 1) h (by omega) (by omega)
  rw [e] at hnext
  generalize idsL (C.take i) k = l at *
  generalize C.getD i cx0 = x at *
  unfold cxC at gd
  have gn := nsC_len l
  have gt := nsC_take l
  by_cases hd : x.dim = k
  ·rw [if_pos hd] at hnext
   have q2 : (x.dim == k) = true := by rw [beq_iff_eq]; exact hd
   have es : nsC l ++ [.sc (.int .i64 x.id)] = nsC (l ++ [x.id]) := by rw [← nsC_app]; rfl
   have el : (l ++ [x.id]).length = l.length + 1 := by simp
   rw [el] at hnext
   refine qWf (Q6 @q1 @gd @gl @q2 @gn @gt) ?_
   rw [es]
   refine hnext _ (Le.swap 0 2 hB (by omega) (by omega) ?_)
   exact qLc
  ·rw [if_neg hd, List.append_nil] at hnext
   have q2 : (x.dim == k) = false := by rw [beq_eq_false_iff_ne]; exact hd
   refine qWf (Q4 @q1 @gd @gl @q2) ?_
   refine hnext _ ?_
   exact qLc
 ·have q1 : decide ((i : Int) < (C.length : Int)) = false := decide_eq_false (by omega)
  rw [zla (by omega), hR]
  have gn := nsC_len R
  have gt := nsC_take R
  unfold nsV
  refine qWf @q1 ?_
  exact retQ_ret Try.results15 qS (qSf (Q2 @gn @gt)) rfl
end Go.Proofs.Ytdkkgndibagihaa
namespace Go.Proofs.Ytdkkgndibagihaa
open Go.RowKit
def RowsI (w : Nat) (M : List (List Int)) (nx : Nat) (x : V) (hp' : List (Nat × Blk)) (nx' : Nat) : Prop :=
 ∃ o ids, RowsOk o ids M.length nx nx' ∧ x = .sl o 0 M.length 1 none ∧ hp' = (o, ⟨80, slR 2 w ids, false⟩) :: rowsH 84 ids (rI M)
end Go.Proofs.Ytdkkgndibagihaa
namespace Go.Proofs.Ytdkkgndibagihaa
open Go.RowKit
theorem rowsI_swap {ty : TypeId} {ids : List Nat} {M : List (List Int)} {k q : Nat} (hn : ids.Nodup) (hl : ids.length = M.length) (hk : k < ids.length) (hq : q < ids.length) : ∀ id b, hget (rowsH ty (swapN ids k q) (rI (swapI M k q))) id = some b → hget (rowsH ty ids (rI M)) id = some b := by
 refine rows_perm hn (by rw [rI_len]; exact hl) fun i h1 h2 => ?_
 have h1' : i < ids.length := by simpa [swapN] using h1
 have e1 := swapN_get (ids := ids) hk hq i
 have e2 := swapI_get (M := M) (i := k) (j := q) (by omega) (by omega) i
 rw [rI_getD, e2]
 by_cases a : i = q
 ·exact ⟨k, hk, by rw [e1, if_pos a], by rw [if_pos a, rI_getD]⟩
 ·by_cases b : i = k
  ·exact ⟨q, hq, by rw [e1, if_neg a, if_pos b], by rw [if_neg a, if_pos b, rI_getD]⟩
  ·exact ⟨i, h1', by rw [e1, if_neg a, if_neg b], by rw [if_neg a, if_neg b, rI_getD]⟩
theorem VMap.tu0 {f : Nat → Nat} {D : Nat → Prop} : VMap f D (.tu []) (.tu []) := fun _ _ _ _ _ hx => by
 cases hx with
 | tu h1 h2 => exact .tu h1 fun i x u hx => by cases hx
def clS : V → Bool
 | .sc _ => true
 | x => clo x
theorem VMap.clS {f : Nat → Nat} {D : Nat → Prop} {x : V} (h : clS x = true) : VMap f D x x := by
 cases x <;> first | exact VMap.sc _ | exact VMap.clo h
theorem Le.rowsDown (pre : List (Nat × Blk)) {B : Base} {sl sl' : List (Nat × V)} {hp : List (Nat × Blk)} {o m z nx nx1 nt : Nat} {ty tr : TypeId} {ids : List Nat} {rs : List (List V)} (hpre : ∀ i k, hget pre i = some k → k.cs.all clS = true) (hB : ∃ m, B.Old m ∧ m ≤ nx) (ho : o < nx) (hi : ∀ i ∈ ids, i < nx) (hrc : ∀ r ∈ rs, r.all clo = true)
  (hs : ∀ id k, hget (pre ++ (o, (⟨ty, slR z m ids, false⟩ : Blk)) :: rowsH tr ids rs) id = some k → hget hp id = some k) (h1 : mapSl (fun i => i) (fun i => i < nx) sl sl') :
  Le B ⟨sl, hp, nx1, nt⟩ ⟨sl', pre ++ (o, ⟨ty, slR z m ids, false⟩) :: rowsH tr ids rs, nx, nt⟩ := by
 obtain ⟨m0, hB, hm0⟩ := hB
 refine Le.map (fun i => i) (fun i => i < nx) hB (fun i hi => ⟨by omega, rfl⟩) (fun i h => h) (fun i j _ _ e => e) h1 (fun i k' hk' hlt => ?_)
 rw [hs i k' hk']
 rw [hget_app] at hk'
 cases hp : hget pre i with
 | some q =>
  rw [hp] at hk'
  cases hk'
  exact ⟨_, rfl, rfl, rfl, fun j y hy => ⟨y, hy, VMap.clS (List.all_eq_true.1 (hpre i _ hp) y (List.mem_of_getElem? hy))⟩⟩
 | none =>
  rw [hp] at hk'
  simp only [hget] at hk'
  split at hk'
  ·cases hk'
   refine ⟨_, rfl, rfl, rfl, fun j y hy => ⟨y, hy, ?_⟩⟩
   obtain ⟨q, hq, rfl⟩ := List.mem_map.1 (List.mem_of_getElem? hy)
   exact VMap.sl rfl (hi q hq)
  ·obtain ⟨q, q1, q2, q3, rfl⟩ := rows_inv hk'
   exact BMap.clo (hrc _ (by rw [List.getD_eq_getElem?_getD, zlb q2]; exact List.getElem_mem q2))
theorem pre0 : ∀ i k, hget ([] : List (Nat × Blk)) i = some k → k.cs.all clS = true := fun i k h => by cases h
theorem less_new {n : Nat} {b : Blk} {r r' : List (Nat × Blk)} (h : ∀ id k, hget r' id = some k → hget r id = some k) (hn : ∀ id k, hget r' id = some k → id ≠ n) : ∀ id k, hget r' id = some k → hget ((n, b) :: r) id = some k := by
 intro id k hk
 simp only [hget]
 rw [if_neg (hn id k hk)]; exact h id k hk
theorem setI_self {M : List (List Int)} {i : Nat} (h : i < M.length) : M.set i (M.getD i []) = M := by
 rw [List.getD_eq_getElem?_getD, zlb h]
 exact List.set_getElem_self h
def negPre (t : Nat) (r : List Int) : List Int := r.mapIdx fun c x => if c < t then -x else x
theorem negPre_len {t : Nat} {r : List Int} : (negPre t r).length = r.length := by simp [negPre]
theorem negPre_get {t c : Nat} {r : List Int} (h : c < r.length) : (negPre t r).getD c 0 = if c < t then -(r.getD c 0) else r.getD c 0 := by
 unfold negPre
 rw [List.getD_eq_getElem?_getD, List.getElem?_mapIdx, getD_get' (d := 0) h]; rfl
theorem ilist_ext {a b : List Int} (h : a.length = b.length) (hx : ∀ j, j < a.length → a.getD j 0 = b.getD j 0) : a = b := by
 refine List.ext_getElem h fun j h1 h2 => ?_
 have := hx j h1
 rw [List.getD_eq_getElem?_getD, List.getD_eq_getElem?_getD, zlb h1, zlb h2] at this
 simpa using this
theorem negPre_zero {r : List Int} : negPre 0 r = r := ilist_ext negPre_len fun j hj => by rw [negPre_get (by rw [negPre_len] at hj; exact hj), if_neg (by omega)]
theorem negPre_set {t : Nat} {r : List Int} (h : t < r.length) : (negPre t r).set t (-(r.getD t 0)) = negPre (t + 1) r := by
 refine ilist_ext (by rw [List.length_set, negPre_len, negPre_len]) fun j hj => ?_
 rw [List.length_set, negPre_len] at hj
 rw [getD_set (by rw [negPre_len]; exact h), negPre_get hj, negPre_get hj]
 by_cases e : j = t
 ·subst e; rw [if_pos rfl, if_pos (by omega)]
 ·rw [if_neg e]
  by_cases g : j < t
  ·rw [if_pos g, if_pos (by omega)]
  ·rw [if_neg g, if_neg (by omega)]
theorem negPre_end {w : Nat} {r : List Int} (h : r.length = w) : negPre w r = negI r := by
 refine ilist_ext (by rw [negPre_len, negI_len]) fun j hj => ?_
 rw [negPre_len] at hj
 rw [negPre_get hj, if_pos (by omega), negI_get hj]
end Go.Proofs.Ytdkkgndibagihaa
namespace Go.Proofs.Ytdkkgndibagihaa
open Go.RowKit
def addPreI (t : Nat) (a b : List Int) (k : Int) : List Int := a.mapIdx fun c x => if c < t then x + k * b.getD c 0 else x
theorem addPreI_len {t : Nat} {a b : List Int} {k : Int} : (addPreI t a b k).length = a.length := by simp [addPreI]
theorem addPreI_get {t c : Nat} {a b : List Int} {k : Int} (h : c < a.length) : (addPreI t a b k).getD c 0 = if c < t then a.getD c 0 + k * b.getD c 0 else a.getD c 0 := by
 unfold addPreI
 rw [List.getD_eq_getElem?_getD, List.getElem?_mapIdx, getD_get' (d := 0) h]; rfl
theorem addPreI_zero {a b : List Int} {k : Int} : addPreI 0 a b k = a := ilist_ext addPreI_len fun j hj => by rw [addPreI_get (by rw [addPreI_len] at hj; exact hj), if_neg (by omega)]
theorem addPreI_set {t : Nat} {a b : List Int} {k : Int} (h : t < a.length) : (addPreI t a b k).set t (a.getD t 0 + k * b.getD t 0) = addPreI (t + 1) a b k := by
 refine ilist_ext (by rw [List.length_set, addPreI_len, addPreI_len]) fun j hj => ?_
 rw [List.length_set, addPreI_len] at hj
 rw [getD_set (by rw [addPreI_len]; exact h), addPreI_get hj, addPreI_get hj]
 by_cases e : j = t
 ·subst e; rw [if_pos rfl, if_pos (by omega)]
 ·rw [if_neg e]
  by_cases g : j < t
  ·rw [if_pos g, if_pos (by omega)]
  ·rw [if_neg g, if_neg (by omega)]
theorem addPreI_end {w : Nat} {a b : List Int} {k : Int} (h : a.length = w) : addPreI w a b k = addI a b k := by
 refine ilist_ext (by rw [addPreI_len, addI_len]) fun j hj => ?_
 rw [addPreI_len] at hj
 rw [addPreI_get hj, if_pos (by omega), addI_get hj]
end Go.Proofs.Ytdkkgndibagihaa
namespace Go.Proofs.Ytdkkgndibagihaa
open Go.RowKit
end Go.Proofs.Ytdkkgndibagihaa
namespace Go.Proofs.Ytdkkgndibagihaa
open Go.RowKit
variable {P : Program} {B : Base}
theorem wp_monoQ {o : Oper} {a : Act} {w : World} {K : Act → World → Prop} {Q Q' : Exit → Act → World → Prop} (h : ∀ e a w, e ≠ Exit.normal → Q e a w → Q' e a w) (hh : o.wp P a w K Q) : o.wp P a w K Q' := by
 unfold Oper.wp at *
 generalize (execOp a.eval o).run P w = r at *
 cases r with
 | ok n w' =>
  cases n <;> simp only [Oper.upon] at hh ⊢ <;>
   first
    | exact hh
    | exact Calls.mono hh (fun e w'' he => by cases e <;> first | exact he | exact h _ _ _ (by simp) he | exact (let ⟨x, y, z⟩ := he; ⟨x, y, h _ _ _ (by simp) z⟩))
 | halt x w' => cases x <;> simp only [Oper.upon] at hh ⊢ <;> first | exact h _ _ _ (by simp) hh | exact hh
def ordN (l : List Oper) : Bool := (List.range l.length).all fun i => match l[i]? with | some o => o.after.all fun e => !Region.binds .any e || decide (e.on < i) | none => true
def stepJ (J : (Nat → Bool) → SS → Prop) (L : Nat → Bool) (i : Nat) (Q : Exit → SS → Prop) : Exit → SS → Prop
 | .normal, s => J (addL L i) s
 | e, s => Q e s
theorem region_inv {J : (Nat → Bool) → SS → Prop} {id : Nat} {l : List Oper} {s : SS} {Q : Exit → SS → Prop} (hm : P.follows .mixedOrders = true) (hord : ordN l = true) (h0 : J (fun _ => false) s)
  (hstep : ∀ L s i o, (∀ m j, L m = true → depB l.toArray m j = true → L j = true) → J L s → l[i]? = some o → L i = false → (∀ m, depB l.toArray i m = true → L m = true) → SOps P B l.toArray [o] (stepJ J L i Q) s)
  (hend : ∀ L s, (∀ i, i < l.length → L i = true) → J L s → Q .normal s) : SWp P B (.region id l.toArray true) Q s := by
 intro S rho A a w hr
 have dep : ∀ (L : Nat → Bool) (i : Nat) (o : Oper), l.toArray[i]? = some o → (∀ e ∈ o.after.toList, Region.binds .any e = true → L e.on = true) → ∀ m, depB l.toArray i m = true → L m = true := by
  intro L i o ho hd m hm
  unfold depB at hm
  rw [ho] at hm
  simp only [Array.any_eq_true'] at hm
  obtain ⟨e, he, hb⟩ := hm
  rw [Bool.and_eq_true, beq_iff_eq] at hb
  rw [← hb.2]; exact hd e (by simpa using he) hb.1
 refine wp_region_any hm (wpAny_act (fun L a w => (∀ m j, L m = true → depB l.toArray m j = true → L j = true) ∧ ∃ s S rho A, J L s ∧ Rel B S rho A s a w) ?_ ?_ ?_ _ _ a _ (by simp) ?_ ?_)
 ·intro i o ho e he hb
  have hi := (Array.getElem?_eq_some_iff.1 ho).1
  simp at hi
  have := List.all_eq_true.1 hord i (List.mem_range.2 hi)
  rw [List.getElem?_toArray] at ho
  rw [ho] at this
  simp only at this
  rw [Array.all_eq_true'] at this
  have := this e (by simpa using he)
  rw [hb] at this
  simpa using this
 ·rintro L a w i o ho hi hd ⟨hcl, s, S, rho, A, hJ, hr⟩
  have hdep := dep L i o ho hd
  have ho' := ho
  rw [List.getElem?_toArray] at ho'
  have h := hstep L s i o hcl hJ ho' hi hdep S rho A a w hr
  have hcl' : ∀ m j, (if m = i then true else L m) = true → depB l.toArray m j = true → (if j = i then true else L j) = true := by
   intro m j hm hj
   by_cases e : j = i
   ·rw [if_pos e]
   ·rw [if_neg e]
    by_cases e2 : m = i
    ·subst e2; exact hdep j hj
    ·rw [if_neg e2] at hm; exact hcl m j hm hj
  have hK : ∀ a w, wpList P l.toArray (Post B (stepJ J L i Q)) [] a w → (∀ m j, (if m = i then true else L m) = true → depB l.toArray m j = true → (if j = i then true else L j) = true) ∧ ∃ s S rho A, J (fun j => if j = i then true else L j) s ∧ Rel B S rho A s a w :=
   fun a w ⟨S, rho, A, s, hJ, hr⟩ => ⟨hcl', s, S, rho, A, hJ, hr⟩
  have hQ : ∀ e a w, e ≠ Exit.normal → Post B (stepJ J L i Q) e a w → Post B Q e a w := by
   intro e a w hne hp
   cases e <;> first | exact absurd rfl hne | exact hp
  unfold wpOp
  rw [ho]
  simp only [wpList] at h ⊢
  split
  ·rename_i hw
   rw [if_pos hw] at h
   rcases h with h | ⟨h1, a2, w2, h2⟩
   ·exact .inl (Oper.wp_mono hK (wp_monoQ hQ h))
   ·exact .inr ⟨h1, a2, w2, hQ _ _ _ (by simp) h2⟩
  ·rename_i hw
   rw [if_neg hw] at h
   exact hK _ _ h
 ·rintro L a w hL ⟨_, s, S, rho, A, hJ, hr⟩
  exact ⟨S, rho, A, s, hend L s (fun i hi => hL i (by simpa using hi)) hJ, hr⟩
 ·unfold unl
  refine Nat.le_trans (List.length_filter_le _ _) (by simp)
 ·have hf : (fun j => (Array.replicate l.toArray.size false).getD j false) = fun _ => false := by
   funext j
   rw [Array.getD_eq_getD_getElem?, Array.getElem?_replicate]
   split <;> rfl
  rw [hf]
  have g := Grow.drawn w (w.drawn + 1)
  exact ⟨(fun m j h => by cases h), s, S, rho, A, h0, ⟨fun t => (hr.slots t).mono (fun b hb => ⟨hb, rfl⟩) (fun id h => ⟨h, rfl, fun _ => g.szAt⟩), hr.mem.grow g, hr.alt, hr.nt, hr.defs⟩⟩
theorem SC.inv (J : (Nat → Bool) → SS → Prop) {id : Nat} {l : List Oper} {cs : List Code} {s : SS} {Q : Exit → SS → Prop} (hm : P.follows .mixedOrders = true) (hord : ordN l = true) (h0 : J (fun _ => false) s)
  (hstep : ∀ L s i o, (∀ m j, L m = true → depB l.toArray m j = true → L j = true) → J L s → l[i]? = some o → L i = false → (∀ m, depB l.toArray i m = true → L m = true) → SO P B l.toArray [o] [] (stepJ J L i (thenQ (SC P B cs Q) Q)) s)
  (hend : ∀ L s, (∀ i, i < l.length → L i = true) → J L s → SC P B cs Q s) : SC P B (.region id l.toArray true :: cs) Q s := by
 refine region_inv (J := J) hm hord h0 (fun L s i o hcl hJ ho hi hd => ?_) (fun L s hL hJ => hend L s hL hJ)
 have h := hstep L s i o hcl hJ ho hi hd
 have e : thenQ (SC P B [] (stepJ J L i (thenQ (SC P B cs Q) Q))) (stepJ J L i (thenQ (SC P B cs Q) Q)) = stepJ J L i (thenQ (SC P B cs Q) Q) := by
  funext e s
  cases e <;> rfl
 unfold SO at h
 rw [e] at h
 exact h
end Go.Proofs.Ytdkkgndibagihaa
namespace Go.Proofs.Ytdkkgndibagihaa
open Go.RowKit
section
variable {P : Program} {B : Base}
theorem hasId_some : ∀ {l : List (Nat × Blk)} {id : Nat}, hasId l id = true → ∃ k, hget l id = some k := by
 intro l id
 induction l with
 | nil => intro h; cases h
 | cons p r ih =>
  intro h
  simp only [hasId, Bool.or_eq_true, decide_eq_true_eq] at h
  by_cases e : id = p.1
  ·exact ⟨p.2, by simp [hget, e]⟩
  ·obtain ⟨k, hk⟩ := ih (h.resolve_left e)
   exact ⟨k, by simp [hget, e, hk]⟩
theorem SInlQ.part {ops : Array Oper} {l : List Oper} {cs : List Code} {Q : Exit → SS → Prop} {f : Nat} {ys : List V} {d : Option Nat} (pre : List (Nat × Blk)) {hpS : List (Nat × Blk)} {nx nt : Nat} {sl : List (Nat × V)} {C : V → List (Nat × Blk) → Nat → Prop} (p : Nat → Prop) (hI : InlQ P f ys hpS nx C) (hm : ∀ id k, hget pre id = some k → ¬ p id) (hS : ∀ id k, hget hpS id = some k → p id)
  (hC : ∀ x hp' nx', C x hp' nx' → Only p x ∧ OnlyH p hp' ∧ ∀ id k, hget hp' id = some k → p id) (k : ∀ x hp' nx', C x hp' nx' → SO P B ops l cs Q ⟨putS sl d x, pre ++ hp', nx', nt⟩) : SInlQ P B f ys d ops l cs Q ⟨sl, pre ++ hpS, nx, nt⟩ := by
 have hsub : ∀ id k, hget hpS id = some k → hget (pre ++ hpS) id = some k := by
  intro id q hq
  rw [hget_app]
  cases e : hget pre id with
  | none => exact hq
  | some q' => exact absurd (hS id q hq) (hm id q' e)
 have hrest : ∀ i, p i → hasId (restH (pre ++ hpS) hpS) i = false := by
  intro i hi
  rw [hasId_rest]
  cases e : hasId hpS i with
  | true => simp
  | false =>
   have h1 : hasId pre i = false := by
    cases h : hasId pre i with
    | false => rfl
    | true => obtain ⟨q, hq⟩ := hasId_some h; exact absurd hi (hm i q hq)
   have : hasId (pre ++ hpS) i = false := by
    have happ : ∀ (a b : List (Nat × Blk)) (i : Nat), hasId (a ++ b) i = (hasId a i || hasId b i) := by
     intro a b i
     induction a with
     | nil => simp [hasId]
     | cons p r ih => simp [hasId, ih, Bool.or_assoc]
    rw [happ, h1, e]; rfl
   rw [this]; rfl
 refine ⟨hpS, C, hsub, hI, fun x hp' nx' h => ?_⟩
 obtain ⟨h1, h2, h3⟩ := hC x hp' nx' h
 refine ⟨h1.mono hrest, h2.mono hrest, SO.weak (Le.less (fun id q hq => ?_) (znb _)) (k x hp' nx' h)⟩
 rw [hget_app] at hq ⊢
 cases e : hget pre id with
 | some q' =>
  rw [e] at hq
  cases hq
  have e2 : hget hp' id = none := by
   cases e3 : hget hp' id with
   | none => rfl
   | some q' => exact absurd (h3 id q' e3) (hm id _ e)
  rw [e2]
  simp only
  rw [hget_rest, if_neg, hget_app, e]
  intro hh
  obtain ⟨q', hq'⟩ := hasId_some hh
  exact absurd (hS id q' hq') (hm id _ e)
 | none =>
  rw [e] at hq
  simp only at hq
  rw [hq]
end
end Go.Proofs.Ytdkkgndibagihaa
namespace Go.Proofs.Ytdkkgndibagihaa
open Go.RowKit
theorem rowsI_new {w nx : Nat} {M : List (List Int)} {x : V} {hp' : List (Nat × Blk)} {nx' : Nat} (h : RowsI w M nx x hp' nx') : Only (fun i => nx ≤ i) x ∧ OnlyH (fun i => nx ≤ i) hp' ∧ ∀ id k, hget hp' id = some k → nx ≤ id := by
 obtain ⟨o, ids, hR, rfl, rfl⟩ := h
 refine ⟨.sl hR.o1.1, ⟨fun y hy => ?_, OnlyH.rows (rI_clo M)⟩, fun id k hk => ?_⟩
 ·obtain ⟨i, hi, rfl⟩ := List.mem_map.1 hy
  exact .sl (hR.lt i hi).1
 ·simp only [hget] at hk
  split at hk
  ·rename_i e; rw [e]; exact hR.o1.1
  ·obtain ⟨q, q1, _, q3, _⟩ := rows_inv hk
   rw [← q3]; exact (hR.lt _ (getD_mem' q1)).1
def inR (o : Nat) (ids : List Nat) (i : Nat) : Prop := i = o ∨ i ∈ ids
theorem inR_rows {o : Nat} {b : Blk} {tr : TypeId} {ids0 ids : List Nat} {rs : List (List V)} (hs : ∀ i ∈ ids, i ∈ ids0) : ∀ id k, hget ((o, b) :: rowsH tr ids rs) id = some k → inR o ids0 id := by
 intro id k hk
 simp only [hget] at hk
 split at hk
 ·exact .inl ‹_›
 ·obtain ⟨q, q1, q2, q3, rfl⟩ := rows_inv hk
  rw [← q3]; exact .inr (hs _ (getD_mem' q1))
end Go.Proofs.Ytdkkgndibagihaa
namespace Go.Proofs.Ytdkkgndibagihaa
open Go.RowKit
end Go.Proofs.Ytdkkgndibagihaa
namespace Go.Proofs.Ytdkkgndibagihaa
open Go.RowKit
theorem Le.rowsTo (pre : List (Nat × Blk)) {B : Base} {sl sl' : List (Nat × V)} {hp : List (Nat × Blk)} {o nx nx1 nt : Nat} {ty tr : TypeId} {ids : List Nat} {rs : List (List V)} {C' : List V} (hB : ∃ m, B.Old m ∧ m ≤ nx)
  (hpre : ∀ i k, hget pre i = some k → k.cs.all clS = true ∧ hget hp i = some k)
  (ho : ∃ C, hget hp o = some ⟨ty, C, false⟩ ∧ ∀ (j : Nat) (y : V), C'[j]? = some y → ∃ x, C[j]? = some x ∧ VMap (fun i => i) (fun i => i < nx) x y)
  (hr : ∀ k, k < ids.length → k < rs.length → ∃ C, hget hp (ids.getD k 0) = some ⟨tr, C, false⟩ ∧ ∀ (j : Nat) (y : V), (rs.getD k [])[j]? = some y → ∃ x, C[j]? = some x ∧ VMap (fun i => i) (fun i => i < nx) x y)
  (h1 : mapSl (fun i => i) (fun i => i < nx) sl sl') :
  Le B ⟨sl, hp, nx1, nt⟩ ⟨sl', pre ++ (o, ⟨ty, C', false⟩) :: rowsH tr ids rs, nx, nt⟩ := by
 obtain ⟨m0, hB, hm0⟩ := hB
 refine Le.map (fun i => i) (fun i => i < nx) hB (fun i hi => ⟨by omega, rfl⟩) (fun i h => h) (fun i j _ _ e => e) h1 (fun i k' hk' hlt => ?_)
 rw [hget_app] at hk'
 cases hp : hget pre i with
 | some q =>
  rw [hp] at hk'
  cases hk'
  obtain ⟨p1, p2⟩ := hpre i _ hp
  rw [p2]
  exact ⟨_, rfl, rfl, rfl, fun j y hy => ⟨y, hy, VMap.clS (List.all_eq_true.1 p1 y (List.mem_of_getElem? hy))⟩⟩
 | none =>
  rw [hp] at hk'
  simp only [hget] at hk'
  split at hk'
  ·rename_i e
   cases hk'
   obtain ⟨C, h2, h3⟩ := ho
   subst e
   rw [h2]
   exact ⟨_, rfl, rfl, rfl, h3⟩
  ·obtain ⟨q, q1, q2, q3, rfl⟩ := rows_inv hk'
   obtain ⟨C, h2, h3⟩ := hr q q1 q2
   subst q3
   rw [h2]
   exact ⟨_, rfl, rfl, rfl, h3⟩
theorem cellsTo {z m n nx : Nat} {cap : Option Nat} {ids : List Nat} {rest : List V} (hi : ∀ i ∈ ids, i < nx) (hn : n < nx) (hrest : ∀ x ∈ rest, x = .sc (.slice none 0 0)) : ∀ (j : Nat) (y : V), (slR z m (ids ++ [n]) ++ rest)[j]? = some y → ∃ x, (slR z m ids ++ V.sl n 0 m z cap :: rest)[j]? = some x ∧ VMap (fun i => i) (fun i => i < nx) x y := by
 intro j y hy
 rw [← slR_app] at hy
 have hlen := slR_len z m ids
 rcases Nat.lt_trichotomy j ids.length with g | g | g
 ·rw [zl6, List.getElem?_append_left (by omega), slR_get g] at hy
  rw [List.getElem?_append_left (by omega), slR_get g]
  cases hy
  exact ⟨_, rfl, VMap.sl rfl (hi _ (getD_mem' g))⟩
 ·rw [zl6, List.getElem?_append_right (by omega), hlen, g, Nat.sub_self] at hy
  rw [List.getElem?_append_right (by omega), hlen, g, Nat.sub_self]
  have : (slR z m [n] ++ rest)[0]? = some (V.sl n 0 m z none) := rfl
  rw [this] at hy
  cases hy
  exact ⟨_, rfl, VMap.cap rfl hn⟩
 ·rw [zl6, List.getElem?_append_right (by omega), hlen] at hy
  rw [List.getElem?_append_right (by omega), hlen]
  obtain ⟨q, hq⟩ : ∃ q, j - ids.length = q + 1 := ⟨j - ids.length - 1, by omega⟩
  rw [hq] at hy ⊢
  have e1 : (slR z m [n] ++ rest)[q + 1]? = rest[q]? := rfl
  rw [e1] at hy
  rw [List.getElem?_cons_succ]
  refine ⟨y, hy, ?_⟩
  rw [hrest y (List.mem_of_getElem? hy)]
  exact VMap.nil
theorem cloTo {r : List V} {f : Nat → Nat} {D : Nat → Prop} (h : r.all clS = true) : ∀ (j : Nat) (y : V), r[j]? = some y → ∃ x, r[j]? = some x ∧ VMap f D x y := fun j y hy => ⟨y, hy, VMap.clS (List.all_eq_true.1 h y (List.mem_of_getElem? hy))⟩
theorem clS_of {r : List V} (h : r.all clo = true) : r.all clS = true := by
 rw [zlf] at h ⊢
 intro x hx
 have := h x hx
 cases x <;> first | rfl | exact this
theorem ids_snoc {ids : List Nat} {n k : Nat} (h : k < (ids ++ [n]).length) : (k < ids.length ∧ (ids ++ [n]).getD k 0 = ids.getD k 0) ∨ (k = ids.length ∧ (ids ++ [n]).getD k 0 = n) := by
 simp only [zl1, List.length_singleton] at h
 rcases Nat.lt_or_ge k ids.length with g | g
 ·exact .inl ⟨g, by rw [List.getD_eq_getElem?_getD, List.getElem?_append_left g, List.getD_eq_getElem?_getD]⟩
 ·have e : k = ids.length := by omega
  exact .inr ⟨e, by rw [e, List.getD_eq_getElem?_getD, List.getElem?_append_right (znb _), Nat.sub_self]; rfl⟩
def zer (w : Nat) : List V := (List.replicate w [V.sc (.bool false), V.sc (.slice none 0 0)]).flatten
def zeroL (h w : Nat) : List (List Int) := List.replicate h (List.replicate w 0)
theorem zer_map {f : Nat → Nat} {D : Nat → Prop} : ∀ (w j : Nat) (y : V), (ivR (List.replicate w 0))[j]? = some y → ∃ x, (zer w)[j]? = some x ∧ VMap f D x y
 | 0, j, y, h => by cases h
 | w + 1, j, y, h => by
  have e1 : ivR (List.replicate (w + 1) 0) = V.sc (.bool false) :: V.im [] 0 :: ivR (List.replicate w 0) := rfl
  have e2 : zer (w + 1) = V.sc (.bool false) :: V.sc (.slice none 0 0) :: zer w := rfl
  rw [e1] at h
  rw [e2]
  match j, h with
  | 0, h => cases h; exact ⟨_, rfl, VMap.sc _⟩
  | 1, h => cases h; exact ⟨_, rfl, VMap.nil_im⟩
  | j + 2, h => exact zer_map w j y h
theorem zeroL_get {h w k : Nat} (hk : k < h) : (zeroL h w).getD k [] = List.replicate w 0 := by
 unfold zeroL
 rw [List.getD_eq_getElem?_getD, List.getElem?_replicate, if_pos hk]; rfl
theorem zeroL_len {h w : Nat} : (zeroL h w).length = h := by simp [zeroL]
def MatQ (w : Nat) (M : List (List Int)) (nx : Nat) (x : V) (hp' : List (Nat × Blk)) (nx' : Nat) : Prop :=
 ∃ o ids, RowsOk o ids M.length nx nx' ∧ x = .ag [.sc (.int .i64 M.length), .sc (.int .i64 w), .sl o 0 M.length 1 none] ∧ hp' = (o, ⟨80, slR 2 w ids, false⟩) :: rowsH 84 ids (rI M)
end Go.Proofs.Ytdkkgndibagihaa
namespace Go.Proofs.Ytdkkgndibagihaa
open Go.RowKit
def mkR (w : Nat) (f : Nat → Int) : List Int := (List.range w).map f
def mkM (h w : Nat) (f : Nat → Nat → Int) : List (List Int) := (List.range h).map fun r => mkR w (f r)
theorem mkR_len {w : Nat} {f : Nat → Int} : (mkR w f).length = w := by simp [mkR]
theorem mkM_len {h w : Nat} {f : Nat → Nat → Int} : (mkM h w f).length = h := by simp [mkM]
theorem mkR_get {w c : Nat} {f : Nat → Int} (h : c < w) : (mkR w f).getD c 0 = f c := by
 unfold mkR
 rw [List.getD_eq_getElem?_getD, List.getElem?_map, List.getElem?_range h]; rfl
theorem mkM_get {h w r : Nat} {f : Nat → Nat → Int} (hr : r < h) : (mkM h w f).getD r [] = mkR w (f r) := by
 unfold mkM
 rw [List.getD_eq_getElem?_getD, List.getElem?_map, List.getElem?_range hr]; rfl
theorem mkR_congr {w : Nat} {f g : Nat → Int} (h : ∀ c, c < w → f c = g c) : mkR w f = mkR w g := by
 unfold mkR
 exact List.map_congr_left fun c hc => h c (List.mem_range.1 hc)
theorem mkM_congr {h w : Nat} {f g : Nat → Nat → Int} (hh : ∀ r c, r < h → c < w → f r c = g r c) : mkM h w f = mkM h w g := by
 unfold mkM
 exact List.map_congr_left fun r hr => mkR_congr fun c hc => hh r c (List.mem_range.1 hr) hc
theorem mkM_of {h w K : Nat} {M : List (List Int)} (hM : MI h w K M) : mkM h w (fun r c => (M.getD r []).getD c 0) = M := by
 refine List.ext_getElem (by rw [mkM_len, hM.len]) fun r h1 h2 => ?_
 rw [mkM_len] at h1
 have e1 := mkM_get (w := w) (f := fun r c => (M.getD r []).getD c 0) h1
 rw [List.getD_eq_getElem?_getD, zlb (by rw [mkM_len]; exact h1)] at e1
 simp only [Option.getD_some] at e1
 rw [e1]
 have e2 : M.getD r [] = M[r] := by rw [List.getD_eq_getElem?_getD, zlb h2]; rfl
 have hl := (hM.get h1).1
 rw [← e2]
 refine ilist_ext (by rw [mkR_len, hl]) fun j hj => ?_
 rw [mkR_len] at hj
 rw [mkR_get hj]
theorem mkM_set {h w i j : Nat} {f : Nat → Nat → Int} {x : Int} (hi : i < h) (hj : j < w) : (mkM h w f).set i ((mkR w (f i)).set j x) = mkM h w fun r c => if r = i ∧ c = j then x else f r c := by
 refine List.ext_getElem (by simp [mkM_len]) fun r h1 h2 => ?_
 rw [mkM_len] at h2
 have e1 : ((mkM h w f).set i ((mkR w (f i)).set j x)).getD r [] = (mkM h w fun r c => if r = i ∧ c = j then x else f r c).getD r [] := by
  rw [getD_set (by rw [mkM_len]; exact hi), mkM_get h2, mkM_get h2]
  by_cases e : r = i
  ·subst e
   rw [if_pos rfl]
   refine ilist_ext (by rw [List.length_set, mkR_len, mkR_len]) fun c hc => ?_
   rw [List.length_set, mkR_len] at hc
   rw [getD_set (by rw [mkR_len]; exact hj), mkR_get hc, mkR_get hc]
   by_cases e2 : c = j
   ·rw [if_pos e2, if_pos ⟨rfl, e2⟩]
   ·rw [if_neg e2, if_neg (fun h => e2 h.2)]
  ·rw [if_neg e]
   exact mkR_congr fun c _ => by rw [if_neg (fun h => e h.1)]
 rw [List.getD_eq_getElem?_getD, zlb h1, List.getD_eq_getElem?_getD, zlb (by rw [mkM_len]; exact h2)] at e1
 simpa using e1
theorem mkM_zero {h w : Nat} : zeroL h w = mkM h w fun _ _ => 0 := by
 refine List.ext_getElem (by rw [zeroL_len, mkM_len]) fun r h1 h2 => ?_
 rw [zeroL_len] at h1
 have e : (zeroL h w).getD r [] = (mkM h w fun _ _ => 0).getD r [] := by
  rw [zeroL_get h1, mkM_get h1]
  refine ilist_ext (by rw [mkR_len]; simp) fun c hc => ?_
  simp only [List.length_replicate] at hc
  rw [mkR_get hc, List.getD_eq_getElem?_getD, List.getElem?_replicate, if_pos hc]; rfl
 rw [List.getD_eq_getElem?_getD, zlb (by rw [zeroL_len]; exact h1), List.getD_eq_getElem?_getD, zlb (by rw [mkM_len]; exact h1)] at e
 simpa using e
theorem mk_mi {h w K : Nat} {f : Nat → Nat → Int} (hf : ∀ r c, r < h → c < w → Fits K (f r c)) : MI h w K (mkM h w f) := by
 refine ⟨mkM_len, fun r hr => ?_⟩
 obtain ⟨i, hi, rfl⟩ := List.mem_map.1 hr
 refine ⟨mkR_len, fun x hx => ?_⟩
 obtain ⟨c, hc, rfl⟩ := List.mem_map.1 hx
 exact hf i c (List.mem_range.1 hi) (List.mem_range.1 hc)
theorem matQ_new {w nx : Nat} {M : List (List Int)} {x : V} {hp' : List (Nat × Blk)} {nx' : Nat} (h : MatQ w M nx x hp' nx') : Only (fun i => nx ≤ i) x ∧ OnlyH (fun i => nx ≤ i) hp' ∧ ∀ id k, hget hp' id = some k → nx ≤ id := by
 obtain ⟨o, ids, hR, rfl, rfl⟩ := h
 have := rowsI_new (w := w) (M := M) (nx := nx) (nx' := nx') ⟨o, ids, hR, rfl, rfl⟩
 refine ⟨.ag fun y hy => ?_, this.2⟩
 simp only [List.mem_cons, List.not_mem_nil, or_false] at hy
 rcases hy with rfl | rfl | rfl
 ·exact .sc _
 ·exact .sc _
 ·exact this.1
theorem cellF {h w i j : Nat} {ty : TypeId} {ids : List Nat} {f : Nat → Nat → Int} {z : Int} (hnod : ids.Nodup) (hlen : ids.length = h) (hi : i < h) (hj : j < w) :
  hget (rowsH ty ids (rI (mkM h w f))) (ids.getD i 0) = some ⟨ty, ivR (mkR w (f i)), false⟩ ∧ (ivR (mkR w (f i))).length = 2 * w ∧ (ivR (mkR w (f i))).drop (j * 2) = ivC (f i j) ++ (ivR (mkR w (f i))).drop ((j + 1) * 2) ∧
  setAll (ivR (mkR w (f i))) (j * 2) (ivC z) = ivR ((mkR w (f i)).set j z) ∧ hset (rowsH ty ids (rI (mkM h w f))) (ids.getD i 0) ⟨ty, ivR ((mkR w (f i)).set j z), false⟩ = rowsH ty ids (rI (mkM h w fun r c => if r = i ∧ c = j then z else f r c)) := by
 have gR := rows_get (ty := ty) (rs := rI (mkM h w f)) (k := i) hnod (by omega) (by rw [rI_len, mkM_len]; omega)
 rw [rI_getD, mkM_get hi] at gR
 have gd := ivR_drop (l := mkR w (f i)) (i := j) (by rw [mkR_len]; exact hj)
 rw [mkR_get hj] at gd
 have hrs := rows_set (ty := ty) (rs := rI (mkM h w f)) (k := i) (r := ivR ((mkR w (f i)).set j z)) hnod (by omega) (by rw [rI_len, mkM_len]; omega)
 rw [rI_set, mkM_set hi hj] at hrs
 exact ⟨gR, by rw [ivR_len, mkR_len], gd, ivR_set z (by rw [mkR_len]; exact hj), hrs⟩
def idL (n : Nat) : List (List Int) := mkM n n fun r c => if r = c then 1 else 0
theorem fits01 {p : Prop} [Decidable p] : Fits 1 (if p then 1 else 0) := by
 unfold Fits; split <;> decide
end Go.Proofs.Ytdkkgndibagihaa
namespace Go.Proofs.Ytdkkgndibagihaa
open Go.RowKit
theorem VLe.z2 {ok : Nat → Bool} : VLe ok (.sc (.slice none 0 0)) (sv (limbsOf (Int.natAbs 0))) := by
 unfold sv
 rw [show Int.natAbs 0 = 0 from rfl, limbsOf_zero]
 exact VLe.nil_im
theorem LLe_zer {ok : Nat → Bool} : ∀ (w : Nat) {l : List Int}, l = List.replicate w 0 → LLe ok (zer w) (ivR l)
 | 0, l, h => by subst h; exact LLe.nil _
 | w + 1, l, h => by
  subst h
  have e1 : zer (w + 1) = V.sc (.bool false) :: V.sc (.slice none 0 0) :: zer w := rfl
  have e2 : ivR (List.replicate (w + 1) 0) = V.sc (.bool (decide ((0 : Int) < 0))) :: sv (limbsOf (Int.natAbs 0)) :: ivR (List.replicate w 0) := rfl
  rw [e1, e2]
  exact LLe.cons (VLe.bool rfl) (LLe.cons VLe.z2 (LLe_zer w rfl))
theorem cfn_nil (n : Int) : cfn [] n = 0 := rfl
theorem cfn_once {x : Ch} (hv : VG none x) {i : Nat} (hi : i < x.length) : cfn (x.take i) (x.getD i (0, some 0)).1 = 0 := by
 have h := (VG_iff.1 hv).2.2
 have hlt : ∀ k, k < i → (x.getD k (0, some 0)).1 < (x.getD i (0, some 0)).1 := by
  intro k hk
  induction i with
  | zero => omega
  | succ i ih =>
   have h1 := h (i + 1) (by omega) hi
   rw [Nat.add_sub_cancel] at h1
   rcases Nat.lt_or_ge k i with h2 | h2
   ·have := ih (by omega) h2; omega
   ·rw [show k = i by omega]; exact h1
 have key : ∀ m, m ≤ i → cfn (x.take m) (x.getD i (0, some 0)).1 = 0 := by
  intro m
  induction m with
  | zero => intro _; rw [zl4]; rfl
  | succ m ih =>
   intro hm
   have := hlt m (by omega)
   rw [cfn_take (by omega), ih (by omega), if_neg (by omega)]; rfl
 exact key i (znb _)
def rowR (x : Ch) (ids : List Int) (i j : Nat) : List Int := mkR ids.length fun t => cfn (x.take (if t < j then i + 1 else i)) (ids.getD t 0)
theorem rowR_len (x : Ch) (ids : List Int) (i j : Nat) : (rowR x ids i j).length = ids.length := mkR_len
def rowL (x : Ch) (ids : List Int) : List Int := ids.map (cfn x)
theorem rowL_len (x : Ch) (ids : List Int) : (rowL x ids).length = ids.length := by simp [rowL]
set_option maxHeartbeats 8000000 in
theorem row_s {x : Ch} {ids : List Int} (hv : VG none x) (hx : x.length ≤ 1000) (hn : ids.length ≤ 1000) : Spec Try.prog 46 [chV x, nsV ids] (.im (ivR (rowL x ids)) ids.length) := by
 have glx := fcs_len x
 have gln := nsC_len ids
 unfold chV nsV
 generalize hR : rowL x ids = R
 refine qF Try.func46 Try.ntmps46 fun B hB => ?_
 refine qW ?_
 refine SC.loop (fun i : Nat => ⟨[(0, .im (fcs x) x.length), (1, .im (nsC ids) ids.length), (5, .sl 0 0 ids.length 2 none), (6, .sc (.int .i64 (i : Nat)))], [(0, ⟨84, ivR (rowR x ids i 0), false⟩)], 1, 42⟩)
  (fun i => i ≤ x.length) (fun i => x.length - i) 0 ?_ ?_ ?_
 ·(refine Le.of [] hB (by first | exact ⟨znc _, fun _ _ => znc _⟩ | (constructor <;> (try simp) <;> (try omega))) ?_ ?_ <;> (repeat' (first | exact leSl_nil | exact leHp_nil | refine leSl_cons qT ?_ ?_ | refine leHp_cons qT ?_ ?_ | exact VLe.junk _ | exact VLe.refl rfl | exact VLe.nil_sl _ _ _ | exact VLe.int (by first | rfl | omega | (dsimp only; omega)) | exact VLe.bool rfl | exact VLe.sl rfl (by first | rfl | omega | (dsimp only; omega) | (simp; done)) | exact VLe.cap rfl (by first | rfl | omega | (dsimp only; omega) | (simp; done)) | exact VLe.im rfl rfl | exact HLe.new rfl | exact HLe.same rfl (LLe.refl rfl) | refine HLe.same rfl ?_ | exact LLe.nil _ | exact LLe.refl rfl | exact LLe.cl rfl qS | exact LLe.clR rfl qS | refine LLe.cons ?_ ?_)))
  exact LLe_zer _ (by unfold rowR; exact ilist_ext (by rw [mkR_len, List.length_replicate]) fun j hj => by rw [mkR_len] at hj; rw [mkR_get hj, if_neg (by omega), zl4, cfn_nil, List.getD_eq_getElem?_getD, List.getElem?_replicate]; simp [hj])
 ·exact znc _
 rintro i hi K0 hK0
 by_cases hc : i < x.length
 ·have q1 : decide ((i : Int) < (x.length : Int)) = true := decide_eq_true (by omega)
  have gd := fcs_drop hc
  have h1 := cfn_once hv hc
  have h2 := fun n => cfn_take hc n
  obtain ⟨nf, lf, hqf⟩ := cfC_two (x.getD i (0, some 0)).2
  obtain ⟨z, hz, _⟩ := (VG_iff.1 hv).2.1 i hc
  have ez : ivC z = [.sc (.bool nf), .im (lv lf) lf.length] := by rw [hz] at hqf; exact hqf
  have ecv : cv (x.getD i (0, some 0)).2 = z := by rw [hz]; rfl
  rw [ecv] at h2
  rw [fcC, hqf] at gd
  clear hz ecv hqf
  generalize (x.getD i (0, some 0)).1 = fi at *
  refine qWf @q1 ?_
  refine SC.loop (fun j : Nat => ⟨[(0, .im (fcs x) x.length), (1, .im (nsC ids) ids.length), (5, .sl 0 0 ids.length 2 none), (6, .sc (.int .i64 (i : Nat))), (7, .sc (.int .i64 (j : Nat)))], [(0, ⟨84, ivR (rowR x ids i j), false⟩)], 1, 42⟩)
   (fun j => j ≤ ids.length) (fun j => ids.length - j) 0 ?_ ?_ ?_
  ·have gc := ivR_clo (rowR x ids i 0)
   (refine Le.of [] hB (by first | exact ⟨znc _, fun _ _ => znc _⟩ | (constructor <;> (try simp) <;> (try omega))) ?_ ?_ <;> (repeat' (first | exact leSl_nil | exact leHp_nil | refine leSl_cons qT ?_ ?_ | refine leHp_cons qT ?_ ?_ | exact VLe.junk _ | exact VLe.refl rfl | exact VLe.nil_sl _ _ _ | exact VLe.int (by first | rfl | omega | (dsimp only; omega)) | exact VLe.bool rfl | exact VLe.sl rfl (by first | rfl | omega | (dsimp only; omega) | (simp; done)) | exact VLe.cap rfl (by first | rfl | omega | (dsimp only; omega) | (simp; done)) | exact VLe.im rfl rfl | exact HLe.new rfl | exact HLe.same rfl (LLe.refl rfl) | refine HLe.same rfl ?_ | exact LLe.nil _ | exact LLe.refl rfl | exact LLe.cl rfl qS | exact LLe.clR rfl qS | refine LLe.cons ?_ ?_)))
   exact LLe.cl rfl gc
  ·exact znc _
  rintro j hj K1 hK1
  by_cases hc2 : j < ids.length
  ·have q2 : decide ((j : Int) < (ids.length : Int)) = true := decide_eq_true (by omega)
   have gi := nsC_get hc2
   have gR := ivR_len (rowR x ids i j)
   rw [rowR_len] at gR
   have hset : ∀ v, cfn (x.take (i + 1)) (ids.getD j 0) = v → (rowR x ids i j).set j v = rowR x ids i (j + 1) := fun v hv => ilist_ext (by rw [List.length_set, rowR_len, rowR_len]) fun t ht => by
    rw [List.length_set, rowR_len] at ht
    unfold rowR
    rw [mkR_get ht, List.getD_eq_getElem?_getD]
    by_cases e : j = t
    ·subst e
     rw [List.getElem?_set_self (by rw [mkR_len]; exact ht), if_pos (by omega), hv]; rfl
    ·rw [List.getElem?_set_ne e, ← List.getD_eq_getElem?_getD, mkR_get ht]
     by_cases e2 : t < j
     ·rw [if_pos e2, if_pos (by omega)]
     ·rw [if_neg e2, if_neg (by omega)]
   have hsame : cfn (x.take (i + 1)) (ids.getD j 0) = cfn (x.take i) (ids.getD j 0) → rowR x ids i j = rowR x ids i (j + 1) := fun hv => by
    unfold rowR
    refine mkR_congr fun t ht => ?_
    by_cases e : j = t
    ·subst e; rw [if_neg (by omega), if_pos (by omega)]; exact hv.symm
    ·by_cases e2 : t < j
     ·rw [if_pos e2, if_pos (by omega)]
     ·rw [if_neg e2, if_neg (by omega)]
   by_cases he : ids.getD j 0 = fi
   ·have e3 := hset z (by rw [h2, he, if_pos rfl, h1, Int.zero_add])
    have gs := ivR_set (l := rowR x ids i j) (i := j) z (by rw [rowR_len]; exact hc2)
    rw [e3, ez] at gs
    have q3 : (ids.getD j 0 == fi) = true := by rw [beq_iff_eq]; exact he
    clear hset hsame e3
    have gc := ivR_clo (rowR x ids i (j + 1))
    generalize rowR x ids i j = r1 at *
    refine qWf (Q9 @q2 @gi @gln @gd @glx @q3 @gR @gs @gD) ?_
    refine hK1 _ (j + 1) ?_ (by omega) (by omega)
    (refine Le.of [] hB (by first | exact ⟨znc _, fun _ _ => znc _⟩ | (constructor <;> (try simp) <;> (try omega))) ?_ ?_ <;> (repeat' (first | exact leSl_nil | exact leHp_nil | refine leSl_cons qT ?_ ?_ | refine leHp_cons qT ?_ ?_ | exact VLe.junk _ | exact VLe.refl rfl | exact VLe.nil_sl _ _ _ | exact VLe.int (by first | rfl | omega | (dsimp only; omega)) | exact VLe.bool rfl | exact VLe.sl rfl (by first | rfl | omega | (dsimp only; omega) | (simp; done)) | exact VLe.cap rfl (by first | rfl | omega | (dsimp only; omega) | (simp; done)) | exact VLe.im rfl rfl | exact HLe.new rfl | exact HLe.same rfl (LLe.refl rfl) | refine HLe.same rfl ?_ | exact LLe.nil _ | exact LLe.refl rfl | exact LLe.cl rfl qS | exact LLe.clR rfl qS | refine LLe.cons ?_ ?_)))
    exact LLe.cl rfl gc
   ·have e3 := hsame (by rw [h2, if_neg (fun h => he h.symm), Int.add_zero])
    have q3 : (ids.getD j 0 == fi) = false := by rw [beq_eq_false_iff_ne]; exact he
    clear hset hsame
    have gc := ivR_clo (rowR x ids i (j + 1))
    rw [e3]
    refine qWf (Q7 @q2 @gi @gln @gd @glx @q3 @gD) ?_
    refine hK1 _ (j + 1) ?_ (by omega) (by omega)
    (refine Le.of [] hB (by first | exact ⟨znc _, fun _ _ => znc _⟩ | (constructor <;> (try simp) <;> (try omega))) ?_ ?_ <;> (repeat' (first | exact leSl_nil | exact leHp_nil | refine leSl_cons qT ?_ ?_ | refine leHp_cons qT ?_ ?_ | exact VLe.junk _ | exact VLe.refl rfl | exact VLe.nil_sl _ _ _ | exact VLe.int (by first | rfl | omega | (dsimp only; omega)) | exact VLe.bool rfl | exact VLe.sl rfl (by first | rfl | omega | (dsimp only; omega) | (simp; done)) | exact VLe.cap rfl (by first | rfl | omega | (dsimp only; omega) | (simp; done)) | exact VLe.im rfl rfl | exact HLe.new rfl | exact HLe.same rfl (LLe.refl rfl) | refine HLe.same rfl ?_ | exact LLe.nil _ | exact LLe.refl rfl | exact LLe.cl rfl qS | exact LLe.clR rfl qS | refine LLe.cons ?_ ?_)))
    exact LLe.cl rfl gc
  ·have q2 : decide ((j : Int) < (ids.length : Int)) = false := decide_eq_false (by omega)
   have hjl : j = ids.length := by omega
   have e3 : rowR x ids i j = rowR x ids (i + 1) 0 := by
    unfold rowR
    exact mkR_congr fun t ht => by rw [if_pos (by omega), if_neg (by omega)]
   have gc := ivR_clo (rowR x ids (i + 1) 0)
   rw [e3]
   refine qWf @q2 ?_
   refine hK0 _ (i + 1) ?_ (by omega) (by omega)
   (refine Le.of [] hB (by first | exact ⟨znc _, fun _ _ => znc _⟩ | (constructor <;> (try simp) <;> (try omega))) ?_ ?_ <;> (repeat' (first | exact leSl_nil | exact leHp_nil | refine leSl_cons qT ?_ ?_ | refine leHp_cons qT ?_ ?_ | exact VLe.junk _ | exact VLe.refl rfl | exact VLe.nil_sl _ _ _ | exact VLe.int (by first | rfl | omega | (dsimp only; omega)) | exact VLe.bool rfl | exact VLe.sl rfl (by first | rfl | omega | (dsimp only; omega) | (simp; done)) | exact VLe.cap rfl (by first | rfl | omega | (dsimp only; omega) | (simp; done)) | exact VLe.im rfl rfl | exact HLe.new rfl | exact HLe.same rfl (LLe.refl rfl) | refine HLe.same rfl ?_ | exact LLe.nil _ | exact LLe.refl rfl | exact LLe.cl rfl qS | exact LLe.clR rfl qS | refine LLe.cons ?_ ?_)))
   exact LLe.cl rfl gc
 ·have q1 : decide ((i : Int) < (x.length : Int)) = false := decide_eq_false (by omega)
  have e3 : rowR x ids i 0 = R := by
   rw [← hR]
   exact ilist_ext (by rw [rowR_len, rowL_len]) fun t ht => by
    rw [rowR_len] at ht
    unfold rowR rowL
    rw [mkR_get ht, if_neg (by omega), zla (by omega), List.getD_eq_getElem?_getD (l := ids.map (cfn x)), List.getElem?_map, getD_get' (d := 0) ht]; rfl
  have gR := ivR_len R
  have hRl : R.length = ids.length := by rw [← hR, rowL_len]
  rw [hRl] at gR
  have gt : (ivR R).take (ids.length * 2) = ivR R := zla (by omega)
  have gc := ivR_clo R
  rw [e3]
  refine qWf @q1 ?_
  exact retQ_ret Try.results46 qS (qSf (Q3 @gR @gt @gc)) rfl
def fromL : List Int → List Int → Ch
 | z :: v, n :: ids => if z = 0 then fromL v ids else (n, some z) :: fromL v ids
 | _, _ => []
theorem fromL_drop {v ids : List Int} {i : Nat} (h1 : i < v.length) (h2 : i < ids.length) : fromL (v.drop i) (ids.drop i) = if v.getD i 0 = 0 then fromL (v.drop (i + 1)) (ids.drop (i + 1)) else (ids.getD i 0, some (v.getD i 0)) :: fromL (v.drop (i + 1)) (ids.drop (i + 1)) := by
 have e : ∀ {l : List Int}, i < l.length → l.drop i = l.getD i 0 :: l.drop (i + 1) := fun {l} h => by
  rw [List.drop_eq_getElem_cons h, List.getD_eq_getElem?_getD, zlb h]; rfl
 rw [e h1, e h2, fromL]
theorem fromL_nil (l : List Int) : fromL [] l = [] := by cases l <;> simp [fromL]
theorem fromL_len : ∀ v ids : List Int, (fromL v ids).length ≤ v.length
 | z :: v, n :: ids => by
  have := fromL_len v ids
  rw [fromL]
  split <;> simp <;> omega
 | [], _ => by simp [fromL]
 | _ :: _, [] => by simp [fromL]
set_option maxHeartbeats 8000000 in
theorem fromrow_s {v ids : List Int} {K : Nat} (hv : v.length = ids.length) (hn : ids.length ≤ 1000) (hf : ∀ z ∈ v, Fits K z) (hK : K ≤ 300000000000) : Spec Try.prog 79 [.im (ivR v) v.length, nsV ids] (chV (fromL v ids)) := by
 have glv := ivR_len v
 have gln := nsC_len ids
 unfold chV nsV
 generalize hF : fromL v ids = F
 refine qF Try.func79 Try.ntmps79 fun B hB => ?_
 refine qW ?_
 refine SC.loop (fun x : Nat × Ch => ⟨[(0, .im (ivR v) v.length), (1, .im (nsC ids) ids.length), (5, .sl 0 0 x.2.length 3 none), (6, .sc (.int .i64 (x.1 : Nat)))], [(0, ⟨86, fcs x.2, false⟩)], 1, 39⟩)
  (fun x => x.1 ≤ ids.length ∧ x.2.length ≤ x.1 ∧ x.2 ++ fromL (v.drop x.1) (ids.drop x.1) = F) (fun x => ids.length - x.1) (0, []) ?_ ?_ ?_
 ·exact qLc
 ·exact ⟨znc _, znc _, by simpa using hF⟩
 rintro ⟨i, out⟩ ⟨hi, hol, hI⟩ K0 hK0
 simp only at hi hol hI
 have glo := fcs_len out
 by_cases hc : i < ids.length
 ·have q1 : decide ((i : Int) < (ids.length : Int)) = true := decide_eq_true (by omega)
  have q0 : decide ((i : Int) < (v.length : Int)) = true := decide_eq_true (by omega)
  have gi := nsC_get hc
  have gd := ivR_drop (l := v) (i := i) (by omega)
  have c1 := sign_i (v.getD i 0) K (hf _ (getD_mem (by omega))) (by omega)
  rw [fromL_drop (by omega) hc] at hI
  generalize v.getD i 0 = z at *
  generalize ids.getD i 0 = n at *
  obtain ⟨nz, lz, ez⟩ := iv_two z
  have ez2 : ivC z = [.sc (.bool nz), .im (lv lz) lz.length] := V.ag.inj ez
  rw [ez] at c1
  rw [ez2] at gd
  by_cases hz : z = 0
  ·rw [if_pos hz] at hI
   have q2 : (z.sign != 0) = false := by rw [hz]; rfl
   refine qWf (Q8 @q0 @q1 @gi @gln @gd @glv @q2 @gD) ?_
   refine hK0 _ (i + 1, out) ?_ ⟨hc, by show out.length ≤ i + 1; omega, hI⟩ (by show ids.length - (i + 1) < ids.length - i; omega)
   exact qLc
  ·rw [if_neg hz] at hI
   have q2 : (z.sign != 0) = true := by rw [bne_iff_ne]; exact fun h => hz (Int.sign_eq_zero_iff_zero.1 h)
   have et := fcs_take out
   have es : fcs out ++ [.sc (.int .i64 n), .sc (.bool nz), .im (lv lz) lz.length] = fcs (out ++ [(n, some z)]) := by
    rw [← fcs_snoc, fcC, show cfC (some z) = [.sc (.bool nz), .im (lv lz) lz.length] from ez2]
   have el : (out ++ [(n, some z)]).length = out.length + 1 := by simp
   refine qWf (Q10 @q0 @q1 @gi @gln @gd @glv @glo @et @q2 @gD) ?_
   rw [es]
   refine hK0 _ (i + 1, out ++ [(n, some z)]) (Le.swap 0 2 hB (by omega) (by omega) ?_) ⟨hc, by show (out ++ [(n, some z)]).length ≤ i + 1; omega, by show (out ++ [(n, some z)]) ++ _ = F; rw [zl6]; exact hI⟩ (by show ids.length - (i + 1) < ids.length - i; omega)
   rw [el]
   exact qLc
 ·have q0 : decide ((i : Int) < (v.length : Int)) = false := decide_eq_false (by omega)
  rw [List.drop_of_length_le (show v.length ≤ i by omega), fromL_nil, List.append_nil] at hI
  subst hI
  have ht := fcs_take out
  have hcl := fcs_clo out
  refine qWf @q0 ?_
  exact retQ_ret Try.results79 qS (qSf (Q3 @glo @ht @hcl)) rfl
end Go.Proofs.Ytdkkgndibagihaa
namespace Go.Proofs.Ytdkkgndibagihaa
open Go.RowKit
variable {P : Program} {B : Base}
theorem fz_keep {hp : List (Nat × Blk)} {ids : List Nat} {i : Nat} {b : Blk} (hi : i ∉ ids) (h : hget hp i = some b) : hget (fzHp hp ids) i = some b := by
 rw [hget_fz, h]
 have : ids.contains i = false := by
  cases hc : ids.contains i with
  | false => rfl
  | true => exact absurd (by simpa using hc) hi
 rw [Option.map_some, this, if_neg (by simp)]
theorem frzCell {sl : List (Nat × V)} {hp hp' : List (Nat × Blk)} {nx nt : Nat} {k : Blk} {x y : V} {ids : List Nat} (id j : Nat) (hk : hget hp id = some k) (hx : k.cs[j]? = some x) (h : frz 8 hp x = some (y, ids)) (hid : id ∉ ids)
  (hh : ∀ i b, hget hp' i = some b → (i = id ∧ b = ⟨k.ty, k.cs.set j y, k.fz⟩) ∨ (i ≠ id ∧ i ∉ ids ∧ hget hp i = some b)) : Le B ⟨sl, hp, nx, nt⟩ ⟨sl, hp', nx, nt⟩ := by
 intro S rho A a w hr
 by_cases hA : A id
 ·obtain ⟨cells, h1, h2⟩ := hr.mem.cells id k hk hA
  obtain ⟨u, hu, hru⟩ := h2 j x hx
  have hf := frz_sound hr.mem 8 _ _ _ _ h hru
  have hm := hr.mem.freeze ids hf.live
  have hg : ∀ i b, hget hp' i = some b → ∃ b0, hget (fzHp hp ids) i = some b0 ∧ b0.fz = b.fz := by
   intro i b hb
   rcases hh i b hb with ⟨rfl, rfl⟩ | ⟨_, h4, h5⟩
   ·exact ⟨k, fz_keep hid hk, rfl⟩
   ·exact ⟨b, fz_keep h4 h5, rfl⟩
  refine ⟨addS S rho A ids, rho, A, fun t => (hr.slots t).wide fun b hb => .inl hb, ?_, hr.alt, hr.nt, hr.defs⟩
  exact {
   cells := fun i b hb ha => by
    rcases hh i b hb with ⟨rfl, rfl⟩ | ⟨_, h4, h5⟩
    ·refine ⟨cells, h1, fun i' z hz => ?_⟩
     simp only [List.getElem?_set] at hz
     split at hz
     ·rename_i e
      subst e
      split at hz
      ·cases hz; exact ⟨u, hu, hf.rep.open⟩
      ·cases hz
     ·obtain ⟨v, hv, hrv⟩ := h2 i' z hz
      exact ⟨v, hv, hrv.wide fun b hb => .inl hb⟩
    ·exact hm.cells i b (fz_keep h4 h5) ha
   fz := fun i b hb ha hf' => let ⟨b0, g1, g2⟩ := hg i b hb; hm.fz i b0 g1 ha (g2.trans hf')
   own := fun i b hb => let ⟨b0, g1, _⟩ := hg i b hb; hm.own i b0 g1
   inj := fun i i' b b' hb hb' => let ⟨b0, g1, _⟩ := hg i b hb; let ⟨b0', g1', _⟩ := hg i' b' hb'; hm.inj i i' b0 b0' g1 g1'
   slt := hm.slt, sub := hm.sub, base := hm.base, frame := hm.frame, keep := hm.keep }
 ·have hm := hr.mem
  have hg : ∀ i b, hget hp' i = some b → A i → hget hp i = some b := by
   intro i b hb ha
   rcases hh i b hb with ⟨rfl, _⟩ | ⟨_, _, h5⟩
   ·exact absurd ha hA
   ·exact h5
  refine ⟨S, rho, A, hr.slots, ?_, hr.alt, hr.nt, hr.defs⟩
  exact {
   cells := fun i b hb ha => hm.cells i b (hg i b hb ha) ha
   fz := fun i b hb ha => hm.fz i b (hg i b hb ha) ha
   own := fun i b hb ha => hm.own i b (hg i b hb ha) ha
   inj := fun i i' b b' hb hb' ha ha' => hm.inj i i' b b' (hg i b hb ha) (hg i' b' hb' ha') ha ha'
   slt := hm.slt, sub := hm.sub, base := hm.base, frame := hm.frame, keep := hm.keep }
def cloN : V → Bool
 | .sc (.slice none 0 0) => true
 | x => clo x
theorem BMap.cloN {f : Nat → Nat} {D : Nat → Prop} {k : Blk} (h : k.cs.all cloN = true) : BMap f D (some k) k := ⟨k, rfl, rfl, rfl, fun i y hy => ⟨y, hy, by
 have hc := List.all_eq_true.1 h y (List.mem_of_getElem? hy)
 unfold Go.Proofs.Ytdkkgndibagihaa.cloN at hc
 split at hc
 ·exact VMap.nil
 ·exact VMap.clo hc⟩⟩
def restLt (hp : List (Nat × Blk)) (q0 d q : Nat) (ids : List Nat) : List (Nat × Blk) → Prop
 | [] => True
 | p :: r => (p.1 < q0 ∧ p.1 ≠ d ∧ p.1 ≠ q ∧ p.1 ∉ ids ∧ hget hp p.1 = some p.2 ∧ p.2.cs.all cloN = true) ∧ restLt hp q0 d q ids r
theorem restLt_get {hp : List (Nat × Blk)} {q0 d q : Nat} {ids : List Nat} : ∀ {r : List (Nat × Blk)}, restLt hp q0 d q ids r → ∀ i b, hget r i = some b → i < q0 ∧ i ≠ d ∧ i ≠ q ∧ i ∉ ids ∧ hget hp i = some b ∧ b.cs.all cloN = true
 | [], _, i, b, h => by cases h
 | p :: r, hr, i, b, h => by
  simp only [hget] at h
  split at h
  ·rename_i e
   subst e
   cases h
   exact hr.1
  ·exact restLt_get hr.2 i b h
theorem clo_map {f : Nat → Nat} {D : Nat → Prop} {pre : List V} {x y : V} (hp : pre.all clo = true) (h : VMap f D x y) : ∀ (i : Nat) (z : V), (pre ++ [y])[i]? = some z → ∃ u, (pre ++ [x])[i]? = some u ∧ VMap f D u z := by
 intro i z hz
 rcases Nat.lt_trichotomy i pre.length with g | g | g
 ·rw [List.getElem?_append_left g] at hz ⊢
  exact ⟨z, hz, VMap.clo (List.all_eq_true.1 hp z (List.mem_of_getElem? hz))⟩
 ·rw [List.getElem?_append_right (by omega), g, Nat.sub_self] at hz ⊢
  cases hz
  exact ⟨x, rfl, h⟩
 ·rw [List.getElem?_append_right (by omega)] at hz
  obtain ⟨n, hn⟩ : ∃ n, i - pre.length = n + 1 := ⟨i - pre.length - 1, by omega⟩
  rw [hn] at hz
  simp at hz
theorem nilRow {sl sl' : List (Nat × V)} {hp rest : List (Nat × Blk)} {nx nt m : Nat} {pre : List V} {tM tO : TypeId} (d q0 : Nat) (hB : B.Old m) (hd : hget hp d = some ⟨tM, pre ++ [.sc (.slice none 0 0)], false⟩) (hpre : pre.all clo = true) (hdq : d < q0)
  (hr : restLt hp q0 d q0 [] rest) (hm : m ≤ q0) (hs : mapSl (fun i => i) (fun i => i < q0) sl sl') :
  Le B ⟨sl, hp, nx, nt⟩ ⟨sl', (d, ⟨tM, pre ++ [.sl q0 0 0 1 none], false⟩) :: (q0, ⟨tO, [], false⟩) :: rest, q0 + 1, nt⟩ := by
 refine Le.map (fun i => i) (fun i => i < q0) hB (fun i hi => ⟨by omega, rfl⟩) (fun i hi => by omega) (fun i j _ _ e => e) hs fun i b hb hlt => ?_
 simp only [hget] at hb
 split at hb
 ·rename_i e
  subst e
  cases hb
  rw [hd]
  exact ⟨_, rfl, rfl, rfl, clo_map hpre (VMap.nil_sl _ _ _)⟩
 ·split at hb
  ·omega
  ·obtain ⟨h1, h2, h3, _, h4, h5⟩ := restLt_get hr i b hb
   rw [h4]
   exact BMap.cloN h5
theorem appRow {sl sl' : List (Nat × V)} {hp rest : List (Nat × Blk)} {nx nt m len : Nat} {pre cs : List V} {x y : V} {ids : List Nat} {tM tO : TypeId} (d q0 q : Nat) (hB : B.Old m) (hd : hget hp d = some ⟨tM, pre ++ [.sl q 0 len 1 none], false⟩) (hq : hget hp q = some ⟨tO, cs ++ [x], false⟩)
  (h : frz 8 hp x = some (y, ids)) (hpre : pre.all clo = true) (hcs : cs.all clo = true) (hy : clo y = true) (hdq : d < q0) (hq0 : q0 ≤ q) (hqi : q ∉ ids) (hdi : d ∉ ids)
  (hr : restLt hp q0 d q ids rest) (hm : m ≤ q0) (hs : mapSl (fun i => if i = q0 then q else i) (fun i => i < q0 + 1) sl sl') :
  Le B ⟨sl, hp, nx, nt⟩ ⟨sl', (d, ⟨tM, pre ++ [.sl q0 0 len 1 none], false⟩) :: (q0, ⟨tO, cs ++ [y], false⟩) :: rest, q0 + 1, nt⟩ := by
 refine Le.trans (frzCell (hp' := (q, ⟨tO, cs ++ [y], false⟩) :: (d, ⟨tM, pre ++ [.sl q 0 len 1 none], false⟩) :: rest) q cs.length hq (by simp) h hqi fun i b hb => ?_)
  (Le.map (fun i => if i = q0 then q else i) (fun i => i < q0 + 1) hB (fun i hi => ⟨by omega, if_neg (by omega)⟩) (fun i hi => hi) (fun i j hi hj e => ?_) hs fun i b hb hlt => ?_)
 ·simp only [hget] at hb
  split at hb
  ·rename_i e; cases hb
   refine .inl ⟨e, ?_⟩
   rw [List.set_append_right _ _ (znb _), Nat.sub_self]; rfl
  ·rename_i hne
   split at hb
   ·rename_i e; cases hb; subst e; exact .inr ⟨hne, hdi, hd⟩
   ·obtain ⟨h1, h2, h3, h4, h5, h6⟩ := restLt_get hr i b hb
    exact .inr ⟨h3, h4, h5⟩
 ·split at e <;> split at e <;> omega
 ·simp only [hget] at hb
  split at hb
  ·rename_i e
   subst e
   cases hb
   rw [if_neg (by omega)]
   simp only [hget]
   rw [if_neg (by omega), if_pos trivial]
   exact ⟨_, rfl, rfl, rfl, clo_map hpre (VMap.sl (if_pos rfl) (Nat.lt_succ_self _))⟩
  ·split at hb
   ·rename_i e
    subst e
    cases hb
    rw [if_pos rfl]
    simp only [hget]
    rw [if_pos trivial]
    refine BMap.clo ?_
    rw [List.all_append, hcs]; simp [hy]
   ·obtain ⟨h1, h2, h3, h4, h5, h6⟩ := restLt_get hr i b hb
    rw [if_neg (by omega)]
    simp only [hget]
    rw [if_neg h3, if_neg h2, hb]
    exact BMap.cloN h6
end Go.Proofs.Ytdkkgndibagihaa
namespace Go.Proofs.Ytdkkgndibagihaa
open Go.RowKit
def cbM (C : List Cx) (k k' : Int) : List (List Int) := (idsL C k).map fun id => rowL (bOf C id) (idsL C k')
def cbT (C : List Cx) (k k' : Int) (i : Nat) : List (List Int) := ((idsL C k).take i).map fun id => rowL (bOf C id) (idsL C k')
theorem bdT_len (C : List Cx) (k k' : Int) {i : Nat} (h : i ≤ (idsL C k).length) : (cbT C k k' i).length = i := by
 unfold cbT; rw [List.length_map, List.length_take, Nat.min_eq_left h]
theorem bdT_succ (C : List Cx) (k k' : Int) {i : Nat} (h : i < (idsL C k).length) : cbT C k k' (i + 1) = cbT C k k' i ++ [rowL (bOf C ((idsL C k).getD i 0)) (idsL C k')] := by
 unfold cbT
 rw [List.take_succ_eq_append_getElem h, List.map_append, List.getD_eq_getElem?_getD, zlb h]; rfl
theorem rI_snoc (M : List (List Int)) (r : List Int) : rI (M ++ [r]) = rI M ++ [ivR r] := by unfold rI; simp
theorem imRone (w : Nat) (rs : List (List V)) : (imR w rs).all V.one = true := by
 unfold imR; rw [zlf]; intro x hx; obtain ⟨r, _, rfl⟩ := List.mem_map.1 hx; rfl
theorem imR_snoc (w : Nat) (A : List (List V)) (r : List V) : imR w (A ++ [r]) = imR w A ++ [.im r w] := by unfold imR; simp
set_option maxHeartbeats 8000000 in
set_option maxRecDepth 8000 in
theorem rboundary_s {C : List Cx} {K : Nat} {k k' : Int} (hC : CxOk K C) (hV : ∀ y ∈ C, VG none y.b) (hk : IntKind.i64.wrap (k - 1) = k') : Spec Try.prog 18 [cxV C, .sc (.int .i64 k)] (mat (idsL C k').length (cbM C k k')) := by
 have hCl := hC.len
 have c1 := rcells_s (k := k) hCl
 have c2 := rcells_s (k := k') hCl
 have hr := idsL_len C k
 have hw := idsL_len C k'
 have gl := nsC_len (idsL C k)
 have hml : (cbM C k k').length = (idsL C k).length := by simp [cbM]
 have hfin : cbT C k k' (idsL C k).length = cbM C k k' := by unfold cbT cbM; rw [List.take_length]
 have hT0 : cbT C k k' 0 = [] := by unfold cbT; rw [zl4]; rfl
 have hrow := fun i (h : i < (idsL C k).length) => bdT_succ C k k' h
 have hlen := fun i (h : i ≤ (idsL C k).length) => bdT_len C k k' h
 unfold mat
 rw [hml]
 generalize cbM C k k' = M at *
 generalize cbT C k k' = T at *
 generalize hids : idsL C k = ids at *
 generalize hcols : idsL C k' = cols at *
 have c0 : Spec Try.prog 15 [.im (cxs C) C.length, .sc (.int .i64 k)] (.im (nsC ids) ids.length) := c1
 have c0' : Spec Try.prog 15 [.im (cxs C) C.length, .sc (.int .i64 k')] (.im (nsC cols) cols.length) := c2
 clear c1 c2
 unfold cxV
 refine qF Try.func18 Try.ntmps18 fun B hB => ?_
 (repeat (first | refine DO.nil (by kernel_rfl) ?_ | (with_reducible refine qO ?_) | ((first | apply SO.call | apply DO.call); (iterate 3 (focus (simp (disch := omega) only [go_sem, ↓reduceIte, zn1, zn2, zn3, zn4, zn5, zn6, reduceCtorEq, zn7, zi1, zi2, if_pos, if_neg, Int.reduceAdd, zn8, zna, Nat.zero_mul, Nat.add_zero, zn9, Nat.sub_zero, zl2, zl4, zl3, zl9, zl7, zl8, List.append_nil, List.take_length, List.take_nil, List.drop_nil, List.length_nil, List.length_set, List.length_replicate, List.flatten_nil, List.flatten_cons, Bool.not_true, Bool.not_false, Bool.false_eq_true, Bool.or_true, Bool.true_or, Bool.or_false, Bool.or_self, bne_self_eq_false, beq_self_eq_true, hk] <;> rfl))); (first | apply SCall.ofX | apply DCall.ofX); assumption; (focus (simp (disch := omega) only [go_sem, ↓reduceIte, zn1, zn2, zn3, zn4, zn5, zn6, reduceCtorEq, zn7, zi1, zi2, if_pos, if_neg, Int.reduceAdd, zn8, zna, Nat.zero_mul, Nat.add_zero, zn9, Nat.sub_zero, zl2, zl4, zl3, zl9, zl7, zl8, List.append_nil, List.take_length, List.take_nil, List.drop_nil, List.length_nil, List.length_set, List.length_replicate, List.flatten_nil, List.flatten_cons, Bool.not_true, Bool.not_false, Bool.false_eq_true, Bool.or_true, Bool.true_or, Bool.or_false, Bool.or_self, bne_self_eq_false, beq_self_eq_true, hk] <;> rfl))) | ((with_reducible first | apply wa | apply wb | apply wc | apply wd); (focus (simp (disch := omega) only [go_sem, ↓reduceIte, zn1, zn2, zn3, zn4, zn5, zn6, reduceCtorEq, zn7, zi1, zi2, if_pos, if_neg, Int.reduceAdd, zn8, zna, Nat.zero_mul, Nat.add_zero, zn9, Nat.sub_zero, zl2, zl4, zl3, zl9, zl7, zl8, List.append_nil, List.take_length, List.take_nil, List.drop_nil, List.length_nil, List.length_set, List.length_replicate, List.flatten_nil, List.flatten_cons, Bool.not_true, Bool.not_false, Bool.false_eq_true, Bool.or_true, Bool.true_or, Bool.or_false, Bool.or_self, bne_self_eq_false, beq_self_eq_true, hk] <;> rfl)); (first | refine pT ?_ | refine pF ?_ | fail_if_success with_reducible refine pA ?_)) | ((with_reducible refine SC.draw Tab.mixed ?_ ?_); (focus (first | rfl | simp (disch := omega) only [go_sem, ↓reduceIte, zn1, zn2, zn3, zn4, zn5, zn6, reduceCtorEq, zn7, zi1, zi2, if_pos, if_neg, Int.reduceAdd, zn8, zna, Nat.zero_mul, Nat.add_zero, zn9, Nat.sub_zero, zl2, zl4, zl3, zl9, zl7, zl8, List.append_nil, List.take_length, List.take_nil, List.drop_nil, List.length_nil, List.length_set, List.length_replicate, List.flatten_nil, List.flatten_cons, Bool.not_true, Bool.not_false, Bool.false_eq_true, Bool.or_true, Bool.true_or, Bool.or_false, Bool.or_self, bne_self_eq_false, beq_self_eq_true, hk]))) | (with_reducible apply SC.ops)))
 refine SC.loop (fun i : Nat => ⟨[(0, .im (cxs C) C.length), (4, .pt 0 0), (5, .im (nsC ids) ids.length), (6, .im (nsC cols) cols.length), (7, .pt 1 0), (8, .sc (.int .i64 (i : Nat)))], [(1, ⟨34, [.sc (.int .i64 (ids.length : Nat)), .sc (.int .i64 (cols.length : Nat)), .sl 2 0 i 1 none], false⟩), (2, ⟨80, imR cols.length (rI (T i)), false⟩), (0, ⟨34, [.sc (.int .i64 0), .sc (.int .i64 0), .sc (.slice none 0 0)], false⟩)], 3, 48⟩)
  (fun i => i ≤ ids.length) (fun i => ids.length - i) 0 ?_ ?_ ?_
 ·have e0 : imR cols.length (rI (T 0)) = [] := by rw [hT0]; rfl
  simp only [e0]
  refine nilRow (pre := [.sc (.int .i64 (ids.length : Nat)), .sc (.int .i64 (cols.length : Nat))]) 1 2 hB qS rfl (by omega) ?_ (znc _) ?_
  ·exact ⟨⟨by omega, by omega, by omega, by simp, by simp (disch := omega) only [go_sem, ↓reduceIte, zn1, zn2, zn3, zn4, zn5, zn6, reduceCtorEq, zn7, zi1, zi2, if_pos, if_neg, Int.reduceAdd, zn8, zna, Nat.zero_mul, Nat.add_zero, zn9, Nat.sub_zero, zl2, zl4, zl3, zl9, zl7, zl8, List.append_nil, List.take_length, List.take_nil, List.drop_nil, List.length_nil, List.length_set, List.length_replicate, List.flatten_nil, List.flatten_cons, Bool.not_true, Bool.not_false, Bool.false_eq_true, Bool.or_true, Bool.true_or, Bool.or_false, Bool.or_self, bne_self_eq_false, beq_self_eq_true] <;> rfl, rfl⟩, trivial⟩
  ·exact qN
 ·exact znc _
 intro i hi K0 hK0
 have gM := imR_clo cols.length (rI (T i))
 have gM2 := imRone cols.length (rI (T i))
 have gM3 := imI_len cols.length (T i)
 rw [hlen i hi] at gM3
 have gM4 : (imR cols.length (rI (T i))).take i = imR cols.length (rI (T i)) := zla (by omega)
 by_cases hc : i < ids.length
 ·have q1 : decide ((i : Int) < (ids.length : Int)) = true := decide_eq_true (by omega)
  have gi := nsC_get hc
  have c3 := rcfind_s (id := ids.getD i 0) hCl
  obtain ⟨h1, h2, h3⟩ := bOf_ok hC hV (ids.getD i 0)
  have c4 := row_s (ids := cols) h2 h1 (by omega)
  have hK2 : ∀ s' : SS, _ → K0 s' := fun s' h => hK0 s' (i + 1) h (by omega) (by omega)
  rw [hrow i hc, rI_snoc, imR_snoc] at hK2
  clear hK0 hrow hlen hfin
  have hyb : bOf C (ids.getD i 0) = ((findL C (ids.getD i 0)).getD cx0).b := rfl
  rw [hyb] at c4 hK2
  generalize (findL C (ids.getD i 0)).isSome = fo at c3
  generalize (findL C (ids.getD i 0)).getD cx0 = y at c3 c4 hK2
  generalize ids.getD i 0 = id at *
  generalize imR cols.length (rI (T i)) = M0 at *
  have gR := ivR_clo (rowL y.b cols)
  generalize ivR (rowL y.b cols) = R0 at *
  obtain ⟨yi, yd, yb⟩ := y
  unfold chV nsV at c4
  unfold cxC cxV at c3
  simp only at c3 c4
  refine qWf (Q7 @q1 @gi @gl @gM2 @gM3 @gM4 @gD) ?_
  refine hK2 _ ?_
  refine appRow (pre := [.sc (.int .i64 (ids.length : Nat)), .sc (.int .i64 (cols.length : Nat))]) (y := .im R0 cols.length) (ids := []) 1 2 5 hB qS qS qS rfl gM rfl (by omega) (by omega) (by simp) (by simp) ?_ (znc _) ?_
  ·exact ⟨⟨by omega, by omega, by omega, by simp, by simp (disch := omega) only [go_sem, ↓reduceIte, zn1, zn2, zn3, zn4, zn5, zn6, reduceCtorEq, zn7, zi1, zi2, if_pos, if_neg, Int.reduceAdd, zn8, zna, Nat.zero_mul, Nat.add_zero, zn9, Nat.sub_zero, zl2, zl4, zl3, zl9, zl7, zl8, List.append_nil, List.take_length, List.take_nil, List.drop_nil, List.length_nil, List.length_set, List.length_replicate, List.flatten_nil, List.flatten_cons, Bool.not_true, Bool.not_false, Bool.false_eq_true, Bool.or_true, Bool.true_or, Bool.or_false, Bool.or_self, bne_self_eq_false, beq_self_eq_true] <;> rfl, rfl⟩, trivial⟩
  ·exact qN
 ·have q1 : decide ((i : Int) < (ids.length : Int)) = false := decide_eq_false (by omega)
  have hih : i = ids.length := by omega
  subst hih
  rw [hfin] at gM gM2 gM3 gM4 ⊢
  generalize imR cols.length (rI M) = M0 at *
  refine qWf @q1 ?_
  exact retQ_ret Try.results18 (qSf (Q3 @gM @gM4 @gM3)) (qSf (Q3 @gM @gM4 @gM3)) rfl
end Go.Proofs.Ytdkkgndibagihaa
namespace Go.Proofs.Ytdkkgndibagihaa
open Go.RowKit
set_option maxHeartbeats 4000000 in
theorem rnew_s (h w nx : Nat) (hn : h ≤ 1000000) (hw : w ≤ 1000000) : InlQ Try.prog 38 [.sc (.int .i64 h), .sc (.int .i64 w)] [] nx (MatQ w (zeroL h w) nx) := by
 have hzl : (zeroL h w).length = h := by simp [zeroL]
 refine InlQ.run Try.func38 rfl Try.ntmps38 (by simp) qT fun B hB => ?_
 refine qWD ?_
 refine SC.loop (fun x : Nat × List Nat × Nat × Nat => ⟨[(0, .sc (.int .i64 h)), (1, .sc (.int .i64 w)), (4, .pt nx 0), (5, .sl x.2.2.1 0 x.1 1 none), (6, .sc (.int .i64 x.1))], (nx, ⟨34, [.sc (.int .i64 0), .sc (.int .i64 0), .sc (.slice none 0 0)], false⟩) :: (x.2.2.1, ⟨80, slR 2 w x.2.1, false⟩) :: rowsH 84 x.2.1 (rI (zeroL x.1 w)), x.2.2.2, 22⟩)
  (fun x => x.1 ≤ h ∧ RowsOk x.2.2.1 x.2.1 x.1 nx x.2.2.2 ∧ nx ∉ x.2.1 ∧ nx < x.2.2.1) (fun x => h - x.1) (0, [], nx + 1, nx + 2) ?_ ?_ ?_
 ·exact qM
 ·exact ⟨znc _, ⟨rfl, List.nodup_nil, by simp, by simp only; omega, by simp⟩, by simp, by simp only; omega⟩
 ·rintro ⟨i, ids, o, m⟩ ⟨hi, hR, hnx, hno⟩ K hK
  simp only at hi hR hnx hno ⊢
  have hlt : ∀ j ∈ ids, j < m := fun j hj => (hR.lt j hj).2
  by_cases hc : i < h
  ·have q1 := decide_eq_true (p := (i : Int) < (h : Int)) (by omega)
   have g1 := slR_len 2 w ids
   rw [hR.len] at g1
   have ht : (slR 2 w ids).take i = slR 2 w ids := zla (by omega)
   have g2 : (slR 2 w ids).all V.one = true := by
    rw [zlf]; intro x hx; obtain ⟨n, _, rfl⟩ := List.mem_map.1 hx; rfl
   have g3 := rows_del (ty := 84) (rs := rI (zeroL i w)) (i := o) (ids := ids) hR.o2
   have ho := hR.o1
   have g4 := slR_len 2 w ids
   refine qWDf (Q5 @q1 @g1 @g2 @g3 @ht) ?_
   have hne : ∀ j ∈ ids, j ≠ nx := fun j hj e => hnx (e ▸ hj)
   refine hK _ (i + 1, ids ++ [m], m + 1 + 1, m + 1 + 1 + 1) ?_ ⟨by simp only; omega, ?_, ?_, by simp only; omega⟩ (by simp only; omega)
   ·dsimp only
    refine Le.rowsTo [(nx, _)] ⟨nx, hB, by omega⟩ (fun j k hj => ?_) ?_ (fun k hk1 hk2 => ?_) ?_
    ·simp only [hget] at hj
     split at hj
     ·rename_i e
      cases hj; subst e
      refine ⟨rfl, ?_⟩
      simp only [hget]
      rw [if_neg (by omega), if_neg (by omega), if_neg (by omega), if_pos trivial]
     ·cases hj
    ·refine ⟨_, by simp only [hget]; rw [if_pos trivial], ?_⟩
     have := cellsTo (z := 2) (m := w) (n := m) (nx := m + 1 + 1 + 1) (cap := some w) (ids := ids) (rest := []) (fun j hj => by have := hlt j hj; omega) (by omega) (fun x hx => by cases hx)
     simpa using this
    ·rw [rI_len, zeroL_len] at hk2
     rw [rI_getD, zeroL_get hk2]
     rcases ids_snoc hk1 with ⟨g, e⟩ | ⟨g, e⟩
     ·have hm := getD_mem' g
      have h1 := hlt _ hm
      have h2 := hne _ hm
      have := rows_get (ty := 84) (rs := rI (zeroL i w)) (k := k) hR.nod g (by rw [rI_len, zeroL_len, hR.len])
      rw [rI_getD, zeroL_get (by rw [hR.len] at g; exact g)] at this
      rw [e]
      exact ⟨_, by simp only [hget]; rw [if_neg (by omega), if_neg (by omega), if_neg (by omega), if_neg h2, this], cloTo (clS_of (ivR_clo _))⟩
     ·rw [e]
      exact ⟨zer w, by simp only [hget]; rw [if_neg (by omega), if_neg (by omega), if_pos trivial]; rfl, zer_map w⟩
    ·exact qN
   ·refine ⟨by simp [hR.len], ?_, fun j hj => ?_, by simp only; omega, ?_⟩
    ·rw [List.nodup_append]
     exact ⟨hR.nod, by simp, fun a ha b hb => by simp at hb; subst hb; have := hlt a ha; omega⟩
    ·rcases List.mem_append.1 hj with g | g
     ·have := hR.lt j g; simp only; omega
     ·simp at g; simp only; omega
    ·intro h
     rcases List.mem_append.1 h with g | g
     ·have := hlt _ g; simp only at this; omega
     ·have := List.mem_singleton.1 g; simp only at this; omega
   ·intro h
    rcases List.mem_append.1 h with g | g
    ·exact hnx g
    ·simp at g; omega
  ·have q1 := decide_eq_false (p := (i : Int) < (h : Int)) (by omega)
   have hin : i = h := by omega
   subst hin
   refine qWDf @q1 ?_
   refine retIQ_ret (.ag [.sc (.int .i64 i), .sc (.int .i64 w), .sl o 0 i 1 none]) ((o, ⟨80, slR 2 w ids, false⟩) :: rowsH 84 ids (rI (zeroL i w))) m Try.results38 qT ⟨o, ids, by rw [hzl]; exact hR, by rw [hzl], rfl⟩ ?_
   have ho := hR.o1
   refine Le.rowsDown [] pre0 ⟨nx, hB, by omega⟩ (by omega) hlt (rI_clo _) (less_new (fun id k hk => hk) (fun id k hk => ?_)) ?_
   ·rcases inR_rows (fun i hi => hi) id k hk with e | e
    ·omega
    ·exact fun e2 => hnx (e2 ▸ e)
   ·refine mapSl_cons (x := .ag [.sc (.int .i64 i), .sc (.int .i64 w), .sl o 0 i 1 none]) (by simp (disch := omega) only [go_sem, ↓reduceIte, zn1, zn2, zn3, zn4, zn5, zn6, reduceCtorEq, zn7, zi1, zi2, if_pos, if_neg, Int.reduceAdd, zn8, zna, Nat.zero_mul, Nat.add_zero, zn9, Nat.sub_zero, zl2, zl4, zl3, zl9, zl7, zl8, List.append_nil, List.take_length, List.take_nil, List.drop_nil, List.length_nil, List.length_set, List.length_replicate, List.flatten_nil, List.flatten_cons, Bool.not_true, Bool.not_false, Bool.false_eq_true, Bool.or_true, Bool.true_or, Bool.or_false, Bool.or_self, bne_self_eq_false, beq_self_eq_true]) (VMap.ag rfl fun j x y hx hy => ?_) trivial
    match j, hx, hy with
    | 0, hx, hy => cases hx; cases hy; exact VMap.sc _
    | 1, hx, hy => cases hx; cases hy; exact VMap.sc _
    | 2, hx, hy => cases hx; cases hy; exact VMap.cap rfl (by omega)
end Go.Proofs.Ytdkkgndibagihaa
namespace Go.Proofs.Ytdkkgndibagihaa
open Go.RowKit
end Go.Proofs.Ytdkkgndibagihaa
namespace Go.Proofs.Ytdkkgndibagihaa
open Go.RowKit
def dotI (f g : Nat → Int) : Nat → Int
 | 0 => 0
 | k + 1 => dotI f g k + f k * g k
def ent2 (M : List (List Int)) (r c : Nat) : Int := (M.getD r []).getD c 0
end Go.Proofs.Ytdkkgndibagihaa
namespace Go.Proofs.Ytdkkgndibagihaa
open Go.RowKit
variable {P : Program} {B : Base}
def mapL (f : Nat → Nat) (D : Nat → Prop) : List V → List V → Prop
 | _, [] => True
 | x :: xs, y :: ys => VMap f D x y ∧ mapL f D xs ys
 | [], _ :: _ => False
theorem mapL_get {f : Nat → Nat} {D : Nat → Prop} : ∀ {xs ys : List V}, mapL f D xs ys → ∀ (i : Nat) (y : V), ys[i]? = some y → ∃ x, xs[i]? = some x ∧ VMap f D x y
 | _, [], _, i, y, h => by simp at h
 | x :: xs, y0 :: ys, hm, i, y, h => by
  cases i with
  | zero => cases h; exact ⟨x, rfl, hm.1⟩
  | succ i => simp at h ⊢; exact mapL_get hm.2 i y h
 | [], _ :: _, hm, _, _, _ => hm.elim
theorem mapL_nil {f : Nat → Nat} {D : Nat → Prop} {xs : List V} : mapL f D xs [] := by cases xs <;> trivial
theorem mapL_cons {f : Nat → Nat} {D : Nat → Prop} {x y : V} {xs ys : List V} (h : VMap f D x y) (k : mapL f D xs ys) : mapL f D (x :: xs) (y :: ys) := ⟨h, k⟩
theorem BMap.list {f : Nat → Nat} {D : Nat → Prop} {ty : TypeId} {fz : Bool} {xs ys : List V} (h : mapL f D xs ys) : BMap f D (some ⟨ty, xs, fz⟩) ⟨ty, ys, fz⟩ := ⟨_, rfl, rfl, rfl, mapL_get h⟩
def mapHp (f : Nat → Nat) (D : Nat → Prop) (hp : List (Nat × Blk)) : List (Nat × Blk) → Prop
 | [] => True
 | p :: r => BMap f D (hget hp (f p.1)) p.2 ∧ mapHp f D hp r
theorem mapHp_get {f : Nat → Nat} {D : Nat → Prop} {hp : List (Nat × Blk)} : ∀ {r : List (Nat × Blk)}, mapHp f D hp r → ∀ i k', hget r i = some k' → BMap f D (hget hp (f i)) k'
 | [], _, i, k', h => by cases h
 | p :: r, hr, i, k', h => by
  simp only [hget] at h
  split at h
  ·rename_i e; subst e; cases h; exact hr.1
  ·exact mapHp_get hr.2 i k' h
theorem Le.ren {sl sl' : List (Nat × V)} {hp hp' : List (Nat × Blk)} {nx nx' nt m : Nat} (a b : Nat) (hB : B.Old m) (ha : m ≤ a) (hb : nx' ≤ b) (hm : m ≤ nx')
  (h1 : mapSl (fun i => if i = a then b else i) (fun i => i < nx') sl sl') (h2 : mapHp (fun i => if i = a then b else i) (fun i => i < nx') hp hp') : Le B ⟨sl, hp, nx, nt⟩ ⟨sl', hp', nx', nt⟩ :=
 Le.map (fun i => if i = a then b else i) (fun i => i < nx') hB (fun i hi => ⟨by omega, if_neg (by omega)⟩) (fun i hi => hi) (fun i j hi hj e => by split at e <;> split at e <;> omega) h1 fun i k' h _ => mapHp_get h2 i k' h
end Go.Proofs.Ytdkkgndibagihaa
namespace Go.Proofs.Ytdkkgndibagihaa
open Go.RowKit
end Go.Proofs.Ytdkkgndibagihaa
namespace Go.Proofs.Ytdkkgndibagihaa
open Go.RowKit
attribute [-go_sem] exMake_eq
end Go.Proofs.Ytdkkgndibagihaa
namespace Go.Proofs.Ytdkkgndibagihaa
open Go.RowKit
theorem dot_congr {f f' g g' : Nat → Int} : ∀ {n : Nat}, (∀ t, t < n → f t = f' t ∧ g t = g' t) → dotI f g n = dotI f' g' n
 | 0, _ => rfl
 | n + 1, h => by
  rw [dotI, dotI, dot_congr (fun t ht => h t (by omega)), (h n (by omega)).1, (h n (by omega)).2]
theorem dot_neg {f g : Nat → Int} : ∀ {n : Nat}, dotI (fun t => -(f t)) g n = -(dotI f g n)
 | 0 => rfl
 | n + 1 => by rw [dotI, dotI, dot_neg, Int.neg_add, Int.neg_mul]
theorem dot_add {f e g : Nat → Int} {k : Int} : ∀ {n : Nat}, dotI (fun t => f t + k * e t) g n = dotI f g n + k * dotI e g n
 | 0 => by simp [dotI]
 | n + 1 => by
  rw [dotI, dotI, dotI, dot_add, Int.mul_add, Int.add_mul, Int.mul_assoc]; omega
theorem dot_unit {g : Nat → Int} {r : Nat} : ∀ {n : Nat}, dotI (fun t => if r = t then 1 else 0) g n = if r < n then g r else 0
 | 0 => by simp [dotI]
 | n + 1 => by
  rw [dotI, dot_unit]
  by_cases e : r = n
  ·subst e; simp
  ·rw [if_neg e]
   by_cases h : r < n
   ·rw [if_pos h, if_pos (by omega)]; simp
   ·rw [if_neg h, if_neg (by omega)]; simp
theorem ent_mk {h w r c : Nat} {f : Nat → Nat → Int} (hr : r < h) (hc : c < w) : ent2 (mkM h w f) r c = f r c := by
 unfold ent2; rw [mkM_get hr, mkR_get hc]
end Go.Proofs.Ytdkkgndibagihaa
namespace Go.Proofs.Ytdkkgndibagihaa
open Go.RowKit
end Go.Proofs.Ytdkkgndibagihaa
namespace Go.Proofs.Ytdkkgndibagihaa
open Go.RowKit
def bv8 (l : List Int) : List V := l.map fun n => .sc (.int .i8 n)
theorem bv8_len (l : List Int) : (bv8 l).length = l.length := by simp [bv8]
theorem bv8_get {r : List Int} {j : Nat} (h : j < r.length) : (bv8 r)[j]? = some (.sc (.int .i8 (r.getD j 0))) := by
 unfold bv8; rw [List.getElem?_map, getD_get' (d := 0) h]; rfl
def dgt (l : List Int) (k : Nat) : Int := if k < l.length then (l.getD k 0).tmod 10 else 0
theorem dgt_small {l : List Int} {k : Nat} (h : ∀ x ∈ l, -128 ≤ x ∧ x ≤ 127) : -9 ≤ dgt l k ∧ dgt l k ≤ 9 := by
 unfold dgt
 split
 ·rename_i hc
  have hx := h _ (getD_mem (d := 0) hc)
  generalize l.getD k 0 = x at *
  have := Int.tmod_def x 10
  have h1 := Int.tmod_lt_of_pos x (b := 10) (by omega)
  have h2 := Int.lt_tmod_of_pos x (b := 10) (by omega)
  omega
 ·omega
def Gf (w : Nat) (l : List Int) (i j r c : Nat) : Int := if r < i ∨ (r = i ∧ c < j) then dgt l (r * w + c) else 0
def filL (h w : Nat) (l : List Int) : List (List Int) := mkM h w fun r c => dgt l (r * w + c)
set_option maxHeartbeats 16000000 in
set_option maxRecDepth 8000 in
theorem filled_s {h w : Nat} {l : List Int} (hn : h ≤ 16) (hw : w ≤ 16) (hb : ∀ x ∈ l, -128 ≤ x ∧ x ≤ 127) (hl : l.length ≤ 9223372036854775807) :
  Spec Try.prog 93 [.sc (.int .i64 h), .sc (.int .i64 w), .im (bv8 l) l.length] (mat w (filL h w l)) := by
 have c0 := rnew_s h w 1 (by omega) (by omega)
 have hm1 : max (h : Int) 0 = h := by omega
 have hm2 : max (w : Int) 0 = w := by omega
 have hm3 : min (h : Int) 16 = h := by omega
 have hm4 : min (w : Int) 16 = w := by omega
 refine qF Try.func93 Try.ntmps93 fun B hB => ?_
 refine qWDf (Q4 @hm1 @hm2 @hm3 @hm4) ?_
 refine SO.inlQ qS Tab.go38 qS qS (SInlQ.newR c0 ?_ ?_ ?_)
 ·exact klc (by omega) kln
 ·exact fun x hp' nx' h => matQ_new h
 rintro x hp' nx ⟨o, ids, hR, rfl, rfl⟩
 have ho := hR.o1
 rw [zeroL_len] at hR ⊢
 have e0 : zeroL h w = mkM h w (Gf w l 0 0) := by
  rw [mkM_zero]
  exact mkM_congr fun r c _ _ => by
   unfold Gf
   rw [if_neg (by omega)]
 rw [e0]
 have hidl := hR.len
 have g1 := slR_len 2 w ids
 rw [hidl] at g1
 refine qWD ?_
 refine SC.loop (fun i : Nat => ⟨[(2, .im (bv8 l) l.length), (6, .pt 0 0), (7, .pt nx 0), (8, .sc (.int .i64 i))], (nx, ⟨34, [.sc (.int .i64 h), .sc (.int .i64 w), .sl o 0 h 1 none], false⟩) :: (0, ⟨34, [.sc (.int .i64 0), .sc (.int .i64 0), .sc (.slice none 0 0)], false⟩) :: (o, ⟨80, slR 2 w ids, false⟩) :: rowsH 84 ids (rI (mkM h w (Gf w l i 0))), nx + 1, 60⟩)
  (fun i => i ≤ h) (fun i => h - i) 0 ?_ ?_ ?_
 ·exact qM
 ·exact znc _
 ·intro i hi K1 hK1
  by_cases hc : i < h
  ·have q1 := decide_eq_true (p := (i : Int) < (h : Int)) (by omega)
   refine qWDf @q1 ?_
   refine SC.loop (fun j : Nat => ⟨[(2, .im (bv8 l) l.length), (6, .pt 0 0), (7, .pt nx 0), (8, .sc (.int .i64 i)), (9, .sc (.int .i64 j))], (nx, ⟨34, [.sc (.int .i64 h), .sc (.int .i64 w), .sl o 0 h 1 none], false⟩) :: (0, ⟨34, [.sc (.int .i64 0), .sc (.int .i64 0), .sc (.slice none 0 0)], false⟩) :: (o, ⟨80, slR 2 w ids, false⟩) :: rowsH 84 ids (rI (mkM h w (Gf w l i j))), nx + 1, 60⟩)
    (fun j => j ≤ w) (fun j => w - j) 0 ?_ ?_ ?_
   ·exact qM
   ·exact znc _
   ·intro j hj K2 hK2
    have hiw : i * w ≤ 16 * 16 := Nat.mul_le_mul (by omega) hw
    have hww : (i : Int) * (w : Int) = ((i * w : Nat) : Int) := by simp
    by_cases hc2 : j < w
    ·have q2 := decide_eq_true (p := (j : Int) < (w : Int)) (by omega)
     have gl := bv8_len l
     by_cases hc3 : i * w + j < l.length
     ·have q3 := decide_eq_true (p := ((i * w : Nat) : Int) + (j : Int) < (l.length : Int)) (by omega)
      have gi := slR_get (z := 2) (m := w) (ids := ids) (k := i) (by omega)
      obtain ⟨gR, gl2, gd, gs, hrs⟩ := cellF (ty := 84) (f := Gf w l i j) (z := dgt l (i * w + j)) (j := j) hR.nod hidl hc hc2
      have e1 : (mkM h w fun r c => if r = i ∧ c = j then dgt l (i * w + j) else Gf w l i j r c) = mkM h w (Gf w l i (j + 1)) := mkM_congr fun r c _ _ => by
       unfold Gf
       by_cases e : r = i ∧ c = j
       ·obtain ⟨rfl, rfl⟩ := e
        rw [if_pos ⟨rfl, rfl⟩, if_pos (by omega)]
       ·rw [if_neg e]
        by_cases e2 : r < i ∨ (r = i ∧ c < j)
        ·rw [if_pos e2, if_pos (by omega)]
        ·rw [if_neg e2, if_neg (by omega)]
      rw [e1] at hrs
      have hd := dgt_small (k := i * w + j) hb
      have c1 := of_i (dgt l (i * w + j)) (by omega) (by omega)
      have ed : dgt l (i * w + j) = (l.getD (i * w + j) 0).tmod 10 := by unfold dgt; rw [if_pos hc3]
      rw [ed] at c1 gs hrs
      have g3 := bv8_get hc3
      have hx := hb _ (getD_mem (d := 0) hc3)
      have hkl := klB_rows (ty := 84) (rs := rI (mkM h w (Gf w l i j))) (n := nx + 1) (fun j hj => by have := hR.lt j hj; omega)
      have hmem := getD_mem' (ids := ids) (k := i) (by omega)
      have hidk := hR.lt _ hmem
      have hne : ids.getD i 0 ≠ o := fun e => hR.o2 (by rw [← e]; exact hmem)
      have hix : (((i * w : Nat) : Int) + (j : Int)).toNat = i * w + j := by omega
      generalize hH : rowsH 84 ids (rI (mkM h w (Gf w l i j))) = H at *
      generalize mkR w (Gf w l i j i) = row at *
      generalize ids.getD i 0 = idk at *
      generalize hRr : ivR row = RR at *
      generalize l.getD (i * w + j) 0 = dd at *
      unfold iv sv at c1
      unfold ivC sv at gs
      have g2 : j * 2 < RR.length := by omega
      refine qWDf (Q15 @q2 @q3 @hww @hix @g1 @gi @gR @gl @gl2 @gs @hrs @g2 @g3 @hkl @gD) ?_
      refine hK2 _ (j + 1) ?_ (by omega) (by omega)
      exact qM
     ·have q3 := decide_eq_false (p := ((i * w : Nat) : Int) + (j : Int) < (l.length : Int)) (by omega)
      refine qWDf (Q4 @q2 @q3 @hww @gl) ?_
      refine hK1 _ (i + 1) ?_ (by omega) (by omega)
      have e1 : mkM h w (Gf w l i j) = mkM h w (Gf w l (i + 1) 0) := mkM_congr fun r c _ hcw => by
       unfold Gf
       by_cases e : r < i ∨ (r = i ∧ c < j)
       ·rw [if_pos e, if_pos (by omega)]
       ·rw [if_neg e]
        by_cases e2 : r = i
        ·subst e2
         rw [if_pos (by omega)]
         unfold dgt
         rw [if_neg (by omega)]
        ·rw [if_neg (by omega)]
      rw [e1]
      exact qM
    ·have q2 := decide_eq_false (p := (j : Int) < (w : Int)) (by omega)
     have hjw : j = w := by omega
     refine qWDf @q2 ?_
     refine hK1 _ (i + 1) ?_ (by omega) (by omega)
     have e1 : mkM h w (Gf w l i j) = mkM h w (Gf w l (i + 1) 0) := mkM_congr fun r c _ hcw => by
      unfold Gf
      by_cases e : r < i ∨ (r = i ∧ c < j)
      ·rw [if_pos e, if_pos (by omega)]
      ·rw [if_neg e]
       by_cases e2 : r = i
       ·subst e2
        rw [if_pos (by omega)]
        unfold dgt
        rw [if_neg (by omega)]
       ·rw [if_neg (by omega)]
     rw [e1]
     exact qM
  ·have q1 := decide_eq_false (p := (i : Int) < (h : Int)) (by omega)
   have hih : i = h := by omega
   subst hih
   have e1 : mkM i w (Gf w l i 0) = filL i w l := mkM_congr fun r c hr _ => by
    unfold Gf
    rw [if_pos (.inl hr)]
   rw [e1]
   have hM : MI i w 1 (filL i w l) := mk_mi fun r c _ _ => by
    have := dgt_small (k := r * w + c) hb
    unfold Fits; omega
   generalize filL i w l = Z at *
   have hZl := hM.len
   by_cases h0 : i = 0
   ·subst h0
    have hids : ids = [] := List.eq_nil_of_length_eq_zero (by omega)
    have hZ : Z = [] := List.eq_nil_of_length_eq_zero (by omega)
    subst hids; subst hZ
    refine qWDf @q1 ?_
    exact qE Try.results93
   ·have hrows : ∀ C1 C2 : List V, ∀ k, k < ids.length → hget ((nx, (⟨34, C1, false⟩ : Blk)) :: (0, ⟨34, C2, false⟩) :: (o, ⟨80, slR 2 w ids, false⟩) :: rowsH 84 ids (rI Z)) (ids.getD k 0) = some ⟨84, (rI Z).getD k [], false⟩ := by
     intro C1 C2 k hk
     have hm := getD_mem' hk
     have := hR.lt _ hm
     simp only [hget]
     rw [if_neg (by omega), if_neg (by omega), if_neg (fun e => hR.o2 (by rw [← e]; exact hm))]
     exact rows_get hR.nod hk (by rw [rI_len]; omega)
    have hfz := fun C1 C2 : List V => frz_rowsA (n := 5) (z := 2) (m := w) (ty := 84) (ids := ids) (rs := rI Z) (by omega) (by rw [rI_len]; omega) (hrows C1 C2) (rI_rows hM)
    have hsl := slR_some (z := 2) (m := w) (ids := ids) (by omega)
    have ht : (slR 2 w ids).take i = slR 2 w ids := zla (by omega)
    have hne : nx ≠ o := by omega
    unfold mat
    rw [hZl]
    refine qWDf @q1 ?_
    exact retQ_ret Try.results93 qS (qSf (Q4 @hfz @hsl @ht @g1)) rfl
end Go.Proofs.Ytdkkgndibagihaa
namespace Go.Proofs.Ytdkkgndibagihaa
open Go.RowKit
set_option maxHeartbeats 8000000 in
set_option maxRecDepth 8000 in
theorem rident_q (n n0 : Nat) (hn : n ≤ 1000000) : InlQ Try.prog 110 [.sc (.int .i64 n)] [] n0 (MatQ n (idL n) n0) := by
 have c0 := rnew_s n n (n0 + 1) hn hn
 have c1 := of_i 1 (by omega) (by omega)
 have hil : (idL n).length = n := mkM_len
 unfold iv sv at c1
 refine InlQ.run Try.func110 rfl Try.ntmps110 (by simp) qT fun B hB => ?_
 refine qWD ?_
 refine SO.inlQ qS Tab.go38 qS qS (SInlQ.newR c0 ?_ ?_ ?_)
 ·exact klc (by omega) kln
 ·exact fun x hp' nx' h => matQ_new h
 rintro x hp' nx ⟨o, ids, hR, rfl, rfl⟩
 have ho := hR.o1
 have hn0 : n0 + 1 - nx = 0 := by omega
 have ho0 : o + 1 - nx = 0 := by omega
 rw [zeroL_len] at hR ⊢
 rw [mkM_zero]
 refine qWD ?_
 have e0 : mkM n n (fun _ _ => 0) = mkM n n (fun r c => if r = c ∧ r < 0 then 1 else 0) := mkM_congr fun r c _ _ => by rw [if_neg (by omega)]
 rw [e0]
 refine SC.loop (fun i : Nat => ⟨[(0, .sc (.int .i64 n)), (2, .pt n0 0), (3, .pt nx 0), (4, .sc (.int .i64 i))], (nx, ⟨34, [.sc (.int .i64 n), .sc (.int .i64 n), .sl o 0 n 1 none], false⟩) :: (n0, ⟨34, [.sc (.int .i64 0), .sc (.int .i64 0), .sc (.slice none 0 0)], false⟩) :: (o, ⟨80, slR 2 n ids, false⟩) :: rowsH 84 ids (rI (mkM n n (fun r c => if r = c ∧ r < i then 1 else 0))), nx + 1, 22⟩)
  (fun i => i ≤ n) (fun i => n - i) 0 ?_ ?_ ?_
 ·exact qM
 ·exact znc _
 ·intro i hi K hK
  have hidl := hR.len
  have g1 := slR_len 2 n ids
  rw [hidl] at g1
  by_cases hc : i < n
  ·have q1 := decide_eq_true (p := (i : Int) < (n : Int)) (by omega)
   have gi := slR_get (z := 2) (m := n) (ids := ids) (k := i) (by omega)
   obtain ⟨gR, gl, gd, gs, hrs⟩ := cellF (ty := 84) (f := fun r c => if r = c ∧ r < i then (1 : Int) else 0) (z := 1) (j := i) hR.nod hidl hc hc
   have e1 : mkM n n (fun r c => if r = i ∧ c = i then (1 : Int) else if r = c ∧ r < i then 1 else 0) = mkM n n (fun r c => if r = c ∧ r < i + 1 then 1 else 0) := mkM_congr fun r c _ _ => by
    by_cases e : r = i ∧ c = i
    ·rw [if_pos e, if_pos (by omega)]
    ·rw [if_neg e]
     by_cases e2 : r = c ∧ r < i
     ·rw [if_pos e2, if_pos (by omega)]
     ·rw [if_neg e2, if_neg (by omega)]
   rw [e1] at hrs
   have hkl := klB_rows (ty := 84) (rs := rI (mkM n n fun r c => if r = c ∧ r < i then (1 : Int) else 0)) (n := nx + 1) (fun j hj => by have := hR.lt j hj; omega)
   have hmem := getD_mem' (ids := ids) (k := i) (by omega)
   have hidk := hR.lt _ hmem
   have hne : ids.getD i 0 ≠ o := fun e => hR.o2 (by rw [← e]; exact hmem)
   generalize hH : rowsH 84 ids (rI (mkM n n fun r c => if r = c ∧ r < i then (1 : Int) else 0)) = H at *
   generalize mkR n (fun c => if i = c ∧ i < i then (1 : Int) else 0) = row at *
   generalize ids.getD i 0 = idk at *
   unfold ivC sv at gs
   have g2 : i * 2 < (ivR row).length := by omega
   refine qWDf (Q9 @q1 @g1 @gi @gR @gl @gs @hrs @g2 @hkl) ?_
   refine hK _ (i + 1) ?_ (by omega) (by omega)
   exact qM
  ·have q1 := decide_eq_false (p := (i : Int) < (n : Int)) (by omega)
   have hin : i = n := by omega
   subst hin
   have e1 : mkM i i (fun r c => if r = c ∧ r < i then (1 : Int) else 0) = idL i := mkM_congr fun r c hr _ => by
    by_cases e : r = c
    ·rw [if_pos ⟨e, hr⟩, if_pos e]
    ·rw [if_neg (fun h => e h.1), if_neg e]
   rw [e1]
   refine qWDf @q1 ?_
   refine retIQ_ret (.ag [.sc (.int .i64 i), .sc (.int .i64 i), .sl o 0 i 1 none]) ((o, ⟨80, slR 2 i ids, false⟩) :: rowsH 84 ids (rI (idL i))) nx Try.results110 qT ⟨o, ids, ?_, by rw [hil], rfl⟩ ?_
   ·rw [hil]; exact ⟨hR.len, hR.nod, fun j hj => by have := hR.lt j hj; omega, by omega, hR.o2⟩
   refine Le.rowsDown [] pre0 ⟨n0, hB, by omega⟩ (by omega) (fun j hj => (hR.lt j hj).2) (rI_clo _) (less_new (less_new (fun id k hk => hk) (fun id k hk => ?_)) (fun id k hk => ?_)) ?_
   ·rcases inR_rows (fun i hi => hi) id k hk with e | e
    ·omega
    ·have := hR.lt _ e; omega
   ·rcases inR_rows (fun i hi => hi) id k hk with e | e
    ·omega
    ·have := hR.lt _ e; omega
   ·refine mapSl_cons (x := .ag [.sc (.int .i64 i), .sc (.int .i64 i), .sl o 0 i 1 none]) (by simp (disch := omega) only [go_sem, ↓reduceIte, zn1, zn2, zn3, zn4, zn5, zn6, reduceCtorEq, zn7, zi1, zi2, if_pos, if_neg, Int.reduceAdd, zn8, zna, Nat.zero_mul, Nat.add_zero, zn9, Nat.sub_zero, zl2, zl4, zl3, zl9, zl7, zl8, List.append_nil, List.take_length, List.take_nil, List.drop_nil, List.length_nil, List.length_set, List.length_replicate, List.flatten_nil, List.flatten_cons, Bool.not_true, Bool.not_false, Bool.false_eq_true, Bool.or_true, Bool.true_or, Bool.or_false, Bool.or_self, bne_self_eq_false, beq_self_eq_true]) (VMap.ag rfl fun j x y hx hy => ?_) trivial
    match j, hx, hy with
    | 0, hx, hy => cases hx; cases hy; exact VMap.sc _
    | 1, hx, hy => cases hx; cases hy; exact VMap.sc _
    | 2, hx, hy => cases hx; cases hy; exact VMap.cap rfl (by omega)
end Go.Proofs.Ytdkkgndibagihaa
namespace Go.Proofs.Ytdkkgndibagihaa
open Go.RowKit
def Sf (A : List (List Int)) (k : Int) (i j r c : Nat) : Int := if r < i ∨ (r = i ∧ c < j) then ent2 A r c * k else 0
def scaleM (h w : Nat) (A : List (List Int)) (k : Int) : List (List Int) := mkM h w fun r c => ent2 A r c * k
theorem scaleM_one {h w K : Nat} {A : List (List Int)} (hA : MI h w K A) : scaleM h w A 1 = A := by
 rw [← mkM_of hA]
 unfold scaleM
 refine mkM_congr fun r c _ _ => ?_
 rw [Int.mul_one, mkM_of hA]; rfl
set_option maxHeartbeats 16000000 in
set_option maxRecDepth 8000 in
theorem rscale_q {h w K : Nat} {A : List (List Int)} {k : Int} (n0 : Nat) (hA : MI h w K A) (hk : Fits K k) (hK : K ≤ 100000000000) (hn : h ≤ 1000000) (hw : w ≤ 1000000) :
  InlQ Try.prog 113 [mat w A, iv k] [] n0 (MatQ w (scaleM h w A k) n0) := by
 have c0 := rnew_s h w (n0 + 3) hn hw
 have hAl := hA.len
 have hml : (scaleM h w A k).length = h := mkM_len
 have gA := imI_len w A
 unfold mat iv sv
 rw [hAl] at gA ⊢
 refine InlQ.run Try.func113 rfl Try.ntmps113 (by simp) qT fun B hB => ?_
 refine qWD ?_
 refine SO.inlQ qS Tab.go38 qS qS (SInlQ.newR c0 ?_ ?_ ?_)
 ·exact klc (by omega) (klc (by omega) (klc (by omega) kln))
 ·exact fun x hp' nx' h => matQ_new h
 rintro x hp' nx ⟨o, ids, hR, rfl, rfl⟩
 have ho := hR.o1
 have hn0 : n0 + 1 - nx = 0 := by omega
 have hn1 : n0 + 1 + 1 - nx = 0 := by omega
 have hn2 : n0 + 1 + 1 + 1 - nx = 0 := by omega
 have ho0 : o + 1 - nx = 0 := by omega
 rw [zeroL_len] at hR ⊢
 have e0 : zeroL h w = mkM h w (Sf A k 0 0) := by
  rw [mkM_zero]
  exact mkM_congr fun r c _ _ => by unfold Sf; rw [if_neg (by omega)]
 rw [e0]
 have hidl := hR.len
 have g1 := slR_len 2 w ids
 rw [hidl] at g1
 refine qWD ?_
 refine SC.loop (fun i : Nat => ⟨[(2, .pt n0 0), (3, .pt (n0 + 1) 0), (4, .pt (n0 + 1 + 1) 0), (5, .pt nx 0), (6, .sc (.int .i64 i))], (nx, ⟨34, [.sc (.int .i64 h), .sc (.int .i64 w), .sl o 0 h 1 none], false⟩) :: (n0 + 1 + 1, ⟨34, [.sc (.int .i64 0), .sc (.int .i64 0), .sc (.slice none 0 0)], false⟩) :: (n0 + 1, ⟨84, [.sc (.bool (decide (k < 0))), .im (lv (limbsOf k.natAbs)) (limbsOf k.natAbs).length], false⟩) :: (n0, ⟨34, [.sc (.int .i64 h), .sc (.int .i64 w), .im (imR w (rI A)) h], false⟩) :: (o, ⟨80, slR 2 w ids, false⟩) :: rowsH 84 ids (rI (mkM h w (Sf A k i 0))), nx + 1, 43⟩)
  (fun i => i ≤ h) (fun i => h - i) 0 ?_ ?_ ?_
 ·exact qM
 ·exact znc _
 ·intro i hi K1 hK1
  by_cases hc : i < h
  ·have q1 := decide_eq_true (p := (i : Int) < (h : Int)) (by omega)
   refine qWDf @q1 ?_
   refine SC.loop (fun j : Nat => ⟨[(2, .pt n0 0), (3, .pt (n0 + 1) 0), (4, .pt (n0 + 1 + 1) 0), (5, .pt nx 0), (6, .sc (.int .i64 i)), (7, .sc (.int .i64 j))], (nx, ⟨34, [.sc (.int .i64 h), .sc (.int .i64 w), .sl o 0 h 1 none], false⟩) :: (n0 + 1 + 1, ⟨34, [.sc (.int .i64 0), .sc (.int .i64 0), .sc (.slice none 0 0)], false⟩) :: (n0 + 1, ⟨84, [.sc (.bool (decide (k < 0))), .im (lv (limbsOf k.natAbs)) (limbsOf k.natAbs).length], false⟩) :: (n0, ⟨34, [.sc (.int .i64 h), .sc (.int .i64 w), .im (imR w (rI A)) h], false⟩) :: (o, ⟨80, slR 2 w ids, false⟩) :: rowsH 84 ids (rI (mkM h w (Sf A k i j))), nx + 1, 43⟩)
    (fun j => j ≤ w) (fun j => w - j) 0 ?_ ?_ ?_
   ·exact qM
   ·exact znc _
   ·intro j hj K2 hK2
    by_cases hc2 : j < w
    ·have q2 := decide_eq_true (p := (j : Int) < (w : Int)) (by omega)
     have gi := slR_get (z := 2) (m := w) (ids := ids) (k := i) (by omega)
     have hfx := hA.fit hc hc2
     obtain ⟨gR, gl, gd, gs, hrs⟩ := cellF (ty := 84) (f := Sf A k i j) (z := ent2 A i j * k) (j := j) hR.nod hidl hc hc2
     have e1 : (mkM h w fun r c => if r = i ∧ c = j then ent2 A i j * k else Sf A k i j r c) = mkM h w (Sf A k i (j + 1)) := mkM_congr fun r c _ _ => by
      unfold Sf
      by_cases e : r = i ∧ c = j
      ·obtain ⟨rfl, rfl⟩ := e
       rw [if_pos ⟨rfl, rfl⟩, if_pos (by omega)]
      ·rw [if_neg e]
       by_cases e2 : r < i ∨ (r = i ∧ c < j)
       ·rw [if_pos e2, if_pos (by omega)]
       ·rw [if_neg e2, if_neg (by omega)]
     rw [e1] at hrs
     have gAi := imI_get (w := w) (M := A) (i := i) (by omega)
     have hAi := hA.get hc
     have gdA := ivR_drop (l := A.getD i []) (i := j) (by omega)
     have glA := ivR_len (A.getD i [])
     have hx : (A.getD i []).getD j 0 = ent2 A i j := rfl
     rw [hx] at gdA hfx
     rw [hAi.1] at glA
     have c1 := mul_i (ent2 A i j) k K hfx hk (by omega)
     have hkl := klB_rows (ty := 84) (rs := rI (mkM h w (Sf A k i j))) (n := nx + 1) (fun j hj => by have := hR.lt j hj; omega)
     have hmem := getD_mem' (ids := ids) (k := i) (by omega)
     have hidk := hR.lt _ hmem
     have hne : ids.getD i 0 ≠ o := fun e => hR.o2 (by rw [← e]; exact hmem)
     clear hfx e1 hx
     generalize hH : rowsH 84 ids (rI (mkM h w (Sf A k i j))) = H at *
     generalize mkR w (Sf A k i j i) = row at *
     generalize ids.getD i 0 = idk at *
     generalize ent2 A i j = x at *
     generalize (ivR row).drop ((j + 1) * 2) = D1 at *
     generalize (ivR (A.getD i [])).drop ((j + 1) * 2) = D2 at *
     generalize ivR (A.getD i []) = RA at *
     generalize hRr : ivR row = RR at *
     unfold iv sv at c1
     unfold ivC sv at gs gd gdA
     simp only [zl8, zl7] at gd gdA
     have g2 : j * 2 < RR.length := by omega
     have g4 : j * 2 < RA.length := by omega
     refine qWDf (Q16 @q2 @g1 @gi @gR @gl @gd @gs @hrs @g2 @g4 @glA @gAi @gdA @gA @hkl @gD) ?_
     refine hK2 _ (j + 1) ?_ (by omega) (by omega)
     exact qM
    ·have q2 := decide_eq_false (p := (j : Int) < (w : Int)) (by omega)
     have hjw : j = w := by omega
     subst hjw
     refine qWDf @q2 ?_
     refine hK1 _ (i + 1) ?_ (by omega) (by omega)
     have e1 : mkM h j (Sf A k i j) = mkM h j (Sf A k (i + 1) 0) := mkM_congr fun r c _ hcj => by
      unfold Sf
      by_cases e : r < i ∨ (r = i ∧ c < j)
      ·rw [if_pos e, if_pos (by omega)]
      ·rw [if_neg e, if_neg (by omega)]
     rw [e1]
     exact qM
  ·have q1 := decide_eq_false (p := (i : Int) < (h : Int)) (by omega)
   have hih : i = h := by omega
   subst hih
   have e1 : mkM i w (Sf A k i 0) = scaleM i w A k := mkM_congr fun r c hr _ => by
    unfold Sf
    rw [if_pos (.inl hr)]
   rw [e1]
   refine qWDf @q1 ?_
   refine retIQ_ret (.ag [.sc (.int .i64 i), .sc (.int .i64 w), .sl o 0 i 1 none]) ((o, ⟨80, slR 2 w ids, false⟩) :: rowsH 84 ids (rI (scaleM i w A k))) nx Try.results113 qT ⟨o, ids, ?_, by rw [hml], rfl⟩ ?_
   ·rw [hml]; exact ⟨hR.len, hR.nod, fun j hj => by have := hR.lt j hj; omega, by omega, hR.o2⟩
   refine Le.rowsDown [] pre0 ⟨n0, hB, by omega⟩ (by omega) (fun j hj => (hR.lt j hj).2) (rI_clo _) (less_new (less_new (less_new (less_new (fun id k hk => hk) (fun id k hk => ?_)) (fun id k hk => ?_)) (fun id k hk => ?_)) (fun id k hk => ?_)) ?_
   ·rcases inR_rows (fun i hi => hi) id k hk with e | e
    ·omega
    ·have := hR.lt _ e; omega
   ·rcases inR_rows (fun i hi => hi) id k hk with e | e
    ·omega
    ·have := hR.lt _ e; omega
   ·rcases inR_rows (fun i hi => hi) id k hk with e | e
    ·omega
    ·have := hR.lt _ e; omega
   ·rcases inR_rows (fun i hi => hi) id k hk with e | e
    ·omega
    ·have := hR.lt _ e; omega
   ·refine mapSl_cons (x := .ag [.sc (.int .i64 i), .sc (.int .i64 w), .sl o 0 i 1 none]) (by simp (disch := omega) only [go_sem, ↓reduceIte, zn1, zn2, zn3, zn4, zn5, zn6, reduceCtorEq, zn7, zi1, zi2, if_pos, if_neg, Int.reduceAdd, zn8, zna, Nat.zero_mul, Nat.add_zero, zn9, Nat.sub_zero, zl2, zl4, zl3, zl9, zl7, zl8, List.append_nil, List.take_length, List.take_nil, List.drop_nil, List.length_nil, List.length_set, List.length_replicate, List.flatten_nil, List.flatten_cons, Bool.not_true, Bool.not_false, Bool.false_eq_true, Bool.or_true, Bool.true_or, Bool.or_false, Bool.or_self, bne_self_eq_false, beq_self_eq_true]) (VMap.ag rfl fun j x y hx hy => ?_) trivial
    match j, hx, hy with
    | 0, hx, hy => cases hx; cases hy; exact VMap.sc _
    | 1, hx, hy => cases hx; cases hy; exact VMap.sc _
    | 2, hx, hy => cases hx; cases hy; exact VMap.cap rfl (by omega)
end Go.Proofs.Ytdkkgndibagihaa
namespace Go.Proofs.Ytdkkgndibagihaa
open Go.RowKit
set_option maxHeartbeats 8000000 in
set_option maxRecDepth 8000 in
theorem rcopyI_q {h w K : Nat} {A : List (List Int)} (n0 : Nat) (hA : MI h w K A) (hK : K ≤ 90000000000) (hn : h ≤ 1000000) (hw : w ≤ 1000000) :
  InlQ Try.prog 109 [mat w A] [] n0 (MatQ w A n0) := by
 have hA1 := hA.mono (Nat.le_add_right K 1)
 have c0 := rscale_q (n0 + 2) hA1 (k := 1) (by unfold Fits; exact Nat.one_lt_pow (by omega) (by omega)) (by omega) hn hw
 rw [scaleM_one hA1] at c0
 have hAl := hA.len
 have c1 := of_i 1 (by omega) (by omega)
 have nx := n0
 unfold iv sv at c1 c0
 unfold mat at c0 ⊢
 rw [hAl] at c0 ⊢
 refine InlQ.run Try.func109 rfl Try.ntmps109 (by simp) qT fun B hB => ?_
 (repeat (first | refine DO.nilF (fun i => i + 1 - nx) (by simp (disch := omega) only [go_sem, ↓reduceIte, zn1, zn2, zn3, zn4, zn5, zn6, reduceCtorEq, zn7, zi1, zi2, if_pos, if_neg, Int.reduceAdd, zn8, zna, Nat.zero_mul, Nat.add_zero, zn9, Nat.sub_zero, zl2, zl4, zl3, zl9, zl7, zl8, List.append_nil, List.take_length, List.take_nil, List.drop_nil, List.length_nil, List.length_set, List.length_replicate, List.flatten_nil, List.flatten_cons, Bool.not_true, Bool.not_false, Bool.false_eq_true, Bool.or_true, Bool.true_or, Bool.or_false, Bool.or_self, bne_self_eq_false, beq_self_eq_true, zld, zle, Option.map_some, Option.map_none, znd, zne, znf] <;> rfl) (by kernel_rfl) ?_ | (with_reducible refine SC.condB qT ?_; first | with_reducible refine pickT ?_ | with_reducible refine pickF ?_) | (with_reducible refine qO ?_) | ((with_reducible apply SC.region); (focus (simp (disch := omega) only [go_sem, ↓reduceIte, zn1, zn2, zn3, zn4, zn5, zn6, reduceCtorEq, zn7, zi1, zi2, if_pos, if_neg, Int.reduceAdd, zn8, zna, Nat.zero_mul, Nat.add_zero, zn9, Nat.sub_zero, zl2, zl4, zl3, zl9, zl7, zl8, List.append_nil, List.take_length, List.take_nil, List.drop_nil, List.length_nil, List.length_set, List.length_replicate, List.flatten_nil, List.flatten_cons, Bool.not_true, Bool.not_false, Bool.false_eq_true, Bool.or_true, Bool.true_or, Bool.or_false, Bool.or_self, bne_self_eq_false, beq_self_eq_true]; rfl))) | (with_reducible refine SC.draw Tab.mixed rfl ?_; (repeat (refine DO.run qT ?_)); refine DO.nilF (fun i => i + 1 - nx) (by simp (disch := omega) only [go_sem, ↓reduceIte, zn1, zn2, zn3, zn4, zn5, zn6, reduceCtorEq, zn7, zi1, zi2, if_pos, if_neg, Int.reduceAdd, zn8, zna, Nat.zero_mul, Nat.add_zero, zn9, Nat.sub_zero, zl2, zl4, zl3, zl9, zl7, zl8, List.append_nil, List.take_length, List.take_nil, List.drop_nil, List.length_nil, List.length_set, List.length_replicate, List.flatten_nil, List.flatten_cons, Bool.not_true, Bool.not_false, Bool.false_eq_true, Bool.or_true, Bool.true_or, Bool.or_false, Bool.or_self, bne_self_eq_false, beq_self_eq_true, zld, zle, Option.map_some, Option.map_none, znd, zne, znf] <;> rfl) (by kernel_rfl) ?_)))
 refine SC.drawT 2 (by simp only [zl3, zl4]; rfl) (by simp only [zl9, zl2]; rfl) Tab.mixed ?_ (by kernel_rfl) ?_
 ·simp (disch := omega) only [go_sem, ↓reduceIte, zn1, zn2, zn3, zn4, zn5, zn6, reduceCtorEq, zn7, zi1, zi2, if_pos, if_neg, Int.reduceAdd, zn8, zna, Nat.zero_mul, Nat.add_zero, zn9, Nat.sub_zero, zl2, zl4, zl3, zl9, zl7, zl8, List.append_nil, List.take_length, List.take_nil, List.drop_nil, List.length_nil, List.length_set, List.length_replicate, List.flatten_nil, List.flatten_cons, Bool.not_true, Bool.not_false, Bool.false_eq_true, Bool.or_true, Bool.true_or, Bool.or_false, Bool.or_self, bne_self_eq_false, beq_self_eq_true]
  intro id q hq
  repeat' (split at hq)
  all_goals first | omega | cases hq
 refine qWD ?_
 show SO _ _ _ _ _ _ _
 refine SO.inlQ qS (by rfl) qS qS (SInlQ.newR c0 ?_ ?_ ?_)
 ·exact klc (by omega) (klc (by omega) kln)
 ·exact fun x hp' nx' h => matQ_new h
 rintro x hp' nx ⟨o, ids, hR, rfl, rfl⟩
 have ho := hR.o1
 rw [hAl] at hR ⊢
 refine qWD ?_
 refine retIQ_ret (.ag [.sc (.int .i64 h), .sc (.int .i64 w), .sl o 0 h 1 none]) ((o, ⟨80, slR 2 w ids, false⟩) :: rowsH 84 ids (rI A)) nx Try.results109 qT ⟨o, ids, ?_, by rw [hAl], rfl⟩ ?_
 ·rw [hAl]; exact ⟨hR.len, hR.nod, fun j hj => by have := hR.lt j hj; omega, by omega, hR.o2⟩
 refine Le.rowsDown [] pre0 ⟨n0, hB, by omega⟩ (by omega) (fun j hj => (hR.lt j hj).2) (rI_clo _) (less_new (less_new (fun id k hk => hk) (fun id k hk => ?_)) (fun id k hk => ?_)) ?_
 ·rcases inR_rows (fun i hi => hi) id k hk with e | e
  ·omega
  ·have := hR.lt _ e; omega
 ·rcases inR_rows (fun i hi => hi) id k hk with e | e
  ·omega
  ·have := hR.lt _ e; omega
 ·refine mapSl_cons (x := .ag [.sc (.int .i64 h), .sc (.int .i64 w), .sl o 0 h 1 none]) (by simp (disch := omega) only [go_sem, ↓reduceIte, zn1, zn2, zn3, zn4, zn5, zn6, reduceCtorEq, zn7, zi1, zi2, if_pos, if_neg, Int.reduceAdd, zn8, zna, Nat.zero_mul, Nat.add_zero, zn9, Nat.sub_zero, zl2, zl4, zl3, zl9, zl7, zl8, List.append_nil, List.take_length, List.take_nil, List.drop_nil, List.length_nil, List.length_set, List.length_replicate, List.flatten_nil, List.flatten_cons, Bool.not_true, Bool.not_false, Bool.false_eq_true, Bool.or_true, Bool.true_or, Bool.or_false, Bool.or_self, bne_self_eq_false, beq_self_eq_true]) (VMap.ag rfl fun j x y hx hy => ?_) trivial
  match j, hx, hy with
  | 0, hx, hy => cases hx; cases hy; exact VMap.sc _
  | 1, hx, hy => cases hx; cases hy; exact VMap.sc _
  | 2, hx, hy => cases hx; cases hy; exact VMap.cap rfl (by omega)
end Go.Proofs.Ytdkkgndibagihaa
