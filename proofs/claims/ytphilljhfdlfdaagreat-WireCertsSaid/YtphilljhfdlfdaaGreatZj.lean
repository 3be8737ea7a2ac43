/- Texts joined: En Eo El Et Ep Dn Er Ev Ex. -/
import Derived.Test.YtphilljhfdlfdaaGreatZc
import Derived.Test.YtphilljhfdlfdaaGreatZd
import Derived.Test.YtphilljhfdlfdaaGreatZf
import Derived.Test.YtphilljhfdlfdaaGreatZg
import Derived.Test.YtphilljhfdlfdaaGreatZh
import Derived.Test.YtphilljhfdlfdaaGreatZi
set_option linter.all false
open Nat renaming reduceEqDiff → zn1, reduceLT → zn2, reduceLeDiff → zn3, reduceAdd → zn4, reduceMul → zn5, reduceSub → zn6, reduceBEq → zn7, mul_one → zn8, zero_add → zn9, one_mul → zna, le_refl → znb, zero_le → znc, add_sub_cancel_left → znd, sub_eq_zero_of_le → zne, add_assoc → znf
open Int renaming reduceToNat → zi1, reducePow → zi2
open List renaming length_append → zl1, drop_zero → zl2, take_succ_cons → zl3, take_zero → zl4, getElem?_drop → zl5, append_assoc → zl6, nil_append → zl7, cons_append → zl8, drop_succ_cons → zl9, take_of_length_le → zla, getElem?_eq_getElem → zlb, getElem?_eq_some_iff → zlc, map_cons → zld, map_nil → zle, all_eq_true → zlf
namespace Go.Proofs.YtphilljhfdlfdaaGreat
open Go.RowKit
theorem Le.hp {B : Base} {sl sl' : List (Nat × V)} {hp hp' : List (Nat × Blk)} {nx nt m : Nat} (hB : B.Old m) (hm : m ≤ nx) (hs : mapSl (fun i => i) (fun i => i < nx) sl sl') (hh : mapHp (fun i => i) (fun i => i < nx) hp hp') :
    Le B ⟨sl, hp, nx, nt⟩ ⟨sl', hp', nx, nt⟩ :=
  Le.map (fun i => i) (fun i => i < nx) hB (fun i hi => ⟨by omega, rfl⟩) (fun i hi => by omega) (fun i j _ _ e => e) hs fun i b hb _ => mapHp_get hh i b hb
theorem ret_F {P : Program} {B : Base} {s : SS} {fn : Func} {y0 y : V} {nx : Nat} {hp' : List (Nat × Blk)} {rs : List ResultVar} {ids : List Nat} (hB : B.Old nx) (hr : fn.results = rs.toArray) (h1 : resG P s rs = some y0) (hf : frz 8 s.hp y0 = some (y, ids)) (hy : Only (fun _ => False) y) (hh : mapHp (fun i => i) (fun i => i < nx) (fzHp s.hp ids) hp') :
    retIQ P fn B (fun y' hp1 nx1 => y' = y ∧ hp1 = hp' ∧ nx1 = nx) .ret s := by
  refine retIQ_ret y hp' nx hr h1 ⟨rfl, rfl, rfl⟩ (Le.trans (Le.frz (nt := 1) 0 (by omega) (y := y) (ids := ids) hf) (Le.map (fun i => i) (fun i => i < nx) hB (fun i hi => ⟨hi, rfl⟩) (fun i hi => hi) (fun i j _ _ e => e) ⟨hy.same, trivial⟩ fun i k' hk' _ => mapHp_get hh i k' hk'))
def rowR (b : List Int) (n : Nat) : Nat → Rd → List Int → List Int × Rd
  | 0, s, acc => (acc, s)
  | f + 1, s, acc => rowR b n f (s.int b n).2 (acc ++ [(s.int b n).1])
def Rd.row (b : List Int) (n w : Nat) (s : Rd) : List Int × Rd := rowR b n w s []
theorem rowR_at {b : List Int} {n : Nat} : ∀ (f : Nat) (s : Rd) (acc : List Int), s.at_ ≤ n → (rowR b n f s acc).2.at_ ≤ n
  | 0, _, _, h => h
  | f + 1, s, acc, h => rowR_at f _ _ (int_at h)
theorem set_pad {acc : List Int} {w : Nat} (z : Int) (h : acc.length < w) : (acc ++ List.replicate (w - acc.length) (0 : Int)).set acc.length z = acc ++ [z] ++ List.replicate (w - (acc ++ [z]).length) 0 := by
  rw [List.set_append_right _ _ (znb _), Nat.sub_self]
  obtain ⟨k, hk⟩ : ∃ k, w - acc.length = k + 1 := ⟨w - acc.length - 1, by omega⟩
  rw [hk, List.replicate_succ, List.set_cons_zero, zl1, List.length_singleton, show w - (acc.length + 1) = k by omega, zl6]; rfl
theorem rowR_len {b : List Int} {n : Nat} : ∀ (f : Nat) (s : Rd) (acc : List Int), (rowR b n f s acc).1.length = acc.length + f
  | 0, _, _ => rfl
  | f + 1, s, acc => by rw [rowR, rowR_len f, zl1, List.length_singleton]; omega
def rowH (b : List Int) (n a rb k q : Nat) (rows w : Int) (i : Nat) (cs : List V) (s : Rd) : List (Nat × Blk) :=
  [(a, ⟨49, [.sc (.int .i64 rows), .sc (.int .i64 w), .sl q 0 i 1 none], false⟩), (rb, ⟨86, [.pt k 0], false⟩), (k, rdB b n s), (q, ⟨28, cs, false⟩)]
set_option maxHeartbeats 8000000 in
set_option maxRecDepth 4000 in
theorem row_s (b : List Int) (n : Nat) (s0 : Rd) (hu : U8s b) (hn : n ≤ b.length) (hb : n ≤ 1000000000) (ha : s0.at_ ≤ n) (rows : Int) (w i : Nat) (hw : w ≤ 1000000) (cs : List V) (hcs : cs.all clo = true) (a rb k q nx : Nat) (h1 : a < nx) (h2 : rb < nx) (h3 : k < nx) (h4 : q < nx) (h5 : a ≠ rb) (h6 : a ≠ k) (h7 : a ≠ q) (h8 : rb ≠ k) (h9 : rb ≠ q) (h10 : k ≠ q) :
    InlQ Tryz.prog 69 [.pt a 0, .pt rb 0] (rowH b n a rb k q rows w i cs s0) nx (fun y hp' nx' => y = .im (ivR (s0.row b n w).1) w ∧ hp' = rowH b n a rb k q rows w i cs (s0.row b n w).2 ∧ nx' = nx) := by
  have e1 : (a = rb) = False := eq_false h5
  have e2 : (a = k) = False := eq_false h6
  have e3 : (a = q) = False := eq_false h7
  have e4 : (rb = k) = False := eq_false h8
  have e5 : (rb = q) = False := eq_false h9
  have e6 : (k = q) = False := eq_false h10
  have f1 : (rb = a) = False := eq_false (Ne.symm h5)
  have f2 : (k = a) = False := eq_false (Ne.symm h6)
  have f3 : (q = a) = False := eq_false (Ne.symm h7)
  have f4 : (k = rb) = False := eq_false (Ne.symm h8)
  have f5 : (q = rb) = False := eq_false (Ne.symm h9)
  have f6 : (q = k) = False := eq_false (Ne.symm h10)
  have g1 : (a = nx) = False := eq_false (by omega)
  have g2 : (rb = nx) = False := eq_false (by omega)
  have g3 : (k = nx) = False := eq_false (by omega)
  have g4 : (q = nx) = False := eq_false (by omega)
  unfold rowH
  refine InlQ.run Tryz.func69 rfl Tryz.ntmps69 (by simp) (by simp only [go_sem, zn4]; rfl) fun B hB => ?_
  unfold rdB
  (repeat (first | (with_reducible refine oz (by constructor <;> decide) ?_) | ((with_reducible apply SC.region); (simp (disch := omega) only [go_sem, ↓reduceIte, zn4, reduceCtorEq, if_pos] <;> rfl); (fail_if_success with_reducible refine pickA ?_))))
  refine SC.weak (by simp) (Le.hp (sl' := [(0, .pt a 0), (1, .pt rb 0), (3, .sl nx 0 w 2 none), (9, .sc (.int .i64 w)), (10, .sc (.int .i64 0))]) (hp' := [(nx, ⟨24, ivR (List.replicate w 0), false⟩), (a, ⟨49, [.sc (.int .i64 rows), .sc (.int .i64 w), .sl q 0 i 1 none], false⟩), (rb, ⟨86, [.pt k 0], false⟩), (k, ⟨100, [.im (bw b) n, .sc (.int .i64 s0.at_), .sc (.int .i64 s0.e)], false⟩), (q, ⟨28, cs, false⟩)]) hB (by omega) ?_ ?_) ?_
  · (repeat' (first | exact trivial | refine mapSl_cons (by simp (disch := omega) only [go_sem, ↓reduceIte, zn1, reduceCtorEq] <;> rfl) ?_ ?_ | exact VMap.sc _ | exact VMap.cap rfl (by omega) | exact VMap.pt rfl (by omega)))
  · refine mapHp_cons (k := ⟨24, zer w, false⟩) (by simp (disch := omega) only [go_sem, ↓reduceIte] <;> rfl) ⟨_, rfl, rfl, rfl, zer_map w⟩ ?_
    refine mapHp_cons (by simp only [go_sem, ↓reduceIte, g1] <;> rfl) (BMap.list (mapL_cons (VMap.sc _) (mapL_cons (VMap.sc _) (mapL_cons (VMap.sl rfl (by omega)) mapL_nil)))) ?_
    refine mapHp_cons (by simp only [go_sem, ↓reduceIte, f1, g2] <;> rfl) (BMap.list (mapL_cons (VMap.pt rfl (by omega)) mapL_nil)) ?_
    refine mapHp_cons (by simp (disch := omega) only [go_sem, ↓reduceIte, f2, f4, g3] <;> rfl) (BMap.clo rfl) ?_
    exact mapHp_cons (by simp (disch := omega) only [go_sem, ↓reduceIte, f3, f5, f6, g4] <;> rfl) (BMap.clo hcs) mapHp_nil
  generalize hL : s0.row b n w = L at *
  obtain ⟨lr, s9⟩ := L
  have hlr : lr.length = w := by
    have := rowR_len (b := b) (n := n) w s0 []
    unfold Rd.row at hL
    rw [hL] at this
    simpa using this
  simp only
  refine SC.loop (fun z : List Int × Rd => ⟨[(0, .pt a 0), (1, .pt rb 0), (3, .sl nx 0 w 2 none), (9, .sc (.int .i64 w)), (10, .sc (.int .i64 z.1.length))], [(nx, ⟨24, ivR (z.1 ++ List.replicate (w - z.1.length) 0), false⟩), (a, ⟨49, [.sc (.int .i64 rows), .sc (.int .i64 w), .sl q 0 i 1 none], false⟩), (rb, ⟨86, [.pt k 0], false⟩), (k, ⟨100, [.im (bw b) n, .sc (.int .i64 z.2.at_), .sc (.int .i64 z.2.e)], false⟩), (q, ⟨28, cs, false⟩)], nx + 1, 20⟩)
    (fun z => z.1.length ≤ w ∧ rowR b n (w - z.1.length) z.2 z.1 = (lr, s9) ∧ z.2.at_ ≤ n) (fun z => w - z.1.length) ([], s0) ?_ ?_ ?_
  · (refine Le.slots ?_ ?_ ?_ <;> (repeat' (first | (exact fun _ _ h => h) | exact znb _ | exact leSl_nil | refine leSl_cons (by simp only [go_sem, ↓reduceIte, zn1, reduceCtorEq] <;> rfl) ?_ ?_ | exact VLe.refl rfl)))
  · exact ⟨znc _, hL, ha⟩
  · rintro ⟨acc, s⟩ ⟨hi, hr, has⟩ K hK
    simp only at hi hr has ⊢
    have gl := ivR_len (acc ++ List.replicate (w - acc.length) 0)
    have gal : (acc ++ List.replicate (w - acc.length) (0 : Int)).length = w := by rw [zl1, List.length_replicate]; omega
    rw [gal] at gl
    by_cases hlt : acc.length < w
    · have q2 : decide ((acc.length : Int) < (w : Int)) = true := by rw [decide_eq_true_iff]; omega
      have x0 : ((acc.length : Int)).toNat = acc.length := rfl
      have c2 := rint_s b n s hu hn hb has
      have hats := int_at (b := b) has
      rw [show w - acc.length = (w - (acc.length + 1)) + 1 by omega, rowR] at hr
      generalize s.int b n = r at *
      obtain ⟨z, s2⟩ := r
      simp only at c2 hats hr
      have gs := ivR_set (l := acc ++ List.replicate (w - acc.length) 0) (i := acc.length) z (by omega)
      rw [set_pad z hlt] at gs
      have e9 : (acc ++ [z]).length = acc.length + 1 := zl1
      have hK2 := fun s' h => hK s' (acc ++ [z], s2) h
      have gi : acc.length * 2 + 2 ≤ w * 2 := by omega
      unfold ivC at gs
      unfold rdB at c2
      unfold iv at c2
      unfold sv at c2 gs
      generalize hA : ivR (acc ++ List.replicate (w - acc.length) 0) = A at *
      (repeat (first | (with_reducible refine oz (by constructor <;> decide) ?_) | ((with_reducible first | apply SC.condB | apply SC.region | apply SO.run); (simp only [go_sem, ↓reduceIte, zn1, reduceCtorEq, q2, f1, g2] <;> rfl); (first | refine pickT ?_ | fail_if_success with_reducible refine pickA ?_)) | (with_reducible apply SC.ops)))
      (refine SO.inlQ (by simp (disch := omega) only [go_sem] <;> rfl) Tab.go46 (by simp (disch := omega) only [go_sem, ↓reduceIte] <;> rfl) (by simp (disch := omega) only [go_sem] <;> rfl) (SInlQ.rd (c2) (by simp (disch := omega) only [go_sem, ↓reduceIte, f2, f4, g3] <;> rfl) rfl (by (simp (disch := omega) only [go_sem] <;> omega)) (by simp (disch := omega) only [go_sem, ↓reduceIte, f2, f4, g3] <;> rfl) ?_))
      (repeat (first | (with_reducible refine oz (by constructor <;> decide) ?_) | ((with_reducible first | apply SC.region | apply SO.run); (simp (disch := omega) only [go_sem, ↓reduceIte, zn1, zn4, reduceCtorEq, if_pos, gl, gs, x0] <;> rfl); (fail_if_success with_reducible refine pickA ?_))))
      refine hK2 _ ?_ ⟨by simp only; omega, ?_, hats⟩ (by simp only; omega)
      · simp only [e9]
        (refine Le.slots ?_ ?_ ?_ <;> (repeat' (first | (exact fun _ _ h => h) | exact znb _ | exact leSl_nil | refine leSl_cons (by simp only [go_sem, ↓reduceIte, zn1, reduceCtorEq] <;> rfl) ?_ ?_ | exact VLe.refl rfl)))
      · simp only [e9]
        exact hr
    · have hae : acc.length = w := by omega
      have q2 : decide ((acc.length : Int) < (w : Int)) = false := by rw [decide_eq_false_iff_not]; omega
      rw [hae, Nat.sub_self, rowR] at hr
      cases hr
      rw [hae, Nat.sub_self, List.replicate_zero, List.append_nil]
      rw [hae] at q2
      have gll := ivR_len lr
      have glt : (ivR lr).take (w * 2) = ivR lr := zla (by omega)
      have gcl := ivR_clo lr
      have kb1 : (a == nx) = false := by rw [beq_eq_false_iff_ne]; omega
      have kb2 : (rb == nx) = false := by rw [beq_eq_false_iff_ne]; omega
      have kb3 : (k == nx) = false := by rw [beq_eq_false_iff_ne]; omega
      have kb4 : (q == nx) = false := by rw [beq_eq_false_iff_ne]; omega
      (repeat (first | (with_reducible refine oz (by constructor <;> decide) ?_) | ((with_reducible first | apply SC.condB | apply SC.region); (simp only [go_sem, ↓reduceIte, zn1, zn2, reduceCtorEq, q2] <;> rfl); (first | refine pickF ?_ | fail_if_success with_reducible refine pickA ?_))))
      refine ret_F hB Tryz.results69 (by simp (disch := omega) only [go_sem, ↓reduceIte] <;> rfl) (by simp (disch := omega) only [go_sem, ↓reduceIte, if_pos, gll, hae, glt, gcl, zl2] <;> rfl) (.im _ _) ?_
      refine mapHp_cons (by simp only [go_sem, ↓reduceIte, kb1, kb2, kb3, kb4, Bool.false_eq_true, g1] <;> rfl) (BMap.list (mapL_cons (VMap.sc _) (mapL_cons (VMap.sc _) (mapL_cons (VMap.sl rfl (by omega)) mapL_nil)))) ?_
      refine mapHp_cons (by simp only [go_sem, ↓reduceIte, kb1, kb2, kb3, kb4, Bool.false_eq_true, f1, g2] <;> rfl) (BMap.list (mapL_cons (VMap.pt rfl (by omega)) mapL_nil)) ?_
      refine mapHp_cons (by simp only [go_sem, ↓reduceIte, kb1, kb2, kb3, kb4, Bool.false_eq_true, f2, f4, g3] <;> rfl) (BMap.clo rfl) ?_
      exact mapHp_cons (by simp only [go_sem, ↓reduceIte, kb1, kb2, kb3, kb4, Bool.false_eq_true, f3, f5, f6, g4] <;> rfl) (BMap.clo hcs) mapHp_nil
theorem VMap.fn2 {D : Nat → Prop} {g : Fn} {a b o o' : Nat} (ha : D a) (hb : D b) : VMap (fun i => i) D (.fn g [] [.pt a o, .pt b o']) (.fn g [] [.pt a o, .pt b o']) := by
  refine VMap.fn rfl rfl (fun i x y hx _ => by cases hx) (fun i x y hx hy => ?_)
  match i, hx, hy with
  | 0, hx, hy => cases hx; cases hy; exact VMap.pt rfl ha
  | 1, hx, hy => cases hx; cases hy; exact VMap.pt rfl hb
  | i + 2, hx, _ => cases hx
def rowsR (b : List Int) (n w : Nat) : Nat → Rd → List (List Int) → (Nat × List (List Int)) × Rd
  | 0, s, acc => ((w, acc), s)
  | f + 1, s, acc => if (s.row b n w).2.e = 0 then rowsR b n w f (s.row b n w).2 (acc ++ [(s.row b n w).1]) else ((0, []), (s.row b n w).2)
def Rd.mat (b : List Int) (n : Nat) (s : Rd) : (Nat × List (List Int)) × Rd :=
  rowsR b n ((s.size b n 64).2.size b n 64).1 (s.size b n 64).1 ((s.size b n 64).2.size b n 64).2 []
theorem row_at {b : List Int} {n w : Nat} {s : Rd} (h : s.at_ ≤ n) : (s.row b n w).2.at_ ≤ n := rowR_at _ _ _ h
theorem rowsR_at {b : List Int} {n w : Nat} : ∀ (f : Nat) (s : Rd) (acc : List (List Int)), s.at_ ≤ n → (rowsR b n w f s acc).2.at_ ≤ n
  | 0, _, _, h => h
  | f + 1, s, acc, h => by
    have h1 := row_at (b := b) (w := w) h
    unfold rowsR
    split
    · exact rowsR_at f _ _ h1
    · exact h1
theorem mat_at {b : List Int} {n : Nat} {s : Rd} (h : s.at_ ≤ n) : (s.mat b n).2.at_ ≤ n := rowsR_at _ _ _ (size_at (size_at h))
theorem mat_only (x : Nat × List (List Int)) : Only (fun _ => False) (mat x.1 x.2) := by
  refine .ag fun y hy => ?_
  simp only [List.mem_cons, List.not_mem_nil, or_false] at hy
  rcases hy with rfl | rfl | rfl
  · exact .sc _
  · exact .sc _
  · exact .im _ _
theorem row_part {b : List Int} {n a rb k q nx z : Nat} {rows w : Int} {i : Nat} {cs : List V} {s : Rd} {y0 : V} (hy : Only (fun _ => False) y0) (hcs : cs.all clo = true) (ha : a ≠ z) (hr : rb ≠ z) (hk : k ≠ z) (hq : q ≠ z) : ∀ y hp' nx', (y = y0 ∧ hp' = rowH b n a rb k q rows w i cs s ∧ nx' = nx) →
    Only (fun i => i ≠ z) y ∧ OnlyH (fun i => i ≠ z) hp' ∧ ∀ id kk, hget hp' id = some kk → id ≠ z := by
  rintro y hp' nx' ⟨rfl, rfl, rfl⟩
  refine ⟨hy.mono fun _ h => h.elim, ⟨fun x hx => ?_, ⟨fun x hx => ?_, ⟨fun x hx => Only.clo (List.all_eq_true.1 (rdB_clo _ _ _) x hx), ⟨fun x hx => Only.clo (List.all_eq_true.1 hcs x hx), trivial⟩⟩⟩⟩, fun id kk hg => ?_⟩
  · simp only [List.mem_cons, List.not_mem_nil, or_false] at hx
    rcases hx with rfl | rfl | rfl
    · exact .sc _
    · exact .sc _
    · exact .sl hq
  · simp only [List.mem_cons, List.not_mem_nil, or_false] at hx
    subst hx
    exact .pt hk
  · simp only [rowH, hget] at hg
    repeat' split at hg
    · omega
    · omega
    · omega
    · omega
    · cases hg
theorem rI_app (L : List (List Int)) (l : List Int) (w : Nat) : imR w (rI (L ++ [l])) = imR w (rI L) ++ [.im (ivR l) w] := by simp [imR, rI]
set_option maxHeartbeats 8000000 in
set_option maxRecDepth 4000 in
theorem rmat_s (b : List Int) (n : Nat) (s : Rd) (hu : U8s b) (hn : n ≤ b.length) (hb : n ≤ 1000000000) (ha : s.at_ ≤ n) :
    RdQ Tryz.prog 49 [] (rdB b n s) (rdB b n (s.mat b n).2) (mat (s.mat b n).1.1 (s.mat b n).1.2) := by
  refine ⟨mat_only _, rdB_clo _ _ _, fun k nx hk => ?_⟩
  refine InlQ.run Tryz.func49 rfl Tryz.ntmps49 (by simp) (by simp (disch := omega) only [go_sem]; rfl) fun B hB => ?_
  have c1 := rsize_s b n s hu hn hb 64 (by omega)
  have c2 := rsize_s b n (s.size b n 64).2 hu hn hb 64 (by omega)
  have hat := size_at (b := b) (lim := 64) (size_at (b := b) (lim := 64) ha)
  have hw := size_le b n 64 (s.size b n 64).2
  have hh := size_le b n 64 s
  unfold Rd.mat
  generalize s.size b n 64 = r at *
  obtain ⟨h, s1⟩ := r
  simp only at c1 c2 hat hw hh ⊢
  generalize s1.size b n 64 = r at *
  obtain ⟨w, s2⟩ := r
  simp only at c2 hat hw ⊢
  generalize hL : rowsR b n w h s2 [] = L
  obtain ⟨⟨wl, M⟩, s9⟩ := L
  simp only
  have ho := mat_only (wl, M)
  unfold rdB at c1 c2 ⊢
  (repeat (first | (with_reducible refine oz (by constructor <;> decide) ?_) | ((with_reducible first | apply SC.region | apply SO.run); (simp (disch := omega) only [go_sem, ↓reduceIte, zn1, if_neg] <;> rfl); (fail_if_success with_reducible refine pickA ?_)) | (with_reducible apply SC.ops)))
  (refine SO.inlQ (by simp (disch := omega) only [go_sem] <;> rfl) Tab.go68 (by simp (disch := omega) only [go_sem, ↓reduceIte] <;> rfl) (by simp (disch := omega) only [go_sem] <;> rfl) (SInlQ.rd (c1) (by simp (disch := omega) only [go_sem, ↓reduceIte, if_neg] <;> rfl) rfl (by (simp (disch := omega) only [go_sem] <;> omega)) (by simp (disch := omega) only [go_sem, ↓reduceIte, if_neg] <;> rfl) ?_))
  (repeat (first | (with_reducible refine oz (by constructor <;> decide) ?_) | ((with_reducible first | apply SC.region | apply SO.run); (simp (disch := omega) only [go_sem, ↓reduceIte, zn1, zn3, zn4, if_neg] <;> rfl); (fail_if_success with_reducible refine pickA ?_)) | (with_reducible apply SC.ops)))
  (refine SO.inlQ (by simp (disch := omega) only [go_sem] <;> rfl) Tab.go68 (by simp (disch := omega) only [go_sem, ↓reduceIte] <;> rfl) (by simp (disch := omega) only [go_sem] <;> rfl) (SInlQ.rd (c2) (by simp (disch := omega) only [go_sem, ↓reduceIte, if_neg] <;> rfl) rfl (by (simp (disch := omega) only [go_sem] <;> omega)) (by simp (disch := omega) only [go_sem, ↓reduceIte, if_neg] <;> rfl) ?_))
  (repeat (first | (with_reducible refine oz (by constructor <;> decide) ?_) | ((with_reducible first | apply SC.region | apply SO.run); (simp (disch := omega) only [go_sem, ↓reduceIte, zn1, zn3, zn4, reduceCtorEq] <;> rfl); (fail_if_success with_reducible refine pickA ?_))))
  have k0 : (k = nx) = False := eq_false (by omega)
  have k0' : (nx = k) = False := eq_false (by omega)
  refine SC.weak (by simp) (nilSl (tO := 28) (sl' := [(2, .pt (nx + 1) 0), (1, .pt nx 0), (3, .pt (nx + 2) 0), (4, .fn (.func 69) [] [.pt (nx + 2) 0, .pt nx 0]), (14, .sc (.int .i64 h)), (15, .sc (.int .i64 0))]) (hp' := [(nx + 1, ⟨49, [.sc (.int .i64 0), .sc (.int .i64 0), .sc (.slice none 0 0)], false⟩), (nx + 2, ⟨49, [.sc (.int .i64 h), .sc (.int .i64 w), .sl (nx + 3) 0 0 1 none], false⟩), (nx, ⟨86, [.pt k 0], false⟩), (k, rdB b n s2)]) (nx + 3) hB (by omega) ?_ ?_) ?_
  · refine mapSl_cons (by simp (disch := omega) only [go_sem, ↓reduceIte, zn1] <;> rfl) (VMap.pt rfl (by omega)) ?_
    refine mapSl_cons (by simp (disch := omega) only [go_sem, ↓reduceIte, zn1] <;> rfl) (VMap.pt rfl (by omega)) ?_
    refine mapSl_cons (by simp (disch := omega) only [go_sem, ↓reduceIte, zn1] <;> rfl) (VMap.pt rfl (by omega)) ?_
    refine mapSl_cons (by simp (disch := omega) only [go_sem, ↓reduceIte, zn1] <;> rfl) (VMap.fn2 (by omega) (by omega)) ?_
    (repeat' (first | exact trivial | refine mapSl_cons (by simp (disch := omega) only [go_sem, ↓reduceIte, zn1] <;> rfl) ?_ ?_ | exact VMap.sc _))
  · unfold rdB
    (repeat' (first | exact mapHp_nil | refine mapHp_cons (by simp (disch := omega) only [go_sem, ↓reduceIte, zn1, if_neg] <;> rfl) ?_ ?_ | exact BMap.clo (by rfl) | refine BMap.list ?_ | exact mapL_nil | refine mapL_cons ?_ ?_ | exact VMap.sc _ | exact VMap.pt rfl (by omega) | exact VMap.nil_sl _ _ _))
  refine SC.loop (fun z : Nat × List (List Int) × Rd × Nat × Nat => ⟨[(1, .pt nx 0), (2, .pt (nx + 1) 0), (3, .pt (nx + 2) 0), (4, .fn (.func 69) [] [.pt (nx + 2) 0, .pt nx 0]), (14, .sc (.int .i64 h)), (15, .sc (.int .i64 z.1))], [(nx + 1, ⟨49, [.sc (.int .i64 0), .sc (.int .i64 0), .sc (.slice none 0 0)], false⟩)] ++ rowH b n (nx + 2) nx k z.2.2.2.1 h w z.1 (imR w (rI z.2.1)) z.2.2.1, z.2.2.2.2, 33⟩)
    (fun z => z.1 ≤ h ∧ z.2.1.length = z.1 ∧ rowsR b n w (h - z.1) z.2.2.1 z.2.1 = ((wl, M), s9) ∧ z.2.2.1.at_ ≤ n ∧ nx + 2 < z.2.2.2.1 ∧ z.2.2.2.1 < z.2.2.2.2) (fun z => h - z.1) (0, [], s2, nx + 3, nx + 4) ?_ ?_ ?_
  · unfold rowH rdB
    simp only [zl8, zl7, rI, imR, zle]
    (refine Le.slots ?_ ?_ ?_ <;> (repeat' (first | exact znb _ | exact leSl_nil | refine leSl_cons (by simp (disch := omega) only [go_sem, ↓reduceIte, zn1] <;> rfl) ?_ ?_ | exact VLe.refl rfl | (refine fun id k h => ?_; simp only [hget] at h ⊢; (repeat' (split at h)) <;> first | (cases h; done) | (simp (disch := omega) only [if_pos, if_neg]; exact h)))))
  · exact ⟨znc _, rfl, hL, hat, by simp only; omega, by simp only; omega⟩
  · rintro ⟨i, L, s, q, m⟩ ⟨hi, hil, hr, has, hq1, hq2⟩ K hK
    simp only at hi hil hr has hq1 hq2 ⊢
    by_cases hlt : i < h
    · have q2 : decide ((i : Int) < (h : Int)) = true := by rw [decide_eq_true_iff]; omega
      have hats := row_at (b := b) (w := w) has
      have c5 := row_s b n s hu hn hb has h w i (by omega) (imR w (rI L)) (imR_clo _ _) (nx + 2) nx k q m (by omega) (by omega) (by omega) (by omega) (by omega) (by omega) (by omega) (by omega) (by omega) (by omega)
      rw [show h - i = (h - (i + 1)) + 1 by omega, rowsR] at hr
      generalize s.row b n w = r at *
      obtain ⟨l, s3⟩ := r
      simp only at c5 hats hr
      (repeat (first | (with_reducible refine oz (by constructor <;> decide) ?_) | ((with_reducible first | apply SC.condB | apply SC.region | apply SO.run); (simp (disch := omega) only [go_sem, ↓reduceIte, zn1, q2] <;> rfl); (first | refine pickT ?_ | fail_if_success with_reducible refine pickA ?_)) | (with_reducible apply SC.ops)))
      refine SO.inlQ (by simp (disch := omega) only [go_sem, ↓reduceIte] <;> rfl) Tab.go69 (by simp (disch := omega) only [go_sem] <;> rfl) (by simp (disch := omega) only [go_sem] <;> rfl) (SInlQ.part [(nx + 1, _)] (fun i => i ≠ nx + 1) c5 ?_ ?_ (row_part (.im _ _) (imR_clo _ _) (by omega) (by omega) (by omega) (by omega)) ?_)
      · intro id kk hg
        simp only [hget] at hg
        split at hg
        · rename_i e; exact fun h => h e
        · cases hg
      · intro id kk hg
        simp only [hget] at hg
        repeat' split at hg
        · omega
        · omega
        · omega
        · omega
        · cases hg
      rintro y hp' nx' ⟨rfl, rfl, rfl⟩
      have gl := imI_len w L
      have gt : (imR w (rI L)).take i = imR w (rI L) := zla (by omega)
      have x1 : (k = q) = False := eq_false (by omega)
      have x2 : (nx = q) = False := eq_false (by omega)
      have x3 : (nx + 1 = q) = False := eq_false (by omega)
      have x4 : (nx + 2 = q) = False := eq_false (by omega)
      by_cases he : s3.e = 0
      · have q3 : ((s3.e : Int) != 0) = false := by rw [he]; rfl
        rw [if_pos he] at hr
        have e4 := rI_app L l w
        have e5 : (L ++ [l]).length = L.length + 1 := zl1
        unfold rowH rdB
        simp only [zl8, zl7]
        (repeat (first | (with_reducible refine oz (by constructor <;> decide) ?_) | ((with_reducible first | apply SC.condB | apply SC.region | apply SO.run); (simp (disch := omega) only [go_sem, ↓reduceIte, zn1, zn3, zn4, reduceCtorEq, if_pos, if_neg, q3, gl, hil, gt, zl2, zl3, zl4, zna, zn8, zn9, x1, x2, x3, x4] <;> rfl); (first | refine pickF ?_ | fail_if_success with_reducible refine pickA ?_)) | (with_reducible apply SC.ops)))
        refine hK _ (i + 1, L ++ [l], s3, nx' + 1, nx' + 2) ?_ ⟨by simp only; omega, by simp only; omega, hr, hats, by simp only; omega, by simp only; omega⟩ (by simp only; omega)
        simp only [e4]
        unfold rowH rdB
        simp only [zl8, zl7]
        (refine Le.slots ?_ ?_ ?_ <;> (repeat' (first | exact znb _ | exact leSl_nil | refine leSl_cons (by simp (disch := omega) only [go_sem, ↓reduceIte, zn1] <;> rfl) ?_ ?_ | exact VLe.refl rfl | (refine fun id k h => ?_; simp only [hget] at h ⊢; (repeat' (split at h)) <;> first | (cases h; done) | (simp (disch := omega) only [if_pos, if_neg]; exact h)))))
      · have q3 : ((s3.e : Int) != 0) = true := by rw [bne_iff_ne]; omega
        rw [if_neg he] at hr
        cases hr
        unfold rowH rdB
        simp only [zl8, zl7]
        (repeat (first | (with_reducible refine oz (by constructor <;> decide) ?_) | ((with_reducible first | apply SC.condB | apply SC.region | apply SO.run); (simp (disch := omega) only [go_sem, ↓reduceIte, zn1, zn3, zn4, reduceCtorEq, if_neg, q3] <;> rfl); (first | refine pickT ?_ | fail_if_success with_reducible refine pickA ?_)) | (with_reducible apply SC.ops)))
        exact rd_retF hB hk Tryz.results49 (by simp (disch := omega) only [go_sem, ↓reduceIte, zn1, zn3, zn4] <;> rfl) (by simp (disch := omega) only [go_sem, ↓reduceIte] <;> rfl) ho rfl (by simp (disch := omega) only [go_sem, ↓reduceIte, if_neg] <;> rfl)
    · have q2 : decide ((i : Int) < (h : Int)) = false := by rw [decide_eq_false_iff_not]; omega
      have hie : i = h := by omega
      subst hie
      rw [Nat.sub_self, rowsR] at hr
      cases hr
      have gl := imI_len w M
      rw [hil] at gl
      have gt : (imR w (rI M)).take i = imR w (rI M) := zla (by omega)
      have gcl := imR_clo w (rI M)
      have kb : (k == q) = false := by rw [beq_eq_false_iff_ne]; omega
      unfold rowH rdB
      simp only [zl8, zl7]
      (repeat (first | (with_reducible refine oz (by constructor <;> decide) ?_) | ((with_reducible first | apply SC.condB | apply SC.region); (simp (disch := omega) only [go_sem, ↓reduceIte, zn1, zn2, zn3, zn4, if_neg, q2] <;> rfl); (first | refine pickF ?_ | fail_if_success with_reducible refine pickA ?_))))
      unfold mat at ho ⊢
      simp only [hil] at ho ⊢
      exact rd_retF hB hk Tryz.results49 (by simp (disch := omega) only [go_sem, ↓reduceIte, zn1, zn3, zn4] <;> rfl) (by simp (disch := omega) only [go_sem, ↓reduceIte, if_pos, if_neg, gl, gt, gcl, zl2, zn8] <;> rfl) ho rfl (by simp (disch := omega) only [go_sem, ↓reduceIte, if_pos, if_neg, kb, Bool.false_eq_true] <;> rfl)
def row_ (r : List Int) : List Int := r.flatMap int_
def mat_ (w : Nat) (M : List (List Int)) : List Int := num M.length ++ num w ++ M.flatMap row_
structure MatOk (w : Nat) (M : List (List Int)) : Prop where
  len : M.length ≤ 1000000
  wid : w ≤ 1000000
  row : ∀ r ∈ M, r.length = w ∧ ∀ x ∈ r, (limbsOf x.natAbs).length ≤ 10000000
theorem getD_el {α : Type} (l : List α) (d : α) {i : Nat} (h : i < l.length) : l.getD i d = l[i] := by simp [List.getD, h]
set_option maxHeartbeats 8000000 in
theorem putmat_s {w : Nat} {M : List (List Int)} (hM : MatOk w M) : PutA 28 [mat w M] (mat_ w M) := by
  have hl : (mat_ w M).length = (num M.length).length + (num w).length + (M.flatMap row_).length := by unfold mat_; simp only [zl1]
  refine PutA.of (by have := num_pos M.length; omega) fun id c cap nx hc hi => ?_
  obtain ⟨hh, hw, hr⟩ := hM
  have a1 := number_s M.length (by omega) id c cap (by omega)
  have a2 := number_s w (by omega) (nx + 1) (c ++ num M.length) none (by rw [zl1]; omega)
  rw [zl1] at a2
  have gl := imI_len w M
  unfold mat
  refine InlQ.run Tryz.func28 rfl Tryz.ntmps28 (by simp) (by simp (disch := omega) only [go_sem, zn4]; rfl) fun B hB => ?_
  (repeat (first | (with_reducible refine oz (by constructor <;> decide) ?_) | ((with_reducible first | apply SC.region | apply SO.run); (simp (disch := omega) only [go_sem, ↓reduceIte, zn1, reduceCtorEq] <;> rfl); (fail_if_success with_reducible refine pickA ?_)) | (with_reducible apply SC.ops)))
  (refine SO.callA Tab.go25 (by simp (disch := omega) only [go_sem, ↓reduceIte, zn1] <;> rfl) (by simp (disch := omega) only [go_sem] <;> rfl) (SApp.of (a1) (by simp (disch := omega) only [go_sem, ↓reduceIte, if_neg] <;> rfl) rfl (by simp (disch := omega) only [go_sem, ↓reduceIte, if_neg] <;> rfl) ?_))
  (repeat (first | (with_reducible refine oz (by constructor <;> decide) ?_) | ((with_reducible first | apply SC.region | apply SO.run); (simp (disch := omega) only [go_sem, ↓reduceIte, zn1, reduceCtorEq, if_neg] <;> rfl); (fail_if_success with_reducible refine pickA ?_)) | (with_reducible apply SC.ops)))
  (refine SO.callA Tab.go25 (by simp (disch := omega) only [go_sem, ↓reduceIte, zn1] <;> rfl) (by simp (disch := omega) only [go_sem] <;> rfl) (SApp.of (a2) (by simp (disch := omega) only [go_sem, ↓reduceIte] <;> rfl) rfl (by simp (disch := omega) only [go_sem, ↓reduceIte, if_neg] <;> rfl) ?_))
  (repeat (first | (with_reducible refine oz (by constructor <;> decide) ?_) | ((with_reducible first | apply SC.region | apply SO.run); (simp (disch := omega) only [go_sem, ↓reduceIte, zn1, reduceCtorEq, if_neg] <;> rfl); (fail_if_success with_reducible refine pickA ?_))))
  have hb : ∀ i, (c ++ num M.length ++ num w ++ (M.take i).flatMap row_).length = c.length + (num M.length).length + (num w).length + ((M.take i).flatMap row_).length := fun i => by simp only [zl1]
  refine SC.loop (fun z : Nat × Nat × Nat => ⟨[(0, .sl z.2.1 0 (c ++ num M.length ++ num w ++ (M.take z.1).flatMap row_).length 1 none), (20, .im (imR w (rI M)) M.length), (21, .sc (.int .i64 M.length)), (22, .sc (.int .i64 z.1))], [(z.2.1, ⟨5, bw (c ++ num M.length ++ num w ++ (M.take z.1).flatMap row_), false⟩)], z.2.2, 38⟩)
    (fun z => z.1 ≤ M.length ∧ nx < z.2.1 ∧ z.2.1 < z.2.2) (fun z => M.length - z.1) (0, nx + 2, nx + 3) ?_ ?_ ?_
  · simp only [zl4, List.flatMap_nil, List.append_nil, zl1]
    (refine Le.slots ?_ ?_ ?_ <;> (repeat' (first | exact znb _ | exact leSl_nil | refine leSl_cons (by simp (disch := omega) only [go_sem, ↓reduceIte, zn1, reduceCtorEq] <;> rfl) ?_ ?_ | exact VLe.refl rfl | (refine fun id k h => ?_; simp only [hget] at h ⊢; (repeat' (split at h)) <;> first | (cases h; done) | (simp (disch := omega) only [if_pos]; exact h)))))
  · exact ⟨znc _, by simp only; omega, by simp only; omega⟩
  · rintro ⟨i, q, m⟩ ⟨hi1, hq1, hq2⟩ K hK
    simp only at hi1 hq1 hq2 ⊢
    by_cases hlt : i < M.length
    · have q2 : decide ((i : Int) < (M.length : Int)) = true := by rw [decide_eq_true_iff]; omega
      have x0 : ((i : Int)).toNat = i := rfl
      have g1 := imI_get (w := w) (M := M) hlt
      rw [getD_el M [] hlt] at g1
      have h12 := hr M[i] (List.getElem_mem hlt)
      have hs := flat_snoc row_ M hlt
      have hle := flat_le row_ M (i + 1)
      have hbi := hb i
      rw [hs, zl1] at hle
      have e5 : (c ++ num M.length ++ num w ++ (M.take (i + 1)).flatMap row_) = (c ++ num M.length ++ num w ++ (M.take i).flatMap row_) ++ row_ M[i] := by rw [hs]; simp only [zl6]
      have hK2 := fun s q' m' h => hK s (i + 1, q', m') h
      simp only [e5] at hK2
      generalize hpre : c ++ num M.length ++ num w ++ (M.take i).flatMap row_ = pre at *
      generalize M[i] = r at *
      obtain ⟨hrl, hrf⟩ := h12
      (repeat (first | (with_reducible refine oz (by constructor <;> decide) ?_) | ((with_reducible first | apply SC.condB | apply SC.region); (simp (disch := omega) only [go_sem, ↓reduceIte, zn1, reduceCtorEq, if_pos, q2, x0, g1, gl, zl5, Nat.add_zero, zn8] <;> rfl); (first | refine pickT ?_ | fail_if_success with_reducible refine pickA ?_))))
      refine SC.loop (fun z : Nat × Nat × Nat => ⟨[(0, .sl z.2.1 0 (pre ++ (r.take z.1).flatMap int_).length 1 none), (20, .im (imR w (rI M)) M.length), (21, .sc (.int .i64 M.length)), (22, .sc (.int .i64 i)), (26, .im (ivR r) w), (27, .sc (.int .i64 w)), (28, .sc (.int .i64 z.1))], [(z.2.1, ⟨5, bw (pre ++ (r.take z.1).flatMap int_), false⟩)], z.2.2, 38⟩)
        (fun z => z.1 ≤ w ∧ nx < z.2.1 ∧ z.2.1 < z.2.2) (fun z => w - z.1) (0, q, m) ?_ ?_ ?_
      · simp only [zl4, List.flatMap_nil, List.append_nil]
        (refine Le.slots ?_ ?_ ?_ <;> (repeat' (first | (exact fun _ _ h => h) | exact znb _ | exact leSl_nil | refine leSl_cons (by simp (disch := omega) only [go_sem, ↓reduceIte, zn1, reduceCtorEq] <;> rfl) ?_ ?_ | exact VLe.refl rfl)))
      · exact ⟨znc _, hq1, hq2⟩
      · rintro ⟨j, q, m⟩ ⟨hj1, hq1, hq2⟩ K2 hK3
        simp only at hj1 hq1 hq2 ⊢
        have glr := ivR_len r
        by_cases hlt2 : j < w
        · have q3 : decide ((j : Int) < (w : Int)) = true := by rw [decide_eq_true_iff]; omega
          have x1 : ((j : Int)).toNat = j := rfl
          have hjr : j < r.length := by omega
          have gd := ivR_drop (l := r) (i := j) hjr
          have g2 : j * 2 < (ivR r).length := by omega
          rw [getD_el r 0 hjr] at gd
          have hs2 := flat_snoc int_ r hjr
          have hle2 := flat_le int_ r (j + 1)
          rw [hs2, zl1] at hle2
          have hrow : (row_ r).length = (r.flatMap int_).length := rfl
          have f1 := putint_s r[j] (by have := hrf r[j] (List.getElem_mem hjr); omega) q (pre ++ (r.take j).flatMap int_) none (by rw [zl1]; omega)
          have e6 : (pre ++ (r.take (j + 1)).flatMap int_) = (pre ++ (r.take j).flatMap int_) ++ int_ r[j] := by rw [hs2]; simp only [zl6]
          have e7 : (pre ++ (r.take j).flatMap int_ ++ int_ r[j]).length = (pre ++ (r.take j).flatMap int_).length + (int_ r[j]).length := zl1
          have hK4 := fun s q' m' h => hK3 s (j + 1, q', m') h
          simp only [e6, e7] at hK4
          generalize pre ++ (r.take j).flatMap int_ = pre2 at *
          generalize (ivR r).drop ((j + 1) * 2) = D at *
          generalize ivR r = A at *
          generalize r[j] = z at *
          unfold iv sv at f1
          unfold ivC sv at gd
          simp only [zl8, zl7] at gd
          (repeat (first | (with_reducible refine oz (by constructor <;> decide) ?_) | ((with_reducible first | apply SC.condB | apply SC.region | apply SO.run); (simp (disch := omega) only [go_sem, ↓reduceIte, zn1, zn3, zn4, reduceCtorEq, if_pos, q3, x1, gd, g2, zl3, zl4] <;> rfl); (first | refine pickT ?_ | fail_if_success with_reducible refine pickA ?_)) | (with_reducible apply SC.ops)))
          (refine SO.callA Tab.go24 (by simp (disch := omega) only [go_sem, ↓reduceIte, zn1] <;> rfl) (by simp (disch := omega) only [go_sem] <;> rfl) (SApp.of (f1) (by simp (disch := omega) only [go_sem, ↓reduceIte, if_neg] <;> rfl) rfl (by simp (disch := omega) only [go_sem, ↓reduceIte, if_neg] <;> rfl) ?_))
          (repeat (first | (with_reducible refine oz (by constructor <;> decide) ?_) | ((with_reducible first | apply SC.region | apply SO.run); (simp (disch := omega) only [go_sem, ↓reduceIte, zn1, reduceCtorEq] <;> rfl); (fail_if_success with_reducible refine pickA ?_))))
          refine hK4 _ (m + 1) (m + 2) ?_ ⟨by omega, by omega, by omega⟩ (by omega)
          (refine Le.slots ?_ ?_ ?_ <;> (repeat' (first | exact znb _ | exact leSl_nil | refine leSl_cons (by simp (disch := omega) only [go_sem, ↓reduceIte, zn1, reduceCtorEq] <;> rfl) ?_ ?_ | exact VLe.refl rfl | (refine fun id k h => ?_; simp only [hget] at h ⊢; (repeat' (split at h)) <;> first | (cases h; done) | (simp (disch := omega) only [if_pos]; exact h)))))
        · have q3 : decide ((j : Int) < (w : Int)) = false := by rw [decide_eq_false_iff_not]; omega
          have hje : j = w := by omega
          subst hje
          have er : (r.take j).flatMap int_ = row_ r := by rw [zla (by omega)]; rfl
          rw [er]
          (repeat (first | (with_reducible refine oz (by constructor <;> decide) ?_) | ((with_reducible first | apply SC.condB | apply SC.region); (simp (disch := omega) only [go_sem, ↓reduceIte, zn1, reduceCtorEq, q3] <;> rfl); (first | refine pickF ?_ | fail_if_success with_reducible refine pickA ?_))))
          refine hK2 _ q m ?_ ⟨by omega, by omega, by omega⟩ (by omega)
          (refine Le.slots ?_ ?_ ?_ <;> (repeat' (first | (exact fun _ _ h => h) | exact znb _ | exact leSl_nil | refine leSl_cons (by simp (disch := omega) only [go_sem, ↓reduceIte, zn1, reduceCtorEq] <;> rfl) ?_ ?_ | exact VLe.refl rfl)))
    · have q2 : decide ((i : Int) < (M.length : Int)) = false := by rw [decide_eq_false_iff_not]; omega
      have hie : i = M.length := by omega
      subst hie
      rw [List.take_length] at *
      (repeat (first | (with_reducible refine oz (by constructor <;> decide) ?_) | ((with_reducible first | apply SC.condB | apply SC.region); (simp (disch := omega) only [go_sem, ↓reduceIte, zn1, zn2, reduceCtorEq, q2] <;> rfl); (first | refine pickF ?_ | fail_if_success with_reducible refine pickA ?_))))
      have e : bw (c ++ mat_ w M) = bw (c ++ num M.length ++ num w ++ M.flatMap row_) := by unfold mat_; simp only [zl6]
      have e2 : (c ++ num M.length ++ num w ++ M.flatMap row_).length = c.length + (mat_ w M).length := by simp only [zl1]; omega
      rw [e2]
      refine retIQ_ret (.sl q 0 (c.length + (mat_ w M).length) 1 none) [(q, ⟨5, bw (c ++ mat_ w M), false⟩)] m Tryz.results28 (by simp (disch := omega) only [go_sem, ↓reduceIte]; rfl) ⟨q, by omega, rfl, rfl⟩ ?_
      rw [e]
      (refine Le.slots ?_ ?_ ?_ <;> (repeat' (first | (exact fun _ _ h => h) | exact znb _ | exact leSl_nil | refine leSl_cons (by simp (disch := omega) only [go_sem, ↓reduceIte] <;> rfl) ?_ ?_ | exact VLe.refl rfl)))
theorem idlePM : Idle Tryz.prog 42 := Idle.of Tab.go42 Tryz.func42 rfl rfl rfl rfl Tryz.ntmps42 Tryz.results42
theorem PutMat_s {b : List Int} {w : Nat} {M : List (List Int)} (hM : MatOk w M) (hb : b.length + (mat_ w M).length ≤ 1000000000) : Spec Tryz.prog 12 [.im (bw b) b.length, mat w M] (.im (bw (b ++ mat_ w M)) (b ++ mat_ w M).length) := by
  have a1 := cloneB_s (b := b) (by omega)
  have a2 := putmat_s hM 1 b none (by omega)
  have gl := bw_len (b ++ mat_ w M)
  have gle : (b ++ mat_ w M).length = b.length + (mat_ w M).length := zl1
  have gcl := bw_clo (b ++ mat_ w M)
  refine Spec.runD Tryz.func12 rfl rfl rfl rfl idlePM Tryz.ntmps12 (by simp) rfl (by simp (disch := omega) only [go_sem, ↓reduceIte, zn4, reduceCtorEq]; rfl) fun B hB => ?_
  unfold mat at a2 ⊢
  (repeat ((with_reducible refine oz (by constructor <;> decide) ?_)))
  (refine SC.draw Tab.mixed rfl ?_)
  (repeat (refine DO.run (by simp (disch := omega) only [go_sem, ↓reduceIte, reduceCtorEq]; rfl) ?_))
  (refine DO.callN Tab.go23 (by simp (disch := omega) only [go_sem, ↓reduceIte]; rfl) (by simp (disch := omega) only [go_sem] <;> rfl) ?_; refine DNew.of (a1) rfl (by simp (disch := omega) only [go_sem, zn4]; rfl) ?_)
  (repeat (refine DO.run (by simp (disch := omega) only [go_sem, ↓reduceIte, zn1, zn2, zn3, zn4, reduceCtorEq]; rfl) ?_))
  (refine DO.callA Tab.go28 (by simp (disch := omega) only [go_sem, ↓reduceIte, zn1] <;> rfl) (by simp (disch := omega) only [go_sem, zn2] <;> rfl) (DApp.of (a2) (by simp (disch := omega) only [go_sem, ↓reduceIte] <;> rfl) rfl (by simp (disch := omega) only [go_sem, ↓reduceIte, zn4, reduceCtorEq] <;> rfl) ?_))
  (repeat (refine DO.run (by simp (disch := omega) only [go_sem, ↓reduceIte]; rfl) ?_))
  (refine DO.nil (by kernel_rfl) ?_)
  (repeat ((with_reducible refine oz (by constructor <;> decide) ?_)))
  have gt : (bw (b ++ mat_ w M)).take (b.length + (mat_ w M).length) = bw (b ++ mat_ w M) := zla (by omega)
  rw [gle]
  exact retQ_ret Tryz.results12 (by simp (disch := omega) only [go_sem, ↓reduceIte] <;> rfl) (by simp (disch := omega) only [go_sem, ↓reduceIte, if_pos, gl, gle, gcl, gt, zl2, zn8] <;> rfl) rfl
end Go.Proofs.YtphilljhfdlfdaaGreat
namespace Go.Proofs.YtphilljhfdlfdaaGreat
theorem rowR_stk (b : List Int) (n : Nat) : ∀ (f : Nat) (s : Rd) (acc : List Int), s.e ≠ 0 → (rowR b n f s acc).2.e = s.e
  | 0, _, _, _ => rfl
  | f + 1, s, acc, h => by
    have h1 := int_stk b n s h
    rw [rowR, rowR_stk b n f _ _ (by rw [h1]; exact h), h1]
theorem rowR_rds {b : List Int} {n : Nat} : ∀ (l acc : List Int) (p : Nat), (∀ x ∈ l, (limbsOf x.natAbs).length ≤ 4000) → At b n p (l.flatMap int_) → p ≤ n →
    (p + (l.flatMap int_).length ≤ n → rowR b n l.length ⟨p, 0⟩ acc = (acc ++ l, ⟨p + (l.flatMap int_).length, 0⟩)) ∧ (n < p + (l.flatMap int_).length → (rowR b n l.length ⟨p, 0⟩ acc).2.e = 5)
  | [], acc, p, _, _, hp => ⟨fun _ => by simp [rowR], fun h => by simp at h; omega⟩
  | x :: l, acc, p, h, ha, hp => by
    rw [List.flatMap_cons] at ha ⊢
    rw [zl1, List.length_cons]
    obtain ⟨h1, h2⟩ := int_rds b n (h x (by simp)) p ha.left hp
    rw [rowR]
    by_cases hc : p + (int_ x).length ≤ n
    · rw [h1 hc]
      obtain ⟨r1, r2⟩ := rowR_rds l (acc ++ [x]) (p + (int_ x).length) (fun y hy => h y (by simp [hy])) ha.right hc
      simp only
      refine ⟨fun hl => ?_, fun hl => r2 (by omega)⟩
      rw [r1 (by omega)]
      simp [znf]
    · have h5 := h2 (by omega)
      refine ⟨fun h => by omega, fun _ => ?_⟩
      rw [rowR_stk _ _ _ _ _ (by rw [h5]; decide)]
      exact h5
theorem row_rds {b : List Int} {n w p : Nat} {r : List Int} (hw : r.length = w) (hr : ∀ x ∈ r, (limbsOf x.natAbs).length ≤ 4000) (ha : At b n p (row_ r)) (hp : p ≤ n) :
    (p + (row_ r).length ≤ n → Rd.row b n w ⟨p, 0⟩ = (r, ⟨p + (row_ r).length, 0⟩)) ∧ (n < p + (row_ r).length → (Rd.row b n w ⟨p, 0⟩).2.e = 5) := by
  subst hw
  obtain ⟨h1, h2⟩ := rowR_rds r [] p hr ha hp
  unfold Rd.row
  exact ⟨fun h => by rw [h1 h, zl7]; rfl, h2⟩
theorem rowsR_rds {b : List Int} {n w : Nat} : ∀ (M acc : List (List Int)) (p : Nat), (∀ r ∈ M, r.length = w ∧ ∀ x ∈ r, (limbsOf x.natAbs).length ≤ 4000) → At b n p (M.flatMap row_) → p ≤ n →
    (p + (M.flatMap row_).length ≤ n → rowsR b n w M.length ⟨p, 0⟩ acc = ((w, acc ++ M), ⟨p + (M.flatMap row_).length, 0⟩)) ∧ (n < p + (M.flatMap row_).length → (rowsR b n w M.length ⟨p, 0⟩ acc).2.e = 5)
  | [], acc, p, _, _, hp => ⟨fun _ => by simp [rowsR], fun h => by simp at h; omega⟩
  | x :: l, acc, p, h, ha, hp => by
    rw [List.flatMap_cons] at ha ⊢
    rw [zl1, List.length_cons]
    obtain ⟨hw, hx⟩ := h x (by simp)
    obtain ⟨h1, h2⟩ := row_rds hw hx ha.left hp
    rw [rowsR]
    by_cases hc : p + (row_ x).length ≤ n
    · rw [h1 hc]
      obtain ⟨r1, r2⟩ := rowsR_rds l (acc ++ [x]) (p + (row_ x).length) (fun y hy => h y (by simp [hy])) ha.right hc
      simp only [if_true]
      refine ⟨fun hl => ?_, fun hl => r2 (by omega)⟩
      rw [r1 (by omega)]
      simp [znf]
    · have h5 := h2 (by omega)
      refine ⟨fun h => by omega, fun _ => ?_⟩
      rw [if_neg (by rw [h5]; decide)]
      exact h5
theorem rowsR_stk (b : List Int) (n w f : Nat) {s : Rd} (acc : List (List Int)) (h : s.e ≠ 0) : (rowsR b n w f s acc).2.e = s.e := by
  cases f with
  | zero => rfl
  | succ f =>
    have h1 : (s.row b n w).2.e = s.e := rowR_stk b n w s [] h
    rw [rowsR, if_neg (by rw [h1]; exact h)]
    exact h1
theorem mat_stk (b : List Int) (n : Nat) : Stk (Rd.mat b n) := fun s hs => by
  have h1 := size_stk b n 64 s hs
  have h2 := size_stk b n 64 (s.size b n 64).2 (by rw [h1]; exact hs)
  unfold Rd.mat
  rw [rowsR_stk _ _ _ _ _ (by rw [h2, h1]; exact hs), h2, h1]
structure MatFit (w : Nat) (M : List (List Int)) : Prop where
  len : M.length ≤ 64
  wid : w ≤ 64
  row : ∀ r ∈ M, r.length = w ∧ ∀ x ∈ r, (limbsOf x.natAbs).length ≤ 4000
theorem mat_rds (b : List Int) (n : Nat) {w : Nat} {M : List (List Int)} (h : MatFit w M) : Rds b n (Rd.mat b n) (mat_ w M) (w, M) := fun p ha hp => by
  have e : mat_ w M = num M.length ++ (num w ++ M.flatMap row_) := by unfold mat_; rw [zl6]
  rw [e] at ha ⊢
  rw [zl1, zl1]
  obtain ⟨h1, h2⟩ := size_rds b n 64 M.length h.len (by omega) p ha.left hp
  unfold Rd.mat
  by_cases hc : p + (num M.length).length ≤ n
  · rw [h1 hc]
    obtain ⟨g1, g2⟩ := size_rds b n 64 w h.wid (by omega) _ ha.right.left hc
    simp only
    by_cases hd : p + (num M.length).length + (num w).length ≤ n
    · rw [g1 hd]
      obtain ⟨r1, r2⟩ := rowsR_rds M [] _ h.row ha.right.right hd
      simp only
      refine ⟨fun hl => ?_, fun hl => r2 (by omega)⟩
      rw [r1 (by omega)]
      simp [znf]
    · have h5 := g2 (by omega)
      refine ⟨fun h => by omega, fun _ => ?_⟩
      rw [rowsR_stk _ _ _ _ _ (by rw [h5]; decide)]
      exact h5
  · have h5 := h2 (by omega)
    have h6 := size_stk b n 64 (Rd.size b n 64 ⟨p, 0⟩).2 (by rw [h5]; decide)
    refine ⟨fun h => by omega, fun _ => ?_⟩
    rw [rowsR_stk _ _ _ _ _ (by rw [h6, h5]; decide), h6, h5]
def noM : Nat × List (List Int) := (0, [])
def gotM (b : List Int) (n : Nat) (at_ : Int) : (Nat × List (List Int)) × Nat × Nat := if at_ < 0 ∨ at_ > n then (noM, 0, 1) else if (Rd.mat b n ⟨at_.toNat, 0⟩).2.e = 0 then ((Rd.mat b n ⟨at_.toNat, 0⟩).1, (Rd.mat b n ⟨at_.toNat, 0⟩).2.at_, 0) else (noM, 0, (Rd.mat b n ⟨at_.toNat, 0⟩).2.e)
def tuM (r : (Nat × List (List Int)) × Nat × Nat) : V := .tu [mat r.1.1 r.1.2, .sc (.int .i64 r.2.1), .sc (.int .i64 r.2.2)]
set_option maxHeartbeats 4000000 in
theorem gotM_s (b : List Int) (n : Nat) (at_ : Int) (hu : U8s b) (hn : n ≤ b.length) (hb : n ≤ 1000000000) :
    Spec Tryz.prog 48 [.im (bw b) n, .sc (.int .i64 at_), .sc (.func (.func 49) #[] #[])] (tuM (gotM b n at_)) := by
  unfold gotM
  by_cases h0 : at_ < 0
  · have q1 : decide (at_ < 0) = true := decide_eq_true h0
    rw [if_pos (.inl h0)]
    refine Spec.run Tryz.func48 rfl Tryz.ntmps48 (by simp) (by simp only [go_sem, zn4]; rfl) fun B hB => ?_
    (repeat (first | (with_reducible refine oz (by constructor <;> decide) ?_) | ((with_reducible first | apply SC.condB | apply SC.region); (simp (disch := omega) only [go_sem, ↓reduceIte, zn1, zn3, zn4, reduceCtorEq, q1] <;> rfl); (first | refine pickT ?_ | fail_if_success with_reducible refine pickA ?_))))
    exact retQ_ret Tryz.results48 (by simp (disch := omega) only [go_sem, ↓reduceIte, zn1, zn3, zn4, reduceCtorEq] <;> rfl) (by simp (disch := omega) only [go_sem, ↓reduceIte] <;> rfl) rfl
  · have q1 : decide (at_ < 0) = false := decide_eq_false h0
    by_cases h1 : at_ > n
    · have q2 : decide (at_ > (n : Int)) = true := decide_eq_true h1
      rw [if_pos (.inr h1)]
      refine Spec.run Tryz.func48 rfl Tryz.ntmps48 (by simp) (by simp only [go_sem, zn4]; rfl) fun B hB => ?_
      (repeat (first | (with_reducible refine oz (by constructor <;> decide) ?_) | ((with_reducible first | apply SC.condB | apply SC.region); (simp (disch := omega) only [go_sem, ↓reduceIte, zn1, zn3, zn4, reduceCtorEq, q1, q2] <;> rfl); (first | refine pickT ?_ | fail_if_success with_reducible refine pickA ?_))))
      exact retQ_ret Tryz.results48 (by simp (disch := omega) only [go_sem, ↓reduceIte, zn1, zn3, zn4, reduceCtorEq] <;> rfl) (by simp (disch := omega) only [go_sem, ↓reduceIte] <;> rfl) rfl
    · have q2 : decide (at_ > (n : Int)) = false := decide_eq_false h1
      rw [if_neg (by omega)]
      obtain ⟨a, rfl⟩ : ∃ a : Nat, at_ = a := ⟨at_.toNat, by omega⟩
      have c1 := rmat_s b n ⟨a, 0⟩ hu hn hb (by simp only; omega)
      rw [show ((a : Int)).toNat = a from rfl]
      generalize Rd.mat b n ⟨a, 0⟩ = r at *
      obtain ⟨⟨zw, zM⟩, s⟩ := r
      simp only at c1 ⊢
      unfold rdB at c1
      by_cases he : s.e = 0
      · have q3 : ((s.e : Int) != 0) = false := by rw [he]; rfl
        rw [if_pos he]
        unfold tuM
        simp only
        unfold mat at c1 ⊢
        refine Spec.run Tryz.func48 rfl Tryz.ntmps48 (by simp) (by simp only [go_sem, zn4]; rfl) fun B hB => ?_
        (repeat (first | (with_reducible refine oz (by constructor <;> decide) ?_) | ((with_reducible first | apply SC.condB | apply SC.region | apply SO.run); (simp (disch := omega) only [go_sem, ↓reduceIte, zn1, zn3, zn4, reduceCtorEq, q1, q2] <;> rfl); (first | refine pickF ?_ | fail_if_success with_reducible refine pickA ?_)) | (with_reducible apply SC.ops)))
        (refine SO.inlQ (by simp (disch := omega) only [go_sem, ↓reduceIte, zn1] <;> rfl) Tab.go49 (by simp (disch := omega) only [go_sem, ↓reduceIte] <;> rfl) (by simp (disch := omega) only [go_sem] <;> rfl) (SInlQ.rd (c1) (by simp (disch := omega) only [go_sem, ↓reduceIte] <;> rfl) rfl (by (dsimp only; omega)) (by simp (disch := omega) only [go_sem, ↓reduceIte] <;> rfl) ?_))
        (repeat (first | refine DO.nil (by kernel_rfl) ?_ | (with_reducible refine oz (by constructor <;> decide) ?_) | ((with_reducible first | apply wa | apply wb | apply wc | apply wd); (simp only [go_sem, ↓reduceIte, zn1, zn2, zn3, zn4, reduceCtorEq, q3] <;> rfl); (first | refine pickF ?_ | fail_if_success with_reducible refine pickA ?_)) | ((with_reducible refine SC.draw Tab.mixed ?_ ?_); rfl)))
        exact retQ_ret Tryz.results48 (by simp only [go_sem, ↓reduceIte, zn1, zn3, zn4, reduceCtorEq] <;> rfl) (by simp only [go_sem, ↓reduceIte] <;> rfl) rfl
      · have q3 : ((s.e : Int) != 0) = true := by rw [bne_iff_ne]; omega
        rw [if_neg he]
        unfold mat at c1
        refine Spec.run Tryz.func48 rfl Tryz.ntmps48 (by simp) (by simp only [go_sem, zn4]; rfl) fun B hB => ?_
        (repeat (first | (with_reducible refine oz (by constructor <;> decide) ?_) | ((with_reducible first | apply SC.condB | apply SC.region | apply SO.run); (simp (disch := omega) only [go_sem, ↓reduceIte, zn1, zn3, zn4, reduceCtorEq, q1, q2] <;> rfl); (first | refine pickF ?_ | fail_if_success with_reducible refine pickA ?_)) | (with_reducible apply SC.ops)))
        (refine SO.inlQ (by simp (disch := omega) only [go_sem, ↓reduceIte, zn1] <;> rfl) Tab.go49 (by simp (disch := omega) only [go_sem, ↓reduceIte] <;> rfl) (by simp (disch := omega) only [go_sem] <;> rfl) (SInlQ.rd (c1) (by simp (disch := omega) only [go_sem, ↓reduceIte] <;> rfl) rfl (by (dsimp only; omega)) (by simp (disch := omega) only [go_sem, ↓reduceIte] <;> rfl) ?_))
        (repeat (first | refine DO.nil (by kernel_rfl) ?_ | (with_reducible refine oz (by constructor <;> decide) ?_) | ((with_reducible first | apply wa | apply wb | apply wc | apply wd); (simp (disch := omega) only [go_sem, ↓reduceIte, zn1, zn3, zn4, reduceCtorEq, q3] <;> rfl); (first | refine pickT ?_ | fail_if_success with_reducible refine pickA ?_)) | ((with_reducible refine SC.draw Tab.mixed ?_ ?_); rfl)))
        exact retQ_ret Tryz.results48 (by simp only [go_sem, ↓reduceIte, zn1, zn3, zn4, reduceCtorEq] <;> rfl) (by simp only [go_sem, ↓reduceIte] <;> rfl) rfl
theorem idleGM : Idle Tryz.prog 47 := Idle.of Tab.go47 Tryz.func47 rfl rfl rfl rfl Tryz.ntmps47 Tryz.results47
theorem GetMat_s (b : List Int) (n : Nat) (at_ : Int) (hu : U8s b) (hn : n ≤ b.length) (hb : n ≤ 1000000000) :
    Spec Tryz.prog 15 [.im (bw b) n, .sc (.int .i64 at_)] (tuM (gotM b n at_)) := by
  have c1 := gotM_s b n at_ hu hn hb
  generalize gotM b n at_ = r at *
  obtain ⟨⟨zw, zM⟩, i, e⟩ := r
  unfold tuM mat at c1 ⊢
  simp only at c1 ⊢
  refine Spec.runD Tryz.func15 rfl rfl rfl rfl idleGM Tryz.ntmps15 (by simp) (by simp only [go_sem, zn4]; rfl) (by simp only [go_sem, ↓reduceIte]; rfl) fun B hB => ?_
  (repeat (first | (with_reducible refine oz (by constructor <;> decide) ?_) | ((apply SO.call); (iterate 3 (simp (disch := omega) only [go_sem, ↓reduceIte, zn1] <;> rfl)); (apply SCall.ofX); (assumption); (simp (disch := omega) only [go_sem] <;> rfl)) | ((with_reducible first | apply SC.region | apply SO.run); (simp (disch := omega) only [go_sem, ↓reduceIte, zn1, zn2, zn3, zn4, reduceCtorEq] <;> rfl); (fail_if_success with_reducible refine pickA ?_)) | (with_reducible apply SC.ops)))
  exact retQ_ret Tryz.results15 (by simp (disch := omega) only [go_sem, ↓reduceIte, zn1, zn3, zn4] <;> rfl) (by simp (disch := omega) only [go_sem, ↓reduceIte] <;> rfl) rfl
theorem bytesV_bw : ∀ l : List Int, bytesV (bw l) = some (l.map fun n => UInt8.ofNat n.toNat)
  | [] => rfl
  | x :: l => by
    show bytesV (.sc (.int .u8 x) :: bw l) = _
    rw [bytesV, bytesV_bw l]; rfl
theorem conv_bw {hp : List (Nat × Blk)} (l : List Int) : exConvH Tryz.prog hp 37 9 (.im (bw l) l.length) = some (.sc (.string ⟨(l.map fun n => UInt8.ofNat n.toNat).toArray⟩)) := by
  show bytesH _ _ _ _ _ = _
  unfold bytesH
  have t1 : isStr Tryz.prog 9 = true := by kernel_rfl
  have t2 : isBytes Tryz.prog 37 = true := by kernel_rfl
  rw [if_pos ⟨t1, t2⟩]
  have e : srcV hp (.im (bw l) l.length) = some (bw l, l.length) := rfl
  rw [e]
  simp only [Option.bind_some]
  rw [if_pos (bw_len l), bytesV_bw]; rfl
theorem same_s (a : List Int) : Spec Tryz.prog 7 [.im (bw a) a.length, .im (bw a) a.length] (.sc (.bool true)) := by
  have e1 := fun hp => conv_bw (hp := hp) a
  refine Spec.run Tryz.func7 rfl Tryz.ntmps7 (by simp) (by simp only [go_sem, zn4]; rfl) fun B hB => ?_
  (repeat (first | (with_reducible refine oz (by constructor <;> decide) ?_) | ((with_reducible apply SC.region); (simp only [go_sem, ↓reduceIte, zn1, zn2, reduceCtorEq, e1] <;> rfl); (fail_if_success with_reducible refine pickA ?_))))
  exact retQ_ret Tryz.results7 (by simp only [go_sem, ↓reduceIte, beq_self_eq_true] <;> rfl) (by simp only [go_sem, ↓reduceIte, beq_self_eq_true] <;> rfl) rfl
theorem Spec.nil1 {P : Program} {f : Nat} {xs : List V} {x : V} (h : Spec P f (.im [] 0 :: xs) x) : Spec P f (.sc (.slice none 0 0) :: xs) x := by
  intro S w vs hS hT ha
  refine h S w vs hS hT ⟨ha.1, fun i y u hy hu => ?_⟩
  cases i with
  | zero =>
    cases hy
    have := ha.2 0 _ u rfl hu
    cases this
    exact .im0 (znb _) (by unfold maxLen; omega) (fun _ => rfl)
  | succ i => exact ha.2 (i + 1) y u hy hu
def inlN (f : Nat) : Bool := f == 43
theorem ints_san : Spec Tryz.prog 13 [.sc (.int .i64 2), .sc (.int .i64 1), .im [.sc (.int .i64 2), .sc (.int .i64 0)] 2] (.ag [.sc (.int .i64 2), .sc (.int .i64 1), .im [.im [.sc (.bool false), .im [.sc (.int .u32 2)] 1] 1, .im [.sc (.bool false), .im [] 0] 1] 2]) :=
  Spec.eval (K := fun _ _ => none) (fun _ _ _ h => by cases h) 200 inlN (by kernel_rfl)
theorem u8s_of {l : List Int} (h : (l.all fun x => decide (0 ≤ x) && decide (x < 256)) = true) : U8s l := fun x hx => by
  have := List.all_eq_true.1 h x hx
  rw [Bool.and_eq_true, decide_eq_true_eq, decide_eq_true_eq] at this
  exact this
theorem gi_san {l : List Int} {m : Nat} {a : Int} {r : Int × Nat × Nat} (h : (l.all fun x => decide (0 ≤ x) && decide (x < 256)) = true) (hm : m = l.length) (hm2 : m ≤ 100) (hr : getI l m a = r) : Spec Tryz.prog 14 [.im (bw l) m, .sc (.int .i64 a)] (tuI r) := by
  subst hr; subst hm
  exact GetInt_s l l.length a (u8s_of h) (znb _) (by omega)
theorem gh_san {l : List Int} {m : Nat} {a : Int} {r : Hst × Nat × Nat} (h : (l.all fun x => decide (0 ≤ x) && decide (x < 256)) = true) (hm : m = l.length) (hm2 : m ≤ 100) (hr : getH l m a = r) : Spec Tryz.prog 16 [.im (bw l) m, .sc (.int .i64 a)] (tuH r) := by
  subst hr; subst hm
  exact GetHistory_s l l.length a (u8s_of h) (znb _) (by omega)
theorem sv_san {l : List Int} {m : Nat} {r : Hst × Nat} (h : (l.all fun x => decide (0 ≤ x) && decide (x < 256)) = true) (hm : m = l.length) (hm2 : m ≤ 100) (hr : salH l m = r) : Spec Tryz.prog 17 [.im (bw l) m] (tuS r) := by
  subst hr; subst hm
  exact Salvage_s l l.length (u8s_of h) (znb _) (by omega)
theorem i_san : int_ (-1) = [3, 1, 0, 0, 0] := by
  unfold int_
  rw [num_lt (by decide)]
  rfl
theorem m_san : mat_ 1 [[2], [0]] = [2, 1, 2, 2, 0, 0, 0, 0] := by
  have e : mat_ 1 [[2], [0]] = num 2 ++ num 1 ++ ((int_ 2 ++ []) ++ ((int_ 0 ++ []) ++ [])) := rfl
  rw [e, num_lt (by decide), num_lt (by decide)]
  unfold int_
  rw [num_lt (by decide), num_lt (by decide)]
  rfl
set_option maxHeartbeats 8000000 in
set_option maxRecDepth 8000 in
theorem sanity_s : Spec Tryz.prog 4 [] (.sc (.bool true)) := by
  have c1 : Spec Tryz.prog 11 [.sc (.int .i64 (-1))] (.ag [.sc (.bool true), .im [.sc (.int .u32 1)] 1]) := of_i (-1) (by decide) (by decide)
  have c2 : Spec Tryz.prog 10 [.sc (.slice none 0 0), .ag [.sc (.bool true), .im [.sc (.int .u32 1)] 1]] (.im [.sc (.int .u8 3), .sc (.int .u8 1), .sc (.int .u8 0), .sc (.int .u8 0), .sc (.int .u8 0)] 5) := by
    have h := PutInt_s (b := []) (-1) (by decide) (by decide)
    rw [i_san] at h
    exact Spec.nil1 h
  have c2' : Spec Tryz.prog 10 [.im [] 0, .ag [.sc (.bool true), .im [.sc (.int .u32 1)] 1]] (.im [.sc (.int .u8 3), .sc (.int .u8 1), .sc (.int .u8 0), .sc (.int .u8 0), .sc (.int .u8 0)] 5) := by
    have h := PutInt_s (b := []) (-1) (by decide) (by decide)
    rw [i_san] at h
    exact h
  have c3 := ints_san
  have c4 : Spec Tryz.prog 12 [.im [.sc (.int .u8 9)] 1, .ag [.sc (.int .i64 2), .sc (.int .i64 1), .im [.im [.sc (.bool false), .im [.sc (.int .u32 2)] 1] 1, .im [.sc (.bool false), .im [] 0] 1] 2]] (.im [.sc (.int .u8 9), .sc (.int .u8 2), .sc (.int .u8 1), .sc (.int .u8 2), .sc (.int .u8 2), .sc (.int .u8 0), .sc (.int .u8 0), .sc (.int .u8 0), .sc (.int .u8 0)] 9) := by
    have h := PutMat_s (b := [9]) (w := 1) (M := [[2], [0]]) ⟨by decide, by decide, by decide⟩ (by rw [m_san]; decide)
    rw [m_san] at h
    exact h
  have c5 : Spec Tryz.prog 14 [.im [.sc (.int .u8 1)] 1, .sc (.int .i64 0)] (.tu [.ag [.sc (.bool false), .im [] 0], .sc (.int .i64 0), .sc (.int .i64 4)]) := gi_san (l := [1]) (r := (0, 0, 4)) rfl rfl (by decide) (by kernel_rfl)
  have c6 : Spec Tryz.prog 14 [.im [.sc (.int .u8 2), .sc (.int .u8 0), .sc (.int .u8 0), .sc (.int .u8 0)] 4, .sc (.int .i64 0)] (.tu [.ag [.sc (.bool false), .im [] 0], .sc (.int .i64 0), .sc (.int .i64 5)]) := gi_san (l := [2, 0, 0, 0]) (r := (0, 0, 5)) rfl rfl (by decide) (by kernel_rfl)
  have c7 : Spec Tryz.prog 14 [.im [.sc (.int .u8 2), .sc (.int .u8 0), .sc (.int .u8 0), .sc (.int .u8 0), .sc (.int .u8 0)] 5, .sc (.int .i64 0)] (.tu [.ag [.sc (.bool false), .im [] 0], .sc (.int .i64 0), .sc (.int .i64 4)]) := gi_san (l := [2, 0, 0, 0, 0]) (r := (0, 0, 4)) rfl rfl (by decide) (by kernel_rfl)
  have c8 : Spec Tryz.prog 14 [.im [.sc (.int .u8 128), .sc (.int .u8 0)] 2, .sc (.int .i64 0)] (.tu [.ag [.sc (.bool false), .im [] 0], .sc (.int .i64 0), .sc (.int .i64 4)]) := gi_san (l := [128, 0]) (r := (0, 0, 4)) rfl rfl (by decide) (by kernel_rfl)
  have c9 : Spec Tryz.prog 14 [.sc (.slice none 0 0), .sc (.int .i64 1)] (.tu [.ag [.sc (.bool false), .im [] 0], .sc (.int .i64 0), .sc (.int .i64 1)]) := Spec.nil1 (gi_san (l := []) (r := (0, 0, 1)) rfl rfl (by decide) (by kernel_rfl))
  have c9' : Spec Tryz.prog 14 [.im [] 0, .sc (.int .i64 1)] (.tu [.ag [.sc (.bool false), .im [] 0], .sc (.int .i64 0), .sc (.int .i64 1)]) := gi_san (l := []) (r := (0, 0, 1)) rfl rfl (by decide) (by kernel_rfl)
  have c10 : Spec Tryz.prog 15 [.im [.sc (.int .u8 65), .sc (.int .u8 0)] 2, .sc (.int .i64 0)] (.tu [.ag [.sc (.int .i64 0), .sc (.int .i64 0), .im [] 0], .sc (.int .i64 0), .sc (.int .i64 2)]) := by
    have h := GetMat_s [65, 0] 2 0 (u8s_of rfl) (by decide) (by decide)
    have e : gotM [65, 0] 2 0 = ((0, []), 0, 2) := by kernel_rfl
    rw [e] at h
    exact h
  have c11 : Spec Tryz.prog 16 [.im [.sc (.int .u8 4), .sc (.int .u8 0), .sc (.int .u8 0)] 3, .sc (.int .i64 0)] (.tu [.ag [.sc (.int .i64 2), .im [] 0, .im [] 0], .sc (.int .i64 3), .sc (.int .i64 0)]) := gh_san (l := [4, 0, 0]) (r := (⟨2, [], []⟩, 3, 0)) rfl rfl (by decide) (by kernel_rfl)
  have c12 : Spec Tryz.prog 16 [.im [.sc (.int .u8 4), .sc (.int .u8 0), .sc (.int .u8 2)] 3, .sc (.int .i64 0)] (.tu [.ag [.sc (.int .i64 0), .im [] 0, .im [] 0], .sc (.int .i64 0), .sc (.int .i64 4)]) := gh_san (l := [4, 0, 2]) (r := (⟨0, [], []⟩, 0, 4)) rfl rfl (by decide) (by kernel_rfl)
  have c13 : Spec Tryz.prog 17 [.im [.sc (.int .u8 4), .sc (.int .u8 0), .sc (.int .u8 1), .sc (.int .u8 2)] 4] (.tu [.ag [.sc (.int .i64 2), .im [] 0, .im [] 0], .sc (.int .i64 2)]) := sv_san (l := [4, 0, 1, 2]) (r := (⟨2, [], []⟩, 2)) rfl rfl (by decide) (by kernel_rfl)
  have c14 : Spec Tryz.prog 17 [.im [.sc (.int .u8 4)] 1] (.tu [.ag [.sc (.int .i64 0), .im [] 0, .im [] 0], .sc (.int .i64 0)]) := sv_san (l := [4]) (r := (⟨0, [], []⟩, 0)) rfl rfl (by decide) (by kernel_rfl)
  have c15 : Spec Tryz.prog 7 [.im [.sc (.int .u8 3), .sc (.int .u8 1), .sc (.int .u8 0), .sc (.int .u8 0), .sc (.int .u8 0)] 5, .im [.sc (.int .u8 3), .sc (.int .u8 1), .sc (.int .u8 0), .sc (.int .u8 0), .sc (.int .u8 0)] 5] (.sc (.bool true)) := same_s [3, 1, 0, 0, 0]
  have c16 : Spec Tryz.prog 7 [.im [.sc (.int .u8 9), .sc (.int .u8 2), .sc (.int .u8 1), .sc (.int .u8 2), .sc (.int .u8 2), .sc (.int .u8 0), .sc (.int .u8 0), .sc (.int .u8 0), .sc (.int .u8 0)] 9, .im [.sc (.int .u8 9), .sc (.int .u8 2), .sc (.int .u8 1), .sc (.int .u8 2), .sc (.int .u8 2), .sc (.int .u8 0), .sc (.int .u8 0), .sc (.int .u8 0), .sc (.int .u8 0)] 9] (.sc (.bool true)) := same_s [9, 2, 1, 2, 2, 0, 0, 0, 0]
  refine Spec.run Tryz.func4 rfl Tryz.ntmps4 (by simp) (by simp only [go_sem]; rfl) fun B hB => ?_
  (repeat (first | (with_reducible refine oz (by constructor <;> decide) ?_) | ((apply SO.call); (iterate 3 (simp (disch := omega) only [go_sem, ↓reduceIte, zn1, zn3, zn4, reduceCtorEq, beq_self_eq_true] <;> rfl)); (apply SCall.ofX); (assumption); (simp (disch := omega) only [go_sem, ↓reduceIte, zn7, beq_self_eq_true] <;> rfl)) | ((with_reducible first | apply SC.region | apply SO.run); (simp (disch := omega) only [go_sem, ↓reduceIte, zn1, zn2, zn3, zn4, reduceCtorEq, beq_self_eq_true] <;> rfl); (fail_if_success with_reducible refine pickA ?_)) | (with_reducible apply SC.ops)))
  exact retQ_ret Tryz.results4 rfl rfl rfl
end Go.Proofs.YtphilljhfdlfdaaGreat
namespace Go.Proofs.YtphilljhfdlfdaaGreat
open Go.ChangeShapes Go.WideShapes Go.ChangeAt Go.RowKit
theorem i64_wf (n : Int) (h : (Lit.int .i64 n).wf = true) : I64 n := by
  have h1 : IntKind.i64.min = -9223372036854775808 := rfl
  have h2 : IntKind.i64.max = 9223372036854775807 := rfl
  simp [Lit.wf] at h
  unfold I64
  omega
end Go.Proofs.YtphilljhfdlfdaaGreat
namespace Go.Proofs.YtphilljhfdlfdaaGreat
open Go.ChangeShapes Go.WideShapes Go.ChangeAt Go.RowKit
theorem filL_mi2 {h w : Nat} {l : List Int} (hb : ∀ x ∈ l, -128 ≤ x ∧ x ≤ 127) : MI h w 1 (filL h w l) := mk_mi fun r c _ _ => by
  have := dgt_small (k := r * w + c) hb
  unfold Fits; omega
theorem mi_fit {h w : Nat} {M : List (List Int)} (hM : MI h w 1 M) (hh : h ≤ 4) (hw : w ≤ 4) : MatFit w M ∧ MatOk w M ∧ (mat_ w M).length ≤ 300 := by
  have hl := hM.len
  have hr : ∀ r ∈ M, r.length = w ∧ ∀ x ∈ r, (limbsOf x.natAbs).length ≤ 1 := fun r hr => ⟨(hM.row r hr).1, fun x hx => fits_len ((hM.row r hr).2 x hx)⟩
  refine ⟨⟨by omega, by omega, fun r hrm => ⟨(hr r hrm).1, fun x hx => by have := (hr r hrm).2 x hx; omega⟩⟩, ⟨by omega, by omega, fun r hrm => ⟨(hr r hrm).1, fun x hx => by have := (hr r hrm).2 x hx; omega⟩⟩, ?_⟩
  have h1 := num_10 (n := M.length) (by omega)
  have h2 := num_10 (n := w) (by omega)
  have h3 : ∀ r ∈ M, (row_ r).length ≤ 56 := fun r hrm => by
    have h4 := flat_bound int_ 14 r fun x hx => int_len ((hr r hrm).2 x hx) (by omega)
    rw [(hr r hrm).1] at h4
    have := Nat.mul_le_mul_right 14 hw
    unfold row_
    omega
  have h5 := flat_bound row_ 56 M h3
  have := Nat.mul_le_mul_right 56 (show M.length ≤ 4 by omega)
  unfold mat_
  simp only [zl1]
  omega
theorem u8_mat (w : Nat) (M : List (List Int)) : U8s (mat_ w M) := ((u8_num _).app (u8_num _)).app (U8s.flat _ fun r _ => U8s.flat _ fun z _ => u8_int z)
theorem i8_wf (n : Int) (h : (Lit.int .i8 n).wf = true) : -128 ≤ n ∧ n ≤ 127 := by
  have h : (IntKind.i8.min ≤ n ∧ n ≤ IntKind.i8.max) := by simpa [Lit.wf] using h
  have h1 : IntKind.i8.min = -128 := by decide
  have h2 : IntKind.i8.max = 127 := by decide
  omega
end Go.Proofs.YtphilljhfdlfdaaGreat
