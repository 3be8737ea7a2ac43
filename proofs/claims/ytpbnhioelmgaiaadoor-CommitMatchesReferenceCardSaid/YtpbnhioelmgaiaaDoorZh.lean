/- Texts joined: Cp Cq Cr. -/
import Derived.Test.YtpbnhioelmgaiaaDoorZg
set_option linter.all false
open Nat renaming reduceEqDiff → zn1, reduceLT → zn2, reduceLeDiff → zn3, reduceAdd → zn4, reduceMul → zn5, reduceSub → zn6, reduceBEq → zn7
open Int renaming reduceToNat → zi1, reducePow → zi2
namespace Go.Proofs.YtpbnhioelmgaiaaDoor
open Go.RowKit
structure Tm where
  col : Int
  neg : Bool
  mag : List Int
def tmC (t : Tm) : List V := [.sc (.int .i64 t.col), .sc (.bool t.neg), .im (uv t.mag) t.mag.length]
def tmsC (l : List Tm) : List V := l.flatMap tmC
theorem tmsC_len : ∀ l : List Tm, (tmsC l).length = l.length * 3
  | [] => rfl
  | t :: l => by show (tmC t ++ tmsC l).length = _; rw [List.length_append, tmsC_len l, List.length_cons, Nat.add_mul]; show 3 + _ = _; omega
theorem tmsC_drop : ∀ {l : List Tm} {i : Nat}, i < l.length → (tmsC l).drop (i * 3) = tmC (l.getD i ⟨0, false, []⟩) ++ (tmsC l).drop ((i + 1) * 3)
  | t :: l, 0, _ => rfl
  | t :: l, i + 1, h => by
    have h' : i < l.length := by simpa using h
    have e : ∀ k, (tmsC (t :: l)).drop ((k + 1) * 3) = (tmsC l).drop (k * 3) := fun k => by
      rw [show (k + 1) * 3 = k * 3 + 1 + 1 + 1 by omega]; rfl
    rw [e, e, tmsC_drop h']; rfl
theorem tmsC_clo (l : List Tm) : (tmsC l).all clo = true := by
  rw [List.all_eq_true]
  intro x hx
  obtain ⟨t, _, hx⟩ := List.mem_flatMap.1 hx
  simp only [tmC, List.mem_cons, List.not_mem_nil, or_false] at hx
  rcases hx with rfl | rfl | rfl <;> rfl
def sgB (b : Bool) : Int := if b then 1 else 0
def tmB (t : Tm) : List Int := n8b t.col ++ [sgB t.neg] ++ n8b (t.mag.length : Int) ++ t.mag.flatMap w4
def rowB (l : List Tm) : List Int := [0] ++ l.flatMap tmB
structure Tm.Ok (t : Tm) : Prop where
  c0 : 0 ≤ t.col
  c1 : t.col ≤ 9223372036854775807
  m1 : t.mag.length ≤ 1000
theorem tmB_u8 (t : Tm) : U8s (tmB t) := by
  refine ((U8s.app (U8s.app (n8b_u8 _) ?_) (n8b_u8 _))).app ?_
  · intro x hx; rw [List.mem_singleton.1 hx]; unfold sgB; split <;> omega
  · intro x hx
    obtain ⟨y, _, hy⟩ := List.mem_flatMap.1 hx
    exact w4_u8 y x hy
theorem rowB_u8 (l : List Tm) : U8s (rowB l) := by
  refine U8s.app (fun x hx => by rw [List.mem_singleton.1 hx]; omega) fun x hx => ?_
  obtain ⟨t, _, hx⟩ := List.mem_flatMap.1 hx
  exact tmB_u8 t x hx
theorem tmB_len (t : Tm) : (tmB t).length = 17 + 4 * t.mag.length := by
  unfold tmB
  rw [List.length_append, fl4_len]
  show 17 + _ = _; omega
theorem rows_len {l : List Tm} (h : ∀ t ∈ l, t.Ok) : (l.flatMap tmB).length ≤ 5000 * l.length := by
  induction l with
  | nil => exact Nat.zero_le _
  | cons t l ih =>
    rw [List.flatMap_cons, List.length_append, tmB_len, List.length_cons]
    have h1 := (h t (by simp)).m1
    have h2 := ih fun t ht => h t (by simp [ht])
    omega
theorem wordA {id n : Nat} {cap : Option Nat} {C : List Int} (x : Int) (hn : n = C.length) (hn2 : n ≤ 900000000) : AppC Tryd.prog 22 [.sl id 0 n 1 cap, .sc (.int .u32 x)] id ⟨5, bw C, false⟩ 0 (n + 4) 1 none ⟨5, bw (C ++ w4 x), false⟩ := by
  have gb := bw_len C
  refine AppC.of (by omega) rfl (fun y hy => ?_) fun nx hnx => ?_
  · obtain ⟨z, _, rfl⟩ := List.mem_map.1 hy
    exact ⟨_, rfl⟩
  · have h := word_q (cap := cap) (C := bw C) (n := n) x hnx (by omega) (by omega)
    refine InlQ.mono h fun y hp' nx' hq => ?_
    obtain ⟨q, _, h2, rfl, rfl⟩ := hq
    refine ⟨q, h2, rfl, ?_⟩
    rw [List.take_of_length_le (by omega), bw_app]
theorem rnumA {id n : Nat} {cap : Option Nat} {C : List Int} (x : Int) (hn : n = C.length) (hn2 : n ≤ 900000000) (hx : 0 ≤ x) (hx2 : x < 18446744073709551616) : AppC Tryd.prog 23 [.sl id 0 n 1 cap, .sc (.int .u64 x)] id ⟨5, bw C, false⟩ 0 (n + 8) 1 none ⟨5, bw (C ++ n8b x), false⟩ := by
  refine AppC.of (by omega) rfl (fun y hy => ?_) fun nx hnx => ?_
  · obtain ⟨z, _, rfl⟩ := List.mem_map.1 hy
    exact ⟨_, rfl⟩
  · subst hn
    refine InlQ.mono (rnum_q (nx := nx) x hnx hn2 hx hx2) fun y hp' nx' hq => ?_
    obtain ⟨q, h1, _, _, rfl, rfl⟩ := hq
    exact ⟨q, h1, rfl, rfl⟩
def rowP (l : List Tm) (i : Nat) : List Int := [0] ++ (l.take i).flatMap tmB
theorem rowP_succ {l : List Tm} {i : Nat} (h : i < l.length) : rowP l (i + 1) = rowP l i ++ tmB (l.getD i ⟨0, false, []⟩) := by
  unfold rowP
  rw [List.take_add_one, getD_some (d := ⟨0, false, []⟩) h, List.flatMap_append, List.append_assoc]
  congr 1
  show _ = _ ++ tmB _
  congr 1
  exact List.append_nil _
theorem rowP_all (l : List Tm) : rowP l l.length = rowB l := by unfold rowP rowB; rw [List.take_of_length_le (Nat.le_refl _)]
theorem rowP_len {l : List Tm} (h : ∀ t ∈ l, t.Ok) (hl : l.length ≤ 100) (i : Nat) : (rowP l i).length ≤ 600000 := by
  unfold rowP
  rw [List.length_append]
  have h1 := rows_len (l := l.take i) fun t ht => h t (List.mem_of_mem_take ht)
  have h2 : (l.take i).length ≤ 100 := by rw [List.length_take]; omega
  show 1 + _ ≤ _; omega
theorem fl_succ {m : List Int} {j : Nat} (h : j < m.length) : (m.take (j + 1)).flatMap w4 = (m.take j).flatMap w4 ++ w4 (m.getD j 0) := by
  rw [List.take_add_one, getD_some (d := 0) h, List.flatMap_append]
  congr 1
set_option maxHeartbeats 8000000 in
theorem row_s {l : List Tm} (h : ∀ t ∈ l, t.Ok) (hl : l.length ≤ 100) : Spec Tryd.prog 15 [.im (tmsC l) l.length] (.ag (bw (sumL (rowB l)))) := by
  have hPl := rowP_len h hl
  have cS := sum_s (b := rowB l) (by rw [← rowP_all]; have := hPl l.length; omega) (rowB_u8 l)
  rw [← rowP_all] at cS ⊢
  generalize hD : sumL (rowP l l.length) = D at *
  have gD : (bw D).length = 32 := by rw [← hD]; rfl
  refine Spec.run Tryd.func15 rfl Tryd.ntmps15 (by simp) (by simp (disch := omega) only [go_sem, ↓reduceIte, zn1, zn2, zn3, zn4, zn5, zn6, reduceCtorEq, zn7, zi1, zi2, if_pos, if_neg]; rfl) fun B hB => ?_
  (repeat (first | refine DO.nil (by kernel_rfl) ?_ | (with_reducible first | apply oz1 | apply oz2 | apply oz3 | apply oz4 | apply oz5 | apply oz6 | apply oz7 | apply oz8 | apply oz9 | apply ozb | apply ozc | apply oze | apply ozf | apply ozg | apply ozh | apply ozi | apply ozj | apply ozk | refine ozd (by decide) ?_) | ((first | apply SO.call | apply DO.call); (iterate 3 (focus (simp (disch := omega) only [go_sem, ↓reduceIte, zn1, zn2, zn3, zn4, zn5, zn6, reduceCtorEq, zn7, zi1, zi2, if_pos, if_neg] <;> rfl))); (first | apply SCall.ofX | apply DCall.ofX); (focus (first | assumption)); (focus (simp (disch := omega) only [go_sem, ↓reduceIte, zn1, zn2, zn3, zn4, zn5, zn6, reduceCtorEq, zn7, zi1, zi2, if_pos, if_neg] <;> rfl))) | ((with_reducible first | apply SC.condB | apply SC.region | apply SO.run | apply DO.run); (focus (simp (disch := omega) only [go_sem, ↓reduceIte, zn1, zn2, zn3, zn4, zn5, zn6, reduceCtorEq, zn7, zi1, zi2, if_pos, if_neg] <;> rfl)); (first | refine pickT ?_ | refine pickF ?_ | fail_if_success with_reducible refine pickA ?_)) | ((with_reducible refine SC.draw Tab.mixed ?_ ?_); (focus (first | rfl | simp (disch := omega) only [go_sem, ↓reduceIte, zn1, zn2, zn3, zn4, zn5, zn6, reduceCtorEq, zn7, zi1, zi2, if_pos, if_neg]))) | (with_reducible apply SC.ops)))
  refine SC.loop (fun i : Nat => ⟨[(2, .pt 0 0), (3, .sl 1 0 (rowP l i).length 1 none), (9, .im (tmsC l) l.length), (10, .sc (.int .i64 l.length)), (11, .sc (.int .i64 i))], [(0, ⟨25, bw (List.replicate 32 0), false⟩), (1, ⟨5, bw (rowP l i), false⟩)], 2, 49⟩)
    (fun i => i ≤ l.length) (fun i => l.length - i) 0 ?_ ?_ ?_
  · have e : bw (rowP l 0) = [.sc (.int .u8 0)] := rfl
    have e2 : (rowP l 0).length = 1 := rfl
    rw [z32]
    simp only [e, e2]
    (refine Le.slots ?_ ?_ ?_ <;> (repeat' (first | (exact fun _ _ h => h) | exact Nat.le_refl _ | exact leSl_nil | refine leSl_cons (by simp (disch := omega) only [go_sem, ↓reduceIte, zn1, zn2, zn3, zn4, zn5, zn6, reduceCtorEq, zn7, zi1, zi2, if_pos, if_neg] <;> rfl) ?_ ?_ | exact VLe.junk _ | exact VLe.refl rfl | exact VLe.nil_sl _ _ _ | exact VLe.int (by first | rfl | omega | (dsimp only; omega)) | exact VLe.bool rfl | exact VLe.sl rfl (by first | rfl | omega) | exact VLe.cap rfl (by first | rfl | omega) | exact VLe.im rfl rfl | omega | (refine fun id k h => ?_; simp only [hget] at h ⊢; (repeat' (split at h)) <;> first | (cases h; done) | (simp (disch := omega) only [if_pos, if_neg]; exact h)))))
  · exact Nat.zero_le _
  · intro i hi K hK
    have hPi := hPl i
    by_cases hc : i < l.length
    · have q1 : decide ((i : Int) < (l.length : Int)) = true := decide_eq_true (by omega)
      have g1 := tmsC_drop hc
      have g2 : i * 3 < (tmsC l).length := by rw [tmsC_len]; omega
      have eP := rowP_succ hc
      have hPs := hPl (i + 1)
      obtain ⟨o1, o2, o3⟩ := h _ (getDm (d := ⟨0, false, []⟩) hc)
      have hK2 : ∀ s' : SS, _ → K s' := fun s' h => hK s' (i + 1) h (by omega) (by omega)
      rw [eP] at hK2 hPs
      clear hK eP
      generalize l.getD i ⟨0, false, []⟩ = t at *
      obtain ⟨c, b, m⟩ := t
      simp only at o1 o2 o3
      generalize (tmsC l).drop ((i + 1) * 3) = DD at *
      unfold tmC at g1
      simp only at g1
      generalize tmsC l = TL at *
      generalize rowP l i = P at *
      generalize l.length = n at *
      have a1 := numA (id := 1) (cap := none) (C := P) c rfl (by omega) o1 o2
      have l1 : (bw (P ++ n8b c)).length = P.length + 8 := by rw [bw_len, List.length_append]; rfl
      have t1 : (bw (P ++ n8b c)).take (P.length + 8) = bw (P ++ n8b c) := List.take_of_length_le (by omega)
      have l2 : (P ++ n8b c ++ [sgB b]).length = P.length + 8 + 1 := by rw [List.length_append, List.length_append]; rfl
      have a2 := numA (id := 5) (n := P.length + 8 + 1) (cap := none) (C := P ++ n8b c ++ [sgB b]) (m.length : Int) l2.symm (by omega) (by omega) (by omega)
      rw [bw_app (P ++ n8b c) [sgB b]] at a2
      have gR := bw_clo (List.replicate 32 0)
      generalize bw (List.replicate 32 0) = R0 at *
      (repeat (first | refine DO.nil (by kernel_rfl) ?_ | (with_reducible first | apply oz1 | apply oz2 | apply oz3 | apply oz4 | apply oz5 | apply oz6 | apply oz7 | apply oz8 | apply oz9 | apply ozb | apply ozc | apply oze | apply ozf | apply ozg | apply ozh | apply ozi | apply ozj | apply ozk | refine ozd (by decide) ?_) | ((first | apply SO.call | apply DO.call); (iterate 3 (focus (simp (disch := omega) only [go_sem, ↓reduceIte, zn1, zn2, zn3, zn4, zn5, zn6, reduceCtorEq, zn7, zi1, zi2, if_pos, if_neg, q1, g1, g2, List.cons_append, List.nil_append] <;> rfl))); (first | apply SCall.ofX | apply DCall.ofX); (focus (first | assumption)); (focus (simp (disch := omega) only [go_sem, ↓reduceIte, zn1, zn2, zn3, zn4, zn5, zn6, reduceCtorEq, zn7, zi1, zi2, if_pos, if_neg, q1, g1, g2, List.cons_append, List.nil_append] <;> rfl))) | ((with_reducible first | apply SC.condB | apply SC.region | apply SO.run | apply DO.run); (focus (simp (disch := omega) only [go_sem, ↓reduceIte, zn1, zn2, zn3, zn4, zn5, zn6, reduceCtorEq, zn7, zi1, zi2, if_pos, if_neg, q1, g1, g2, List.cons_append, List.nil_append] <;> rfl)); (first | refine pickT ?_ | refine pickF ?_ | fail_if_success with_reducible refine pickA ?_)) | ((with_reducible refine SC.draw Tab.mixed ?_ ?_); (focus (first | rfl | simp (disch := omega) only [go_sem, ↓reduceIte, zn1, zn2, zn3, zn4, zn5, zn6, reduceCtorEq, zn7, zi1, zi2, if_pos, if_neg, q1, g1, g2, List.cons_append, List.nil_append]))) | (with_reducible apply SC.ops)))
      (first | refine SO.callA Tab.go38 (by simp (disch := omega) only [go_sem, ↓reduceIte, zn1, zn2, zn3, zn4, zn5, zn6, reduceCtorEq, zn7, zi1, zi2, if_pos, if_neg] <;> rfl) (by simp (disch := omega) only [go_sem, ↓reduceIte, zn1, zn2, zn3, zn4, zn5, zn6, reduceCtorEq, zn7, zi1, zi2, if_pos, if_neg] <;> rfl) (SApp.of (a1) (by simp (disch := omega) only [go_sem, ↓reduceIte, zn1, zn2, zn3, zn4, zn5, zn6, reduceCtorEq, zn7, zi1, zi2, if_pos, if_neg] <;> rfl) rfl (by simp (disch := omega) only [go_sem, ↓reduceIte, zn1, zn2, zn3, zn4, zn5, zn6, reduceCtorEq, zn7, zi1, zi2, if_pos, if_neg] <;> rfl) ?_) | refine DO.callA Tab.go38 (by simp (disch := omega) only [go_sem, ↓reduceIte, zn1, zn2, zn3, zn4, zn5, zn6, reduceCtorEq, zn7, zi1, zi2, if_pos, if_neg] <;> rfl) (by simp (disch := omega) only [go_sem, ↓reduceIte, zn1, zn2, zn3, zn4, zn5, zn6, reduceCtorEq, zn7, zi1, zi2, if_pos, if_neg] <;> rfl) (DApp.of (a1) (by simp (disch := omega) only [go_sem, ↓reduceIte, zn1, zn2, zn3, zn4, zn5, zn6, reduceCtorEq, zn7, zi1, zi2, if_pos, if_neg] <;> rfl) rfl (by simp (disch := omega) only [go_sem, ↓reduceIte, zn1, zn2, zn3, zn4, zn5, zn6, reduceCtorEq, zn7, zi1, zi2, if_pos, if_neg] <;> rfl) ?_))
      cases b
      · have e0 : bw [sgB false] = [.sc (.int .u8 0)] := rfl
        rw [e0] at a2
        (repeat (first | refine DO.nil (by kernel_rfl) ?_ | (with_reducible first | apply oz1 | apply oz2 | apply oz3 | apply oz4 | apply oz5 | apply oz6 | apply oz7 | apply oz8 | apply oz9 | apply ozb | apply ozc | apply oze | apply ozf | apply ozg | apply ozh | apply ozi | apply ozj | apply ozk | refine ozd (by decide) ?_) | ((first | apply SO.call | apply DO.call); (iterate 3 (focus (simp (disch := omega) only [go_sem, ↓reduceIte, zn1, zn2, zn3, zn4, zn5, zn6, reduceCtorEq, zn7, zi1, zi2, if_pos, if_neg, l1, t1, List.drop_zero, Nat.mul_one] <;> rfl))); (first | apply SCall.ofX | apply DCall.ofX); (focus (first | assumption)); (focus (simp (disch := omega) only [go_sem, ↓reduceIte, zn1, zn2, zn3, zn4, zn5, zn6, reduceCtorEq, zn7, zi1, zi2, if_pos, if_neg, l1, t1, List.drop_zero, Nat.mul_one] <;> rfl))) | ((with_reducible first | apply SC.condB | apply SC.region | apply SO.run | apply DO.run); (focus (simp (disch := omega) only [go_sem, ↓reduceIte, zn1, zn2, zn3, zn4, zn5, zn6, reduceCtorEq, zn7, zi1, zi2, if_pos, if_neg, l1, t1, List.drop_zero, Nat.mul_one] <;> rfl)); (first | refine pickT ?_ | refine pickF ?_ | fail_if_success with_reducible refine pickA ?_)) | ((with_reducible refine SC.draw Tab.mixed ?_ ?_); (focus (first | rfl | simp (disch := omega) only [go_sem, ↓reduceIte, zn1, zn2, zn3, zn4, zn5, zn6, reduceCtorEq, zn7, zi1, zi2, if_pos, if_neg, l1, t1, List.drop_zero, Nat.mul_one]))) | (with_reducible apply SC.ops)))
        (first | refine SO.callA Tab.go38 (by simp (disch := omega) only [go_sem, ↓reduceIte, zn1, zn2, zn3, zn4, zn5, zn6, reduceCtorEq, zn7, zi1, zi2, if_pos, if_neg] <;> rfl) (by simp (disch := omega) only [go_sem, ↓reduceIte, zn1, zn2, zn3, zn4, zn5, zn6, reduceCtorEq, zn7, zi1, zi2, if_pos, if_neg] <;> rfl) (SApp.of (a2) (by simp (disch := omega) only [go_sem, ↓reduceIte, zn1, zn2, zn3, zn4, zn5, zn6, reduceCtorEq, zn7, zi1, zi2, if_pos, if_neg] <;> rfl) rfl (by simp (disch := omega) only [go_sem, ↓reduceIte, zn1, zn2, zn3, zn4, zn5, zn6, reduceCtorEq, zn7, zi1, zi2, if_pos, if_neg] <;> rfl) ?_) | refine DO.callA Tab.go38 (by simp (disch := omega) only [go_sem, ↓reduceIte, zn1, zn2, zn3, zn4, zn5, zn6, reduceCtorEq, zn7, zi1, zi2, if_pos, if_neg] <;> rfl) (by simp (disch := omega) only [go_sem, ↓reduceIte, zn1, zn2, zn3, zn4, zn5, zn6, reduceCtorEq, zn7, zi1, zi2, if_pos, if_neg] <;> rfl) (DApp.of (a2) (by simp (disch := omega) only [go_sem, ↓reduceIte, zn1, zn2, zn3, zn4, zn5, zn6, reduceCtorEq, zn7, zi1, zi2, if_pos, if_neg] <;> rfl) rfl (by simp (disch := omega) only [go_sem, ↓reduceIte, zn1, zn2, zn3, zn4, zn5, zn6, reduceCtorEq, zn7, zi1, zi2, if_pos, if_neg] <;> rfl) ?_))
        (repeat (first | refine DO.nil (by kernel_rfl) ?_ | (with_reducible first | apply oz1 | apply oz2 | apply oz3 | apply oz4 | apply oz5 | apply oz6 | apply oz7 | apply oz8 | apply oz9 | apply ozb | apply ozc | apply oze | apply ozf | apply ozg | apply ozh | apply ozi | apply ozj | apply ozk | refine ozd (by decide) ?_) | ((first | apply SO.call | apply DO.call); (iterate 3 (focus (simp (disch := omega) only [go_sem, ↓reduceIte, zn1, zn2, zn3, zn4, zn5, zn6, reduceCtorEq, zn7, zi1, zi2, if_pos, if_neg] <;> rfl))); (first | apply SCall.ofX | apply DCall.ofX); (focus (first | assumption)); (focus (simp (disch := omega) only [go_sem, ↓reduceIte, zn1, zn2, zn3, zn4, zn5, zn6, reduceCtorEq, zn7, zi1, zi2, if_pos, if_neg] <;> rfl))) | ((with_reducible first | apply SC.condB | apply SC.region | apply SO.run | apply DO.run); (focus (simp (disch := omega) only [go_sem, ↓reduceIte, zn1, zn2, zn3, zn4, zn5, zn6, reduceCtorEq, zn7, zi1, zi2, if_pos, if_neg] <;> rfl)); (first | refine pickT ?_ | refine pickF ?_ | fail_if_success with_reducible refine pickA ?_)) | ((with_reducible refine SC.draw Tab.mixed ?_ ?_); (focus (first | rfl | simp (disch := omega) only [go_sem, ↓reduceIte, zn1, zn2, zn3, zn4, zn5, zn6, reduceCtorEq, zn7, zi1, zi2, if_pos, if_neg]))) | (with_reducible apply SC.ops)))
        refine SC.loop (fun j : Nat => ⟨[(2, .pt 0 0), (3, .sl 6 0 (P ++ n8b c ++ [sgB false] ++ n8b (m.length : Int) ++ (m.take j).flatMap w4).length 1 none), (9, .im TL n), (10, .sc (.int .i64 n)), (11, .sc (.int .i64 i)), (36, .im (uv m) m.length), (37, .sc (.int .i64 m.length)), (38, .sc (.int .i64 j))], [(0, ⟨25, R0, false⟩), (6, ⟨5, bw (P ++ n8b c ++ [sgB false] ++ n8b (m.length : Int) ++ (m.take j).flatMap w4), false⟩)], 7, 49⟩)
          (fun j => j ≤ m.length) (fun j => m.length - j) 0 ?_ ?_ ?_
        · have e : (m.take 0).flatMap w4 = [] := rfl
          have e3 : (P ++ n8b c ++ [sgB false] ++ n8b (m.length : Int)).length = P.length + 8 + 1 + 8 := by rw [List.length_append, l2]; rfl
          simp only [e, List.append_nil, e3]
          (refine Le.slots ?_ ?_ ?_ <;> (repeat' (first | (exact fun _ _ h => h) | exact Nat.le_refl _ | exact leSl_nil | refine leSl_cons (by simp (disch := omega) only [go_sem, ↓reduceIte, zn1, zn2, zn3, zn4, zn5, zn6, reduceCtorEq, zn7, zi1, zi2, if_pos, if_neg] <;> rfl) ?_ ?_ | exact VLe.junk _ | exact VLe.refl rfl | exact VLe.nil_sl _ _ _ | exact VLe.int (by first | rfl | omega | (dsimp only; omega)) | exact VLe.bool rfl | exact VLe.sl rfl (by first | rfl | omega) | exact VLe.cap rfl (by first | rfl | omega) | exact VLe.im rfl rfl | omega | (refine fun id k h => ?_; simp only [hget] at h ⊢; (repeat' (split at h)) <;> first | (cases h; done) | (simp (disch := omega) only [if_pos, if_neg]; exact h)))))
        · exact Nat.zero_le _
        · intro j hj K' hK'
          have hlj : (P ++ n8b c ++ [sgB false] ++ n8b (m.length : Int) ++ (m.take j).flatMap w4).length = P.length + 17 + 4 * j := by
            rw [List.length_append, List.length_append, l2, fl4_len, List.length_take]
            show _ + 8 + _ = _; omega
          by_cases hc2 : j < m.length
          · have q2 : decide ((j : Int) < (m.length : Int)) = true := decide_eq_true (by omega)
            have g3 := uv_get hc2
            have lu := uv_len m
            have e4 : P ++ n8b c ++ [sgB false] ++ n8b (m.length : Int) ++ (m.take (j + 1)).flatMap w4 = P ++ n8b c ++ [sgB false] ++ n8b (m.length : Int) ++ (m.take j).flatMap w4 ++ w4 (m.getD j 0) := by
              rw [fl_succ hc2, ← List.append_assoc]
            have a3 := wordA (id := 6) (cap := none) (C := P ++ n8b c ++ [sgB false] ++ n8b (m.length : Int) ++ (m.take j).flatMap w4) (m.getD j 0) rfl (by omega)
            have hcl := bw_clo (P ++ n8b c ++ [sgB false] ++ n8b (m.length : Int) ++ (m.take (j + 1)).flatMap w4)
            have hl4 : (P ++ n8b c ++ [sgB false] ++ n8b (m.length : Int) ++ (m.take (j + 1)).flatMap w4).length = (P ++ n8b c ++ [sgB false] ++ n8b (m.length : Int) ++ (m.take j).flatMap w4).length + 4 := by rw [e4, List.length_append]; rfl
            have hK3 : ∀ s' : SS, _ → K' s' := fun s' h => hK' s' (j + 1) h (by omega) (by omega)
            rw [hl4] at hK3
            rw [e4] at hK3 hcl
            clear hK' hl4 e4
            generalize P ++ n8b c ++ [sgB false] ++ n8b (m.length : Int) ++ (m.take j).flatMap w4 = Z at *
            generalize m.getD j 0 = x at *
            (repeat (first | refine DO.nil (by kernel_rfl) ?_ | (with_reducible first | apply oz1 | apply oz2 | apply oz3 | apply oz4 | apply oz5 | apply oz6 | apply oz7 | apply oz8 | apply oz9 | apply ozb | apply ozc | apply oze | apply ozf | apply ozg | apply ozh | apply ozi | apply ozj | apply ozk | refine ozd (by decide) ?_) | ((first | apply SO.call | apply DO.call); (iterate 3 (focus (simp (disch := omega) only [go_sem, ↓reduceIte, zn1, zn2, zn3, zn4, zn5, zn6, reduceCtorEq, zn7, zi1, zi2, if_pos, if_neg, q2, g3, lu, List.getElem?_drop, Nat.mul_one] <;> rfl))); (first | apply SCall.ofX | apply DCall.ofX); (focus (first | assumption)); (focus (simp (disch := omega) only [go_sem, ↓reduceIte, zn1, zn2, zn3, zn4, zn5, zn6, reduceCtorEq, zn7, zi1, zi2, if_pos, if_neg, q2, g3, lu, List.getElem?_drop, Nat.mul_one] <;> rfl))) | ((with_reducible first | apply SC.condB | apply SC.region | apply SO.run | apply DO.run); (focus (simp (disch := omega) only [go_sem, ↓reduceIte, zn1, zn2, zn3, zn4, zn5, zn6, reduceCtorEq, zn7, zi1, zi2, if_pos, if_neg, q2, g3, lu, List.getElem?_drop, Nat.mul_one] <;> rfl)); (first | refine pickT ?_ | refine pickF ?_ | fail_if_success with_reducible refine pickA ?_)) | ((with_reducible refine SC.draw Tab.mixed ?_ ?_); (focus (first | rfl | simp (disch := omega) only [go_sem, ↓reduceIte, zn1, zn2, zn3, zn4, zn5, zn6, reduceCtorEq, zn7, zi1, zi2, if_pos, if_neg, q2, g3, lu, List.getElem?_drop, Nat.mul_one]))) | (with_reducible apply SC.ops)))
            (first | refine SO.callA Tab.go22 (by simp (disch := omega) only [go_sem, ↓reduceIte, zn1, zn2, zn3, zn4, zn5, zn6, reduceCtorEq, zn7, zi1, zi2, if_pos, if_neg] <;> rfl) (by simp (disch := omega) only [go_sem, ↓reduceIte, zn1, zn2, zn3, zn4, zn5, zn6, reduceCtorEq, zn7, zi1, zi2, if_pos, if_neg] <;> rfl) (SApp.of (a3) (by simp (disch := omega) only [go_sem, ↓reduceIte, zn1, zn2, zn3, zn4, zn5, zn6, reduceCtorEq, zn7, zi1, zi2, if_pos, if_neg] <;> rfl) rfl (by simp (disch := omega) only [go_sem, ↓reduceIte, zn1, zn2, zn3, zn4, zn5, zn6, reduceCtorEq, zn7, zi1, zi2, if_pos, if_neg] <;> rfl) ?_) | refine DO.callA Tab.go22 (by simp (disch := omega) only [go_sem, ↓reduceIte, zn1, zn2, zn3, zn4, zn5, zn6, reduceCtorEq, zn7, zi1, zi2, if_pos, if_neg] <;> rfl) (by simp (disch := omega) only [go_sem, ↓reduceIte, zn1, zn2, zn3, zn4, zn5, zn6, reduceCtorEq, zn7, zi1, zi2, if_pos, if_neg] <;> rfl) (DApp.of (a3) (by simp (disch := omega) only [go_sem, ↓reduceIte, zn1, zn2, zn3, zn4, zn5, zn6, reduceCtorEq, zn7, zi1, zi2, if_pos, if_neg] <;> rfl) rfl (by simp (disch := omega) only [go_sem, ↓reduceIte, zn1, zn2, zn3, zn4, zn5, zn6, reduceCtorEq, zn7, zi1, zi2, if_pos, if_neg] <;> rfl) ?_))
            (repeat (first | refine DO.nil (by kernel_rfl) ?_ | (with_reducible first | apply oz1 | apply oz2 | apply oz3 | apply oz4 | apply oz5 | apply oz6 | apply oz7 | apply oz8 | apply oz9 | apply ozb | apply ozc | apply oze | apply ozf | apply ozg | apply ozh | apply ozi | apply ozj | apply ozk | refine ozd (by decide) ?_) | ((first | apply SO.call | apply DO.call); (iterate 3 (focus (simp (disch := omega) only [go_sem, ↓reduceIte, zn1, zn2, zn3, zn4, zn5, zn6, reduceCtorEq, zn7, zi1, zi2, if_pos, if_neg] <;> rfl))); (first | apply SCall.ofX | apply DCall.ofX); (focus (first | assumption)); (focus (simp (disch := omega) only [go_sem, ↓reduceIte, zn1, zn2, zn3, zn4, zn5, zn6, reduceCtorEq, zn7, zi1, zi2, if_pos, if_neg] <;> rfl))) | ((with_reducible first | apply SC.condB | apply SC.region | apply SO.run | apply DO.run); (focus (simp (disch := omega) only [go_sem, ↓reduceIte, zn1, zn2, zn3, zn4, zn5, zn6, reduceCtorEq, zn7, zi1, zi2, if_pos, if_neg] <;> rfl)); (first | refine pickT ?_ | refine pickF ?_ | fail_if_success with_reducible refine pickA ?_)) | ((with_reducible refine SC.draw Tab.mixed ?_ ?_); (focus (first | rfl | simp (disch := omega) only [go_sem, ↓reduceIte, zn1, zn2, zn3, zn4, zn5, zn6, reduceCtorEq, zn7, zi1, zi2, if_pos, if_neg]))) | (with_reducible apply SC.ops)))
            refine hK3 _ ?_
            refine Le.ren 6 7 hB (by omega) (by omega) (by omega) ?_ ?_
            · (repeat' (first | exact trivial | refine mapSl_cons (by simp (disch := omega) only [go_sem, ↓reduceIte, zn1, zn2, zn3, zn4, zn5, zn6, reduceCtorEq, zn7, zi1, zi2, if_pos, if_neg] <;> rfl) ?_ ?_ | exact VMap.junk _ | exact VMap.sc _ | exact VMap.clo rfl | exact VMap.sl rfl (by omega) | exact VMap.cap rfl (by omega) | exact VMap.pt rfl (by omega) | exact VMap.nil_sl _ _ _ | exact VMap.int (by first | rfl | omega | (dsimp only; omega))))
            · (repeat' (first | exact mapHp_nil | refine mapHp_cons (by simp (disch := omega) only [go_sem, ↓reduceIte, zn1, zn2, zn3, zn4, zn5, zn6, reduceCtorEq, zn7, zi1, zi2, if_pos, if_neg] <;> rfl) ?_ ?_ | exact BMap.clo (by first | rfl | assumption | exact wv_clo _ | exact imR_clo _ _ | exact nv_clo _) | refine BMap.list ?_ | exact mapL_nil | refine mapL_cons ?_ ?_ | exact VMap.junk _ | exact VMap.sc _ | exact VMap.clo rfl | exact VMap.sl rfl (by omega) | exact VMap.cap rfl (by omega) | exact VMap.pt rfl (by omega) | exact VMap.nil_sl _ _ _ | exact VMap.int (by first | rfl | omega | (dsimp only; omega))))
          · have q2 : decide ((j : Int) < (m.length : Int)) = false := decide_eq_false (by omega)
            have hjl : j = m.length := by omega
            subst hjl
            have e5 : P ++ n8b c ++ [sgB false] ++ n8b (m.length : Int) ++ (m.take m.length).flatMap w4 = P ++ tmB ⟨c, false, m⟩ := by
              unfold tmB; rw [List.take_of_length_le (Nat.le_refl _)]; simp only [List.append_assoc]
            rw [e5]
            have hcl := bw_clo (P ++ tmB ⟨c, false, m⟩)
            clear hK'
            generalize P ++ tmB ⟨c, false, m⟩ = Z at *
            (repeat (first | refine DO.nil (by kernel_rfl) ?_ | (with_reducible first | apply oz1 | apply oz2 | apply oz3 | apply oz4 | apply oz5 | apply oz6 | apply oz7 | apply oz8 | apply oz9 | apply ozb | apply ozc | apply oze | apply ozf | apply ozg | apply ozh | apply ozi | apply ozj | apply ozk | refine ozd (by decide) ?_) | ((first | apply SO.call | apply DO.call); (iterate 3 (focus (simp (disch := omega) only [go_sem, ↓reduceIte, zn1, zn2, zn3, zn4, zn5, zn6, reduceCtorEq, zn7, zi1, zi2, if_pos, if_neg, q2] <;> rfl))); (first | apply SCall.ofX | apply DCall.ofX); (focus (first | assumption)); (focus (simp (disch := omega) only [go_sem, ↓reduceIte, zn1, zn2, zn3, zn4, zn5, zn6, reduceCtorEq, zn7, zi1, zi2, if_pos, if_neg, q2] <;> rfl))) | ((with_reducible first | apply SC.condB | apply SC.region | apply SO.run | apply DO.run); (focus (simp (disch := omega) only [go_sem, ↓reduceIte, zn1, zn2, zn3, zn4, zn5, zn6, reduceCtorEq, zn7, zi1, zi2, if_pos, if_neg, q2] <;> rfl)); (first | refine pickT ?_ | refine pickF ?_ | fail_if_success with_reducible refine pickA ?_)) | ((with_reducible refine SC.draw Tab.mixed ?_ ?_); (focus (first | rfl | simp (disch := omega) only [go_sem, ↓reduceIte, zn1, zn2, zn3, zn4, zn5, zn6, reduceCtorEq, zn7, zi1, zi2, if_pos, if_neg, q2]))) | (with_reducible apply SC.ops)))
            refine hK2 _ ?_
            refine Le.ren 1 6 hB (by omega) (by omega) (by omega) ?_ ?_
            · (repeat' (first | exact trivial | refine mapSl_cons (by simp (disch := omega) only [go_sem, ↓reduceIte, zn1, zn2, zn3, zn4, zn5, zn6, reduceCtorEq, zn7, zi1, zi2, if_pos, if_neg] <;> rfl) ?_ ?_ | exact VMap.junk _ | exact VMap.sc _ | exact VMap.clo rfl | exact VMap.sl rfl (by omega) | exact VMap.cap rfl (by omega) | exact VMap.pt rfl (by omega) | exact VMap.nil_sl _ _ _ | exact VMap.int (by first | rfl | omega | (dsimp only; omega))))
            · (repeat' (first | exact mapHp_nil | refine mapHp_cons (by simp (disch := omega) only [go_sem, ↓reduceIte, zn1, zn2, zn3, zn4, zn5, zn6, reduceCtorEq, zn7, zi1, zi2, if_pos, if_neg] <;> rfl) ?_ ?_ | exact BMap.clo (by first | rfl | assumption | exact wv_clo _ | exact imR_clo _ _ | exact nv_clo _) | refine BMap.list ?_ | exact mapL_nil | refine mapL_cons ?_ ?_ | exact VMap.junk _ | exact VMap.sc _ | exact VMap.clo rfl | exact VMap.sl rfl (by omega) | exact VMap.cap rfl (by omega) | exact VMap.pt rfl (by omega) | exact VMap.nil_sl _ _ _ | exact VMap.int (by first | rfl | omega | (dsimp only; omega))))
      · have e0 : bw [sgB true] = [.sc (.int .u8 1)] := rfl
        rw [e0] at a2
        (repeat (first | refine DO.nil (by kernel_rfl) ?_ | (with_reducible first | apply oz1 | apply oz2 | apply oz3 | apply oz4 | apply oz5 | apply oz6 | apply oz7 | apply oz8 | apply oz9 | apply ozb | apply ozc | apply oze | apply ozf | apply ozg | apply ozh | apply ozi | apply ozj | apply ozk | refine ozd (by decide) ?_) | ((first | apply SO.call | apply DO.call); (iterate 3 (focus (simp (disch := omega) only [go_sem, ↓reduceIte, zn1, zn2, zn3, zn4, zn5, zn6, reduceCtorEq, zn7, zi1, zi2, if_pos, if_neg, l1, t1, List.drop_zero, Nat.mul_one] <;> rfl))); (first | apply SCall.ofX | apply DCall.ofX); (focus (first | assumption)); (focus (simp (disch := omega) only [go_sem, ↓reduceIte, zn1, zn2, zn3, zn4, zn5, zn6, reduceCtorEq, zn7, zi1, zi2, if_pos, if_neg, l1, t1, List.drop_zero, Nat.mul_one] <;> rfl))) | ((with_reducible first | apply SC.condB | apply SC.region | apply SO.run | apply DO.run); (focus (simp (disch := omega) only [go_sem, ↓reduceIte, zn1, zn2, zn3, zn4, zn5, zn6, reduceCtorEq, zn7, zi1, zi2, if_pos, if_neg, l1, t1, List.drop_zero, Nat.mul_one] <;> rfl)); (first | refine pickT ?_ | refine pickF ?_ | fail_if_success with_reducible refine pickA ?_)) | ((with_reducible refine SC.draw Tab.mixed ?_ ?_); (focus (first | rfl | simp (disch := omega) only [go_sem, ↓reduceIte, zn1, zn2, zn3, zn4, zn5, zn6, reduceCtorEq, zn7, zi1, zi2, if_pos, if_neg, l1, t1, List.drop_zero, Nat.mul_one]))) | (with_reducible apply SC.ops)))
        (first | refine SO.callA Tab.go38 (by simp (disch := omega) only [go_sem, ↓reduceIte, zn1, zn2, zn3, zn4, zn5, zn6, reduceCtorEq, zn7, zi1, zi2, if_pos, if_neg] <;> rfl) (by simp (disch := omega) only [go_sem, ↓reduceIte, zn1, zn2, zn3, zn4, zn5, zn6, reduceCtorEq, zn7, zi1, zi2, if_pos, if_neg] <;> rfl) (SApp.of (a2) (by simp (disch := omega) only [go_sem, ↓reduceIte, zn1, zn2, zn3, zn4, zn5, zn6, reduceCtorEq, zn7, zi1, zi2, if_pos, if_neg] <;> rfl) rfl (by simp (disch := omega) only [go_sem, ↓reduceIte, zn1, zn2, zn3, zn4, zn5, zn6, reduceCtorEq, zn7, zi1, zi2, if_pos, if_neg] <;> rfl) ?_) | refine DO.callA Tab.go38 (by simp (disch := omega) only [go_sem, ↓reduceIte, zn1, zn2, zn3, zn4, zn5, zn6, reduceCtorEq, zn7, zi1, zi2, if_pos, if_neg] <;> rfl) (by simp (disch := omega) only [go_sem, ↓reduceIte, zn1, zn2, zn3, zn4, zn5, zn6, reduceCtorEq, zn7, zi1, zi2, if_pos, if_neg] <;> rfl) (DApp.of (a2) (by simp (disch := omega) only [go_sem, ↓reduceIte, zn1, zn2, zn3, zn4, zn5, zn6, reduceCtorEq, zn7, zi1, zi2, if_pos, if_neg] <;> rfl) rfl (by simp (disch := omega) only [go_sem, ↓reduceIte, zn1, zn2, zn3, zn4, zn5, zn6, reduceCtorEq, zn7, zi1, zi2, if_pos, if_neg] <;> rfl) ?_))
        (repeat (first | refine DO.nil (by kernel_rfl) ?_ | (with_reducible first | apply oz1 | apply oz2 | apply oz3 | apply oz4 | apply oz5 | apply oz6 | apply oz7 | apply oz8 | apply oz9 | apply ozb | apply ozc | apply oze | apply ozf | apply ozg | apply ozh | apply ozi | apply ozj | apply ozk | refine ozd (by decide) ?_) | ((first | apply SO.call | apply DO.call); (iterate 3 (focus (simp (disch := omega) only [go_sem, ↓reduceIte, zn1, zn2, zn3, zn4, zn5, zn6, reduceCtorEq, zn7, zi1, zi2, if_pos, if_neg] <;> rfl))); (first | apply SCall.ofX | apply DCall.ofX); (focus (first | assumption)); (focus (simp (disch := omega) only [go_sem, ↓reduceIte, zn1, zn2, zn3, zn4, zn5, zn6, reduceCtorEq, zn7, zi1, zi2, if_pos, if_neg] <;> rfl))) | ((with_reducible first | apply SC.condB | apply SC.region | apply SO.run | apply DO.run); (focus (simp (disch := omega) only [go_sem, ↓reduceIte, zn1, zn2, zn3, zn4, zn5, zn6, reduceCtorEq, zn7, zi1, zi2, if_pos, if_neg] <;> rfl)); (first | refine pickT ?_ | refine pickF ?_ | fail_if_success with_reducible refine pickA ?_)) | ((with_reducible refine SC.draw Tab.mixed ?_ ?_); (focus (first | rfl | simp (disch := omega) only [go_sem, ↓reduceIte, zn1, zn2, zn3, zn4, zn5, zn6, reduceCtorEq, zn7, zi1, zi2, if_pos, if_neg]))) | (with_reducible apply SC.ops)))
        refine SC.loop (fun j : Nat => ⟨[(2, .pt 0 0), (3, .sl 6 0 (P ++ n8b c ++ [sgB true] ++ n8b (m.length : Int) ++ (m.take j).flatMap w4).length 1 none), (9, .im TL n), (10, .sc (.int .i64 n)), (11, .sc (.int .i64 i)), (36, .im (uv m) m.length), (37, .sc (.int .i64 m.length)), (38, .sc (.int .i64 j))], [(0, ⟨25, R0, false⟩), (6, ⟨5, bw (P ++ n8b c ++ [sgB true] ++ n8b (m.length : Int) ++ (m.take j).flatMap w4), false⟩)], 7, 49⟩)
          (fun j => j ≤ m.length) (fun j => m.length - j) 0 ?_ ?_ ?_
        · have e : (m.take 0).flatMap w4 = [] := rfl
          have e3 : (P ++ n8b c ++ [sgB true] ++ n8b (m.length : Int)).length = P.length + 8 + 1 + 8 := by rw [List.length_append, l2]; rfl
          simp only [e, List.append_nil, e3]
          (refine Le.slots ?_ ?_ ?_ <;> (repeat' (first | (exact fun _ _ h => h) | exact Nat.le_refl _ | exact leSl_nil | refine leSl_cons (by simp (disch := omega) only [go_sem, ↓reduceIte, zn1, zn2, zn3, zn4, zn5, zn6, reduceCtorEq, zn7, zi1, zi2, if_pos, if_neg] <;> rfl) ?_ ?_ | exact VLe.junk _ | exact VLe.refl rfl | exact VLe.nil_sl _ _ _ | exact VLe.int (by first | rfl | omega | (dsimp only; omega)) | exact VLe.bool rfl | exact VLe.sl rfl (by first | rfl | omega) | exact VLe.cap rfl (by first | rfl | omega) | exact VLe.im rfl rfl | omega | (refine fun id k h => ?_; simp only [hget] at h ⊢; (repeat' (split at h)) <;> first | (cases h; done) | (simp (disch := omega) only [if_pos, if_neg]; exact h)))))
        · exact Nat.zero_le _
        · intro j hj K' hK'
          have hlj : (P ++ n8b c ++ [sgB true] ++ n8b (m.length : Int) ++ (m.take j).flatMap w4).length = P.length + 17 + 4 * j := by
            rw [List.length_append, List.length_append, l2, fl4_len, List.length_take]
            show _ + 8 + _ = _; omega
          by_cases hc2 : j < m.length
          · have q2 : decide ((j : Int) < (m.length : Int)) = true := decide_eq_true (by omega)
            have g3 := uv_get hc2
            have lu := uv_len m
            have e4 : P ++ n8b c ++ [sgB true] ++ n8b (m.length : Int) ++ (m.take (j + 1)).flatMap w4 = P ++ n8b c ++ [sgB true] ++ n8b (m.length : Int) ++ (m.take j).flatMap w4 ++ w4 (m.getD j 0) := by
              rw [fl_succ hc2, ← List.append_assoc]
            have a3 := wordA (id := 6) (cap := none) (C := P ++ n8b c ++ [sgB true] ++ n8b (m.length : Int) ++ (m.take j).flatMap w4) (m.getD j 0) rfl (by omega)
            have hcl := bw_clo (P ++ n8b c ++ [sgB true] ++ n8b (m.length : Int) ++ (m.take (j + 1)).flatMap w4)
            have hl4 : (P ++ n8b c ++ [sgB true] ++ n8b (m.length : Int) ++ (m.take (j + 1)).flatMap w4).length = (P ++ n8b c ++ [sgB true] ++ n8b (m.length : Int) ++ (m.take j).flatMap w4).length + 4 := by rw [e4, List.length_append]; rfl
            have hK3 : ∀ s' : SS, _ → K' s' := fun s' h => hK' s' (j + 1) h (by omega) (by omega)
            rw [hl4] at hK3
            rw [e4] at hK3 hcl
            clear hK' hl4 e4
            generalize P ++ n8b c ++ [sgB true] ++ n8b (m.length : Int) ++ (m.take j).flatMap w4 = Z at *
            generalize m.getD j 0 = x at *
            (repeat (first | refine DO.nil (by kernel_rfl) ?_ | (with_reducible first | apply oz1 | apply oz2 | apply oz3 | apply oz4 | apply oz5 | apply oz6 | apply oz7 | apply oz8 | apply oz9 | apply ozb | apply ozc | apply oze | apply ozf | apply ozg | apply ozh | apply ozi | apply ozj | apply ozk | refine ozd (by decide) ?_) | ((first | apply SO.call | apply DO.call); (iterate 3 (focus (simp (disch := omega) only [go_sem, ↓reduceIte, zn1, zn2, zn3, zn4, zn5, zn6, reduceCtorEq, zn7, zi1, zi2, if_pos, if_neg, q2, g3, lu, List.getElem?_drop, Nat.mul_one] <;> rfl))); (first | apply SCall.ofX | apply DCall.ofX); (focus (first | assumption)); (focus (simp (disch := omega) only [go_sem, ↓reduceIte, zn1, zn2, zn3, zn4, zn5, zn6, reduceCtorEq, zn7, zi1, zi2, if_pos, if_neg, q2, g3, lu, List.getElem?_drop, Nat.mul_one] <;> rfl))) | ((with_reducible first | apply SC.condB | apply SC.region | apply SO.run | apply DO.run); (focus (simp (disch := omega) only [go_sem, ↓reduceIte, zn1, zn2, zn3, zn4, zn5, zn6, reduceCtorEq, zn7, zi1, zi2, if_pos, if_neg, q2, g3, lu, List.getElem?_drop, Nat.mul_one] <;> rfl)); (first | refine pickT ?_ | refine pickF ?_ | fail_if_success with_reducible refine pickA ?_)) | ((with_reducible refine SC.draw Tab.mixed ?_ ?_); (focus (first | rfl | simp (disch := omega) only [go_sem, ↓reduceIte, zn1, zn2, zn3, zn4, zn5, zn6, reduceCtorEq, zn7, zi1, zi2, if_pos, if_neg, q2, g3, lu, List.getElem?_drop, Nat.mul_one]))) | (with_reducible apply SC.ops)))
            (first | refine SO.callA Tab.go22 (by simp (disch := omega) only [go_sem, ↓reduceIte, zn1, zn2, zn3, zn4, zn5, zn6, reduceCtorEq, zn7, zi1, zi2, if_pos, if_neg] <;> rfl) (by simp (disch := omega) only [go_sem, ↓reduceIte, zn1, zn2, zn3, zn4, zn5, zn6, reduceCtorEq, zn7, zi1, zi2, if_pos, if_neg] <;> rfl) (SApp.of (a3) (by simp (disch := omega) only [go_sem, ↓reduceIte, zn1, zn2, zn3, zn4, zn5, zn6, reduceCtorEq, zn7, zi1, zi2, if_pos, if_neg] <;> rfl) rfl (by simp (disch := omega) only [go_sem, ↓reduceIte, zn1, zn2, zn3, zn4, zn5, zn6, reduceCtorEq, zn7, zi1, zi2, if_pos, if_neg] <;> rfl) ?_) | refine DO.callA Tab.go22 (by simp (disch := omega) only [go_sem, ↓reduceIte, zn1, zn2, zn3, zn4, zn5, zn6, reduceCtorEq, zn7, zi1, zi2, if_pos, if_neg] <;> rfl) (by simp (disch := omega) only [go_sem, ↓reduceIte, zn1, zn2, zn3, zn4, zn5, zn6, reduceCtorEq, zn7, zi1, zi2, if_pos, if_neg] <;> rfl) (DApp.of (a3) (by simp (disch := omega) only [go_sem, ↓reduceIte, zn1, zn2, zn3, zn4, zn5, zn6, reduceCtorEq, zn7, zi1, zi2, if_pos, if_neg] <;> rfl) rfl (by simp (disch := omega) only [go_sem, ↓reduceIte, zn1, zn2, zn3, zn4, zn5, zn6, reduceCtorEq, zn7, zi1, zi2, if_pos, if_neg] <;> rfl) ?_))
            (repeat (first | refine DO.nil (by kernel_rfl) ?_ | (with_reducible first | apply oz1 | apply oz2 | apply oz3 | apply oz4 | apply oz5 | apply oz6 | apply oz7 | apply oz8 | apply oz9 | apply ozb | apply ozc | apply oze | apply ozf | apply ozg | apply ozh | apply ozi | apply ozj | apply ozk | refine ozd (by decide) ?_) | ((first | apply SO.call | apply DO.call); (iterate 3 (focus (simp (disch := omega) only [go_sem, ↓reduceIte, zn1, zn2, zn3, zn4, zn5, zn6, reduceCtorEq, zn7, zi1, zi2, if_pos, if_neg] <;> rfl))); (first | apply SCall.ofX | apply DCall.ofX); (focus (first | assumption)); (focus (simp (disch := omega) only [go_sem, ↓reduceIte, zn1, zn2, zn3, zn4, zn5, zn6, reduceCtorEq, zn7, zi1, zi2, if_pos, if_neg] <;> rfl))) | ((with_reducible first | apply SC.condB | apply SC.region | apply SO.run | apply DO.run); (focus (simp (disch := omega) only [go_sem, ↓reduceIte, zn1, zn2, zn3, zn4, zn5, zn6, reduceCtorEq, zn7, zi1, zi2, if_pos, if_neg] <;> rfl)); (first | refine pickT ?_ | refine pickF ?_ | fail_if_success with_reducible refine pickA ?_)) | ((with_reducible refine SC.draw Tab.mixed ?_ ?_); (focus (first | rfl | simp (disch := omega) only [go_sem, ↓reduceIte, zn1, zn2, zn3, zn4, zn5, zn6, reduceCtorEq, zn7, zi1, zi2, if_pos, if_neg]))) | (with_reducible apply SC.ops)))
            refine hK3 _ ?_
            refine Le.ren 6 7 hB (by omega) (by omega) (by omega) ?_ ?_
            · (repeat' (first | exact trivial | refine mapSl_cons (by simp (disch := omega) only [go_sem, ↓reduceIte, zn1, zn2, zn3, zn4, zn5, zn6, reduceCtorEq, zn7, zi1, zi2, if_pos, if_neg] <;> rfl) ?_ ?_ | exact VMap.junk _ | exact VMap.sc _ | exact VMap.clo rfl | exact VMap.sl rfl (by omega) | exact VMap.cap rfl (by omega) | exact VMap.pt rfl (by omega) | exact VMap.nil_sl _ _ _ | exact VMap.int (by first | rfl | omega | (dsimp only; omega))))
            · (repeat' (first | exact mapHp_nil | refine mapHp_cons (by simp (disch := omega) only [go_sem, ↓reduceIte, zn1, zn2, zn3, zn4, zn5, zn6, reduceCtorEq, zn7, zi1, zi2, if_pos, if_neg] <;> rfl) ?_ ?_ | exact BMap.clo (by first | rfl | assumption | exact wv_clo _ | exact imR_clo _ _ | exact nv_clo _) | refine BMap.list ?_ | exact mapL_nil | refine mapL_cons ?_ ?_ | exact VMap.junk _ | exact VMap.sc _ | exact VMap.clo rfl | exact VMap.sl rfl (by omega) | exact VMap.cap rfl (by omega) | exact VMap.pt rfl (by omega) | exact VMap.nil_sl _ _ _ | exact VMap.int (by first | rfl | omega | (dsimp only; omega))))
          · have q2 : decide ((j : Int) < (m.length : Int)) = false := decide_eq_false (by omega)
            have hjl : j = m.length := by omega
            subst hjl
            have e5 : P ++ n8b c ++ [sgB true] ++ n8b (m.length : Int) ++ (m.take m.length).flatMap w4 = P ++ tmB ⟨c, true, m⟩ := by
              unfold tmB; rw [List.take_of_length_le (Nat.le_refl _)]; simp only [List.append_assoc]
            rw [e5]
            have hcl := bw_clo (P ++ tmB ⟨c, true, m⟩)
            clear hK'
            generalize P ++ tmB ⟨c, true, m⟩ = Z at *
            (repeat (first | refine DO.nil (by kernel_rfl) ?_ | (with_reducible first | apply oz1 | apply oz2 | apply oz3 | apply oz4 | apply oz5 | apply oz6 | apply oz7 | apply oz8 | apply oz9 | apply ozb | apply ozc | apply oze | apply ozf | apply ozg | apply ozh | apply ozi | apply ozj | apply ozk | refine ozd (by decide) ?_) | ((first | apply SO.call | apply DO.call); (iterate 3 (focus (simp (disch := omega) only [go_sem, ↓reduceIte, zn1, zn2, zn3, zn4, zn5, zn6, reduceCtorEq, zn7, zi1, zi2, if_pos, if_neg, q2] <;> rfl))); (first | apply SCall.ofX | apply DCall.ofX); (focus (first | assumption)); (focus (simp (disch := omega) only [go_sem, ↓reduceIte, zn1, zn2, zn3, zn4, zn5, zn6, reduceCtorEq, zn7, zi1, zi2, if_pos, if_neg, q2] <;> rfl))) | ((with_reducible first | apply SC.condB | apply SC.region | apply SO.run | apply DO.run); (focus (simp (disch := omega) only [go_sem, ↓reduceIte, zn1, zn2, zn3, zn4, zn5, zn6, reduceCtorEq, zn7, zi1, zi2, if_pos, if_neg, q2] <;> rfl)); (first | refine pickT ?_ | refine pickF ?_ | fail_if_success with_reducible refine pickA ?_)) | ((with_reducible refine SC.draw Tab.mixed ?_ ?_); (focus (first | rfl | simp (disch := omega) only [go_sem, ↓reduceIte, zn1, zn2, zn3, zn4, zn5, zn6, reduceCtorEq, zn7, zi1, zi2, if_pos, if_neg, q2]))) | (with_reducible apply SC.ops)))
            refine hK2 _ ?_
            refine Le.ren 1 6 hB (by omega) (by omega) (by omega) ?_ ?_
            · (repeat' (first | exact trivial | refine mapSl_cons (by simp (disch := omega) only [go_sem, ↓reduceIte, zn1, zn2, zn3, zn4, zn5, zn6, reduceCtorEq, zn7, zi1, zi2, if_pos, if_neg] <;> rfl) ?_ ?_ | exact VMap.junk _ | exact VMap.sc _ | exact VMap.clo rfl | exact VMap.sl rfl (by omega) | exact VMap.cap rfl (by omega) | exact VMap.pt rfl (by omega) | exact VMap.nil_sl _ _ _ | exact VMap.int (by first | rfl | omega | (dsimp only; omega))))
            · (repeat' (first | exact mapHp_nil | refine mapHp_cons (by simp (disch := omega) only [go_sem, ↓reduceIte, zn1, zn2, zn3, zn4, zn5, zn6, reduceCtorEq, zn7, zi1, zi2, if_pos, if_neg] <;> rfl) ?_ ?_ | exact BMap.clo (by first | rfl | assumption | exact wv_clo _ | exact imR_clo _ _ | exact nv_clo _) | refine BMap.list ?_ | exact mapL_nil | refine mapL_cons ?_ ?_ | exact VMap.junk _ | exact VMap.sc _ | exact VMap.clo rfl | exact VMap.sl rfl (by omega) | exact VMap.cap rfl (by omega) | exact VMap.pt rfl (by omega) | exact VMap.nil_sl _ _ _ | exact VMap.int (by first | rfl | omega | (dsimp only; omega))))
    · have q1 : decide ((i : Int) < (l.length : Int)) = false := decide_eq_false (by omega)
      have hil : i = l.length := by omega
      subst hil
      clear hK
      have l1 := bw_len (rowP l l.length)
      have t1 : (bw (rowP l l.length)).take (rowP l l.length).length = bw (rowP l l.length) := List.take_of_length_le (by omega)
      have c1 := bw_clo (rowP l l.length)
      have gc := bw_clo D
      have gd := bw_one D
      have gf := bw_fl1 D
      have gg : (bw D).take 32 = bw D := List.take_of_length_le (by omega)
      have gh := setAll_full D (by rw [← bw_len, gD])
      have gr : (bw (List.replicate 32 0)).length = 32 := rfl
      generalize bw (List.replicate 32 0) = R0 at *
      generalize rowP l l.length = P at *
      (repeat (first | refine DO.nil (by kernel_rfl) ?_ | (with_reducible first | apply oz1 | apply oz2 | apply oz3 | apply oz4 | apply oz5 | apply oz6 | apply oz7 | apply oz8 | apply oz9 | apply ozb | apply ozc | apply oze | apply ozf | apply ozg | apply ozh | apply ozi | apply ozj | apply ozk | refine ozd (by decide) ?_) | ((first | apply SO.call | apply DO.call); (iterate 3 (focus (simp (disch := omega) only [go_sem, ↓reduceIte, zn1, zn2, zn3, zn4, zn5, zn6, reduceCtorEq, zn7, zi1, zi2, if_pos, if_neg, q1, l1, t1, c1, gc, gd, gf, gg, gr, gD, List.drop_zero, Nat.mul_one] <;> rfl))); (first | apply SCall.ofX | apply DCall.ofX); (focus (first | assumption)); (focus (simp (disch := omega) only [go_sem, ↓reduceIte, zn1, zn2, zn3, zn4, zn5, zn6, reduceCtorEq, zn7, zi1, zi2, if_pos, if_neg, q1, l1, t1, c1, gc, gd, gf, gg, gr, gD, List.drop_zero, Nat.mul_one] <;> rfl))) | ((with_reducible first | apply SC.condB | apply SC.region | apply SO.run | apply DO.run); (focus (simp (disch := omega) only [go_sem, ↓reduceIte, zn1, zn2, zn3, zn4, zn5, zn6, reduceCtorEq, zn7, zi1, zi2, if_pos, if_neg, q1, l1, t1, c1, gc, gd, gf, gg, gr, gD, List.drop_zero, Nat.mul_one] <;> rfl)); (first | refine pickT ?_ | refine pickF ?_ | fail_if_success with_reducible refine pickA ?_)) | ((with_reducible refine SC.draw Tab.mixed ?_ ?_); (focus (first | rfl | simp (disch := omega) only [go_sem, ↓reduceIte, zn1, zn2, zn3, zn4, zn5, zn6, reduceCtorEq, zn7, zi1, zi2, if_pos, if_neg, q1, l1, t1, c1, gc, gd, gf, gg, gr, gD, List.drop_zero, Nat.mul_one]))) | (with_reducible apply SC.ops)))
      exact retQ_ret Tryd.results15 (by simp (disch := omega) only [go_sem, ↓reduceIte, zn1, zn2, zn3, zn4, zn5, zn6, reduceCtorEq, zn7, zi1, zi2, if_pos, if_neg, gh, gg, gD, gc, List.drop_zero] <;> rfl) (by simp (disch := omega) only [go_sem, ↓reduceIte, zn1, zn2, zn3, zn4, zn5, zn6, reduceCtorEq, zn7, zi1, zi2, if_pos, if_neg, gh, gg, gD, gc, List.drop_zero] <;> rfl) rfl
set_option maxHeartbeats 8000000 in
theorem rrow_s {l : List Tm} (h : ∀ t ∈ l, t.Ok) (hl : l.length ≤ 100) : Spec Tryd.prog 16 [.im (tmsC l) l.length] (.ag (bw (sumL (rowB l)))) := by
  have hPl := rowP_len h hl
  have cS := rsum_s (b := rowB l) (by rw [← rowP_all]; have := hPl l.length; omega) (rowB_u8 l)
  rw [← rowP_all] at cS ⊢
  generalize hD : sumL (rowP l l.length) = D at *
  have gD : (bw D).length = 32 := by rw [← hD]; rfl
  refine Spec.run Tryd.func16 rfl Tryd.ntmps16 (by simp) (by simp (disch := omega) only [go_sem, ↓reduceIte, zn1, zn2, zn3, zn4, zn5, zn6, reduceCtorEq, zn7, zi1, zi2, if_pos, if_neg]; rfl) fun B hB => ?_
  (repeat (first | refine DO.nil (by kernel_rfl) ?_ | (with_reducible first | apply oz1 | apply oz2 | apply oz3 | apply oz4 | apply oz5 | apply oz6 | apply oz7 | apply oz8 | apply oz9 | apply ozb | apply ozc | apply oze | apply ozf | apply ozg | apply ozh | apply ozi | apply ozj | apply ozk | refine ozd (by decide) ?_) | ((first | apply SO.call | apply DO.call); (iterate 3 (focus (simp (disch := omega) only [go_sem, ↓reduceIte, zn1, zn2, zn3, zn4, zn5, zn6, reduceCtorEq, zn7, zi1, zi2, if_pos, if_neg] <;> rfl))); (first | apply SCall.ofX | apply DCall.ofX); (focus (first | assumption)); (focus (simp (disch := omega) only [go_sem, ↓reduceIte, zn1, zn2, zn3, zn4, zn5, zn6, reduceCtorEq, zn7, zi1, zi2, if_pos, if_neg] <;> rfl))) | ((with_reducible first | apply SC.condB | apply SC.region | apply SO.run | apply DO.run); (focus (simp (disch := omega) only [go_sem, ↓reduceIte, zn1, zn2, zn3, zn4, zn5, zn6, reduceCtorEq, zn7, zi1, zi2, if_pos, if_neg] <;> rfl)); (first | refine pickT ?_ | refine pickF ?_ | fail_if_success with_reducible refine pickA ?_)) | ((with_reducible refine SC.draw Tab.mixed ?_ ?_); (focus (first | rfl | simp (disch := omega) only [go_sem, ↓reduceIte, zn1, zn2, zn3, zn4, zn5, zn6, reduceCtorEq, zn7, zi1, zi2, if_pos, if_neg]))) | (with_reducible apply SC.ops)))
  refine SC.loop (fun i : Nat => ⟨[(2, .pt 0 0), (3, .sl 1 0 (rowP l i).length 1 none), (0, .im (tmsC l) l.length), (4, .sc (.int .i64 i))], [(0, ⟨25, bw (List.replicate 32 0), false⟩), (1, ⟨5, bw (rowP l i), false⟩)], 2, 79⟩)
    (fun i => i ≤ l.length) (fun i => l.length - i) 0 ?_ ?_ ?_
  · have e : bw (rowP l 0) = [.sc (.int .u8 0)] := rfl
    have e2 : (rowP l 0).length = 1 := rfl
    rw [z32]
    simp only [e, e2]
    (refine Le.slots ?_ ?_ ?_ <;> (repeat' (first | (exact fun _ _ h => h) | exact Nat.le_refl _ | exact leSl_nil | refine leSl_cons (by simp (disch := omega) only [go_sem, ↓reduceIte, zn1, zn2, zn3, zn4, zn5, zn6, reduceCtorEq, zn7, zi1, zi2, if_pos, if_neg] <;> rfl) ?_ ?_ | exact VLe.junk _ | exact VLe.refl rfl | exact VLe.nil_sl _ _ _ | exact VLe.int (by first | rfl | omega | (dsimp only; omega)) | exact VLe.bool rfl | exact VLe.sl rfl (by first | rfl | omega) | exact VLe.cap rfl (by first | rfl | omega) | exact VLe.im rfl rfl | omega | (refine fun id k h => ?_; simp only [hget] at h ⊢; (repeat' (split at h)) <;> first | (cases h; done) | (simp (disch := omega) only [if_pos, if_neg]; exact h)))))
  · exact Nat.zero_le _
  · intro i hi K hK
    have hPi := hPl i
    by_cases hc : i < l.length
    · have q1 : decide ((i : Int) < (l.length : Int)) = true := decide_eq_true (by omega)
      have g1 := tmsC_drop hc
      have g2 : i * 3 < (tmsC l).length := by rw [tmsC_len]; omega
      have eP := rowP_succ hc
      have hPs := hPl (i + 1)
      obtain ⟨o1, o2, o3⟩ := h _ (getDm (d := ⟨0, false, []⟩) hc)
      have hK2 : ∀ s' : SS, _ → K s' := fun s' h => hK s' (i + 1) h (by omega) (by omega)
      rw [eP] at hK2 hPs
      clear hK eP
      generalize l.getD i ⟨0, false, []⟩ = t at *
      obtain ⟨c, b, m⟩ := t
      simp only at o1 o2 o3
      generalize (tmsC l).drop ((i + 1) * 3) = DD at *
      unfold tmC at g1
      simp only at g1
      generalize tmsC l = TL at *
      generalize rowP l i = P at *
      generalize l.length = n at *
      have a1 := rnumA (id := 1) (cap := none) (C := P) c rfl (by omega) o1 (by omega)
      have l1 : (bw (P ++ n8b c)).length = P.length + 8 := by rw [bw_len, List.length_append]; rfl
      have t1 : (bw (P ++ n8b c)).take (P.length + 8) = bw (P ++ n8b c) := List.take_of_length_le (by omega)
      have l2 : (P ++ n8b c ++ [sgB b]).length = P.length + 8 + 1 := by rw [List.length_append, List.length_append]; rfl
      have a2 := rnumA (id := 4) (cap := none) (n := P.length + 8 + 1) (C := P ++ n8b c ++ [sgB b]) (m.length : Int) l2.symm (by omega) (by omega) (by omega)
      rw [bw_app (P ++ n8b c) [sgB b]] at a2
      have gR := bw_clo (List.replicate 32 0)
      generalize bw (List.replicate 32 0) = R0 at *
      (repeat (first | refine DO.nil (by kernel_rfl) ?_ | (with_reducible first | apply oz1 | apply oz2 | apply oz3 | apply oz4 | apply oz5 | apply oz6 | apply oz7 | apply oz8 | apply oz9 | apply ozb | apply ozc | apply oze | apply ozf | apply ozg | apply ozh | apply ozi | apply ozj | apply ozk | refine ozd (by decide) ?_) | ((first | apply SO.call | apply DO.call); (iterate 3 (focus (simp (disch := omega) only [go_sem, ↓reduceIte, zn1, zn2, zn3, zn4, zn5, zn6, reduceCtorEq, zn7, zi1, zi2, if_pos, if_neg, q1, g1, g2, List.cons_append, List.nil_append] <;> rfl))); (first | apply SCall.ofX | apply DCall.ofX); (focus (first | assumption)); (focus (simp (disch := omega) only [go_sem, ↓reduceIte, zn1, zn2, zn3, zn4, zn5, zn6, reduceCtorEq, zn7, zi1, zi2, if_pos, if_neg, q1, g1, g2, List.cons_append, List.nil_append] <;> rfl))) | ((with_reducible first | apply SC.condB | apply SC.region | apply SO.run | apply DO.run); (focus (simp (disch := omega) only [go_sem, ↓reduceIte, zn1, zn2, zn3, zn4, zn5, zn6, reduceCtorEq, zn7, zi1, zi2, if_pos, if_neg, q1, g1, g2, List.cons_append, List.nil_append] <;> rfl)); (first | refine pickT ?_ | refine pickF ?_ | fail_if_success with_reducible refine pickA ?_)) | ((with_reducible refine SC.draw Tab.mixed ?_ ?_); (focus (first | rfl | simp (disch := omega) only [go_sem, ↓reduceIte, zn1, zn2, zn3, zn4, zn5, zn6, reduceCtorEq, zn7, zi1, zi2, if_pos, if_neg, q1, g1, g2, List.cons_append, List.nil_append]))) | (with_reducible apply SC.ops)))
      (first | refine SO.callA Tab.go23 (by simp (disch := omega) only [go_sem, ↓reduceIte, zn1, zn2, zn3, zn4, zn5, zn6, reduceCtorEq, zn7, zi1, zi2, if_pos, if_neg] <;> rfl) (by simp (disch := omega) only [go_sem, ↓reduceIte, zn1, zn2, zn3, zn4, zn5, zn6, reduceCtorEq, zn7, zi1, zi2, if_pos, if_neg] <;> rfl) (SApp.of (a1) (by simp (disch := omega) only [go_sem, ↓reduceIte, zn1, zn2, zn3, zn4, zn5, zn6, reduceCtorEq, zn7, zi1, zi2, if_pos, if_neg] <;> rfl) rfl (by simp (disch := omega) only [go_sem, ↓reduceIte, zn1, zn2, zn3, zn4, zn5, zn6, reduceCtorEq, zn7, zi1, zi2, if_pos, if_neg] <;> rfl) ?_) | refine DO.callA Tab.go23 (by simp (disch := omega) only [go_sem, ↓reduceIte, zn1, zn2, zn3, zn4, zn5, zn6, reduceCtorEq, zn7, zi1, zi2, if_pos, if_neg] <;> rfl) (by simp (disch := omega) only [go_sem, ↓reduceIte, zn1, zn2, zn3, zn4, zn5, zn6, reduceCtorEq, zn7, zi1, zi2, if_pos, if_neg] <;> rfl) (DApp.of (a1) (by simp (disch := omega) only [go_sem, ↓reduceIte, zn1, zn2, zn3, zn4, zn5, zn6, reduceCtorEq, zn7, zi1, zi2, if_pos, if_neg] <;> rfl) rfl (by simp (disch := omega) only [go_sem, ↓reduceIte, zn1, zn2, zn3, zn4, zn5, zn6, reduceCtorEq, zn7, zi1, zi2, if_pos, if_neg] <;> rfl) ?_))
      cases b
      · have e0 : bw [sgB false] = [.sc (.int .u8 0)] := rfl
        rw [e0] at a2
        (repeat (first | refine DO.nil (by kernel_rfl) ?_ | (with_reducible first | apply oz1 | apply oz2 | apply oz3 | apply oz4 | apply oz5 | apply oz6 | apply oz7 | apply oz8 | apply oz9 | apply ozb | apply ozc | apply oze | apply ozf | apply ozg | apply ozh | apply ozi | apply ozj | apply ozk | refine ozd (by decide) ?_) | ((first | apply SO.call | apply DO.call); (iterate 3 (focus (simp (disch := omega) only [go_sem, ↓reduceIte, zn1, zn2, zn3, zn4, zn5, zn6, reduceCtorEq, zn7, zi1, zi2, if_pos, if_neg, q1, g1, g2, l1, t1, List.cons_append, List.nil_append, List.drop_zero, Nat.mul_one] <;> rfl))); (first | apply SCall.ofX | apply DCall.ofX); (focus (first | assumption)); (focus (simp (disch := omega) only [go_sem, ↓reduceIte, zn1, zn2, zn3, zn4, zn5, zn6, reduceCtorEq, zn7, zi1, zi2, if_pos, if_neg, q1, g1, g2, l1, t1, List.cons_append, List.nil_append, List.drop_zero, Nat.mul_one] <;> rfl))) | ((with_reducible first | apply SC.condB | apply SC.region | apply SO.run | apply DO.run); (focus (simp (disch := omega) only [go_sem, ↓reduceIte, zn1, zn2, zn3, zn4, zn5, zn6, reduceCtorEq, zn7, zi1, zi2, if_pos, if_neg, q1, g1, g2, l1, t1, List.cons_append, List.nil_append, List.drop_zero, Nat.mul_one] <;> rfl)); (first | refine pickT ?_ | refine pickF ?_ | fail_if_success with_reducible refine pickA ?_)) | ((with_reducible refine SC.draw Tab.mixed ?_ ?_); (focus (first | rfl | simp (disch := omega) only [go_sem, ↓reduceIte, zn1, zn2, zn3, zn4, zn5, zn6, reduceCtorEq, zn7, zi1, zi2, if_pos, if_neg, q1, g1, g2, l1, t1, List.cons_append, List.nil_append, List.drop_zero, Nat.mul_one]))) | (with_reducible apply SC.ops)))
        (first | refine SO.callA Tab.go23 (by simp (disch := omega) only [go_sem, ↓reduceIte, zn1, zn2, zn3, zn4, zn5, zn6, reduceCtorEq, zn7, zi1, zi2, if_pos, if_neg] <;> rfl) (by simp (disch := omega) only [go_sem, ↓reduceIte, zn1, zn2, zn3, zn4, zn5, zn6, reduceCtorEq, zn7, zi1, zi2, if_pos, if_neg] <;> rfl) (SApp.of (a2) (by simp (disch := omega) only [go_sem, ↓reduceIte, zn1, zn2, zn3, zn4, zn5, zn6, reduceCtorEq, zn7, zi1, zi2, if_pos, if_neg] <;> rfl) rfl (by simp (disch := omega) only [go_sem, ↓reduceIte, zn1, zn2, zn3, zn4, zn5, zn6, reduceCtorEq, zn7, zi1, zi2, if_pos, if_neg] <;> rfl) ?_) | refine DO.callA Tab.go23 (by simp (disch := omega) only [go_sem, ↓reduceIte, zn1, zn2, zn3, zn4, zn5, zn6, reduceCtorEq, zn7, zi1, zi2, if_pos, if_neg] <;> rfl) (by simp (disch := omega) only [go_sem, ↓reduceIte, zn1, zn2, zn3, zn4, zn5, zn6, reduceCtorEq, zn7, zi1, zi2, if_pos, if_neg] <;> rfl) (DApp.of (a2) (by simp (disch := omega) only [go_sem, ↓reduceIte, zn1, zn2, zn3, zn4, zn5, zn6, reduceCtorEq, zn7, zi1, zi2, if_pos, if_neg] <;> rfl) rfl (by simp (disch := omega) only [go_sem, ↓reduceIte, zn1, zn2, zn3, zn4, zn5, zn6, reduceCtorEq, zn7, zi1, zi2, if_pos, if_neg] <;> rfl) ?_))
        (repeat (first | refine DO.nil (by kernel_rfl) ?_ | (with_reducible first | apply oz1 | apply oz2 | apply oz3 | apply oz4 | apply oz5 | apply oz6 | apply oz7 | apply oz8 | apply oz9 | apply ozb | apply ozc | apply oze | apply ozf | apply ozg | apply ozh | apply ozi | apply ozj | apply ozk | refine ozd (by decide) ?_) | ((first | apply SO.call | apply DO.call); (iterate 3 (focus (simp (disch := omega) only [go_sem, ↓reduceIte, zn1, zn2, zn3, zn4, zn5, zn6, reduceCtorEq, zn7, zi1, zi2, if_pos, if_neg] <;> rfl))); (first | apply SCall.ofX | apply DCall.ofX); (focus (first | assumption)); (focus (simp (disch := omega) only [go_sem, ↓reduceIte, zn1, zn2, zn3, zn4, zn5, zn6, reduceCtorEq, zn7, zi1, zi2, if_pos, if_neg] <;> rfl))) | ((with_reducible first | apply SC.condB | apply SC.region | apply SO.run | apply DO.run); (focus (simp (disch := omega) only [go_sem, ↓reduceIte, zn1, zn2, zn3, zn4, zn5, zn6, reduceCtorEq, zn7, zi1, zi2, if_pos, if_neg] <;> rfl)); (first | refine pickT ?_ | refine pickF ?_ | fail_if_success with_reducible refine pickA ?_)) | ((with_reducible refine SC.draw Tab.mixed ?_ ?_); (focus (first | rfl | simp (disch := omega) only [go_sem, ↓reduceIte, zn1, zn2, zn3, zn4, zn5, zn6, reduceCtorEq, zn7, zi1, zi2, if_pos, if_neg]))) | (with_reducible apply SC.ops)))
        refine SC.loop (fun j : Nat => ⟨[(2, .pt 0 0), (3, .sl 5 0 (P ++ n8b c ++ [sgB false] ++ n8b (m.length : Int) ++ (m.take j).flatMap w4).length 1 none), (0, .im TL n), (4, .sc (.int .i64 i)), (6, .sc (.int .i64 j))], [(0, ⟨25, R0, false⟩), (5, ⟨5, bw (P ++ n8b c ++ [sgB false] ++ n8b (m.length : Int) ++ (m.take j).flatMap w4), false⟩)], 6, 79⟩)
          (fun j => j ≤ m.length) (fun j => m.length - j) 0 ?_ ?_ ?_
        · have e : (m.take 0).flatMap w4 = [] := rfl
          have e3 : (P ++ n8b c ++ [sgB false] ++ n8b (m.length : Int)).length = P.length + 8 + 1 + 8 := by rw [List.length_append, l2]; rfl
          simp only [e, List.append_nil, e3]
          (refine Le.slots ?_ ?_ ?_ <;> (repeat' (first | (exact fun _ _ h => h) | exact Nat.le_refl _ | exact leSl_nil | refine leSl_cons (by simp (disch := omega) only [go_sem, ↓reduceIte, zn1, zn2, zn3, zn4, zn5, zn6, reduceCtorEq, zn7, zi1, zi2, if_pos, if_neg] <;> rfl) ?_ ?_ | exact VLe.junk _ | exact VLe.refl rfl | exact VLe.nil_sl _ _ _ | exact VLe.int (by first | rfl | omega | (dsimp only; omega)) | exact VLe.bool rfl | exact VLe.sl rfl (by first | rfl | omega) | exact VLe.cap rfl (by first | rfl | omega) | exact VLe.im rfl rfl | omega | (refine fun id k h => ?_; simp only [hget] at h ⊢; (repeat' (split at h)) <;> first | (cases h; done) | (simp (disch := omega) only [if_pos, if_neg]; exact h)))))
        · exact Nat.zero_le _
        · intro j hj K' hK'
          have hlj : (P ++ n8b c ++ [sgB false] ++ n8b (m.length : Int) ++ (m.take j).flatMap w4).length = P.length + 17 + 4 * j := by
            rw [List.length_append, List.length_append, l2, fl4_len, List.length_take]
            show _ + 8 + _ = _; omega
          by_cases hc2 : j < m.length
          · have q2 : decide ((j : Int) < (m.length : Int)) = true := decide_eq_true (by omega)
            have g3 := uv_get hc2
            have lu := uv_len m
            have e4 : P ++ n8b c ++ [sgB false] ++ n8b (m.length : Int) ++ (m.take (j + 1)).flatMap w4 = P ++ n8b c ++ [sgB false] ++ n8b (m.length : Int) ++ (m.take j).flatMap w4 ++ w4 (m.getD j 0) := by
              rw [fl_succ hc2, ← List.append_assoc]
            have tz : ∀ Z : List Int, (bw Z).take Z.length = bw Z := fun Z => List.take_of_length_le (by rw [bw_len]; exact Nat.le_refl _)
            have lz : ∀ Z : List Int, (bw Z).length = Z.length := bw_len
            have hcl := bw_clo (P ++ n8b c ++ [sgB false] ++ n8b (m.length : Int) ++ (m.take (j + 1)).flatMap w4)
            have hl4 : (P ++ n8b c ++ [sgB false] ++ n8b (m.length : Int) ++ (m.take (j + 1)).flatMap w4).length = (P ++ n8b c ++ [sgB false] ++ n8b (m.length : Int) ++ (m.take j).flatMap w4).length + 4 := by rw [e4, List.length_append]; rfl
            have hK3 : ∀ s' : SS, _ → K' s' := fun s' h => hK' s' (j + 1) h (by omega) (by omega)
            rw [hl4] at hK3
            rw [e4] at hK3 hcl
            clear hK' hl4 e4
            generalize P ++ n8b c ++ [sgB false] ++ n8b (m.length : Int) ++ (m.take j).flatMap w4 = Z at *
            generalize m.getD j 0 = x at *
            have n24 : min 24 32 = 24 := rfl
            have n16 : min 16 32 = 16 := rfl
            have n8 : min 8 32 = 8 := rfl
            rw [bw_app, w4_bw] at hK3 hcl
            (repeat (first | refine DO.nil (by kernel_rfl) ?_ | (with_reducible first | apply oz1 | apply oz2 | apply oz3 | apply oz4 | apply oz5 | apply oz6 | apply oz7 | apply oz8 | apply oz9 | apply ozb | apply ozc | apply oze | apply ozf | apply ozg | apply ozh | apply ozi | apply ozj | apply ozk | refine ozd (by decide) ?_) | ((first | apply SO.call | apply DO.call); (iterate 3 (focus (simp (disch := omega) only [go_sem, ↓reduceIte, zn1, zn2, zn3, zn4, zn5, zn6, reduceCtorEq, zn7, zi1, zi2, if_pos, if_neg, q2, g1, g2, g3, lu, tz, lz, n24, n16, n8, fd24, fd16, fd8, List.cons_append, List.nil_append, List.getElem?_drop, List.drop_zero, Nat.mul_one] <;> rfl))); (first | apply SCall.ofX | apply DCall.ofX); (focus (first | assumption)); (focus (simp (disch := omega) only [go_sem, ↓reduceIte, zn1, zn2, zn3, zn4, zn5, zn6, reduceCtorEq, zn7, zi1, zi2, if_pos, if_neg, q2, g1, g2, g3, lu, tz, lz, n24, n16, n8, fd24, fd16, fd8, List.cons_append, List.nil_append, List.getElem?_drop, List.drop_zero, Nat.mul_one] <;> rfl))) | ((with_reducible first | apply SC.condB | apply SC.region | apply SO.run | apply DO.run); (focus (simp (disch := omega) only [go_sem, ↓reduceIte, zn1, zn2, zn3, zn4, zn5, zn6, reduceCtorEq, zn7, zi1, zi2, if_pos, if_neg, q2, g1, g2, g3, lu, tz, lz, n24, n16, n8, fd24, fd16, fd8, List.cons_append, List.nil_append, List.getElem?_drop, List.drop_zero, Nat.mul_one] <;> rfl)); (first | refine pickT ?_ | refine pickF ?_ | fail_if_success with_reducible refine pickA ?_)) | ((with_reducible refine SC.draw Tab.mixed ?_ ?_); (focus (first | rfl | simp (disch := omega) only [go_sem, ↓reduceIte, zn1, zn2, zn3, zn4, zn5, zn6, reduceCtorEq, zn7, zi1, zi2, if_pos, if_neg, q2, g1, g2, g3, lu, tz, lz, n24, n16, n8, fd24, fd16, fd8, List.cons_append, List.nil_append, List.getElem?_drop, List.drop_zero, Nat.mul_one]))) | (with_reducible apply SC.ops)))
            refine hK3 _ ?_
            refine Le.ren 5 7 hB (by omega) (by omega) (by omega) ?_ ?_
            · (repeat' (first | exact trivial | refine mapSl_cons (by simp (disch := omega) only [go_sem, ↓reduceIte, zn1, zn2, zn3, zn4, zn5, zn6, reduceCtorEq, zn7, zi1, zi2, if_pos, if_neg] <;> rfl) ?_ ?_ | exact VMap.junk _ | exact VMap.sc _ | exact VMap.clo rfl | exact VMap.sl rfl (by omega) | exact VMap.cap rfl (by omega) | exact VMap.pt rfl (by omega) | exact VMap.nil_sl _ _ _ | exact VMap.int (by first | rfl | omega | (dsimp only; omega))))
            · (repeat' (first | exact mapHp_nil | refine mapHp_cons (by simp (disch := omega) only [go_sem, ↓reduceIte, zn1, zn2, zn3, zn4, zn5, zn6, reduceCtorEq, zn7, zi1, zi2, if_pos, if_neg] <;> rfl) ?_ ?_ | exact BMap.clo (by first | rfl | assumption | exact wv_clo _ | exact imR_clo _ _ | exact nv_clo _) | refine BMap.list ?_ | exact mapL_nil | refine mapL_cons ?_ ?_ | exact VMap.junk _ | exact VMap.sc _ | exact VMap.clo rfl | exact VMap.sl rfl (by omega) | exact VMap.cap rfl (by omega) | exact VMap.pt rfl (by omega) | exact VMap.nil_sl _ _ _ | exact VMap.int (by first | rfl | omega | (dsimp only; omega))))
          · have q2 : decide ((j : Int) < (m.length : Int)) = false := decide_eq_false (by omega)
            have hjl : j = m.length := by omega
            subst hjl
            have e5 : P ++ n8b c ++ [sgB false] ++ n8b (m.length : Int) ++ (m.take m.length).flatMap w4 = P ++ tmB ⟨c, false, m⟩ := by
              unfold tmB; rw [List.take_of_length_le (Nat.le_refl _)]; simp only [List.append_assoc]
            rw [e5]
            have hcl := bw_clo (P ++ tmB ⟨c, false, m⟩)
            clear hK'
            generalize P ++ tmB ⟨c, false, m⟩ = Z at *
            (repeat (first | refine DO.nil (by kernel_rfl) ?_ | (with_reducible first | apply oz1 | apply oz2 | apply oz3 | apply oz4 | apply oz5 | apply oz6 | apply oz7 | apply oz8 | apply oz9 | apply ozb | apply ozc | apply oze | apply ozf | apply ozg | apply ozh | apply ozi | apply ozj | apply ozk | refine ozd (by decide) ?_) | ((first | apply SO.call | apply DO.call); (iterate 3 (focus (simp (disch := omega) only [go_sem, ↓reduceIte, zn1, zn2, zn3, zn4, zn5, zn6, reduceCtorEq, zn7, zi1, zi2, if_pos, if_neg, q2, g1, g2, List.cons_append, List.nil_append] <;> rfl))); (first | apply SCall.ofX | apply DCall.ofX); (focus (first | assumption)); (focus (simp (disch := omega) only [go_sem, ↓reduceIte, zn1, zn2, zn3, zn4, zn5, zn6, reduceCtorEq, zn7, zi1, zi2, if_pos, if_neg, q2, g1, g2, List.cons_append, List.nil_append] <;> rfl))) | ((with_reducible first | apply SC.condB | apply SC.region | apply SO.run | apply DO.run); (focus (simp (disch := omega) only [go_sem, ↓reduceIte, zn1, zn2, zn3, zn4, zn5, zn6, reduceCtorEq, zn7, zi1, zi2, if_pos, if_neg, q2, g1, g2, List.cons_append, List.nil_append] <;> rfl)); (first | refine pickT ?_ | refine pickF ?_ | fail_if_success with_reducible refine pickA ?_)) | ((with_reducible refine SC.draw Tab.mixed ?_ ?_); (focus (first | rfl | simp (disch := omega) only [go_sem, ↓reduceIte, zn1, zn2, zn3, zn4, zn5, zn6, reduceCtorEq, zn7, zi1, zi2, if_pos, if_neg, q2, g1, g2, List.cons_append, List.nil_append]))) | (with_reducible apply SC.ops)))
            refine hK2 _ ?_
            refine Le.ren 1 5 hB (by omega) (by omega) (by omega) ?_ ?_
            · (repeat' (first | exact trivial | refine mapSl_cons (by simp (disch := omega) only [go_sem, ↓reduceIte, zn1, zn2, zn3, zn4, zn5, zn6, reduceCtorEq, zn7, zi1, zi2, if_pos, if_neg] <;> rfl) ?_ ?_ | exact VMap.junk _ | exact VMap.sc _ | exact VMap.clo rfl | exact VMap.sl rfl (by omega) | exact VMap.cap rfl (by omega) | exact VMap.pt rfl (by omega) | exact VMap.nil_sl _ _ _ | exact VMap.int (by first | rfl | omega | (dsimp only; omega))))
            · (repeat' (first | exact mapHp_nil | refine mapHp_cons (by simp (disch := omega) only [go_sem, ↓reduceIte, zn1, zn2, zn3, zn4, zn5, zn6, reduceCtorEq, zn7, zi1, zi2, if_pos, if_neg] <;> rfl) ?_ ?_ | exact BMap.clo (by first | rfl | assumption | exact wv_clo _ | exact imR_clo _ _ | exact nv_clo _) | refine BMap.list ?_ | exact mapL_nil | refine mapL_cons ?_ ?_ | exact VMap.junk _ | exact VMap.sc _ | exact VMap.clo rfl | exact VMap.sl rfl (by omega) | exact VMap.cap rfl (by omega) | exact VMap.pt rfl (by omega) | exact VMap.nil_sl _ _ _ | exact VMap.int (by first | rfl | omega | (dsimp only; omega))))
      · have e0 : bw [sgB true] = [.sc (.int .u8 1)] := rfl
        rw [e0] at a2
        (repeat (first | refine DO.nil (by kernel_rfl) ?_ | (with_reducible first | apply oz1 | apply oz2 | apply oz3 | apply oz4 | apply oz5 | apply oz6 | apply oz7 | apply oz8 | apply oz9 | apply ozb | apply ozc | apply oze | apply ozf | apply ozg | apply ozh | apply ozi | apply ozj | apply ozk | refine ozd (by decide) ?_) | ((first | apply SO.call | apply DO.call); (iterate 3 (focus (simp (disch := omega) only [go_sem, ↓reduceIte, zn1, zn2, zn3, zn4, zn5, zn6, reduceCtorEq, zn7, zi1, zi2, if_pos, if_neg, q1, g1, g2, l1, t1, List.cons_append, List.nil_append, List.drop_zero, Nat.mul_one] <;> rfl))); (first | apply SCall.ofX | apply DCall.ofX); (focus (first | assumption)); (focus (simp (disch := omega) only [go_sem, ↓reduceIte, zn1, zn2, zn3, zn4, zn5, zn6, reduceCtorEq, zn7, zi1, zi2, if_pos, if_neg, q1, g1, g2, l1, t1, List.cons_append, List.nil_append, List.drop_zero, Nat.mul_one] <;> rfl))) | ((with_reducible first | apply SC.condB | apply SC.region | apply SO.run | apply DO.run); (focus (simp (disch := omega) only [go_sem, ↓reduceIte, zn1, zn2, zn3, zn4, zn5, zn6, reduceCtorEq, zn7, zi1, zi2, if_pos, if_neg, q1, g1, g2, l1, t1, List.cons_append, List.nil_append, List.drop_zero, Nat.mul_one] <;> rfl)); (first | refine pickT ?_ | refine pickF ?_ | fail_if_success with_reducible refine pickA ?_)) | ((with_reducible refine SC.draw Tab.mixed ?_ ?_); (focus (first | rfl | simp (disch := omega) only [go_sem, ↓reduceIte, zn1, zn2, zn3, zn4, zn5, zn6, reduceCtorEq, zn7, zi1, zi2, if_pos, if_neg, q1, g1, g2, l1, t1, List.cons_append, List.nil_append, List.drop_zero, Nat.mul_one]))) | (with_reducible apply SC.ops)))
        (first | refine SO.callA Tab.go23 (by simp (disch := omega) only [go_sem, ↓reduceIte, zn1, zn2, zn3, zn4, zn5, zn6, reduceCtorEq, zn7, zi1, zi2, if_pos, if_neg] <;> rfl) (by simp (disch := omega) only [go_sem, ↓reduceIte, zn1, zn2, zn3, zn4, zn5, zn6, reduceCtorEq, zn7, zi1, zi2, if_pos, if_neg] <;> rfl) (SApp.of (a2) (by simp (disch := omega) only [go_sem, ↓reduceIte, zn1, zn2, zn3, zn4, zn5, zn6, reduceCtorEq, zn7, zi1, zi2, if_pos, if_neg] <;> rfl) rfl (by simp (disch := omega) only [go_sem, ↓reduceIte, zn1, zn2, zn3, zn4, zn5, zn6, reduceCtorEq, zn7, zi1, zi2, if_pos, if_neg] <;> rfl) ?_) | refine DO.callA Tab.go23 (by simp (disch := omega) only [go_sem, ↓reduceIte, zn1, zn2, zn3, zn4, zn5, zn6, reduceCtorEq, zn7, zi1, zi2, if_pos, if_neg] <;> rfl) (by simp (disch := omega) only [go_sem, ↓reduceIte, zn1, zn2, zn3, zn4, zn5, zn6, reduceCtorEq, zn7, zi1, zi2, if_pos, if_neg] <;> rfl) (DApp.of (a2) (by simp (disch := omega) only [go_sem, ↓reduceIte, zn1, zn2, zn3, zn4, zn5, zn6, reduceCtorEq, zn7, zi1, zi2, if_pos, if_neg] <;> rfl) rfl (by simp (disch := omega) only [go_sem, ↓reduceIte, zn1, zn2, zn3, zn4, zn5, zn6, reduceCtorEq, zn7, zi1, zi2, if_pos, if_neg] <;> rfl) ?_))
        (repeat (first | refine DO.nil (by kernel_rfl) ?_ | (with_reducible first | apply oz1 | apply oz2 | apply oz3 | apply oz4 | apply oz5 | apply oz6 | apply oz7 | apply oz8 | apply oz9 | apply ozb | apply ozc | apply oze | apply ozf | apply ozg | apply ozh | apply ozi | apply ozj | apply ozk | refine ozd (by decide) ?_) | ((first | apply SO.call | apply DO.call); (iterate 3 (focus (simp (disch := omega) only [go_sem, ↓reduceIte, zn1, zn2, zn3, zn4, zn5, zn6, reduceCtorEq, zn7, zi1, zi2, if_pos, if_neg] <;> rfl))); (first | apply SCall.ofX | apply DCall.ofX); (focus (first | assumption)); (focus (simp (disch := omega) only [go_sem, ↓reduceIte, zn1, zn2, zn3, zn4, zn5, zn6, reduceCtorEq, zn7, zi1, zi2, if_pos, if_neg] <;> rfl))) | ((with_reducible first | apply SC.condB | apply SC.region | apply SO.run | apply DO.run); (focus (simp (disch := omega) only [go_sem, ↓reduceIte, zn1, zn2, zn3, zn4, zn5, zn6, reduceCtorEq, zn7, zi1, zi2, if_pos, if_neg] <;> rfl)); (first | refine pickT ?_ | refine pickF ?_ | fail_if_success with_reducible refine pickA ?_)) | ((with_reducible refine SC.draw Tab.mixed ?_ ?_); (focus (first | rfl | simp (disch := omega) only [go_sem, ↓reduceIte, zn1, zn2, zn3, zn4, zn5, zn6, reduceCtorEq, zn7, zi1, zi2, if_pos, if_neg]))) | (with_reducible apply SC.ops)))
        refine SC.loop (fun j : Nat => ⟨[(2, .pt 0 0), (3, .sl 5 0 (P ++ n8b c ++ [sgB true] ++ n8b (m.length : Int) ++ (m.take j).flatMap w4).length 1 none), (0, .im TL n), (4, .sc (.int .i64 i)), (6, .sc (.int .i64 j))], [(0, ⟨25, R0, false⟩), (5, ⟨5, bw (P ++ n8b c ++ [sgB true] ++ n8b (m.length : Int) ++ (m.take j).flatMap w4), false⟩)], 6, 79⟩)
          (fun j => j ≤ m.length) (fun j => m.length - j) 0 ?_ ?_ ?_
        · have e : (m.take 0).flatMap w4 = [] := rfl
          have e3 : (P ++ n8b c ++ [sgB true] ++ n8b (m.length : Int)).length = P.length + 8 + 1 + 8 := by rw [List.length_append, l2]; rfl
          simp only [e, List.append_nil, e3]
          (refine Le.slots ?_ ?_ ?_ <;> (repeat' (first | (exact fun _ _ h => h) | exact Nat.le_refl _ | exact leSl_nil | refine leSl_cons (by simp (disch := omega) only [go_sem, ↓reduceIte, zn1, zn2, zn3, zn4, zn5, zn6, reduceCtorEq, zn7, zi1, zi2, if_pos, if_neg] <;> rfl) ?_ ?_ | exact VLe.junk _ | exact VLe.refl rfl | exact VLe.nil_sl _ _ _ | exact VLe.int (by first | rfl | omega | (dsimp only; omega)) | exact VLe.bool rfl | exact VLe.sl rfl (by first | rfl | omega) | exact VLe.cap rfl (by first | rfl | omega) | exact VLe.im rfl rfl | omega | (refine fun id k h => ?_; simp only [hget] at h ⊢; (repeat' (split at h)) <;> first | (cases h; done) | (simp (disch := omega) only [if_pos, if_neg]; exact h)))))
        · exact Nat.zero_le _
        · intro j hj K' hK'
          have hlj : (P ++ n8b c ++ [sgB true] ++ n8b (m.length : Int) ++ (m.take j).flatMap w4).length = P.length + 17 + 4 * j := by
            rw [List.length_append, List.length_append, l2, fl4_len, List.length_take]
            show _ + 8 + _ = _; omega
          by_cases hc2 : j < m.length
          · have q2 : decide ((j : Int) < (m.length : Int)) = true := decide_eq_true (by omega)
            have g3 := uv_get hc2
            have lu := uv_len m
            have e4 : P ++ n8b c ++ [sgB true] ++ n8b (m.length : Int) ++ (m.take (j + 1)).flatMap w4 = P ++ n8b c ++ [sgB true] ++ n8b (m.length : Int) ++ (m.take j).flatMap w4 ++ w4 (m.getD j 0) := by
              rw [fl_succ hc2, ← List.append_assoc]
            have tz : ∀ Z : List Int, (bw Z).take Z.length = bw Z := fun Z => List.take_of_length_le (by rw [bw_len]; exact Nat.le_refl _)
            have lz : ∀ Z : List Int, (bw Z).length = Z.length := bw_len
            have hcl := bw_clo (P ++ n8b c ++ [sgB true] ++ n8b (m.length : Int) ++ (m.take (j + 1)).flatMap w4)
            have hl4 : (P ++ n8b c ++ [sgB true] ++ n8b (m.length : Int) ++ (m.take (j + 1)).flatMap w4).length = (P ++ n8b c ++ [sgB true] ++ n8b (m.length : Int) ++ (m.take j).flatMap w4).length + 4 := by rw [e4, List.length_append]; rfl
            have hK3 : ∀ s' : SS, _ → K' s' := fun s' h => hK' s' (j + 1) h (by omega) (by omega)
            rw [hl4] at hK3
            rw [e4] at hK3 hcl
            clear hK' hl4 e4
            generalize P ++ n8b c ++ [sgB true] ++ n8b (m.length : Int) ++ (m.take j).flatMap w4 = Z at *
            generalize m.getD j 0 = x at *
            have n24 : min 24 32 = 24 := rfl
            have n16 : min 16 32 = 16 := rfl
            have n8 : min 8 32 = 8 := rfl
            rw [bw_app, w4_bw] at hK3 hcl
            (repeat (first | refine DO.nil (by kernel_rfl) ?_ | (with_reducible first | apply oz1 | apply oz2 | apply oz3 | apply oz4 | apply oz5 | apply oz6 | apply oz7 | apply oz8 | apply oz9 | apply ozb | apply ozc | apply oze | apply ozf | apply ozg | apply ozh | apply ozi | apply ozj | apply ozk | refine ozd (by decide) ?_) | ((first | apply SO.call | apply DO.call); (iterate 3 (focus (simp (disch := omega) only [go_sem, ↓reduceIte, zn1, zn2, zn3, zn4, zn5, zn6, reduceCtorEq, zn7, zi1, zi2, if_pos, if_neg, q2, g1, g2, g3, lu, tz, lz, n24, n16, n8, fd24, fd16, fd8, List.cons_append, List.nil_append, List.getElem?_drop, List.drop_zero, Nat.mul_one] <;> rfl))); (first | apply SCall.ofX | apply DCall.ofX); (focus (first | assumption)); (focus (simp (disch := omega) only [go_sem, ↓reduceIte, zn1, zn2, zn3, zn4, zn5, zn6, reduceCtorEq, zn7, zi1, zi2, if_pos, if_neg, q2, g1, g2, g3, lu, tz, lz, n24, n16, n8, fd24, fd16, fd8, List.cons_append, List.nil_append, List.getElem?_drop, List.drop_zero, Nat.mul_one] <;> rfl))) | ((with_reducible first | apply SC.condB | apply SC.region | apply SO.run | apply DO.run); (focus (simp (disch := omega) only [go_sem, ↓reduceIte, zn1, zn2, zn3, zn4, zn5, zn6, reduceCtorEq, zn7, zi1, zi2, if_pos, if_neg, q2, g1, g2, g3, lu, tz, lz, n24, n16, n8, fd24, fd16, fd8, List.cons_append, List.nil_append, List.getElem?_drop, List.drop_zero, Nat.mul_one] <;> rfl)); (first | refine pickT ?_ | refine pickF ?_ | fail_if_success with_reducible refine pickA ?_)) | ((with_reducible refine SC.draw Tab.mixed ?_ ?_); (focus (first | rfl | simp (disch := omega) only [go_sem, ↓reduceIte, zn1, zn2, zn3, zn4, zn5, zn6, reduceCtorEq, zn7, zi1, zi2, if_pos, if_neg, q2, g1, g2, g3, lu, tz, lz, n24, n16, n8, fd24, fd16, fd8, List.cons_append, List.nil_append, List.getElem?_drop, List.drop_zero, Nat.mul_one]))) | (with_reducible apply SC.ops)))
            refine hK3 _ ?_
            refine Le.ren 5 7 hB (by omega) (by omega) (by omega) ?_ ?_
            · (repeat' (first | exact trivial | refine mapSl_cons (by simp (disch := omega) only [go_sem, ↓reduceIte, zn1, zn2, zn3, zn4, zn5, zn6, reduceCtorEq, zn7, zi1, zi2, if_pos, if_neg] <;> rfl) ?_ ?_ | exact VMap.junk _ | exact VMap.sc _ | exact VMap.clo rfl | exact VMap.sl rfl (by omega) | exact VMap.cap rfl (by omega) | exact VMap.pt rfl (by omega) | exact VMap.nil_sl _ _ _ | exact VMap.int (by first | rfl | omega | (dsimp only; omega))))
            · (repeat' (first | exact mapHp_nil | refine mapHp_cons (by simp (disch := omega) only [go_sem, ↓reduceIte, zn1, zn2, zn3, zn4, zn5, zn6, reduceCtorEq, zn7, zi1, zi2, if_pos, if_neg] <;> rfl) ?_ ?_ | exact BMap.clo (by first | rfl | assumption | exact wv_clo _ | exact imR_clo _ _ | exact nv_clo _) | refine BMap.list ?_ | exact mapL_nil | refine mapL_cons ?_ ?_ | exact VMap.junk _ | exact VMap.sc _ | exact VMap.clo rfl | exact VMap.sl rfl (by omega) | exact VMap.cap rfl (by omega) | exact VMap.pt rfl (by omega) | exact VMap.nil_sl _ _ _ | exact VMap.int (by first | rfl | omega | (dsimp only; omega))))
          · have q2 : decide ((j : Int) < (m.length : Int)) = false := decide_eq_false (by omega)
            have hjl : j = m.length := by omega
            subst hjl
            have e5 : P ++ n8b c ++ [sgB true] ++ n8b (m.length : Int) ++ (m.take m.length).flatMap w4 = P ++ tmB ⟨c, true, m⟩ := by
              unfold tmB; rw [List.take_of_length_le (Nat.le_refl _)]; simp only [List.append_assoc]
            rw [e5]
            have hcl := bw_clo (P ++ tmB ⟨c, true, m⟩)
            clear hK'
            generalize P ++ tmB ⟨c, true, m⟩ = Z at *
            (repeat (first | refine DO.nil (by kernel_rfl) ?_ | (with_reducible first | apply oz1 | apply oz2 | apply oz3 | apply oz4 | apply oz5 | apply oz6 | apply oz7 | apply oz8 | apply oz9 | apply ozb | apply ozc | apply oze | apply ozf | apply ozg | apply ozh | apply ozi | apply ozj | apply ozk | refine ozd (by decide) ?_) | ((first | apply SO.call | apply DO.call); (iterate 3 (focus (simp (disch := omega) only [go_sem, ↓reduceIte, zn1, zn2, zn3, zn4, zn5, zn6, reduceCtorEq, zn7, zi1, zi2, if_pos, if_neg, q2, g1, g2, List.cons_append, List.nil_append] <;> rfl))); (first | apply SCall.ofX | apply DCall.ofX); (focus (first | assumption)); (focus (simp (disch := omega) only [go_sem, ↓reduceIte, zn1, zn2, zn3, zn4, zn5, zn6, reduceCtorEq, zn7, zi1, zi2, if_pos, if_neg, q2, g1, g2, List.cons_append, List.nil_append] <;> rfl))) | ((with_reducible first | apply SC.condB | apply SC.region | apply SO.run | apply DO.run); (focus (simp (disch := omega) only [go_sem, ↓reduceIte, zn1, zn2, zn3, zn4, zn5, zn6, reduceCtorEq, zn7, zi1, zi2, if_pos, if_neg, q2, g1, g2, List.cons_append, List.nil_append] <;> rfl)); (first | refine pickT ?_ | refine pickF ?_ | fail_if_success with_reducible refine pickA ?_)) | ((with_reducible refine SC.draw Tab.mixed ?_ ?_); (focus (first | rfl | simp (disch := omega) only [go_sem, ↓reduceIte, zn1, zn2, zn3, zn4, zn5, zn6, reduceCtorEq, zn7, zi1, zi2, if_pos, if_neg, q2, g1, g2, List.cons_append, List.nil_append]))) | (with_reducible apply SC.ops)))
            refine hK2 _ ?_
            refine Le.ren 1 5 hB (by omega) (by omega) (by omega) ?_ ?_
            · (repeat' (first | exact trivial | refine mapSl_cons (by simp (disch := omega) only [go_sem, ↓reduceIte, zn1, zn2, zn3, zn4, zn5, zn6, reduceCtorEq, zn7, zi1, zi2, if_pos, if_neg] <;> rfl) ?_ ?_ | exact VMap.junk _ | exact VMap.sc _ | exact VMap.clo rfl | exact VMap.sl rfl (by omega) | exact VMap.cap rfl (by omega) | exact VMap.pt rfl (by omega) | exact VMap.nil_sl _ _ _ | exact VMap.int (by first | rfl | omega | (dsimp only; omega))))
            · (repeat' (first | exact mapHp_nil | refine mapHp_cons (by simp (disch := omega) only [go_sem, ↓reduceIte, zn1, zn2, zn3, zn4, zn5, zn6, reduceCtorEq, zn7, zi1, zi2, if_pos, if_neg] <;> rfl) ?_ ?_ | exact BMap.clo (by first | rfl | assumption | exact wv_clo _ | exact imR_clo _ _ | exact nv_clo _) | refine BMap.list ?_ | exact mapL_nil | refine mapL_cons ?_ ?_ | exact VMap.junk _ | exact VMap.sc _ | exact VMap.clo rfl | exact VMap.sl rfl (by omega) | exact VMap.cap rfl (by omega) | exact VMap.pt rfl (by omega) | exact VMap.nil_sl _ _ _ | exact VMap.int (by first | rfl | omega | (dsimp only; omega))))
    · have q1 : decide ((i : Int) < (l.length : Int)) = false := decide_eq_false (by omega)
      have hil : i = l.length := by omega
      subst hil
      clear hK
      have l1 := bw_len (rowP l l.length)
      have t1 : (bw (rowP l l.length)).take (rowP l l.length).length = bw (rowP l l.length) := List.take_of_length_le (by omega)
      have c1 := bw_clo (rowP l l.length)
      have gc := bw_clo D
      have gd := bw_one D
      have gf := bw_fl1 D
      have gg : (bw D).take 32 = bw D := List.take_of_length_le (by omega)
      have gh := setAll_full D (by rw [← bw_len, gD])
      have gr : (bw (List.replicate 32 0)).length = 32 := rfl
      generalize bw (List.replicate 32 0) = R0 at *
      generalize rowP l l.length = P at *
      (repeat (first | refine DO.nil (by kernel_rfl) ?_ | (with_reducible first | apply oz1 | apply oz2 | apply oz3 | apply oz4 | apply oz5 | apply oz6 | apply oz7 | apply oz8 | apply oz9 | apply ozb | apply ozc | apply oze | apply ozf | apply ozg | apply ozh | apply ozi | apply ozj | apply ozk | refine ozd (by decide) ?_) | ((first | apply SO.call | apply DO.call); (iterate 3 (focus (simp (disch := omega) only [go_sem, ↓reduceIte, zn1, zn2, zn3, zn4, zn5, zn6, reduceCtorEq, zn7, zi1, zi2, if_pos, if_neg, q1, l1, t1, c1, gc, gd, gf, gg, gr, gD, List.drop_zero, Nat.mul_one] <;> rfl))); (first | apply SCall.ofX | apply DCall.ofX); (focus (first | assumption)); (focus (simp (disch := omega) only [go_sem, ↓reduceIte, zn1, zn2, zn3, zn4, zn5, zn6, reduceCtorEq, zn7, zi1, zi2, if_pos, if_neg, q1, l1, t1, c1, gc, gd, gf, gg, gr, gD, List.drop_zero, Nat.mul_one] <;> rfl))) | ((with_reducible first | apply SC.condB | apply SC.region | apply SO.run | apply DO.run); (focus (simp (disch := omega) only [go_sem, ↓reduceIte, zn1, zn2, zn3, zn4, zn5, zn6, reduceCtorEq, zn7, zi1, zi2, if_pos, if_neg, q1, l1, t1, c1, gc, gd, gf, gg, gr, gD, List.drop_zero, Nat.mul_one] <;> rfl)); (first | refine pickT ?_ | refine pickF ?_ | fail_if_success with_reducible refine pickA ?_)) | ((with_reducible refine SC.draw Tab.mixed ?_ ?_); (focus (first | rfl | simp (disch := omega) only [go_sem, ↓reduceIte, zn1, zn2, zn3, zn4, zn5, zn6, reduceCtorEq, zn7, zi1, zi2, if_pos, if_neg, q1, l1, t1, c1, gc, gd, gf, gg, gr, gD, List.drop_zero, Nat.mul_one]))) | (with_reducible apply SC.ops)))
      exact retQ_ret Tryd.results16 (by simp (disch := omega) only [go_sem, ↓reduceIte, zn1, zn2, zn3, zn4, zn5, zn6, reduceCtorEq, zn7, zi1, zi2, if_pos, if_neg, gh, gg, gD, gc, List.drop_zero] <;> rfl) (by simp (disch := omega) only [go_sem, ↓reduceIte, zn1, zn2, zn3, zn4, zn5, zn6, reduceCtorEq, zn7, zi1, zi2, if_pos, if_neg, gh, gg, gD, gc, List.drop_zero] <;> rfl) rfl
end Go.Proofs.YtpbnhioelmgaiaaDoor
namespace Go.Proofs.YtpbnhioelmgaiaaDoor
open Go.RowKit
def halfW (m n : Nat) : Nat := if h : 0 < m ∧ 2 * m < n then halfW (2 * m) n else m
termination_by n - m
decreasing_by omega
theorem halfW_step {m n : Nat} (h0 : 0 < m) (h : 2 * m < n) : halfW m n = halfW (2 * m) n := by rw [halfW, dif_pos ⟨h0, h⟩]
theorem halfW_stop {m n : Nat} (h : ¬ 2 * m < n) : halfW m n = m := by rw [halfW, dif_neg (fun e => h e.2)]
def halfN (n : Nat) : Nat := halfW 1 n
theorem halfW_lt : ∀ (k m n : Nat), n - m ≤ k → 0 < m → m < n → 0 < halfW m n ∧ halfW m n < n
  | 0, m, n, hk, h0, h => by omega
  | k + 1, m, n, hk, h0, h => by
    by_cases h2 : 2 * m < n
    · rw [halfW_step h0 h2]; exact halfW_lt k (2 * m) n (by omega) (by omega) h2
    · rw [halfW_stop h2]; exact ⟨h0, h⟩
theorem halfN_lt {n : Nat} (h : 1 < n) : 0 < halfN n ∧ halfN n < n := halfW_lt _ 1 n (Nat.le_refl _) (by omega) h
theorem half_s {n : Nat} (h : n ≤ 4294967296) (h1 : 1 ≤ n) : Spec Tryd.prog 55 [.sc (.int .i64 n)] (.sc (.int .i64 (halfN n : Nat))) := by
  generalize hH : halfN n = H
  refine Spec.run Tryd.func55 rfl Tryd.ntmps55 (by simp) (by simp (disch := omega) only [go_sem, ↓reduceIte, zn1, zn2, zn3, zn4, zn5, zn6, reduceCtorEq, zn7, zi1, zi2, if_pos, if_neg]; rfl) fun B hB => ?_
  (repeat (first | refine DO.nil (by kernel_rfl) ?_ | (with_reducible first | apply oz1 | apply oz2 | apply oz3 | apply oz4 | apply oz5 | apply oz6 | apply oz7 | apply oz8 | apply oz9 | apply ozb | apply ozc | apply oze | apply ozf | apply ozg | apply ozh | apply ozi | apply ozj | apply ozk | refine ozd (by decide) ?_) | ((first | apply SO.call | apply DO.call); (iterate 3 (focus (simp (disch := omega) only [go_sem, ↓reduceIte, zn1, zn2, zn3, zn4, zn5, zn6, reduceCtorEq, zn7, zi1, zi2, if_pos, if_neg] <;> rfl))); (first | apply SCall.ofX | apply DCall.ofX); (focus (first | assumption)); (focus (simp (disch := omega) only [go_sem, ↓reduceIte, zn1, zn2, zn3, zn4, zn5, zn6, reduceCtorEq, zn7, zi1, zi2, if_pos, if_neg] <;> rfl))) | ((with_reducible first | apply SC.condB | apply SC.region | apply SO.run | apply DO.run); (focus (simp (disch := omega) only [go_sem, ↓reduceIte, zn1, zn2, zn3, zn4, zn5, zn6, reduceCtorEq, zn7, zi1, zi2, if_pos, if_neg] <;> rfl)); (first | refine pickT ?_ | refine pickF ?_ | fail_if_success with_reducible refine pickA ?_)) | ((with_reducible refine SC.draw Tab.mixed ?_ ?_); (focus (first | rfl | simp (disch := omega) only [go_sem, ↓reduceIte, zn1, zn2, zn3, zn4, zn5, zn6, reduceCtorEq, zn7, zi1, zi2, if_pos, if_neg]))) | (with_reducible apply SC.ops)))
  refine SC.loop (fun m : Nat => ⟨[(0, .sc (.int .i64 n)), (3, .sc (.int .i64 m))], [], 0, 12⟩)
    (fun m => 0 < m ∧ m ≤ n ∧ halfW m n = H) (fun m => n - m) 1 ?_ ?_ ?_
  · (refine Le.slots ?_ ?_ ?_ <;> (repeat' (first | (exact fun _ _ h => h) | exact Nat.le_refl _ | exact leSl_nil | refine leSl_cons (by simp (disch := omega) only [go_sem, ↓reduceIte, zn1, zn2, zn3, zn4, zn5, zn6, reduceCtorEq, zn7, zi1, zi2, if_pos, if_neg] <;> rfl) ?_ ?_ | exact VLe.junk _ | exact VLe.refl rfl | exact VLe.nil_sl _ _ _ | exact VLe.int (by first | rfl | omega | (dsimp only; omega)) | exact VLe.bool rfl | exact VLe.sl rfl (by first | rfl | omega) | exact VLe.cap rfl (by first | rfl | omega) | exact VLe.im rfl rfl | omega | (refine fun id k h => ?_; simp only [hget] at h ⊢; (repeat' (split at h)) <;> first | (cases h; done) | (simp (disch := omega) only [if_pos, if_neg]; exact h)))))
  · exact ⟨by omega, by omega, hH⟩
  · rintro m ⟨h0, hm, hw⟩ K hK
    by_cases hc : 2 * m < n
    · have q1 : decide ((m : Int) < (n : Int) - (m : Int)) = true := decide_eq_true (by omega)
      rw [halfW_step h0 hc] at hw
      (repeat (first | refine DO.nil (by kernel_rfl) ?_ | (with_reducible first | apply oz1 | apply oz2 | apply oz3 | apply oz4 | apply oz5 | apply oz6 | apply oz7 | apply oz8 | apply oz9 | apply ozb | apply ozc | apply oze | apply ozf | apply ozg | apply ozh | apply ozi | apply ozj | apply ozk | refine ozd (by decide) ?_) | ((first | apply SO.call | apply DO.call); (iterate 3 (focus (simp (disch := omega) only [go_sem, ↓reduceIte, zn1, zn2, zn3, zn4, zn5, zn6, reduceCtorEq, zn7, zi1, zi2, if_pos, if_neg, q1] <;> rfl))); (first | apply SCall.ofX | apply DCall.ofX); (focus (first | assumption)); (focus (simp (disch := omega) only [go_sem, ↓reduceIte, zn1, zn2, zn3, zn4, zn5, zn6, reduceCtorEq, zn7, zi1, zi2, if_pos, if_neg, q1] <;> rfl))) | ((with_reducible first | apply SC.condB | apply SC.region | apply SO.run | apply DO.run); (focus (simp (disch := omega) only [go_sem, ↓reduceIte, zn1, zn2, zn3, zn4, zn5, zn6, reduceCtorEq, zn7, zi1, zi2, if_pos, if_neg, q1] <;> rfl)); (first | refine pickT ?_ | refine pickF ?_ | fail_if_success with_reducible refine pickA ?_)) | ((with_reducible refine SC.draw Tab.mixed ?_ ?_); (focus (first | rfl | simp (disch := omega) only [go_sem, ↓reduceIte, zn1, zn2, zn3, zn4, zn5, zn6, reduceCtorEq, zn7, zi1, zi2, if_pos, if_neg, q1]))) | (with_reducible apply SC.ops)))
      refine hK _ (2 * m) ?_ ⟨by omega, by omega, hw⟩ (by omega)
      (refine Le.slots ?_ ?_ ?_ <;> (repeat' (first | (exact fun _ _ h => h) | exact Nat.le_refl _ | exact leSl_nil | refine leSl_cons (by simp (disch := omega) only [go_sem, ↓reduceIte, zn1, zn2, zn3, zn4, zn5, zn6, reduceCtorEq, zn7, zi1, zi2, if_pos, if_neg] <;> rfl) ?_ ?_ | exact VLe.junk _ | exact VLe.refl rfl | exact VLe.nil_sl _ _ _ | exact VLe.int (by first | rfl | omega | (dsimp only; omega)) | exact VLe.bool rfl | exact VLe.sl rfl (by first | rfl | omega) | exact VLe.cap rfl (by first | rfl | omega) | exact VLe.im rfl rfl | omega | (refine fun id k h => ?_; simp only [hget] at h ⊢; (repeat' (split at h)) <;> first | (cases h; done) | (simp (disch := omega) only [if_pos, if_neg]; exact h)))))
    · have q1 : decide ((m : Int) < (n : Int) - (m : Int)) = false := decide_eq_false (by omega)
      rw [halfW_stop hc] at hw
      subst hw
      clear hK
      (repeat (first | refine DO.nil (by kernel_rfl) ?_ | (with_reducible first | apply oz1 | apply oz2 | apply oz3 | apply oz4 | apply oz5 | apply oz6 | apply oz7 | apply oz8 | apply oz9 | apply ozb | apply ozc | apply oze | apply ozf | apply ozg | apply ozh | apply ozi | apply ozj | apply ozk | refine ozd (by decide) ?_) | ((first | apply SO.call | apply DO.call); (iterate 3 (focus (simp (disch := omega) only [go_sem, ↓reduceIte, zn1, zn2, zn3, zn4, zn5, zn6, reduceCtorEq, zn7, zi1, zi2, if_pos, if_neg, q1] <;> rfl))); (first | apply SCall.ofX | apply DCall.ofX); (focus (first | assumption)); (focus (simp (disch := omega) only [go_sem, ↓reduceIte, zn1, zn2, zn3, zn4, zn5, zn6, reduceCtorEq, zn7, zi1, zi2, if_pos, if_neg, q1] <;> rfl))) | ((with_reducible first | apply SC.condB | apply SC.region | apply SO.run | apply DO.run); (focus (simp (disch := omega) only [go_sem, ↓reduceIte, zn1, zn2, zn3, zn4, zn5, zn6, reduceCtorEq, zn7, zi1, zi2, if_pos, if_neg, q1] <;> rfl)); (first | refine pickT ?_ | refine pickF ?_ | fail_if_success with_reducible refine pickA ?_)) | ((with_reducible refine SC.draw Tab.mixed ?_ ?_); (focus (first | rfl | simp (disch := omega) only [go_sem, ↓reduceIte, zn1, zn2, zn3, zn4, zn5, zn6, reduceCtorEq, zn7, zi1, zi2, if_pos, if_neg, q1]))) | (with_reducible apply SC.ops)))
      exact retQ_ret Tryd.results55 (by simp (disch := omega) only [go_sem, ↓reduceIte, zn1, zn2, zn3, zn4, zn5, zn6, reduceCtorEq, zn7, zi1, zi2, if_pos, if_neg] <;> rfl) (by simp (disch := omega) only [go_sem, ↓reduceIte, zn1, zn2, zn3, zn4, zn5, zn6, reduceCtorEq, zn7, zi1, zi2, if_pos, if_neg] <;> rfl) rfl
theorem rhalf_s {n : Nat} (h : n ≤ 4294967296) (h1 : 1 ≤ n) : Spec Tryd.prog 56 [.sc (.int .i64 n)] (.sc (.int .i64 (halfN n : Nat))) := by
  generalize hH : halfN n = H
  refine Spec.run Tryd.func56 rfl Tryd.ntmps56 (by simp) (by simp (disch := omega) only [go_sem, ↓reduceIte, zn1, zn2, zn3, zn4, zn5, zn6, reduceCtorEq, zn7, zi1, zi2, if_pos, if_neg]; rfl) fun B hB => ?_
  (repeat (first | refine DO.nil (by kernel_rfl) ?_ | (with_reducible first | apply oz1 | apply oz2 | apply oz3 | apply oz4 | apply oz5 | apply oz6 | apply oz7 | apply oz8 | apply oz9 | apply ozb | apply ozc | apply oze | apply ozf | apply ozg | apply ozh | apply ozi | apply ozj | apply ozk | refine ozd (by decide) ?_) | ((first | apply SO.call | apply DO.call); (iterate 3 (focus (simp (disch := omega) only [go_sem, ↓reduceIte, zn1, zn2, zn3, zn4, zn5, zn6, reduceCtorEq, zn7, zi1, zi2, if_pos, if_neg] <;> rfl))); (first | apply SCall.ofX | apply DCall.ofX); (focus (first | assumption)); (focus (simp (disch := omega) only [go_sem, ↓reduceIte, zn1, zn2, zn3, zn4, zn5, zn6, reduceCtorEq, zn7, zi1, zi2, if_pos, if_neg] <;> rfl))) | ((with_reducible first | apply SC.condB | apply SC.region | apply SO.run | apply DO.run); (focus (simp (disch := omega) only [go_sem, ↓reduceIte, zn1, zn2, zn3, zn4, zn5, zn6, reduceCtorEq, zn7, zi1, zi2, if_pos, if_neg] <;> rfl)); (first | refine pickT ?_ | refine pickF ?_ | fail_if_success with_reducible refine pickA ?_)) | ((with_reducible refine SC.draw Tab.mixed ?_ ?_); (focus (first | rfl | simp (disch := omega) only [go_sem, ↓reduceIte, zn1, zn2, zn3, zn4, zn5, zn6, reduceCtorEq, zn7, zi1, zi2, if_pos, if_neg]))) | (with_reducible apply SC.ops)))
  refine SC.loop (fun m : Nat => ⟨[(0, .sc (.int .i64 n)), (3, .sc (.int .i64 m))], [], 0, 11⟩)
    (fun m => 0 < m ∧ m ≤ n ∧ halfW m n = H) (fun m => n - m) 1 ?_ ?_ ?_
  · (refine Le.slots ?_ ?_ ?_ <;> (repeat' (first | (exact fun _ _ h => h) | exact Nat.le_refl _ | exact leSl_nil | refine leSl_cons (by simp (disch := omega) only [go_sem, ↓reduceIte, zn1, zn2, zn3, zn4, zn5, zn6, reduceCtorEq, zn7, zi1, zi2, if_pos, if_neg] <;> rfl) ?_ ?_ | exact VLe.junk _ | exact VLe.refl rfl | exact VLe.nil_sl _ _ _ | exact VLe.int (by first | rfl | omega | (dsimp only; omega)) | exact VLe.bool rfl | exact VLe.sl rfl (by first | rfl | omega) | exact VLe.cap rfl (by first | rfl | omega) | exact VLe.im rfl rfl | omega | (refine fun id k h => ?_; simp only [hget] at h ⊢; (repeat' (split at h)) <;> first | (cases h; done) | (simp (disch := omega) only [if_pos, if_neg]; exact h)))))
  · exact ⟨by omega, by omega, hH⟩
  · rintro m ⟨h0, hm, hw⟩ K hK
    by_cases hc : 2 * m < n
    · have q1 : decide (2 * (m : Int) < (n : Int)) = true := decide_eq_true (by omega)
      rw [halfW_step h0 hc] at hw
      (repeat (first | refine DO.nil (by kernel_rfl) ?_ | (with_reducible first | apply oz1 | apply oz2 | apply oz3 | apply oz4 | apply oz5 | apply oz6 | apply oz7 | apply oz8 | apply oz9 | apply ozb | apply ozc | apply oze | apply ozf | apply ozg | apply ozh | apply ozi | apply ozj | apply ozk | refine ozd (by decide) ?_) | ((first | apply SO.call | apply DO.call); (iterate 3 (focus (simp (disch := omega) only [go_sem, ↓reduceIte, zn1, zn2, zn3, zn4, zn5, zn6, reduceCtorEq, zn7, zi1, zi2, if_pos, if_neg, q1] <;> rfl))); (first | apply SCall.ofX | apply DCall.ofX); (focus (first | assumption)); (focus (simp (disch := omega) only [go_sem, ↓reduceIte, zn1, zn2, zn3, zn4, zn5, zn6, reduceCtorEq, zn7, zi1, zi2, if_pos, if_neg, q1] <;> rfl))) | ((with_reducible first | apply SC.condB | apply SC.region | apply SO.run | apply DO.run); (focus (simp (disch := omega) only [go_sem, ↓reduceIte, zn1, zn2, zn3, zn4, zn5, zn6, reduceCtorEq, zn7, zi1, zi2, if_pos, if_neg, q1] <;> rfl)); (first | refine pickT ?_ | refine pickF ?_ | fail_if_success with_reducible refine pickA ?_)) | ((with_reducible refine SC.draw Tab.mixed ?_ ?_); (focus (first | rfl | simp (disch := omega) only [go_sem, ↓reduceIte, zn1, zn2, zn3, zn4, zn5, zn6, reduceCtorEq, zn7, zi1, zi2, if_pos, if_neg, q1]))) | (with_reducible apply SC.ops)))
      refine hK _ (2 * m) ?_ ⟨by omega, by omega, hw⟩ (by omega)
      (refine Le.slots ?_ ?_ ?_ <;> (repeat' (first | (exact fun _ _ h => h) | exact Nat.le_refl _ | exact leSl_nil | refine leSl_cons (by simp (disch := omega) only [go_sem, ↓reduceIte, zn1, zn2, zn3, zn4, zn5, zn6, reduceCtorEq, zn7, zi1, zi2, if_pos, if_neg] <;> rfl) ?_ ?_ | exact VLe.junk _ | exact VLe.refl rfl | exact VLe.nil_sl _ _ _ | exact VLe.int (by first | rfl | omega | (dsimp only; omega)) | exact VLe.bool rfl | exact VLe.sl rfl (by first | rfl | omega) | exact VLe.cap rfl (by first | rfl | omega) | exact VLe.im rfl rfl | omega | (refine fun id k h => ?_; simp only [hget] at h ⊢; (repeat' (split at h)) <;> first | (cases h; done) | (simp (disch := omega) only [if_pos, if_neg]; exact h)))))
    · have q1 : decide (2 * (m : Int) < (n : Int)) = false := decide_eq_false (by omega)
      rw [halfW_stop hc] at hw
      subst hw
      clear hK
      (repeat (first | refine DO.nil (by kernel_rfl) ?_ | (with_reducible first | apply oz1 | apply oz2 | apply oz3 | apply oz4 | apply oz5 | apply oz6 | apply oz7 | apply oz8 | apply oz9 | apply ozb | apply ozc | apply oze | apply ozf | apply ozg | apply ozh | apply ozi | apply ozj | apply ozk | refine ozd (by decide) ?_) | ((first | apply SO.call | apply DO.call); (iterate 3 (focus (simp (disch := omega) only [go_sem, ↓reduceIte, zn1, zn2, zn3, zn4, zn5, zn6, reduceCtorEq, zn7, zi1, zi2, if_pos, if_neg, q1] <;> rfl))); (first | apply SCall.ofX | apply DCall.ofX); (focus (first | assumption)); (focus (simp (disch := omega) only [go_sem, ↓reduceIte, zn1, zn2, zn3, zn4, zn5, zn6, reduceCtorEq, zn7, zi1, zi2, if_pos, if_neg, q1] <;> rfl))) | ((with_reducible first | apply SC.condB | apply SC.region | apply SO.run | apply DO.run); (focus (simp (disch := omega) only [go_sem, ↓reduceIte, zn1, zn2, zn3, zn4, zn5, zn6, reduceCtorEq, zn7, zi1, zi2, if_pos, if_neg, q1] <;> rfl)); (first | refine pickT ?_ | refine pickF ?_ | fail_if_success with_reducible refine pickA ?_)) | ((with_reducible refine SC.draw Tab.mixed ?_ ?_); (focus (first | rfl | simp (disch := omega) only [go_sem, ↓reduceIte, zn1, zn2, zn3, zn4, zn5, zn6, reduceCtorEq, zn7, zi1, zi2, if_pos, if_neg, q1]))) | (with_reducible apply SC.ops)))
      exact retQ_ret Tryd.results56 (by simp (disch := omega) only [go_sem, ↓reduceIte, zn1, zn2, zn3, zn4, zn5, zn6, reduceCtorEq, zn7, zi1, zi2, if_pos, if_neg] <;> rfl) (by simp (disch := omega) only [go_sem, ↓reduceIte, zn1, zn2, zn3, zn4, zn5, zn6, reduceCtorEq, zn7, zi1, zi2, if_pos, if_neg] <;> rfl) rfl
def Dg (d : List Int) : Prop := d.length = 32 ∧ U8s d
def Dgs (l : List (List Int)) : Prop := ∀ d ∈ l, Dg d
def dgC (l : List (List Int)) : List V := l.flatMap bw
theorem dgC_len : ∀ {l : List (List Int)}, Dgs l → (dgC l).length = l.length * 32
  | [], _ => rfl
  | d :: l, h => by
    show (bw d ++ dgC l).length = _
    rw [List.length_append, dgC_len (fun x hx => h x (by simp [hx])), bw_len, (h d (by simp)).1, List.length_cons]; omega
theorem dgC_app (a b : List (List Int)) : dgC (a ++ b) = dgC a ++ dgC b := by simp [dgC]
theorem dgC_split {l : List (List Int)} (h : Dgs l) (k : Nat) : (dgC l).take (k * 32) = dgC (l.take k) ∧ (dgC l).drop (k * 32) = dgC (l.drop k) := by
  have e : dgC l = dgC (l.take k) ++ dgC (l.drop k) := by rw [← dgC_app, List.take_append_drop]
  by_cases hk : k ≤ l.length
  · have hl : (dgC (l.take k)).length = k * 32 := by rw [dgC_len (fun x hx => h x (List.mem_of_mem_take hx)), List.length_take, Nat.min_eq_left hk]
    rw [e, ← hl, List.take_left' rfl, List.drop_left' rfl]
    exact ⟨rfl, rfl⟩
  · have hl := dgC_len h
    rw [List.take_of_length_le (by omega), List.drop_eq_nil_of_le (by omega), List.take_of_length_le (by omega), List.drop_eq_nil_of_le (by omega)]
    exact ⟨rfl, rfl⟩
theorem dgC_clo (l : List (List Int)) : (dgC l).all clo = true := by
  rw [List.all_eq_true]
  intro x hx
  obtain ⟨d, _, hx⟩ := List.mem_flatMap.1 hx
  exact List.all_eq_true.1 (bw_clo d) x hx
theorem dgC_one (l : List (List Int)) : (dgC l).all V.one = true := by
  rw [List.all_eq_true]
  intro x hx
  obtain ⟨d, _, hx⟩ := List.mem_flatMap.1 hx
  exact List.all_eq_true.1 (bw_one d) x hx
theorem sumL_dg (b : List Int) : Dg (sumL b) := ⟨sumL_len b, sumL_u8 b⟩
def z32L : List Int := List.replicate 32 0
theorem z32_dg : Dg z32L := ⟨rfl, fun x hx => by rw [(List.mem_replicate.1 hx).2]; omega⟩
def joinL (a b : List Int) : List Int := sumL ([1] ++ a ++ b)
def treeF : Nat → List (List Int) → List Int
  | 0, _ => z32L
  | f + 1, l => if l.length = 0 then z32L else if l.length = 1 then l.getD 0 [] else joinL (treeF f (l.take (halfN l.length))) (treeF f (l.drop (halfN l.length)))
theorem treeF_dg : ∀ (f : Nat) {l : List (List Int)}, Dgs l → Dg (treeF f l)
  | 0, l, _ => z32_dg
  | f + 1, l, h => by
    unfold treeF
    split
    · exact z32_dg
    · split
      · rename_i h1
        exact h _ (getDm (by omega))
      · exact sumL_dg _
theorem Dgs.take {l : List (List Int)} (h : Dgs l) (k : Nat) : Dgs (l.take k) := fun d hd => h d (List.mem_of_mem_take hd)
theorem Dgs.drop {l : List (List Int)} (h : Dgs l) (k : Nat) : Dgs (l.drop k) := fun d hd => h d (List.mem_of_mem_drop hd)
set_option maxHeartbeats 4000000 in
set_option maxRecDepth 8000 in
theorem tree_s : ∀ (f : Nat) {l : List (List Int)}, Dgs l → l.length ≤ f → l.length ≤ 1000000 → Spec Tryd.prog 31 [.im (dgC l) l.length] (.ag (bw (treeF (f + 1) l))) := by
  intro f
  induction f with
  | zero =>
    intro l h hl _
    have h0 : l = [] := List.eq_nil_of_length_eq_zero (by omega)
    subst h0
    have e : treeF 1 [] = z32L := rfl
    rw [e]
    have e2 : bw z32L = bw (List.replicate 32 0) := rfl
    rw [e2, z32]
    refine Spec.run Tryd.func31 rfl Tryd.ntmps31 (by simp) (by simp (disch := omega) only [go_sem, ↓reduceIte, zn1, zn2, zn3, zn4, zn5, zn6, reduceCtorEq, zn7, zi1, zi2, if_pos, if_neg]; rfl) fun B hB => ?_
    (repeat (first | refine DO.nil (by kernel_rfl) ?_ | (with_reducible first | apply oz1 | apply oz2 | apply oz3 | apply oz4 | apply oz5 | apply oz6 | apply oz7 | apply oz8 | apply oz9 | apply ozb | apply ozc | apply oze | apply ozf | apply ozg | apply ozh | apply ozi | apply ozj | apply ozk | refine ozd (by decide) ?_) | ((first | apply SO.call | apply DO.call); (iterate 3 (focus (simp (disch := omega) only [go_sem, ↓reduceIte, zn1, zn2, zn3, zn4, zn5, zn6, reduceCtorEq, zn7, zi1, zi2, if_pos, if_neg] <;> rfl))); (first | apply SCall.ofX | apply DCall.ofX); (focus (first | assumption)); (focus (simp (disch := omega) only [go_sem, ↓reduceIte, zn1, zn2, zn3, zn4, zn5, zn6, reduceCtorEq, zn7, zi1, zi2, if_pos, if_neg] <;> rfl))) | ((with_reducible first | apply SC.condB | apply SC.region | apply SO.run | apply DO.run); (focus (simp (disch := omega) only [go_sem, ↓reduceIte, zn1, zn2, zn3, zn4, zn5, zn6, reduceCtorEq, zn7, zi1, zi2, if_pos, if_neg] <;> rfl)); (first | refine pickT ?_ | refine pickF ?_ | fail_if_success with_reducible refine pickA ?_)) | ((with_reducible refine SC.draw Tab.mixed ?_ ?_); (focus (first | rfl | simp (disch := omega) only [go_sem, ↓reduceIte, zn1, zn2, zn3, zn4, zn5, zn6, reduceCtorEq, zn7, zi1, zi2, if_pos, if_neg]))) | (with_reducible apply SC.ops)))
    exact retQ_ret Tryd.results31 (by simp (disch := omega) only [go_sem, ↓reduceIte, zn1, zn2, zn3, zn4, zn5, zn6, reduceCtorEq, zn7, zi1, zi2, if_pos, if_neg] <;> rfl) (by simp (disch := omega) only [go_sem, ↓reduceIte, zn1, zn2, zn3, zn4, zn5, zn6, reduceCtorEq, zn7, zi1, zi2, if_pos, if_neg] <;> rfl) rfl
  | succ f ih =>
    intro l h hl hl2
    by_cases h0 : l.length = 0
    · have h0 : l = [] := List.eq_nil_of_length_eq_zero (by omega)
      subst h0
      have e : treeF (f + 1 + 1) [] = z32L := rfl
      rw [e]
      have e2 : bw z32L = bw (List.replicate 32 0) := rfl
      rw [e2, z32]
      refine Spec.run Tryd.func31 rfl Tryd.ntmps31 (by simp) (by simp (disch := omega) only [go_sem, ↓reduceIte, zn1, zn2, zn3, zn4, zn5, zn6, reduceCtorEq, zn7, zi1, zi2, if_pos, if_neg]; rfl) fun B hB => ?_
      (repeat (first | refine DO.nil (by kernel_rfl) ?_ | (with_reducible first | apply oz1 | apply oz2 | apply oz3 | apply oz4 | apply oz5 | apply oz6 | apply oz7 | apply oz8 | apply oz9 | apply ozb | apply ozc | apply oze | apply ozf | apply ozg | apply ozh | apply ozi | apply ozj | apply ozk | refine ozd (by decide) ?_) | ((first | apply SO.call | apply DO.call); (iterate 3 (focus (simp (disch := omega) only [go_sem, ↓reduceIte, zn1, zn2, zn3, zn4, zn5, zn6, reduceCtorEq, zn7, zi1, zi2, if_pos, if_neg] <;> rfl))); (first | apply SCall.ofX | apply DCall.ofX); (focus (first | assumption)); (focus (simp (disch := omega) only [go_sem, ↓reduceIte, zn1, zn2, zn3, zn4, zn5, zn6, reduceCtorEq, zn7, zi1, zi2, if_pos, if_neg] <;> rfl))) | ((with_reducible first | apply SC.condB | apply SC.region | apply SO.run | apply DO.run); (focus (simp (disch := omega) only [go_sem, ↓reduceIte, zn1, zn2, zn3, zn4, zn5, zn6, reduceCtorEq, zn7, zi1, zi2, if_pos, if_neg] <;> rfl)); (first | refine pickT ?_ | refine pickF ?_ | fail_if_success with_reducible refine pickA ?_)) | ((with_reducible refine SC.draw Tab.mixed ?_ ?_); (focus (first | rfl | simp (disch := omega) only [go_sem, ↓reduceIte, zn1, zn2, zn3, zn4, zn5, zn6, reduceCtorEq, zn7, zi1, zi2, if_pos, if_neg]))) | (with_reducible apply SC.ops)))
      exact retQ_ret Tryd.results31 (by simp (disch := omega) only [go_sem, ↓reduceIte, zn1, zn2, zn3, zn4, zn5, zn6, reduceCtorEq, zn7, zi1, zi2, if_pos, if_neg] <;> rfl) (by simp (disch := omega) only [go_sem, ↓reduceIte, zn1, zn2, zn3, zn4, zn5, zn6, reduceCtorEq, zn7, zi1, zi2, if_pos, if_neg] <;> rfl) rfl
    · by_cases h1 : l.length = 1
      · obtain ⟨d, rfl⟩ := List.length_eq_one_iff.1 h1
        have e : treeF (f + 1 + 1) [d] = d := rfl
        obtain ⟨g1, g2⟩ := h d (by simp)
        have e2 : dgC [d] = bw d := by simp [dgC]
        rw [e, e2]
        have gd : (bw d).length = 32 := by rw [bw_len, g1]
        have gc := bw_clo d
        have go := bw_one d
        have gt : (bw d).take 32 = bw d := List.take_of_length_le (by omega)
        have gh := setAll_full d (by rw [g1])
        rw [z32] at gh
        refine Spec.run Tryd.func31 rfl Tryd.ntmps31 (by simp) (by simp (disch := omega) only [go_sem, ↓reduceIte, zn1, zn2, zn3, zn4, zn5, zn6, reduceCtorEq, zn7, zi1, zi2, if_pos, if_neg]; rfl) fun B hB => ?_
        (repeat (first | refine DO.nil (by kernel_rfl) ?_ | (with_reducible first | apply oz1 | apply oz2 | apply oz3 | apply oz4 | apply oz5 | apply oz6 | apply oz7 | apply oz8 | apply oz9 | apply ozb | apply ozc | apply oze | apply ozf | apply ozg | apply ozh | apply ozi | apply ozj | apply ozk | refine ozd (by decide) ?_) | ((first | apply SO.call | apply DO.call); (iterate 3 (focus (simp (disch := omega) only [go_sem, ↓reduceIte, zn1, zn2, zn3, zn4, zn5, zn6, reduceCtorEq, zn7, zi1, zi2, if_pos, if_neg, gd, gc, go, gt, List.drop_zero, Nat.mul_one] <;> rfl))); (first | apply SCall.ofX | apply DCall.ofX); (focus (first | assumption)); (focus (simp (disch := omega) only [go_sem, ↓reduceIte, zn1, zn2, zn3, zn4, zn5, zn6, reduceCtorEq, zn7, zi1, zi2, if_pos, if_neg, gd, gc, go, gt, List.drop_zero, Nat.mul_one] <;> rfl))) | ((with_reducible first | apply SC.condB | apply SC.region | apply SO.run | apply DO.run); (focus (simp (disch := omega) only [go_sem, ↓reduceIte, zn1, zn2, zn3, zn4, zn5, zn6, reduceCtorEq, zn7, zi1, zi2, if_pos, if_neg, gd, gc, go, gt, List.drop_zero, Nat.mul_one] <;> rfl)); (first | refine pickT ?_ | refine pickF ?_ | fail_if_success with_reducible refine pickA ?_)) | ((with_reducible refine SC.draw Tab.mixed ?_ ?_); (focus (first | rfl | simp (disch := omega) only [go_sem, ↓reduceIte, zn1, zn2, zn3, zn4, zn5, zn6, reduceCtorEq, zn7, zi1, zi2, if_pos, if_neg, gd, gc, go, gt, List.drop_zero, Nat.mul_one]))) | (with_reducible apply SC.ops)))
        exact retQ_ret Tryd.results31 (by simp (disch := omega) only [go_sem, ↓reduceIte, zn1, zn2, zn3, zn4, zn5, zn6, reduceCtorEq, zn7, zi1, zi2, if_pos, if_neg, gh, gt, gd, gc, List.drop_zero] <;> rfl) (by simp (disch := omega) only [go_sem, ↓reduceIte, zn1, zn2, zn3, zn4, zn5, zn6, reduceCtorEq, zn7, zi1, zi2, if_pos, if_neg, gh, gt, gd, gc, List.drop_zero] <;> rfl) rfl
      · obtain ⟨hh1, hh2⟩ := halfN_lt (n := l.length) (by omega)
        have e : treeF (f + 1 + 1) l = joinL (treeF (f + 1) (l.take (halfN l.length))) (treeF (f + 1) (l.drop (halfN l.length))) := by
          rw [treeF, if_neg h0, if_neg h1]
        obtain ⟨s1, s2⟩ := dgC_split h (halfN l.length)
        have c0 := half_s (n := l.length) (by omega) (by omega)
        have lt : (l.take (halfN l.length)).length = halfN l.length := by rw [List.length_take]; omega
        have ld : (l.drop (halfN l.length)).length = l.length - halfN l.length := List.length_drop
        have c1 := ih (h.take (halfN l.length)) (by omega) (by omega)
        have c2 := ih (h.drop (halfN l.length)) (by omega) (by omega)
        rw [lt] at c1
        rw [ld] at c2
        have d1 := treeF_dg (f + 1) (h.take (halfN l.length))
        have d2 := treeF_dg (f + 1) (h.drop (halfN l.length))
        have c3 := join_s d1.1 d2.1 d1.2 d2.2
        rw [e]
        unfold joinL
        obtain ⟨d3, _⟩ := sumL_dg ([1] ++ treeF (f + 1) (l.take (halfN l.length)) ++ treeF (f + 1) (l.drop (halfN l.length)))
        generalize sumL ([1] ++ treeF (f + 1) (l.take (halfN l.length)) ++ treeF (f + 1) (l.drop (halfN l.length))) = D at *
        generalize treeF (f + 1) (l.take (halfN l.length)) = TA at *
        generalize treeF (f + 1) (l.drop (halfN l.length)) = TB at *
        have s3 : (dgC (l.drop (halfN l.length))).length = (l.length - halfN l.length) * 32 := by rw [dgC_len (h.drop _), ld]
        have s4 : (dgC (l.drop (halfN l.length))).take ((l.length - halfN l.length) * 32) = dgC (l.drop (halfN l.length)) := List.take_of_length_le (by omega)
        generalize dgC (l.take (halfN l.length)) = DA at *
        generalize dgC (l.drop (halfN l.length)) = DB at *
        generalize dgC l = DL at *
        have q0 : ((l.length : Int) == 0) = false := by rw [beq_eq_false_iff_ne]; omega
        have q1 : ((l.length : Int) == 1) = false := by rw [beq_eq_false_iff_ne]; omega
        generalize halfN l.length = k at *
        generalize l.length = n at *
        have gd : (bw D).length = 32 := by rw [bw_len, d3]
        have gc := bw_clo D
        have go := bw_one D
        have gt : (bw D).take 32 = bw D := List.take_of_length_le (by omega)
        have gh := setAll_full D (by rw [← bw_len, gd])
        have gf := bw_fl1 D
        have gfa := bw_fl1 TA
        have gfb := bw_fl1 TB
        have gca := bw_clo TA
        have gcb := bw_clo TB
        rw [z32] at gh
        refine Spec.run Tryd.func31 rfl Tryd.ntmps31 (by simp) (by simp (disch := omega) only [go_sem, ↓reduceIte, zn1, zn2, zn3, zn4, zn5, zn6, reduceCtorEq, zn7, zi1, zi2, if_pos, if_neg]; rfl) fun B hB => ?_
        (repeat (first | refine DO.nil (by kernel_rfl) ?_ | (with_reducible first | apply oz1 | apply oz2 | apply oz3 | apply oz4 | apply oz5 | apply oz6 | apply oz7 | apply oz8 | apply oz9 | apply ozb | apply ozc | apply oze | apply ozf | apply ozg | apply ozh | apply ozi | apply ozj | apply ozk | refine ozd (by decide) ?_) | ((first | apply SO.call | apply DO.call); (iterate 3 (focus (simp (disch := omega) only [go_sem, ↓reduceIte, zn1, zn2, zn3, zn4, zn5, zn6, reduceCtorEq, zn7, zi1, zi2, if_pos, if_neg, q0, q1, gd, gc, go, gt, gf, gfa, gfb, gca, gcb, s1, s2, s3, s4, Nat.sub_zero, Int.toNat_natCast, List.drop_zero, Nat.mul_one] <;> rfl))); (first | apply SCall.ofX | apply DCall.ofX); (focus (first | assumption)); (focus (simp (disch := omega) only [go_sem, ↓reduceIte, zn1, zn2, zn3, zn4, zn5, zn6, reduceCtorEq, zn7, zi1, zi2, if_pos, if_neg, q0, q1, gd, gc, go, gt, gf, gfa, gfb, gca, gcb, s1, s2, s3, s4, Nat.sub_zero, Int.toNat_natCast, List.drop_zero, Nat.mul_one] <;> rfl))) | ((with_reducible first | apply SC.condB | apply SC.region | apply SO.run | apply DO.run); (focus (simp (disch := omega) only [go_sem, ↓reduceIte, zn1, zn2, zn3, zn4, zn5, zn6, reduceCtorEq, zn7, zi1, zi2, if_pos, if_neg, q0, q1, gd, gc, go, gt, gf, gfa, gfb, gca, gcb, s1, s2, s3, s4, Nat.sub_zero, Int.toNat_natCast, List.drop_zero, Nat.mul_one] <;> rfl)); (first | refine pickT ?_ | refine pickF ?_ | fail_if_success with_reducible refine pickA ?_)) | ((with_reducible refine SC.draw Tab.mixed ?_ ?_); (focus (first | rfl | simp (disch := omega) only [go_sem, ↓reduceIte, zn1, zn2, zn3, zn4, zn5, zn6, reduceCtorEq, zn7, zi1, zi2, if_pos, if_neg, q0, q1, gd, gc, go, gt, gf, gfa, gfb, gca, gcb, s1, s2, s3, s4, Nat.sub_zero, Int.toNat_natCast, List.drop_zero, Nat.mul_one]))) | (with_reducible apply SC.ops)))
        exact retQ_ret Tryd.results31 (by simp (disch := omega) only [go_sem, ↓reduceIte, zn1, zn2, zn3, zn4, zn5, zn6, reduceCtorEq, zn7, zi1, zi2, if_pos, if_neg, gh, gt, gd, gc, List.drop_zero] <;> rfl) (by simp (disch := omega) only [go_sem, ↓reduceIte, zn1, zn2, zn3, zn4, zn5, zn6, reduceCtorEq, zn7, zi1, zi2, if_pos, if_neg, gh, gt, gd, gc, List.drop_zero] <;> rfl) rfl
set_option maxHeartbeats 4000000 in
set_option maxRecDepth 8000 in
theorem pair_s {a b : List Int} (ha : a.length = 32) (hb : b.length = 32) (hau : U8s a) (hbu : U8s b) : Spec Tryd.prog 58 [.ag (bw a), .ag (bw b)] (.ag (bw (sumL ([1] ++ a ++ b)))) := by
  have hu : U8s ([1] ++ a ++ b) := by
    refine U8s.app (U8s.app ?_ hau) hbu
    intro x hx; rw [List.mem_singleton.1 hx]; omega
  have c1 := rsum_s (b := [1] ++ a ++ b) (by simp [ha, hb]) hu
  have hl : ([1] ++ a ++ b : List Int).length = 65 := by simp [ha, hb]
  have gX := bw_clo ([1] ++ a ++ b)
  rw [hl] at c1
  rw [bw_app, bw_app, show bw [1] = [.sc (.int .u8 1)] from rfl] at c1 gX
  generalize hD : sumL ([1] ++ a ++ b) = D at *
  have gD : (bw D).length = 32 := by rw [← hD]; rfl
  have gc := bw_clo D
  have gd := bw_one D
  have gf := bw_fl1 D
  have gg : (bw D).take 32 = bw D := List.take_of_length_le (by omega)
  have gh := setAll_full D (by rw [← bw_len, gD])
  rw [z32] at gh
  have la : (bw a).length = 32 := by rw [bw_len, ha]
  have lb : (bw b).length = 32 := by rw [bw_len, hb]
  have ta : (bw a).take 32 = bw a := List.take_of_length_le (by omega)
  have tb : (bw b).take 32 = bw b := List.take_of_length_le (by omega)
  have oa := bw_one a
  have ob := bw_one b
  generalize bw a = Y at *
  generalize bw b = Z at *
  have l1 : ([V.sc (.int .u8 1)] ++ Y).length = 33 := by rw [List.length_append, la]; rfl
  have t1 : ([V.sc (.int .u8 1)] ++ Y).take 33 = [V.sc (.int .u8 1)] ++ Y := List.take_of_length_le (by omega)
  have l2 : ([V.sc (.int .u8 1)] ++ Y ++ Z).length = 65 := by rw [List.length_append, l1, lb]
  have t2 : ([V.sc (.int .u8 1)] ++ Y ++ Z).take 65 = [V.sc (.int .u8 1)] ++ Y ++ Z := List.take_of_length_le (by omega)
  simp only [List.cons_append, List.nil_append] at l1 t1 l2 t2 gX c1
  refine Spec.run Tryd.func58 rfl Tryd.ntmps58 (by simp) (by simp (disch := omega) only [go_sem, ↓reduceIte, zn1, zn2, zn3, zn4, zn5, zn6, reduceCtorEq, zn7, zi1, zi2, if_pos, if_neg]; rfl) fun B hB => ?_
  (repeat (first | refine DO.nil (by kernel_rfl) ?_ | (with_reducible first | apply oz1 | apply oz2 | apply oz3 | apply oz4 | apply oz5 | apply oz6 | apply oz7 | apply oz8 | apply oz9 | apply ozb | apply ozc | apply oze | apply ozf | apply ozg | apply ozh | apply ozi | apply ozj | apply ozk | refine ozd (by decide) ?_) | ((first | apply SO.call | apply DO.call); (iterate 3 (focus (simp (disch := omega) only [go_sem, ↓reduceIte, zn1, zn2, zn3, zn4, zn5, zn6, reduceCtorEq, zn7, zi1, zi2, if_pos, if_neg, la, lb, ta, tb, oa, ob, l1, t1, l2, t2, gX, gD, gc, gd, gf, gg, List.cons_append, List.nil_append, List.take_succ_cons, List.take_zero, List.length_cons, List.length_nil, List.drop_zero, Nat.mul_one] <;> rfl))); (first | apply SCall.ofX | apply DCall.ofX); (focus (first | assumption)); (focus (simp (disch := omega) only [go_sem, ↓reduceIte, zn1, zn2, zn3, zn4, zn5, zn6, reduceCtorEq, zn7, zi1, zi2, if_pos, if_neg, la, lb, ta, tb, oa, ob, l1, t1, l2, t2, gX, gD, gc, gd, gf, gg, List.cons_append, List.nil_append, List.take_succ_cons, List.take_zero, List.length_cons, List.length_nil, List.drop_zero, Nat.mul_one] <;> rfl))) | ((with_reducible first | apply SC.condB | apply SC.region | apply SO.run | apply DO.run); (focus (simp (disch := omega) only [go_sem, ↓reduceIte, zn1, zn2, zn3, zn4, zn5, zn6, reduceCtorEq, zn7, zi1, zi2, if_pos, if_neg, la, lb, ta, tb, oa, ob, l1, t1, l2, t2, gX, gD, gc, gd, gf, gg, List.cons_append, List.nil_append, List.take_succ_cons, List.take_zero, List.length_cons, List.length_nil, List.drop_zero, Nat.mul_one] <;> rfl)); (first | refine pickT ?_ | refine pickF ?_ | fail_if_success with_reducible refine pickA ?_)) | ((with_reducible refine SC.draw Tab.mixed ?_ ?_); (focus (first | rfl | simp (disch := omega) only [go_sem, ↓reduceIte, zn1, zn2, zn3, zn4, zn5, zn6, reduceCtorEq, zn7, zi1, zi2, if_pos, if_neg, la, lb, ta, tb, oa, ob, l1, t1, l2, t2, gX, gD, gc, gd, gf, gg, List.cons_append, List.nil_append, List.take_succ_cons, List.take_zero, List.length_cons, List.length_nil, List.drop_zero, Nat.mul_one]))) | (with_reducible apply SC.ops)))
  exact retQ_ret Tryd.results58 (by simp (disch := omega) only [go_sem, ↓reduceIte, zn1, zn2, zn3, zn4, zn5, zn6, reduceCtorEq, zn7, zi1, zi2, if_pos, if_neg, gh, gg, gD, gc, List.drop_zero] <;> rfl) (by simp (disch := omega) only [go_sem, ↓reduceIte, zn1, zn2, zn3, zn4, zn5, zn6, reduceCtorEq, zn7, zi1, zi2, if_pos, if_neg, gh, gg, gD, gc, List.drop_zero] <;> rfl) rfl
set_option maxHeartbeats 4000000 in
set_option maxRecDepth 8000 in
theorem whole_s {rows cols : Int} {t : List Int} (ht : t.length = 32) (htu : U8s t) (h0 : 0 ≤ rows) (h1 : rows ≤ 9223372036854775807) (h2 : 0 ≤ cols) (h3 : cols ≤ 9223372036854775807) :
    Spec Tryd.prog 36 [.sc (.int .i64 rows), .sc (.int .i64 cols), .ag (bw t)] (.ag (bw (sumL ([2] ++ n8b rows ++ n8b cols ++ t)))) := by
  have hu : U8s ([2] ++ n8b rows ++ n8b cols ++ t) := by
    refine U8s.app (U8s.app (U8s.app ?_ (n8b_u8 _)) (n8b_u8 _)) htu
    intro x hx; rw [List.mem_singleton.1 hx]; omega
  have c1 := rsum_s (b := [2] ++ n8b rows ++ n8b cols ++ t) (by simp [ht, n8b, w4]) hu
  have hl : ([2] ++ n8b rows ++ n8b cols ++ t : List Int).length = 49 := by simp [ht, n8b, w4]
  rw [hl] at c1
  have a1 := rnumA (id := 2) (n := 1) (cap := some 1) (C := [2]) rows rfl (by omega) h0 (by omega)
  have a2 := rnumA (id := 3) (n := 9) (cap := none) (C := [2] ++ n8b rows) cols rfl (by omega) h2 (by omega)
  have g1 := bw_one t
  have g2 : (bw t).length = 32 := by rw [bw_len, ht]
  have g3 := bw_clo ([2] ++ n8b rows ++ n8b cols ++ t)
  have g4 : bw ([2] ++ n8b rows ++ n8b cols ++ t) = bw ([2] ++ n8b rows ++ n8b cols) ++ bw t := bw_app _ _
  have g5 : (bw ([2] ++ n8b rows ++ n8b cols)).length = 17 := rfl
  have g6 : bw [2] = [.sc (.int .u8 2)] := rfl
  rw [g6] at a1
  generalize hD : sumL ([2] ++ n8b rows ++ n8b cols ++ t) = D at *
  have gD : (bw D).length = 32 := by rw [← hD]; rfl
  rw [g4] at c1 g3
  generalize bw ([2] ++ n8b rows ++ n8b cols) = X2 at *
  generalize bw ([2] ++ n8b rows) = X1 at *
  generalize bw t = T at *
  have g7 : T.take 32 = T := List.take_of_length_le (by omega)
  have g8 : X2.take 17 = X2 := List.take_of_length_le (by omega)
  have g9 : (X2 ++ T).length = 49 := by rw [List.length_append]; omega
  have ga : (X2 ++ T).take 49 = X2 ++ T := List.take_of_length_le (by omega)
  have gc := bw_clo D
  have gd := bw_one D
  have gf := bw_fl1 D
  have gg : (bw D).take 32 = bw D := List.take_of_length_le (by omega)
  have gh := setAll_full D (by rw [← bw_len, gD])
  rw [z32] at gh
  refine Spec.run Tryd.func36 rfl Tryd.ntmps36 (by simp) (by simp (disch := omega) only [go_sem, ↓reduceIte, zn1, zn2, zn3, zn4, zn5, zn6, reduceCtorEq, zn7, zi1, zi2, if_pos, if_neg]; rfl) fun B hB => ?_
  (repeat (first | refine DO.nil (by kernel_rfl) ?_ | (with_reducible first | apply oz1 | apply oz2 | apply oz3 | apply oz4 | apply oz5 | apply oz6 | apply oz7 | apply oz8 | apply oz9 | apply ozb | apply ozc | apply oze | apply ozf | apply ozg | apply ozh | apply ozi | apply ozj | apply ozk | refine ozd (by decide) ?_) | ((first | apply SO.call | apply DO.call); (iterate 3 (focus (simp (disch := omega) only [go_sem, ↓reduceIte, zn1, zn2, zn3, zn4, zn5, zn6, reduceCtorEq, zn7, zi1, zi2, if_pos, if_neg, g1, g2] <;> rfl))); (first | apply SCall.ofX | apply DCall.ofX); (focus (first | assumption)); (focus (simp (disch := omega) only [go_sem, ↓reduceIte, zn1, zn2, zn3, zn4, zn5, zn6, reduceCtorEq, zn7, zi1, zi2, if_pos, if_neg, g1, g2] <;> rfl))) | ((with_reducible first | apply SC.condB | apply SC.region | apply SO.run | apply DO.run); (focus (simp (disch := omega) only [go_sem, ↓reduceIte, zn1, zn2, zn3, zn4, zn5, zn6, reduceCtorEq, zn7, zi1, zi2, if_pos, if_neg, g1, g2] <;> rfl)); (first | refine pickT ?_ | refine pickF ?_ | fail_if_success with_reducible refine pickA ?_)) | ((with_reducible refine SC.draw Tab.mixed ?_ ?_); (focus (first | rfl | simp (disch := omega) only [go_sem, ↓reduceIte, zn1, zn2, zn3, zn4, zn5, zn6, reduceCtorEq, zn7, zi1, zi2, if_pos, if_neg, g1, g2]))) | (with_reducible apply SC.ops)))
  (first | refine SO.callA Tab.go23 (by simp (disch := omega) only [go_sem, ↓reduceIte, zn1, zn2, zn3, zn4, zn5, zn6, reduceCtorEq, zn7, zi1, zi2, if_pos, if_neg] <;> rfl) (by simp (disch := omega) only [go_sem, ↓reduceIte, zn1, zn2, zn3, zn4, zn5, zn6, reduceCtorEq, zn7, zi1, zi2, if_pos, if_neg] <;> rfl) (SApp.of (a1) (by simp (disch := omega) only [go_sem, ↓reduceIte, zn1, zn2, zn3, zn4, zn5, zn6, reduceCtorEq, zn7, zi1, zi2, if_pos, if_neg] <;> rfl) rfl (by simp (disch := omega) only [go_sem, ↓reduceIte, zn1, zn2, zn3, zn4, zn5, zn6, reduceCtorEq, zn7, zi1, zi2, if_pos, if_neg] <;> rfl) ?_) | refine DO.callA Tab.go23 (by simp (disch := omega) only [go_sem, ↓reduceIte, zn1, zn2, zn3, zn4, zn5, zn6, reduceCtorEq, zn7, zi1, zi2, if_pos, if_neg] <;> rfl) (by simp (disch := omega) only [go_sem, ↓reduceIte, zn1, zn2, zn3, zn4, zn5, zn6, reduceCtorEq, zn7, zi1, zi2, if_pos, if_neg] <;> rfl) (DApp.of (a1) (by simp (disch := omega) only [go_sem, ↓reduceIte, zn1, zn2, zn3, zn4, zn5, zn6, reduceCtorEq, zn7, zi1, zi2, if_pos, if_neg] <;> rfl) rfl (by simp (disch := omega) only [go_sem, ↓reduceIte, zn1, zn2, zn3, zn4, zn5, zn6, reduceCtorEq, zn7, zi1, zi2, if_pos, if_neg] <;> rfl) ?_))
  (repeat (first | refine DO.nil (by kernel_rfl) ?_ | (with_reducible first | apply oz1 | apply oz2 | apply oz3 | apply oz4 | apply oz5 | apply oz6 | apply oz7 | apply oz8 | apply oz9 | apply ozb | apply ozc | apply oze | apply ozf | apply ozg | apply ozh | apply ozi | apply ozj | apply ozk | refine ozd (by decide) ?_) | ((first | apply SO.call | apply DO.call); (iterate 3 (focus (simp (disch := omega) only [go_sem, ↓reduceIte, zn1, zn2, zn3, zn4, zn5, zn6, reduceCtorEq, zn7, zi1, zi2, if_pos, if_neg, g1, g2] <;> rfl))); (first | apply SCall.ofX | apply DCall.ofX); (focus (first | assumption)); (focus (simp (disch := omega) only [go_sem, ↓reduceIte, zn1, zn2, zn3, zn4, zn5, zn6, reduceCtorEq, zn7, zi1, zi2, if_pos, if_neg, g1, g2] <;> rfl))) | ((with_reducible first | apply SC.condB | apply SC.region | apply SO.run | apply DO.run); (focus (simp (disch := omega) only [go_sem, ↓reduceIte, zn1, zn2, zn3, zn4, zn5, zn6, reduceCtorEq, zn7, zi1, zi2, if_pos, if_neg, g1, g2] <;> rfl)); (first | refine pickT ?_ | refine pickF ?_ | fail_if_success with_reducible refine pickA ?_)) | ((with_reducible refine SC.draw Tab.mixed ?_ ?_); (focus (first | rfl | simp (disch := omega) only [go_sem, ↓reduceIte, zn1, zn2, zn3, zn4, zn5, zn6, reduceCtorEq, zn7, zi1, zi2, if_pos, if_neg, g1, g2]))) | (with_reducible apply SC.ops)))
  (first | refine SO.callA Tab.go23 (by simp (disch := omega) only [go_sem, ↓reduceIte, zn1, zn2, zn3, zn4, zn5, zn6, reduceCtorEq, zn7, zi1, zi2, if_pos, if_neg] <;> rfl) (by simp (disch := omega) only [go_sem, ↓reduceIte, zn1, zn2, zn3, zn4, zn5, zn6, reduceCtorEq, zn7, zi1, zi2, if_pos, if_neg] <;> rfl) (SApp.of (a2) (by simp (disch := omega) only [go_sem, ↓reduceIte, zn1, zn2, zn3, zn4, zn5, zn6, reduceCtorEq, zn7, zi1, zi2, if_pos, if_neg] <;> rfl) rfl (by simp (disch := omega) only [go_sem, ↓reduceIte, zn1, zn2, zn3, zn4, zn5, zn6, reduceCtorEq, zn7, zi1, zi2, if_pos, if_neg] <;> rfl) ?_) | refine DO.callA Tab.go23 (by simp (disch := omega) only [go_sem, ↓reduceIte, zn1, zn2, zn3, zn4, zn5, zn6, reduceCtorEq, zn7, zi1, zi2, if_pos, if_neg] <;> rfl) (by simp (disch := omega) only [go_sem, ↓reduceIte, zn1, zn2, zn3, zn4, zn5, zn6, reduceCtorEq, zn7, zi1, zi2, if_pos, if_neg] <;> rfl) (DApp.of (a2) (by simp (disch := omega) only [go_sem, ↓reduceIte, zn1, zn2, zn3, zn4, zn5, zn6, reduceCtorEq, zn7, zi1, zi2, if_pos, if_neg] <;> rfl) rfl (by simp (disch := omega) only [go_sem, ↓reduceIte, zn1, zn2, zn3, zn4, zn5, zn6, reduceCtorEq, zn7, zi1, zi2, if_pos, if_neg] <;> rfl) ?_))
  (repeat (first | refine DO.nil (by kernel_rfl) ?_ | (with_reducible first | apply oz1 | apply oz2 | apply oz3 | apply oz4 | apply oz5 | apply oz6 | apply oz7 | apply oz8 | apply oz9 | apply ozb | apply ozc | apply oze | apply ozf | apply ozg | apply ozh | apply ozi | apply ozj | apply ozk | refine ozd (by decide) ?_) | ((first | apply SO.call | apply DO.call); (iterate 3 (focus (simp (disch := omega) only [go_sem, ↓reduceIte, zn1, zn2, zn3, zn4, zn5, zn6, reduceCtorEq, zn7, zi1, zi2, if_pos, if_neg, g1, g2, g3, g5, g7, g8, g9, ga, gc, gd, gf, gg, gD, List.drop_zero, Nat.mul_one] <;> rfl))); (first | apply SCall.ofX | apply DCall.ofX); (focus (first | assumption)); (focus (simp (disch := omega) only [go_sem, ↓reduceIte, zn1, zn2, zn3, zn4, zn5, zn6, reduceCtorEq, zn7, zi1, zi2, if_pos, if_neg, g1, g2, g3, g5, g7, g8, g9, ga, gc, gd, gf, gg, gD, List.drop_zero, Nat.mul_one] <;> rfl))) | ((with_reducible first | apply SC.condB | apply SC.region | apply SO.run | apply DO.run); (focus (simp (disch := omega) only [go_sem, ↓reduceIte, zn1, zn2, zn3, zn4, zn5, zn6, reduceCtorEq, zn7, zi1, zi2, if_pos, if_neg, g1, g2, g3, g5, g7, g8, g9, ga, gc, gd, gf, gg, gD, List.drop_zero, Nat.mul_one] <;> rfl)); (first | refine pickT ?_ | refine pickF ?_ | fail_if_success with_reducible refine pickA ?_)) | ((with_reducible refine SC.draw Tab.mixed ?_ ?_); (focus (first | rfl | simp (disch := omega) only [go_sem, ↓reduceIte, zn1, zn2, zn3, zn4, zn5, zn6, reduceCtorEq, zn7, zi1, zi2, if_pos, if_neg, g1, g2, g3, g5, g7, g8, g9, ga, gc, gd, gf, gg, gD, List.drop_zero, Nat.mul_one]))) | (with_reducible apply SC.ops)))
  exact retQ_ret Tryd.results36 (by simp (disch := omega) only [go_sem, ↓reduceIte, zn1, zn2, zn3, zn4, zn5, zn6, reduceCtorEq, zn7, zi1, zi2, if_pos, if_neg, gh, gg, gD, gc, List.drop_zero] <;> rfl) (by simp (disch := omega) only [go_sem, ↓reduceIte, zn1, zn2, zn3, zn4, zn5, zn6, reduceCtorEq, zn7, zi1, zi2, if_pos, if_neg, gh, gg, gD, gc, List.drop_zero] <;> rfl) rfl
set_option maxHeartbeats 4000000 in
set_option maxRecDepth 8000 in
theorem rtree_s : ∀ (f : Nat) {l : List (List Int)}, Dgs l → l.length ≤ f → l.length ≤ 1000000 → Spec Tryd.prog 37 [.im (dgC l) l.length] (.ag (bw (treeF (f + 1) l))) := by
  intro f
  induction f with
  | zero =>
    intro l h hl _
    have h0 : l = [] := List.eq_nil_of_length_eq_zero (by omega)
    subst h0
    have e : treeF 1 [] = z32L := rfl
    rw [e]
    have e2 : bw z32L = bw (List.replicate 32 0) := rfl
    rw [e2, z32]
    refine Spec.run Tryd.func37 rfl Tryd.ntmps37 (by simp) (by simp (disch := omega) only [go_sem, ↓reduceIte, zn1, zn2, zn3, zn4, zn5, zn6, reduceCtorEq, zn7, zi1, zi2, if_pos, if_neg]; rfl) fun B hB => ?_
    (repeat (first | refine DO.nil (by kernel_rfl) ?_ | (with_reducible first | apply oz1 | apply oz2 | apply oz3 | apply oz4 | apply oz5 | apply oz6 | apply oz7 | apply oz8 | apply oz9 | apply ozb | apply ozc | apply oze | apply ozf | apply ozg | apply ozh | apply ozi | apply ozj | apply ozk | refine ozd (by decide) ?_) | ((first | apply SO.call | apply DO.call); (iterate 3 (focus (simp (disch := omega) only [go_sem, ↓reduceIte, zn1, zn2, zn3, zn4, zn5, zn6, reduceCtorEq, zn7, zi1, zi2, if_pos, if_neg] <;> rfl))); (first | apply SCall.ofX | apply DCall.ofX); (focus (first | assumption)); (focus (simp (disch := omega) only [go_sem, ↓reduceIte, zn1, zn2, zn3, zn4, zn5, zn6, reduceCtorEq, zn7, zi1, zi2, if_pos, if_neg] <;> rfl))) | ((with_reducible first | apply SC.condB | apply SC.region | apply SO.run | apply DO.run); (focus (simp (disch := omega) only [go_sem, ↓reduceIte, zn1, zn2, zn3, zn4, zn5, zn6, reduceCtorEq, zn7, zi1, zi2, if_pos, if_neg] <;> rfl)); (first | refine pickT ?_ | refine pickF ?_ | fail_if_success with_reducible refine pickA ?_)) | ((with_reducible refine SC.draw Tab.mixed ?_ ?_); (focus (first | rfl | simp (disch := omega) only [go_sem, ↓reduceIte, zn1, zn2, zn3, zn4, zn5, zn6, reduceCtorEq, zn7, zi1, zi2, if_pos, if_neg]))) | (with_reducible apply SC.ops)))
    exact retQ_ret Tryd.results37 (by simp (disch := omega) only [go_sem, ↓reduceIte, zn1, zn2, zn3, zn4, zn5, zn6, reduceCtorEq, zn7, zi1, zi2, if_pos, if_neg] <;> rfl) (by simp (disch := omega) only [go_sem, ↓reduceIte, zn1, zn2, zn3, zn4, zn5, zn6, reduceCtorEq, zn7, zi1, zi2, if_pos, if_neg] <;> rfl) rfl
  | succ f ih =>
    intro l h hl hl2
    by_cases h0 : l.length = 0
    · have h0 : l = [] := List.eq_nil_of_length_eq_zero (by omega)
      subst h0
      have e : treeF (f + 1 + 1) [] = z32L := rfl
      rw [e]
      have e2 : bw z32L = bw (List.replicate 32 0) := rfl
      rw [e2, z32]
      refine Spec.run Tryd.func37 rfl Tryd.ntmps37 (by simp) (by simp (disch := omega) only [go_sem, ↓reduceIte, zn1, zn2, zn3, zn4, zn5, zn6, reduceCtorEq, zn7, zi1, zi2, if_pos, if_neg]; rfl) fun B hB => ?_
      (repeat (first | refine DO.nil (by kernel_rfl) ?_ | (with_reducible first | apply oz1 | apply oz2 | apply oz3 | apply oz4 | apply oz5 | apply oz6 | apply oz7 | apply oz8 | apply oz9 | apply ozb | apply ozc | apply oze | apply ozf | apply ozg | apply ozh | apply ozi | apply ozj | apply ozk | refine ozd (by decide) ?_) | ((first | apply SO.call | apply DO.call); (iterate 3 (focus (simp (disch := omega) only [go_sem, ↓reduceIte, zn1, zn2, zn3, zn4, zn5, zn6, reduceCtorEq, zn7, zi1, zi2, if_pos, if_neg] <;> rfl))); (first | apply SCall.ofX | apply DCall.ofX); (focus (first | assumption)); (focus (simp (disch := omega) only [go_sem, ↓reduceIte, zn1, zn2, zn3, zn4, zn5, zn6, reduceCtorEq, zn7, zi1, zi2, if_pos, if_neg] <;> rfl))) | ((with_reducible first | apply SC.condB | apply SC.region | apply SO.run | apply DO.run); (focus (simp (disch := omega) only [go_sem, ↓reduceIte, zn1, zn2, zn3, zn4, zn5, zn6, reduceCtorEq, zn7, zi1, zi2, if_pos, if_neg] <;> rfl)); (first | refine pickT ?_ | refine pickF ?_ | fail_if_success with_reducible refine pickA ?_)) | ((with_reducible refine SC.draw Tab.mixed ?_ ?_); (focus (first | rfl | simp (disch := omega) only [go_sem, ↓reduceIte, zn1, zn2, zn3, zn4, zn5, zn6, reduceCtorEq, zn7, zi1, zi2, if_pos, if_neg]))) | (with_reducible apply SC.ops)))
      exact retQ_ret Tryd.results37 (by simp (disch := omega) only [go_sem, ↓reduceIte, zn1, zn2, zn3, zn4, zn5, zn6, reduceCtorEq, zn7, zi1, zi2, if_pos, if_neg] <;> rfl) (by simp (disch := omega) only [go_sem, ↓reduceIte, zn1, zn2, zn3, zn4, zn5, zn6, reduceCtorEq, zn7, zi1, zi2, if_pos, if_neg] <;> rfl) rfl
    · by_cases h1 : l.length = 1
      · obtain ⟨d, rfl⟩ := List.length_eq_one_iff.1 h1
        have e : treeF (f + 1 + 1) [d] = d := rfl
        obtain ⟨g1, g2⟩ := h d (by simp)
        have e2 : dgC [d] = bw d := by simp [dgC]
        rw [e, e2]
        have gd : (bw d).length = 32 := by rw [bw_len, g1]
        have gc := bw_clo d
        have go := bw_one d
        have gt : (bw d).take 32 = bw d := List.take_of_length_le (by omega)
        have gh := setAll_full d (by rw [g1])
        rw [z32] at gh
        refine Spec.run Tryd.func37 rfl Tryd.ntmps37 (by simp) (by simp (disch := omega) only [go_sem, ↓reduceIte, zn1, zn2, zn3, zn4, zn5, zn6, reduceCtorEq, zn7, zi1, zi2, if_pos, if_neg]; rfl) fun B hB => ?_
        (repeat (first | refine DO.nil (by kernel_rfl) ?_ | (with_reducible first | apply oz1 | apply oz2 | apply oz3 | apply oz4 | apply oz5 | apply oz6 | apply oz7 | apply oz8 | apply oz9 | apply ozb | apply ozc | apply oze | apply ozf | apply ozg | apply ozh | apply ozi | apply ozj | apply ozk | refine ozd (by decide) ?_) | ((first | apply SO.call | apply DO.call); (iterate 3 (focus (simp (disch := omega) only [go_sem, ↓reduceIte, zn1, zn2, zn3, zn4, zn5, zn6, reduceCtorEq, zn7, zi1, zi2, if_pos, if_neg, gd, gc, go, gt, List.drop_zero, Nat.mul_one] <;> rfl))); (first | apply SCall.ofX | apply DCall.ofX); (focus (first | assumption)); (focus (simp (disch := omega) only [go_sem, ↓reduceIte, zn1, zn2, zn3, zn4, zn5, zn6, reduceCtorEq, zn7, zi1, zi2, if_pos, if_neg, gd, gc, go, gt, List.drop_zero, Nat.mul_one] <;> rfl))) | ((with_reducible first | apply SC.condB | apply SC.region | apply SO.run | apply DO.run); (focus (simp (disch := omega) only [go_sem, ↓reduceIte, zn1, zn2, zn3, zn4, zn5, zn6, reduceCtorEq, zn7, zi1, zi2, if_pos, if_neg, gd, gc, go, gt, List.drop_zero, Nat.mul_one] <;> rfl)); (first | refine pickT ?_ | refine pickF ?_ | fail_if_success with_reducible refine pickA ?_)) | ((with_reducible refine SC.draw Tab.mixed ?_ ?_); (focus (first | rfl | simp (disch := omega) only [go_sem, ↓reduceIte, zn1, zn2, zn3, zn4, zn5, zn6, reduceCtorEq, zn7, zi1, zi2, if_pos, if_neg, gd, gc, go, gt, List.drop_zero, Nat.mul_one]))) | (with_reducible apply SC.ops)))
        exact retQ_ret Tryd.results37 (by simp (disch := omega) only [go_sem, ↓reduceIte, zn1, zn2, zn3, zn4, zn5, zn6, reduceCtorEq, zn7, zi1, zi2, if_pos, if_neg, gh, gt, gd, gc, List.drop_zero] <;> rfl) (by simp (disch := omega) only [go_sem, ↓reduceIte, zn1, zn2, zn3, zn4, zn5, zn6, reduceCtorEq, zn7, zi1, zi2, if_pos, if_neg, gh, gt, gd, gc, List.drop_zero] <;> rfl) rfl
      · obtain ⟨hh1, hh2⟩ := halfN_lt (n := l.length) (by omega)
        have e : treeF (f + 1 + 1) l = joinL (treeF (f + 1) (l.take (halfN l.length))) (treeF (f + 1) (l.drop (halfN l.length))) := by
          rw [treeF, if_neg h0, if_neg h1]
        obtain ⟨s1, s2⟩ := dgC_split h (halfN l.length)
        have c0 := rhalf_s (n := l.length) (by omega) (by omega)
        have lt : (l.take (halfN l.length)).length = halfN l.length := by rw [List.length_take]; omega
        have ld : (l.drop (halfN l.length)).length = l.length - halfN l.length := List.length_drop
        have c1 := ih (h.take (halfN l.length)) (by omega) (by omega)
        have c2 := ih (h.drop (halfN l.length)) (by omega) (by omega)
        rw [lt] at c1
        rw [ld] at c2
        have d1 := treeF_dg (f + 1) (h.take (halfN l.length))
        have d2 := treeF_dg (f + 1) (h.drop (halfN l.length))
        have c3 := pair_s d1.1 d2.1 d1.2 d2.2
        rw [e]
        unfold joinL
        obtain ⟨d3, _⟩ := sumL_dg ([1] ++ treeF (f + 1) (l.take (halfN l.length)) ++ treeF (f + 1) (l.drop (halfN l.length)))
        generalize sumL ([1] ++ treeF (f + 1) (l.take (halfN l.length)) ++ treeF (f + 1) (l.drop (halfN l.length))) = D at *
        generalize treeF (f + 1) (l.take (halfN l.length)) = TA at *
        generalize treeF (f + 1) (l.drop (halfN l.length)) = TB at *
        have s3 : (dgC (l.drop (halfN l.length))).length = (l.length - halfN l.length) * 32 := by rw [dgC_len (h.drop _), ld]
        have s4 : (dgC (l.drop (halfN l.length))).take ((l.length - halfN l.length) * 32) = dgC (l.drop (halfN l.length)) := List.take_of_length_le (by omega)
        generalize dgC (l.take (halfN l.length)) = DA at *
        generalize dgC (l.drop (halfN l.length)) = DB at *
        generalize dgC l = DL at *
        have q0 : ((l.length : Int) == 0) = false := by rw [beq_eq_false_iff_ne]; omega
        have q1 : ((l.length : Int) == 1) = false := by rw [beq_eq_false_iff_ne]; omega
        generalize halfN l.length = k at *
        generalize l.length = n at *
        have gd : (bw D).length = 32 := by rw [bw_len, d3]
        have gc := bw_clo D
        have go := bw_one D
        have gt : (bw D).take 32 = bw D := List.take_of_length_le (by omega)
        have gh := setAll_full D (by rw [← bw_len, gd])
        have gf := bw_fl1 D
        have gfa := bw_fl1 TA
        have gfb := bw_fl1 TB
        have gca := bw_clo TA
        have gcb := bw_clo TB
        rw [z32] at gh
        refine Spec.run Tryd.func37 rfl Tryd.ntmps37 (by simp) (by simp (disch := omega) only [go_sem, ↓reduceIte, zn1, zn2, zn3, zn4, zn5, zn6, reduceCtorEq, zn7, zi1, zi2, if_pos, if_neg]; rfl) fun B hB => ?_
        (repeat (first | refine DO.nil (by kernel_rfl) ?_ | (with_reducible first | apply oz1 | apply oz2 | apply oz3 | apply oz4 | apply oz5 | apply oz6 | apply oz7 | apply oz8 | apply oz9 | apply ozb | apply ozc | apply oze | apply ozf | apply ozg | apply ozh | apply ozi | apply ozj | apply ozk | refine ozd (by decide) ?_) | ((first | apply SO.call | apply DO.call); (iterate 3 (focus (simp (disch := omega) only [go_sem, ↓reduceIte, zn1, zn2, zn3, zn4, zn5, zn6, reduceCtorEq, zn7, zi1, zi2, if_pos, if_neg, q0, q1, gd, gc, go, gt, gf, gfa, gfb, gca, gcb, s1, s2, s3, s4, Nat.sub_zero, Int.toNat_natCast, List.drop_zero, Nat.mul_one] <;> rfl))); (first | apply SCall.ofX | apply DCall.ofX); (focus (first | assumption)); (focus (simp (disch := omega) only [go_sem, ↓reduceIte, zn1, zn2, zn3, zn4, zn5, zn6, reduceCtorEq, zn7, zi1, zi2, if_pos, if_neg, q0, q1, gd, gc, go, gt, gf, gfa, gfb, gca, gcb, s1, s2, s3, s4, Nat.sub_zero, Int.toNat_natCast, List.drop_zero, Nat.mul_one] <;> rfl))) | ((with_reducible first | apply SC.condB | apply SC.region | apply SO.run | apply DO.run); (focus (simp (disch := omega) only [go_sem, ↓reduceIte, zn1, zn2, zn3, zn4, zn5, zn6, reduceCtorEq, zn7, zi1, zi2, if_pos, if_neg, q0, q1, gd, gc, go, gt, gf, gfa, gfb, gca, gcb, s1, s2, s3, s4, Nat.sub_zero, Int.toNat_natCast, List.drop_zero, Nat.mul_one] <;> rfl)); (first | refine pickT ?_ | refine pickF ?_ | fail_if_success with_reducible refine pickA ?_)) | ((with_reducible refine SC.draw Tab.mixed ?_ ?_); (focus (first | rfl | simp (disch := omega) only [go_sem, ↓reduceIte, zn1, zn2, zn3, zn4, zn5, zn6, reduceCtorEq, zn7, zi1, zi2, if_pos, if_neg, q0, q1, gd, gc, go, gt, gf, gfa, gfb, gca, gcb, s1, s2, s3, s4, Nat.sub_zero, Int.toNat_natCast, List.drop_zero, Nat.mul_one]))) | (with_reducible apply SC.ops)))
        exact retQ_ret Tryd.results37 (by simp (disch := omega) only [go_sem, ↓reduceIte, zn1, zn2, zn3, zn4, zn5, zn6, reduceCtorEq, zn7, zi1, zi2, if_pos, if_neg, gh, gt, gd, gc, List.drop_zero] <;> rfl) (by simp (disch := omega) only [go_sem, ↓reduceIte, zn1, zn2, zn3, zn4, zn5, zn6, reduceCtorEq, zn7, zi1, zi2, if_pos, if_neg, gh, gt, gd, gc, List.drop_zero] <;> rfl) rfl
end Go.Proofs.YtpbnhioelmgaiaaDoor
namespace Go.Proofs.YtpbnhioelmgaiaaDoor
open Go.RowKit
def rsC (L : List (List Tm)) : List V := L.map fun r => .im (tmsC r) r.length
theorem rsC_len (L : List (List Tm)) : (rsC L).length = L.length := by simp [rsC]
theorem rsC_clo (L : List (List Tm)) : (rsC L).all clo = true := by simp [rsC, clo]
theorem rsC_get {L : List (List Tm)} {i : Nat} (h : i < L.length) : (rsC L)[i]? = some (.im (tmsC (L.getD i [])) (L.getD i []).length) := by
  unfold rsC; rw [List.getElem?_map, getD_some (d := []) h]; rfl
def RowOk (r : List Tm) : Prop := (∀ t ∈ r, t.Ok) ∧ r.length ≤ 100
def RowsOk2 (L : List (List Tm)) : Prop := (∀ r ∈ L, RowOk r) ∧ L.length ≤ 1000
def dgsL (L : List (List Tm)) : List (List Int) := L.map fun r => sumL (rowB r)
theorem dgsL_len (L : List (List Tm)) : (dgsL L).length = L.length := by simp [dgsL]
theorem dgsL_dg (L : List (List Tm)) : Dgs (dgsL L) := fun d hd => by
  obtain ⟨r, _, rfl⟩ := List.mem_map.1 hd
  exact sumL_dg _
theorem dgsL_get {L : List (List Tm)} {i : Nat} (h : i < L.length) : (dgsL L).getD i [] = sumL (rowB (L.getD i [])) := by
  unfold dgsL
  rw [List.getD_eq_getElem?_getD, List.getElem?_map, getD_some (d := []) h]; rfl
def dgP (L : List (List Tm)) (i : Nat) : List (List Int) := (dgsL L).take i ++ List.replicate (L.length - i) z32L
theorem dgP_dg (L : List (List Tm)) (i : Nat) : Dgs (dgP L i) := fun d hd => by
  rcases List.mem_append.1 hd with h | h
  · exact dgsL_dg L d (List.mem_of_mem_take h)
  · rw [(List.mem_replicate.1 h).2]; exact z32_dg
theorem dgP_len {L : List (List Tm)} {i : Nat} (h : i ≤ L.length) : (dgP L i).length = L.length := by
  unfold dgP; rw [List.length_append, List.length_take, dgsL_len, List.length_replicate]; omega
theorem dgP_set {L : List (List Tm)} {i : Nat} (h : i < L.length) : setAll (dgC (dgP L i)) (i * 32) (bw (sumL (rowB (L.getD i [])))) = dgC (dgP L (i + 1)) := by
  have e1 : dgP L i = (dgsL L).take i ++ ([z32L] ++ List.replicate (L.length - (i + 1)) z32L) := by
    unfold dgP
    rw [show L.length - i = (L.length - (i + 1)) + 1 by omega, List.replicate_succ]; rfl
  have e2 : dgP L (i + 1) = (dgsL L).take i ++ [sumL (rowB (L.getD i []))] ++ List.replicate (L.length - (i + 1)) z32L := by
    unfold dgP
    rw [List.take_add_one, getD_some (d := []) (by rw [dgsL_len]; exact h), dgsL_get h]; rfl
  have hl : (dgC ((dgsL L).take i)).length = i * 32 := by rw [dgC_len ((dgsL_dg L).take i), List.length_take, dgsL_len]; congr 1; omega
  have hb : ∀ d, dgC [d] = bw d := fun d => by simp [dgC]
  rw [e1, e2, dgC_app, dgC_app, dgC_app, dgC_app, hb, hb, ← hl]
  exact setAll_mid (bw (sumL (rowB (L.getD i [])))) (bw z32L) _ _ (by rw [bw_len, sumL_len]; rfl)
theorem dgP_0 (L : List (List Tm)) : dgC (dgP L 0) = reps L.length (bw z32L) := by
  unfold dgP dgC
  rw [List.take_zero, List.nil_append, Nat.sub_zero]
  generalize L.length = n
  induction n with
  | zero => rw [reps_zero]; rfl
  | succ n ih => rw [reps_succ, List.replicate_succ, List.flatMap_cons, ih]
theorem dgP_all (L : List (List Tm)) : dgP L L.length = dgsL L := by
  unfold dgP; rw [List.take_of_length_le (by rw [dgsL_len]; exact Nat.le_refl _), Nat.sub_self]; exact List.append_nil _
set_option maxHeartbeats 4000000 in
set_option maxRecDepth 8000 in
theorem digests_s {L : List (List Tm)} (h : RowsOk2 L) (a b : V) (ha : clo a = true) (hb : clo b = true) (hca : V.one a = true) (hcb : V.one b = true) : Spec Tryd.prog 27 [.ag [a, b, .im (rsC L) L.length]] (.im (dgC (dgsL L)) L.length) := by
  have hlL := h.2
  have e0 := dgP_0 L
  rw [show bw z32L = bw (List.replicate 32 0) from rfl, z32] at e0
  refine Spec.run Tryd.func27 rfl Tryd.ntmps27 (by simp) (by simp (disch := omega) only [go_sem, ↓reduceIte, zn1, zn2, zn3, zn4, zn5, zn6, reduceCtorEq, zn7, zi1, zi2, if_pos, if_neg]; rfl) fun B hB => ?_
  (repeat (first | refine DO.nil (by kernel_rfl) ?_ | (with_reducible first | apply oz1 | apply oz2 | apply oz3 | apply oz4 | apply oz5 | apply oz6 | apply oz7 | apply oz8 | apply oz9 | apply ozb | apply ozc | apply oze | apply ozf | apply ozg | apply ozh | apply ozi | apply ozj | apply ozk | refine ozd (by decide) ?_) | ((first | apply SO.call | apply DO.call); (iterate 3 (focus (simp (disch := omega) only [go_sem, ↓reduceIte, zn1, zn2, zn3, zn4, zn5, zn6, reduceCtorEq, zn7, zi1, zi2, if_pos, if_neg] <;> rfl))); (first | apply SCall.ofX | apply DCall.ofX); (focus (first | assumption)); (focus (simp (disch := omega) only [go_sem, ↓reduceIte, zn1, zn2, zn3, zn4, zn5, zn6, reduceCtorEq, zn7, zi1, zi2, if_pos, if_neg] <;> rfl))) | ((with_reducible first | apply SC.condB | apply SC.region | apply SO.run | apply DO.run); (focus (simp (disch := omega) only [go_sem, ↓reduceIte, zn1, zn2, zn3, zn4, zn5, zn6, reduceCtorEq, zn7, zi1, zi2, if_pos, if_neg] <;> rfl)); (first | refine pickT ?_ | refine pickF ?_ | fail_if_success with_reducible refine pickA ?_)) | ((with_reducible refine SC.draw Tab.mixed ?_ ?_); (focus (first | rfl | simp (disch := omega) only [go_sem, ↓reduceIte, zn1, zn2, zn3, zn4, zn5, zn6, reduceCtorEq, zn7, zi1, zi2, if_pos, if_neg]))) | (with_reducible apply SC.ops)))
  rw [← e0]
  refine SC.loop (fun i : Nat => ⟨[(3, .sl 1 0 L.length 32 (some L.length)), (11, .im (rsC L) L.length), (12, .sc (.int .i64 L.length)), (13, .sc (.int .i64 i))], [(1, ⟨25, dgC (dgP L i), false⟩)], 2, 25⟩)
    (fun i => i ≤ L.length) (fun i => L.length - i) 0 ?_ ?_ ?_
  · (refine Le.slots ?_ ?_ ?_ <;> (repeat' (first | (exact fun _ _ h => h) | exact Nat.le_refl _ | exact leSl_nil | refine leSl_cons (by simp (disch := omega) only [go_sem, ↓reduceIte, zn1, zn2, zn3, zn4, zn5, zn6, reduceCtorEq, zn7, zi1, zi2, if_pos, if_neg] <;> rfl) ?_ ?_ | exact VLe.junk _ | exact VLe.refl rfl | exact VLe.nil_sl _ _ _ | exact VLe.int (by first | rfl | omega | (dsimp only; omega)) | exact VLe.bool rfl | exact VLe.sl rfl (by first | rfl | omega) | exact VLe.cap rfl (by first | rfl | omega) | exact VLe.im rfl rfl | omega | (refine fun id k h => ?_; simp only [hget] at h ⊢; (repeat' (split at h)) <;> first | (cases h; done) | (simp (disch := omega) only [if_pos, if_neg]; exact h)))))
  · exact Nat.zero_le _
  · intro i hi K hK
    have gl := dgC_len (dgP_dg L i)
    rw [dgP_len hi] at gl
    by_cases hc : i < L.length
    · have q1 : decide ((i : Int) < (L.length : Int)) = true := decide_eq_true (by omega)
      have g1 := rsC_get hc
      have g2 := rsC_len L
      have g3 := dgP_set hc
      have hr := h.1 _ (getDm (d := []) hc)
      have c1 := row_s hr.1 hr.2
      obtain ⟨d1, d2⟩ := sumL_dg (rowB (L.getD i []))
      generalize sumL (rowB (L.getD i [])) = D at *
      have gf := bw_fl1 D
      have gt := bw_clo D
      have go := bw_one D
      have gd : (bw D).length = 32 := by rw [bw_len, d1]
      have tt := tmsC_clo (L.getD i [])
      generalize L.getD i [] = r at *
      have gb : i * 32 + 32 ≤ L.length * 32 := by omega
      have hK2 : ∀ s' : SS, _ → K s' := fun s' h => hK s' (i + 1) h (by omega) (by omega)
      rw [← g3] at hK2
      clear hK g3
      generalize dgC (dgP L i) = C0 at *
      generalize L.length = n at *
      generalize tmsC r = TR at *
      (repeat (first | refine DO.nil (by kernel_rfl) ?_ | (with_reducible first | apply oz1 | apply oz2 | apply oz3 | apply oz4 | apply oz5 | apply oz6 | apply oz7 | apply oz8 | apply oz9 | apply ozb | apply ozc | apply oze | apply ozf | apply ozg | apply ozh | apply ozi | apply ozj | apply ozk | refine ozd (by decide) ?_) | ((first | apply SO.call | apply DO.call); (iterate 3 (focus (simp (disch := omega) only [go_sem, ↓reduceIte, zn1, zn2, zn3, zn4, zn5, zn6, reduceCtorEq, zn7, zi1, zi2, if_pos, if_neg, q1, g1, g2, gl, gb, gf, gt, go, gd, List.getElem?_drop, Nat.mul_one, Nat.zero_add] <;> rfl))); (first | apply SCall.ofX | apply DCall.ofX); (focus (first | assumption)); (focus (simp (disch := omega) only [go_sem, ↓reduceIte, zn1, zn2, zn3, zn4, zn5, zn6, reduceCtorEq, zn7, zi1, zi2, if_pos, if_neg, q1, g1, g2, gl, gb, gf, gt, go, gd, List.getElem?_drop, Nat.mul_one, Nat.zero_add] <;> rfl))) | ((with_reducible first | apply SC.condB | apply SC.region | apply SO.run | apply DO.run); (focus (simp (disch := omega) only [go_sem, ↓reduceIte, zn1, zn2, zn3, zn4, zn5, zn6, reduceCtorEq, zn7, zi1, zi2, if_pos, if_neg, q1, g1, g2, gl, gb, gf, gt, go, gd, List.getElem?_drop, Nat.mul_one, Nat.zero_add] <;> rfl)); (first | refine pickT ?_ | refine pickF ?_ | fail_if_success with_reducible refine pickA ?_)) | ((with_reducible refine SC.draw Tab.mixed ?_ ?_); (focus (first | rfl | simp (disch := omega) only [go_sem, ↓reduceIte, zn1, zn2, zn3, zn4, zn5, zn6, reduceCtorEq, zn7, zi1, zi2, if_pos, if_neg, q1, g1, g2, gl, gb, gf, gt, go, gd, List.getElem?_drop, Nat.mul_one, Nat.zero_add]))) | (with_reducible apply SC.ops)))
      refine hK2 _ ?_
      (refine Le.slots ?_ ?_ ?_ <;> (repeat' (first | (exact fun _ _ h => h) | exact Nat.le_refl _ | exact leSl_nil | refine leSl_cons (by simp (disch := omega) only [go_sem, ↓reduceIte, zn1, zn2, zn3, zn4, zn5, zn6, reduceCtorEq, zn7, zi1, zi2, if_pos, if_neg] <;> rfl) ?_ ?_ | exact VLe.junk _ | exact VLe.refl rfl | exact VLe.nil_sl _ _ _ | exact VLe.int (by first | rfl | omega | (dsimp only; omega)) | exact VLe.bool rfl | exact VLe.sl rfl (by first | rfl | omega) | exact VLe.cap rfl (by first | rfl | omega) | exact VLe.im rfl rfl | omega | (refine fun id k h => ?_; simp only [hget] at h ⊢; (repeat' (split at h)) <;> first | (cases h; done) | (simp (disch := omega) only [if_pos, if_neg]; exact h)))))
    · have q1 : decide ((i : Int) < (L.length : Int)) = false := decide_eq_false (by omega)
      have hin : i = L.length := by omega
      subst hin
      rw [dgP_all] at gl ⊢
      have gc := dgC_clo (dgsL L)
      have gt : (dgC (dgsL L)).take (L.length * 32) = dgC (dgsL L) := List.take_of_length_le (by omega)
      clear hK e0
      generalize dgC (dgsL L) = C0 at *
      generalize L.length = n at *
      (repeat (first | refine DO.nil (by kernel_rfl) ?_ | (with_reducible first | apply oz1 | apply oz2 | apply oz3 | apply oz4 | apply oz5 | apply oz6 | apply oz7 | apply oz8 | apply oz9 | apply ozb | apply ozc | apply oze | apply ozf | apply ozg | apply ozh | apply ozi | apply ozj | apply ozk | refine ozd (by decide) ?_) | ((first | apply SO.call | apply DO.call); (iterate 3 (focus (simp (disch := omega) only [go_sem, ↓reduceIte, zn1, zn2, zn3, zn4, zn5, zn6, reduceCtorEq, zn7, zi1, zi2, if_pos, if_neg, q1] <;> rfl))); (first | apply SCall.ofX | apply DCall.ofX); (focus (first | assumption)); (focus (simp (disch := omega) only [go_sem, ↓reduceIte, zn1, zn2, zn3, zn4, zn5, zn6, reduceCtorEq, zn7, zi1, zi2, if_pos, if_neg, q1] <;> rfl))) | ((with_reducible first | apply SC.condB | apply SC.region | apply SO.run | apply DO.run); (focus (simp (disch := omega) only [go_sem, ↓reduceIte, zn1, zn2, zn3, zn4, zn5, zn6, reduceCtorEq, zn7, zi1, zi2, if_pos, if_neg, q1] <;> rfl)); (first | refine pickT ?_ | refine pickF ?_ | fail_if_success with_reducible refine pickA ?_)) | ((with_reducible refine SC.draw Tab.mixed ?_ ?_); (focus (first | rfl | simp (disch := omega) only [go_sem, ↓reduceIte, zn1, zn2, zn3, zn4, zn5, zn6, reduceCtorEq, zn7, zi1, zi2, if_pos, if_neg, q1]))) | (with_reducible apply SC.ops)))
      exact retQ_ret Tryd.results27 (by simp (disch := omega) only [go_sem, ↓reduceIte, zn1, zn2, zn3, zn4, zn5, zn6, reduceCtorEq, zn7, zi1, zi2, if_pos, if_neg, gc, gt, gl, List.drop_zero, Nat.zero_mul] <;> rfl) (by simp (disch := omega) only [go_sem, ↓reduceIte, zn1, zn2, zn3, zn4, zn5, zn6, reduceCtorEq, zn7, zi1, zi2, if_pos, if_neg, gc, gt, gl, List.drop_zero, Nat.zero_mul] <;> rfl) rfl
theorem dg_take {L : List (List Tm)} {i : Nat} (h : i < L.length) : dgC ((dgsL L).take (i + 1)) = dgC ((dgsL L).take i) ++ bw (sumL (rowB (L.getD i []))) := by
  rw [List.take_add_one, getD_some (d := []) (by rw [dgsL_len]; exact h), dgsL_get h, dgC_app]
  congr 1
set_option maxHeartbeats 4000000 in
set_option maxRecDepth 8000 in
theorem rdigests_s {L : List (List Tm)} (h : RowsOk2 L) (a b : V) (ha : clo a = true) (hb : clo b = true) (hca : V.one a = true) (hcb : V.one b = true) : Spec Tryd.prog 33 [.ag [a, b, .im (rsC L) L.length]] (.im (dgC (dgsL L)) L.length) := by
  have hlL := h.2
  refine Spec.run Tryd.func33 rfl Tryd.ntmps33 (by simp) (by simp (disch := omega) only [go_sem, ↓reduceIte, zn1, zn2, zn3, zn4, zn5, zn6, reduceCtorEq, zn7, zi1, zi2, if_pos, if_neg]; rfl) fun B hB => ?_
  (repeat (first | refine DO.nil (by kernel_rfl) ?_ | (with_reducible first | apply oz1 | apply oz2 | apply oz3 | apply oz4 | apply oz5 | apply oz6 | apply oz7 | apply oz8 | apply oz9 | apply ozb | apply ozc | apply oze | apply ozf | apply ozg | apply ozh | apply ozi | apply ozj | apply ozk | refine ozd (by decide) ?_) | ((first | apply SO.call | apply DO.call); (iterate 3 (focus (simp (disch := omega) only [go_sem, ↓reduceIte, zn1, zn2, zn3, zn4, zn5, zn6, reduceCtorEq, zn7, zi1, zi2, if_pos, if_neg] <;> rfl))); (first | apply SCall.ofX | apply DCall.ofX); (focus (first | assumption)); (focus (simp (disch := omega) only [go_sem, ↓reduceIte, zn1, zn2, zn3, zn4, zn5, zn6, reduceCtorEq, zn7, zi1, zi2, if_pos, if_neg] <;> rfl))) | ((with_reducible first | apply SC.condB | apply SC.region | apply SO.run | apply DO.run); (focus (simp (disch := omega) only [go_sem, ↓reduceIte, zn1, zn2, zn3, zn4, zn5, zn6, reduceCtorEq, zn7, zi1, zi2, if_pos, if_neg] <;> rfl)); (first | refine pickT ?_ | refine pickF ?_ | fail_if_success with_reducible refine pickA ?_)) | ((with_reducible refine SC.draw Tab.mixed ?_ ?_); (focus (first | rfl | simp (disch := omega) only [go_sem, ↓reduceIte, zn1, zn2, zn3, zn4, zn5, zn6, reduceCtorEq, zn7, zi1, zi2, if_pos, if_neg]))) | (with_reducible apply SC.ops)))
  refine SC.loop (fun i : Nat => ⟨[(1, .pt 0 0), (3, .sl 1 0 i 32 none), (4, .sc (.int .i64 i))], [(0, ⟨35, [a, b, .im (rsC L) L.length], false⟩), (1, ⟨25, dgC ((dgsL L).take i), false⟩)], 2, 23⟩)
    (fun i => i ≤ L.length) (fun i => L.length - i) 0 ?_ ?_ ?_
  · have e : dgC ((dgsL L).take 0) = [] := rfl
    simp only [e]
    (refine Le.slots ?_ ?_ ?_ <;> (repeat' (first | (exact fun _ _ h => h) | exact Nat.le_refl _ | exact leSl_nil | refine leSl_cons (by simp (disch := omega) only [go_sem, ↓reduceIte, zn1, zn2, zn3, zn4, zn5, zn6, reduceCtorEq, zn7, zi1, zi2, if_pos, if_neg] <;> rfl) ?_ ?_ | exact VLe.junk _ | exact VLe.refl rfl | exact VLe.nil_sl _ _ _ | exact VLe.int (by first | rfl | omega | (dsimp only; omega)) | exact VLe.bool rfl | exact VLe.sl rfl (by first | rfl | omega) | exact VLe.cap rfl (by first | rfl | omega) | exact VLe.im rfl rfl | omega | (refine fun id k h => ?_; simp only [hget] at h ⊢; (repeat' (split at h)) <;> first | (cases h; done) | (simp (disch := omega) only [if_pos, if_neg]; exact h)))))
  · exact Nat.zero_le _
  · intro i hi K hK
    have gl := dgC_len ((dgsL_dg L).take i)
    rw [List.length_take, dgsL_len, Nat.min_eq_left hi] at gl
    have gc := dgC_clo ((dgsL L).take i)
    have gt : (dgC ((dgsL L).take i)).take (i * 32) = dgC ((dgsL L).take i) := List.take_of_length_le (by omega)
    by_cases hc : i < L.length
    · have q1 : decide ((i : Int) < (L.length : Int)) = true := decide_eq_true (by omega)
      have g1 := rsC_get hc
      have g2 := rsC_len L
      have g3 := dg_take hc
      have hr := h.1 _ (getDm (d := []) hc)
      have c1 := rrow_s hr.1 hr.2
      obtain ⟨d1, d2⟩ := sumL_dg (rowB (L.getD i []))
      have hclo := dgC_clo ((dgsL L).take (i + 1))
      rw [g3] at hclo
      generalize sumL (rowB (L.getD i [])) = D at *
      have gf := bw_fl1 D
      have gct := bw_clo D
      have go := bw_one D
      have gd : (bw D).length = 32 := by rw [bw_len, d1]
      have gtk : (bw D).take 32 = bw D := List.take_of_length_le (by omega)
      generalize L.getD i [] = r at *
      have hK2 : ∀ s' : SS, _ → K s' := fun s' h => hK s' (i + 1) h (by omega) (by omega)
      rw [g3] at hK2
      clear hK g3
      generalize dgC ((dgsL L).take i) = C0 at *
      have hcs : [a, b, V.im (rsC L) L.length].all clo = true := by rw [List.all_cons, List.all_cons, List.all_cons, ha, hb]; rfl
      generalize L.length = n at *
      generalize tmsC r = TR at *
      (repeat (first | refine DO.nil (by kernel_rfl) ?_ | (with_reducible first | apply oz1 | apply oz2 | apply oz3 | apply oz4 | apply oz5 | apply oz6 | apply oz7 | apply oz8 | apply oz9 | apply ozb | apply ozc | apply oze | apply ozf | apply ozg | apply ozh | apply ozi | apply ozj | apply ozk | refine ozd (by decide) ?_) | ((first | apply SO.call | apply DO.call); (iterate 3 (focus (simp (disch := omega) only [go_sem, ↓reduceIte, zn1, zn2, zn3, zn4, zn5, zn6, reduceCtorEq, zn7, zi1, zi2, if_pos, if_neg, q1, g1, g2, gl, gt, gtk, gf, gct, go, gd, List.append_nil, List.getElem?_drop, List.drop_zero, Nat.mul_one, Nat.one_mul, Nat.zero_add] <;> rfl))); (first | apply SCall.ofX | apply DCall.ofX); (focus (first | assumption)); (focus (simp (disch := omega) only [go_sem, ↓reduceIte, zn1, zn2, zn3, zn4, zn5, zn6, reduceCtorEq, zn7, zi1, zi2, if_pos, if_neg, q1, g1, g2, gl, gt, gtk, gf, gct, go, gd, List.append_nil, List.getElem?_drop, List.drop_zero, Nat.mul_one, Nat.one_mul, Nat.zero_add] <;> rfl))) | ((with_reducible first | apply SC.condB | apply SC.region | apply SO.run | apply DO.run); (focus (simp (disch := omega) only [go_sem, ↓reduceIte, zn1, zn2, zn3, zn4, zn5, zn6, reduceCtorEq, zn7, zi1, zi2, if_pos, if_neg, q1, g1, g2, gl, gt, gtk, gf, gct, go, gd, List.append_nil, List.getElem?_drop, List.drop_zero, Nat.mul_one, Nat.one_mul, Nat.zero_add] <;> rfl)); (first | refine pickT ?_ | refine pickF ?_ | fail_if_success with_reducible refine pickA ?_)) | ((with_reducible refine SC.draw Tab.mixed ?_ ?_); (focus (first | rfl | simp (disch := omega) only [go_sem, ↓reduceIte, zn1, zn2, zn3, zn4, zn5, zn6, reduceCtorEq, zn7, zi1, zi2, if_pos, if_neg, q1, g1, g2, gl, gt, gtk, gf, gct, go, gd, List.append_nil, List.getElem?_drop, List.drop_zero, Nat.mul_one, Nat.one_mul, Nat.zero_add]))) | (with_reducible apply SC.ops)))
      refine hK2 _ ?_
      refine Le.ren 1 3 hB (by omega) (by omega) (by omega) ?_ ?_
      · (repeat' (first | exact trivial | refine mapSl_cons (by simp (disch := omega) only [go_sem, ↓reduceIte, zn1, zn2, zn3, zn4, zn5, zn6, reduceCtorEq, zn7, zi1, zi2, if_pos, if_neg] <;> rfl) ?_ ?_ | exact VMap.junk _ | exact VMap.sc _ | exact VMap.clo rfl | exact VMap.sl rfl (by omega) | exact VMap.cap rfl (by omega) | exact VMap.pt rfl (by omega) | exact VMap.nil_sl _ _ _ | exact VMap.int (by first | rfl | omega | (dsimp only; omega))))
      · (repeat' (first | exact mapHp_nil | refine mapHp_cons (by simp (disch := omega) only [go_sem, ↓reduceIte, zn1, zn2, zn3, zn4, zn5, zn6, reduceCtorEq, zn7, zi1, zi2, if_pos, if_neg] <;> rfl) ?_ ?_ | exact BMap.clo (by first | rfl | assumption | exact wv_clo _ | exact imR_clo _ _ | exact nv_clo _) | refine BMap.list ?_ | exact mapL_nil | refine mapL_cons ?_ ?_ | exact VMap.junk _ | exact VMap.sc _ | exact VMap.clo rfl | exact VMap.sl rfl (by omega) | exact VMap.cap rfl (by omega) | exact VMap.pt rfl (by omega) | exact VMap.nil_sl _ _ _ | exact VMap.int (by first | rfl | omega | (dsimp only; omega))))
    · have q1 : decide ((i : Int) < (L.length : Int)) = false := decide_eq_false (by omega)
      have hin : i = L.length := by omega
      subst hin
      have e9 : (dgsL L).take L.length = dgsL L := List.take_of_length_le (by rw [dgsL_len]; exact Nat.le_refl _)
      rw [e9] at gl gc gt ⊢
      clear hK
      generalize dgC (dgsL L) = C0 at *
      generalize L.length = n at *
      (repeat (first | refine DO.nil (by kernel_rfl) ?_ | (with_reducible first | apply oz1 | apply oz2 | apply oz3 | apply oz4 | apply oz5 | apply oz6 | apply oz7 | apply oz8 | apply oz9 | apply ozb | apply ozc | apply oze | apply ozf | apply ozg | apply ozh | apply ozi | apply ozj | apply ozk | refine ozd (by decide) ?_) | ((first | apply SO.call | apply DO.call); (iterate 3 (focus (simp (disch := omega) only [go_sem, ↓reduceIte, zn1, zn2, zn3, zn4, zn5, zn6, reduceCtorEq, zn7, zi1, zi2, if_pos, if_neg, q1] <;> rfl))); (first | apply SCall.ofX | apply DCall.ofX); (focus (first | assumption)); (focus (simp (disch := omega) only [go_sem, ↓reduceIte, zn1, zn2, zn3, zn4, zn5, zn6, reduceCtorEq, zn7, zi1, zi2, if_pos, if_neg, q1] <;> rfl))) | ((with_reducible first | apply SC.condB | apply SC.region | apply SO.run | apply DO.run); (focus (simp (disch := omega) only [go_sem, ↓reduceIte, zn1, zn2, zn3, zn4, zn5, zn6, reduceCtorEq, zn7, zi1, zi2, if_pos, if_neg, q1] <;> rfl)); (first | refine pickT ?_ | refine pickF ?_ | fail_if_success with_reducible refine pickA ?_)) | ((with_reducible refine SC.draw Tab.mixed ?_ ?_); (focus (first | rfl | simp (disch := omega) only [go_sem, ↓reduceIte, zn1, zn2, zn3, zn4, zn5, zn6, reduceCtorEq, zn7, zi1, zi2, if_pos, if_neg, q1]))) | (with_reducible apply SC.ops)))
      exact retQ_ret Tryd.results33 (by simp (disch := omega) only [go_sem, ↓reduceIte, zn1, zn2, zn3, zn4, zn5, zn6, reduceCtorEq, zn7, zi1, zi2, if_pos, if_neg, gc, gt, gl, List.drop_zero, Nat.zero_mul] <;> rfl) (by simp (disch := omega) only [go_sem, ↓reduceIte, zn1, zn2, zn3, zn4, zn5, zn6, reduceCtorEq, zn7, zi1, zi2, if_pos, if_neg, gc, gt, gl, List.drop_zero, Nat.zero_mul] <;> rfl) rfl
def rootL (rows cols : Int) (t : List Int) : List Int := sumL ([2] ++ n8b rows ++ n8b cols ++ t)
def treeL (L : List (List Tm)) : List Int := treeF (L.length + 1) (dgsL L)
set_option maxHeartbeats 4000000 in
set_option maxRecDepth 8000 in
theorem rootM_s {rows cols : Int} {L : List (List Tm)} (h : RowsOk2 L) (h0 : 0 ≤ rows) (h1 : rows ≤ 9223372036854775807) (h2 : 0 ≤ cols) (h3 : cols ≤ 9223372036854775807) : Spec Tryd.prog 13 [.ag [.sc (.int .i64 rows), .sc (.int .i64 cols), .im (rsC L) L.length]] (.ag (bw (rootL rows cols (treeL L)))) := by
  have c1 := digests_s h (.sc (.int .i64 rows)) (.sc (.int .i64 cols)) rfl rfl rfl rfl
  have c2 := tree_s L.length (dgsL_dg L) (by rw [dgsL_len]; exact Nat.le_refl _) (by rw [dgsL_len]; have := h.2; omega)
  rw [dgsL_len] at c2
  obtain ⟨d1, d2⟩ := treeF_dg (L.length + 1) (dgsL_dg L)
  have c3 := root_s (rows := rows) (cols := cols) d1 d2 h0 h1 h2 h3
  obtain ⟨e1, _⟩ := sumL_dg ([2] ++ n8b rows ++ n8b cols ++ treeF (L.length + 1) (dgsL L))
  unfold rootL treeL
  generalize sumL ([2] ++ n8b rows ++ n8b cols ++ treeF (L.length + 1) (dgsL L)) = D at *
  generalize treeF (L.length + 1) (dgsL L) = T at *
  have gd : (bw D).length = 32 := by rw [bw_len, e1]
  have gc := bw_clo D
  have go := bw_one D
  have gt : (bw D).take 32 = bw D := List.take_of_length_le (by omega)
  have gh := setAll_full D (by rw [e1])
  have gf := bw_fl1 D
  have gfa := bw_fl1 T
  have gca := bw_clo T
  rw [z32] at gh
  refine Spec.run Tryd.func13 rfl Tryd.ntmps13 (by simp) (by simp (disch := omega) only [go_sem, ↓reduceIte, zn1, zn2, zn3, zn4, zn5, zn6, reduceCtorEq, zn7, zi1, zi2, if_pos, if_neg]; rfl) fun B hB => ?_
  (repeat (first | refine DO.nil (by kernel_rfl) ?_ | (with_reducible first | apply oz1 | apply oz2 | apply oz3 | apply oz4 | apply oz5 | apply oz6 | apply oz7 | apply oz8 | apply oz9 | apply ozb | apply ozc | apply oze | apply ozf | apply ozg | apply ozh | apply ozi | apply ozj | apply ozk | refine ozd (by decide) ?_) | ((first | apply SO.call | apply DO.call); (iterate 3 (focus (simp (disch := omega) only [go_sem, ↓reduceIte, zn1, zn2, zn3, zn4, zn5, zn6, reduceCtorEq, zn7, zi1, zi2, if_pos, if_neg, gd, gc, go, gt, gf, gfa, gca, List.drop_zero, Nat.mul_one] <;> rfl))); (first | apply SCall.ofX | apply DCall.ofX); (focus (first | assumption)); (focus (simp (disch := omega) only [go_sem, ↓reduceIte, zn1, zn2, zn3, zn4, zn5, zn6, reduceCtorEq, zn7, zi1, zi2, if_pos, if_neg, gd, gc, go, gt, gf, gfa, gca, List.drop_zero, Nat.mul_one] <;> rfl))) | ((with_reducible first | apply SC.condB | apply SC.region | apply SO.run | apply DO.run); (focus (simp (disch := omega) only [go_sem, ↓reduceIte, zn1, zn2, zn3, zn4, zn5, zn6, reduceCtorEq, zn7, zi1, zi2, if_pos, if_neg, gd, gc, go, gt, gf, gfa, gca, List.drop_zero, Nat.mul_one] <;> rfl)); (first | refine pickT ?_ | refine pickF ?_ | fail_if_success with_reducible refine pickA ?_)) | ((with_reducible refine SC.draw Tab.mixed ?_ ?_); (focus (first | rfl | simp (disch := omega) only [go_sem, ↓reduceIte, zn1, zn2, zn3, zn4, zn5, zn6, reduceCtorEq, zn7, zi1, zi2, if_pos, if_neg, gd, gc, go, gt, gf, gfa, gca, List.drop_zero, Nat.mul_one]))) | (with_reducible apply SC.ops)))
  exact retQ_ret Tryd.results13 (by simp (disch := omega) only [go_sem, ↓reduceIte, zn1, zn2, zn3, zn4, zn5, zn6, reduceCtorEq, zn7, zi1, zi2, if_pos, if_neg, gh, gt, gd, gc, List.drop_zero] <;> rfl) (by simp (disch := omega) only [go_sem, ↓reduceIte, zn1, zn2, zn3, zn4, zn5, zn6, reduceCtorEq, zn7, zi1, zi2, if_pos, if_neg, gh, gt, gd, gc, List.drop_zero] <;> rfl) rfl
set_option maxHeartbeats 4000000 in
set_option maxRecDepth 8000 in
theorem rrootM_s {rows cols : Int} {L : List (List Tm)} (h : RowsOk2 L) (h0 : 0 ≤ rows) (h1 : rows ≤ 9223372036854775807) (h2 : 0 ≤ cols) (h3 : cols ≤ 9223372036854775807) : Spec Tryd.prog 14 [.ag [.sc (.int .i64 rows), .sc (.int .i64 cols), .im (rsC L) L.length]] (.ag (bw (rootL rows cols (treeL L)))) := by
  have c1 := rdigests_s h (.sc (.int .i64 rows)) (.sc (.int .i64 cols)) rfl rfl rfl rfl
  have c2 := rtree_s L.length (dgsL_dg L) (by rw [dgsL_len]; exact Nat.le_refl _) (by rw [dgsL_len]; have := h.2; omega)
  rw [dgsL_len] at c2
  obtain ⟨d1, d2⟩ := treeF_dg (L.length + 1) (dgsL_dg L)
  have c3 := whole_s (rows := rows) (cols := cols) d1 d2 h0 h1 h2 h3
  obtain ⟨e1, _⟩ := sumL_dg ([2] ++ n8b rows ++ n8b cols ++ treeF (L.length + 1) (dgsL L))
  unfold rootL treeL
  generalize sumL ([2] ++ n8b rows ++ n8b cols ++ treeF (L.length + 1) (dgsL L)) = D at *
  generalize treeF (L.length + 1) (dgsL L) = T at *
  have gd : (bw D).length = 32 := by rw [bw_len, e1]
  have gc := bw_clo D
  have go := bw_one D
  have gt : (bw D).take 32 = bw D := List.take_of_length_le (by omega)
  have gh := setAll_full D (by rw [e1])
  have gf := bw_fl1 D
  have gfa := bw_fl1 T
  have gca := bw_clo T
  rw [z32] at gh
  refine Spec.run Tryd.func14 rfl Tryd.ntmps14 (by simp) (by simp (disch := omega) only [go_sem, ↓reduceIte, zn1, zn2, zn3, zn4, zn5, zn6, reduceCtorEq, zn7, zi1, zi2, if_pos, if_neg]; rfl) fun B hB => ?_
  (repeat (first | refine DO.nil (by kernel_rfl) ?_ | (with_reducible first | apply oz1 | apply oz2 | apply oz3 | apply oz4 | apply oz5 | apply oz6 | apply oz7 | apply oz8 | apply oz9 | apply ozb | apply ozc | apply oze | apply ozf | apply ozg | apply ozh | apply ozi | apply ozj | apply ozk | refine ozd (by decide) ?_) | ((first | apply SO.call | apply DO.call); (iterate 3 (focus (simp (disch := omega) only [go_sem, ↓reduceIte, zn1, zn2, zn3, zn4, zn5, zn6, reduceCtorEq, zn7, zi1, zi2, if_pos, if_neg, gd, gc, go, gt, gf, gfa, gca, List.drop_zero, Nat.mul_one] <;> rfl))); (first | apply SCall.ofX | apply DCall.ofX); (focus (first | assumption)); (focus (simp (disch := omega) only [go_sem, ↓reduceIte, zn1, zn2, zn3, zn4, zn5, zn6, reduceCtorEq, zn7, zi1, zi2, if_pos, if_neg, gd, gc, go, gt, gf, gfa, gca, List.drop_zero, Nat.mul_one] <;> rfl))) | ((with_reducible first | apply SC.condB | apply SC.region | apply SO.run | apply DO.run); (focus (simp (disch := omega) only [go_sem, ↓reduceIte, zn1, zn2, zn3, zn4, zn5, zn6, reduceCtorEq, zn7, zi1, zi2, if_pos, if_neg, gd, gc, go, gt, gf, gfa, gca, List.drop_zero, Nat.mul_one] <;> rfl)); (first | refine pickT ?_ | refine pickF ?_ | fail_if_success with_reducible refine pickA ?_)) | ((with_reducible refine SC.draw Tab.mixed ?_ ?_); (focus (first | rfl | simp (disch := omega) only [go_sem, ↓reduceIte, zn1, zn2, zn3, zn4, zn5, zn6, reduceCtorEq, zn7, zi1, zi2, if_pos, if_neg, gd, gc, go, gt, gf, gfa, gca, List.drop_zero, Nat.mul_one]))) | (with_reducible apply SC.ops)))
  exact retQ_ret Tryd.results14 (by simp (disch := omega) only [go_sem, ↓reduceIte, zn1, zn2, zn3, zn4, zn5, zn6, reduceCtorEq, zn7, zi1, zi2, if_pos, if_neg, gh, gt, gd, gc, List.drop_zero] <;> rfl) (by simp (disch := omega) only [go_sem, ↓reduceIte, zn1, zn2, zn3, zn4, zn5, zn6, reduceCtorEq, zn7, zi1, zi2, if_pos, if_neg, gh, gt, gd, gc, List.drop_zero] <;> rfl) rfl
end Go.Proofs.YtpbnhioelmgaiaaDoor
