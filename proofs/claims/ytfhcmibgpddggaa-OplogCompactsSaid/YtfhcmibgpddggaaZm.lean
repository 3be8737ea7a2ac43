/- Texts joined: Rs Rt Ru Rw Rv. -/
import Derived.Test.YtfhcmibgpddggaaZc
import Derived.Test.YtfhcmibgpddggaaZd
import Derived.Test.YtfhcmibgpddggaaZl
set_option linter.all false
open Nat renaming reduceEqDiff → zn1, reduceLT → zn2, reduceLeDiff → zn3, reduceAdd → zn4, reduceMul → zn5, reduceSub → zn6, reduceBEq → zn7
open Int renaming reduceToNat → zi1, reducePow → zi2
namespace Go.Proofs.Ytfhcmibgpddggaa
open Go.RowKit
end Go.Proofs.Ytfhcmibgpddggaa
namespace Go.Proofs.Ytfhcmibgpddggaa
open Go.RowKit
structure MvL where
  kd : Nat
  i : Nat
  j : Nat
  k : Int
def mvC (o : MvL) : List V := [.sc (.int .u8 o.kd), .sc (.int .u8 o.i), .sc (.int .u8 o.j), .sc (.int .i8 o.k)]
def mvsC : List MvL → List V
  | [] => []
  | o :: r => mvC o ++ mvsC r
structure OkMv (o : MvL) : Prop where
  kd : o.kd < 256
  i : o.i < 256
  j : o.j < 256
  k : -128 ≤ o.k ∧ o.k ≤ 127
theorem mvsC_len : ∀ l : List MvL, (mvsC l).length = 4 * l.length
  | [] => rfl
  | o :: r => by
    rw [mvsC, List.length_append, mvsC_len r, List.length_cons]
    show 4 + _ = _
    omega
theorem mvsC_drop : ∀ {l : List MvL} {i : Nat}, i < l.length → (mvsC l).drop (i * 4) = mvC (l.getD i ⟨0, 0, 0, 0⟩) ++ (mvsC l).drop ((i + 1) * 4)
  | o :: r, 0, _ => by
    show mvC o ++ mvsC r = mvC o ++ (mvC o ++ mvsC r).drop 4
    rw [show (mvC o ++ mvsC r).drop 4 = mvsC r from rfl]
  | o :: r, i + 1, h => by
    have e : ∀ m, (m + 1) * 4 = (mvC o).length + m * 4 := by intro m; show _ = 4 + _; omega
    have hd : ∀ m, (mvsC (o :: r)).drop ((m + 1) * 4) = (mvsC r).drop (m * 4) := by
      intro m
      rw [e, mvsC, List.drop_append]
      simp only [Nat.add_sub_cancel_left, List.drop_eq_nil_of_le (Nat.le_add_right _ _), List.nil_append]
    rw [hd, hd]
    exact mvsC_drop (by simpa using h)
def mkO (n : Nat) (o : MvL) : Option OpL :=
  if o.kd % 3 = 1 then some ⟨2, o.i % n, 0, 0⟩ else if o.i % n = o.j % n then none else if o.kd % 3 = 2 then some ⟨3, o.i % n, o.j % n, o.k⟩ else some ⟨1, o.i % n, o.j % n, 0⟩
def madeL (n m : Nat) (l : List MvL) : List OpL := if n = 0 then [] else (l.take m).filterMap (mkO n)
theorem mkO_ok {n : Nat} {o : MvL} (hn : 0 < n) (ho : OkMv o) {p : OpL} (h : mkO n o = some p) : OkOp n p := by
  have hi := Nat.mod_lt o.i hn
  have hj := Nat.mod_lt o.j hn
  have hk : Fits 1 o.k := by have := ho.k; unfold Fits; omega
  have hz : Fits 1 0 := by unfold Fits; decide
  unfold mkO at h
  split at h
  · cases h; exact ⟨hi, hz, .inr (.inl ⟨rfl, rfl, rfl⟩)⟩
  · split at h
    · cases h
    · rename_i hne
      split at h
      · cases h; exact ⟨hi, hk, .inr (.inr ⟨rfl, hj, hne⟩)⟩
      · cases h; exact ⟨hi, hz, .inl ⟨rfl, hj, hne, rfl⟩⟩
theorem madeL_ok {n m : Nat} {l : List MvL} (hl : ∀ o ∈ l, OkMv o) : ∀ p ∈ madeL n m l, OkOp n p := by
  intro p hp
  unfold madeL at hp
  split at hp
  · cases hp
  · obtain ⟨o, ho, h⟩ := List.mem_filterMap.1 hp
    exact mkO_ok (by omega) (hl o (List.mem_of_mem_take ho)) h
theorem madeL_len {n m : Nat} {l : List MvL} : (madeL n m l).length ≤ m := by
  unfold madeL
  split
  · simp
  · exact Nat.le_trans (List.length_filterMap_le _ _) (by rw [List.length_take]; omega)
end Go.Proofs.Ytfhcmibgpddggaa
namespace Go.Proofs.Ytfhcmibgpddggaa
open Go.RowKit
theorem madeL_step {n k : Nat} {l : List MvL} (hn : 0 < n) (hk : k < l.length) : madeL n (k + 1) l = madeL n k l ++ (mkO n (l.getD k ⟨0, 0, 0, 0⟩)).toList := by
  unfold madeL
  rw [if_neg (by omega), if_neg (by omega), take_snoc (d := ⟨0, 0, 0, 0⟩) hk, List.filterMap_append]
  rw [List.filterMap_cons]
  cases mkO n (l.getD k ⟨0, 0, 0, 0⟩) <;> rfl
theorem madeL_0 (n m : Nat) (l : List MvL) (h : n = 0 ∨ m = 0) : madeL n m l = [] := by
  unfold madeL
  split
  · rfl
  · rcases h with h | h
    · contradiction
    · subst h; rfl
theorem opsC_some (p : OpL) : opsC (some p).toList = opC p := by show opC p ++ [] = _; rw [List.append_nil]
theorem opC_z (a i j : Nat) : opC ⟨a, i, j, 0⟩ = [.sc (.int .i64 a), .sc (.int .i64 i), .sc (.int .i64 j), .sc (.bool false), .im [] 0] := rfl
theorem opsC_none : opsC (none : Option OpL).toList = [] := rfl
theorem bmapTail {f : Nat → Nat} {D : Nat → Prop} {ty : TypeId} {fz : Bool} {Z xs ys : List V} (hz : Z.all clo = true) (h : mapL f D xs ys) : BMap f D (some ⟨ty, Z ++ xs, fz⟩) ⟨ty, Z ++ ys, fz⟩ := by
  refine ⟨_, rfl, rfl, rfl, fun i y hy => ?_⟩
  simp only at hy ⊢
  by_cases hi : i < Z.length
  · rw [List.getElem?_append_left hi] at hy ⊢
    exact ⟨y, hy, VMap.clo (List.all_eq_true.1 hz y (List.mem_of_getElem? hy))⟩
  · rw [List.getElem?_append_right (by omega)] at hy ⊢
    exact mapL_get h _ _ hy
theorem madeL_end {n m : Nat} {l : List MvL} (h : l.length ≤ m) : madeL n m l = madeL n l.length l := by
  unfold madeL
  rw [List.take_of_length_le h, List.take_of_length_le (Nat.le_refl _)]
set_option maxHeartbeats 8000000 in
set_option maxRecDepth 8000 in
theorem lmade_s {n m : Nat} {l : List MvL} (hn : n ≤ 1000000) (hm : m ≤ 100000) (hk : ∀ o ∈ l, OkMv o) (hl : l.length ≤ 9223372036854775807) :
    Spec Try.prog 9 [.im (mvsC l) l.length, .sc (.int .i64 n), .sc (.int .i64 m)] (.im (opsC (madeL n m l)) (madeL n m l).length) := by
  refine Spec.run Try.func9 rfl Try.ntmps9 (by simp) (by simp (disch := omega) only [go_sem, zn4]; rfl) fun B hB => ?_
  (repeat (first | refine DO.nil (by kernel_rfl) ?_ | (with_reducible first | apply oz1 | apply oz2 | apply oz3 | apply oz4 | apply oz5 | apply oz6 | apply oz7 | apply oz8 | apply oz9 | apply ozb | apply ozc | apply oze | apply ozf | apply ozg | apply ozh | apply ozi | apply ozj | apply ozk | refine ozd (by decide) ?_) | ((first | apply SO.call | apply DO.call); (iterate 3 (focus (simp (disch := omega) only [go_sem, ↓reduceIte, zn1, zn2, zn3, zn4, zn5, zn6, reduceCtorEq, zn7, zi1, zi2, if_pos, if_neg] <;> rfl))); (first | apply SCall.ofX | apply DCall.ofX); (focus (first | assumption)); (focus (simp (disch := omega) only [go_sem, ↓reduceIte, zn1, zn2, zn3, zn4, zn5, zn6, reduceCtorEq, zn7, zi1, zi2, if_pos, if_neg] <;> rfl))) | ((with_reducible first | apply SC.condB | apply SC.region | apply SO.run | apply DO.run); (focus (simp (disch := omega) only [go_sem, ↓reduceIte, zn3, zn4] <;> rfl)); (first | refine pickT ?_ | refine pickF ?_ | fail_if_success with_reducible refine pickA ?_)) | ((with_reducible refine SC.draw Tab.mixed ?_ ?_); (focus (first | rfl | simp (disch := omega) only [go_sem, ↓reduceIte, zn1, zn2, zn3, zn4, zn5, zn6, reduceCtorEq, zn7, zi1, zi2, if_pos, if_neg]))) | (with_reducible apply SC.ops)))
  refine SC.loop (fun k : Nat => ⟨[(0, .im (mvsC l) l.length), (1, .sc (.int .i64 n)), (2, .sc (.int .i64 m)), (7, .sl 0 0 (madeL n k l).length 5 none), (8, .sc (.int .i64 k))], [(0, ⟨56, opsC (madeL n k l), false⟩)], 1, 81⟩)
    (fun k => k ≤ m ∧ k ≤ l.length ∧ (n = 0 → k = 0)) (fun k => m - k) 0 ?_ ?_ ?_
  · rw [madeL_0 n 0 l (.inr rfl)]
    refine Le.map (fun i => i) (fun i => i < 1) hB (fun i hi => by omega) (fun i h => h) (fun i j _ _ e => e) ?_ (fun i k' hk' hlt => ?_)
    · (repeat' (first | exact trivial | refine mapSl_cons (by simp (disch := omega) only [go_sem, ↓reduceIte, zn1, reduceCtorEq] <;> rfl) ?_ ?_ | exact VMap.junk _ | exact VMap.sc _ | exact VMap.clo rfl | exact VMap.sl rfl (by omega) | exact VMap.cap rfl (by omega) | exact VMap.pt rfl (by omega) | exact VMap.nil_sl _ _ _ | exact VMap.int (by first | rfl | omega | (dsimp only; omega))))
    · simp only [hget] at hk'
      split at hk'
      · rename_i e
        subst e
        cases hk'
        exact ⟨_, rfl, rfl, rfl, fun j y hy => by cases hy⟩
      · cases hk'
  · exact ⟨Nat.zero_le _, Nat.zero_le _, fun _ => rfl⟩
  · intro k ⟨hk1, hk2, hk3⟩ K hK
    have hL := madeL_len (n := n) (m := k) (l := l)
    have gl := opsC_len (madeL n k l)
    rw [Nat.mul_comm] at gl
    by_cases hc : k < l.length
    · have q1 : decide ((k : Int) < (l.length : Int)) = true := decide_eq_true (by omega)
      by_cases hc2 : k < m
      · have q2 : decide ((k : Int) < (m : Int)) = true := decide_eq_true (by omega)
        by_cases hc3 : 0 < n
        · have q3 : decide ((0 : Int) < (n : Int)) = true := decide_eq_true (by omega)
          have g1 := mvsC_drop hc
          have g2 : k * 4 < (mvsC l).length := by rw [mvsC_len]; omega
          have hst := madeL_step hc3 hc
          have hok := hk _ (getD_mem (d := ⟨0, 0, 0, 0⟩) hc)
          have ht : (opsC (madeL n k l)).take ((madeL n k l).length * 5) = opsC (madeL n k l) := List.take_of_length_le (by omega)
          have hone := opsC_one (madeL n k l)
          have hclo := opsC_clo (madeL n k l)
          have hlen := congrArg List.length hst
          have hnew := congrArg opsC hst
          rw [opsC_app] at hnew
          rw [List.length_append] at hlen
          generalize l.getD k ⟨0, 0, 0, 0⟩ = op at *
          generalize (mvsC l).drop ((k + 1) * 4) = D at *
          generalize (madeL n k l).length = zl at *
          generalize opsC (madeL n k l) = Z at *
          generalize hZ' : opsC (madeL n (k + 1) l) = Z' at *
          generalize hL' : (madeL n (k + 1) l).length = zl' at *
          obtain ⟨kd, i, j, f⟩ := op
          obtain ⟨ok1, ok2, ok3, ok4⟩ := hok
          simp only at ok1 ok2 ok3 ok4
          unfold mvC at g1
          simp only [List.cons_append, List.nil_append] at g1
          have r2 : (i : Int).tmod n = ((i % n : Nat) : Int) := by rw [Int.tmod_eq_emod_of_nonneg (by omega)]; simp
          have r3 : (j : Int).tmod n = ((j % n : Nat) : Int) := by rw [Int.tmod_eq_emod_of_nonneg (by omega)]; simp
          have l2 := Nat.mod_lt i hc3
          have l3 := Nat.mod_lt j hc3
          have hn0 : ((n : Int) == 0) = false := by rw [beq_eq_false_iff_ne]; omega
          unfold mkO at hnew hlen
          simp only at hnew hlen
          have r1 : (kd : Int).tmod 3 = ((kd % 3 : Nat) : Int) := by rw [Int.tmod_eq_emod_of_nonneg (by omega)]; simp
          generalize i % n = ii at *
          generalize j % n = jj at *
          have l1 := Nat.mod_lt kd (y := 3) (by omega)
          generalize kd % 3 = kk at *
          by_cases h1 : kk = 1
          · subst h1
            rw [if_pos rfl, opsC_some, opC_z] at hnew
            rw [if_pos rfl] at hlen
            (repeat (first | refine DO.nil (by kernel_rfl) ?_ | (with_reducible first | apply oz1 | apply oz2 | apply oz3 | apply oz4 | apply oz5 | apply oz6 | apply oz7 | apply oz8 | apply oz9 | apply ozb | apply ozc | apply oze | apply ozf | apply ozg | apply ozh | apply ozi | apply ozj | apply ozk | refine ozd (by decide) ?_) | ((first | apply SO.call | apply DO.call); (iterate 3 (focus (simp (disch := omega) only [go_sem, ↓reduceIte, zn1, zn2, zn3, zn4, zn5, zn6, reduceCtorEq, zn7, zi1, zi2, if_pos, if_neg, q1, q2, q3, r1, r2, r3, g1, g2, hn0, gl, ht, hone, reps1, List.flatten_cons, List.flatten_nil, List.append_nil] <;> rfl))); (first | apply SCall.ofX | apply DCall.ofX); (focus (first | assumption)); (focus (simp (disch := omega) only [go_sem, ↓reduceIte, zn1, zn2, zn3, zn4, zn5, zn6, reduceCtorEq, zn7, zi1, zi2, if_pos, if_neg, q1, q2, q3, r1, r2, r3, g1, g2, hn0, gl, ht, hone, reps1, List.flatten_cons, List.flatten_nil, List.append_nil] <;> rfl))) | ((with_reducible first | apply SC.condB | apply SC.region | apply SO.run | apply DO.run); (focus (simp (disch := omega) only [go_sem, ↓reduceIte, zn1, zn3, zn4, zn5, reduceCtorEq, if_pos, if_neg, q1, q2, q3, r1, r2, r3, g1, g2, gl, ht, reps1, List.append_nil] <;> rfl)); (first | refine pickT ?_ | refine pickF ?_ | fail_if_success with_reducible refine pickA ?_)) | ((with_reducible refine SC.draw Tab.mixed ?_ ?_); (focus (first | rfl | simp (disch := omega) only [go_sem, ↓reduceIte, zn1, zn2, zn3, zn4, zn5, zn6, reduceCtorEq, zn7, zi1, zi2, if_pos, if_neg, q1, q2, q3, r1, r2, r3, g1, g2, hn0, gl, ht, hone, reps1, List.flatten_cons, List.flatten_nil, List.append_nil]))) | (with_reducible apply SC.ops)))
            refine hK _ (k + 1) ?_ ⟨by omega, by omega, by omega⟩ (by omega)
            simp only [hZ', hL', hnew, hlen]
            refine Le.ren 0 3 hB (by omega) (by omega) (by omega) ?_ ?_
            · (repeat' (first | exact trivial | refine mapSl_cons (by simp (disch := omega) only [go_sem, ↓reduceIte, zn1, reduceCtorEq] <;> rfl) ?_ ?_ | exact VMap.junk _ | exact VMap.sc _ | exact VMap.clo rfl | exact VMap.sl rfl (by omega) | exact VMap.cap rfl (by omega) | exact VMap.pt rfl (by omega) | exact VMap.nil_sl _ _ _ | exact VMap.int (by first | rfl | omega | (dsimp only; omega))))
            · exact mapHp_cons (by rfl) (bmapTail hclo (by repeat' (first | exact mapL_nil | refine mapL_cons ?_ ?_ | exact VMap.nil_im | exact VMap.clo rfl | exact VMap.sc _))) mapHp_nil
          · rw [if_neg h1] at hnew hlen
            by_cases h2 : ii = jj
            · subst h2
              rw [if_pos rfl] at hnew hlen
              rw [opsC_none, List.append_nil] at hnew
              have hlen : zl' = zl := hlen
              have q7 : ((ii : Int) == ii) = true := by simp
              have e : kk = 0 ∨ kk = 2 := by omega
              rcases e with rfl | rfl
              · (repeat (first | refine DO.nil (by kernel_rfl) ?_ | (with_reducible first | apply oz1 | apply oz2 | apply oz3 | apply oz4 | apply oz5 | apply oz6 | apply oz7 | apply oz8 | apply oz9 | apply ozb | apply ozc | apply oze | apply ozf | apply ozg | apply ozh | apply ozi | apply ozj | apply ozk | refine ozd (by decide) ?_) | ((first | apply SO.call | apply DO.call); (iterate 3 (focus (simp (disch := omega) only [go_sem, ↓reduceIte, zn1, zn2, zn3, zn4, zn5, zn6, reduceCtorEq, zn7, zi1, zi2, if_pos, if_neg, q1, q2, q3, r1, r2, r3, g1, g2, hn0, gl, ht, hone, reps1, List.flatten_cons, List.flatten_nil, List.append_nil, bne_self_eq_false, beq_self_eq_true] <;> rfl))); (first | apply SCall.ofX | apply DCall.ofX); (focus (first | assumption)); (focus (simp (disch := omega) only [go_sem, ↓reduceIte, zn1, zn2, zn3, zn4, zn5, zn6, reduceCtorEq, zn7, zi1, zi2, if_pos, if_neg, q1, q2, q3, r1, r2, r3, g1, g2, hn0, gl, ht, hone, reps1, List.flatten_cons, List.flatten_nil, List.append_nil, bne_self_eq_false, beq_self_eq_true] <;> rfl))) | ((with_reducible first | apply SC.condB | apply SC.region | apply SO.run | apply DO.run); (focus (simp (disch := omega) only [go_sem, ↓reduceIte, zn1, zn3, zn4, reduceCtorEq, if_pos, if_neg, q1, q2, q3, r1, r2, r3, g1, g2, List.append_nil, bne_self_eq_false, beq_self_eq_true] <;> rfl)); (first | refine pickT ?_ | refine pickF ?_ | fail_if_success with_reducible refine pickA ?_)) | ((with_reducible refine SC.draw Tab.mixed ?_ ?_); (focus (first | rfl | simp (disch := omega) only [go_sem, ↓reduceIte, zn1, zn2, zn3, zn4, zn5, zn6, reduceCtorEq, zn7, zi1, zi2, if_pos, if_neg, q1, q2, q3, r1, r2, r3, g1, g2, hn0, gl, ht, hone, reps1, List.flatten_cons, List.flatten_nil, List.append_nil, bne_self_eq_false, beq_self_eq_true]))) | (with_reducible apply SC.ops)))
                refine hK _ (k + 1) ?_ ⟨by omega, by omega, by omega⟩ (by omega)
                simp only [hZ', hL', hnew, hlen]
                refine Le.ren 5 1 hB (by omega) (by omega) (by omega) ?_ ?_
                · (repeat' (first | exact trivial | refine mapSl_cons (by simp (disch := omega) only [go_sem, ↓reduceIte, zn1, reduceCtorEq] <;> rfl) ?_ ?_ | exact VMap.junk _ | exact VMap.sc _ | exact VMap.clo rfl | exact VMap.sl rfl (by omega) | exact VMap.cap rfl (by omega) | exact VMap.pt rfl (by omega) | exact VMap.nil_sl _ _ _ | exact VMap.int (by first | rfl | omega | (dsimp only; omega))))
                · exact mapHp_cons (by rfl) (BMap.clo hclo) mapHp_nil
              · have c1 := of_i f (by omega) (by omega)
                unfold iv sv at c1
                (repeat (first | refine DO.nil (by kernel_rfl) ?_ | (with_reducible first | apply oz1 | apply oz2 | apply oz3 | apply oz4 | apply oz5 | apply oz6 | apply oz7 | apply oz8 | apply oz9 | apply ozb | apply ozc | apply oze | apply ozf | apply ozg | apply ozh | apply ozi | apply ozj | apply ozk | refine ozd (by decide) ?_) | ((first | apply SO.call | apply DO.call); (iterate 3 (focus (simp (disch := omega) only [go_sem, ↓reduceIte, List.append_nil] <;> rfl))); (first | apply SCall.ofX | apply DCall.ofX); (focus (first | assumption)); (focus (simp (disch := omega) only [go_sem] <;> rfl))) | ((with_reducible first | apply SC.condB | apply SC.region | apply SO.run | apply DO.run); (focus (simp (disch := omega) only [go_sem, ↓reduceIte, zn1, zn3, zn4, reduceCtorEq, if_pos, if_neg, q1, q2, q3, r1, r2, r3, g1, g2, List.append_nil, bne_self_eq_false, beq_self_eq_true] <;> rfl)); (first | refine pickT ?_ | refine pickF ?_ | fail_if_success with_reducible refine pickA ?_)) | ((with_reducible refine SC.draw Tab.mixed ?_ ?_); (focus (first | rfl | simp (disch := omega) only [go_sem, ↓reduceIte, zn1, zn2, zn3, zn4, zn5, zn6, reduceCtorEq, zn7, zi1, zi2, if_pos, if_neg, q1, q2, q3, r1, r2, r3, g1, g2, hn0, gl, ht, hone, reps1, List.flatten_cons, List.flatten_nil, List.append_nil, bne_self_eq_false, beq_self_eq_true]))) | (with_reducible apply SC.ops)))
                refine hK _ (k + 1) ?_ ⟨by omega, by omega, by omega⟩ (by omega)
                simp only [hZ', hL', hnew, hlen]
                refine Le.ren 5 1 hB (by omega) (by omega) (by omega) ?_ ?_
                · (repeat' (first | exact trivial | refine mapSl_cons (by simp (disch := omega) only [go_sem, ↓reduceIte, zn1, reduceCtorEq] <;> rfl) ?_ ?_ | exact VMap.junk _ | exact VMap.sc _ | exact VMap.clo rfl | exact VMap.sl rfl (by omega) | exact VMap.cap rfl (by omega) | exact VMap.pt rfl (by omega) | exact VMap.nil_sl _ _ _ | exact VMap.int (by first | rfl | omega | (dsimp only; omega))))
                · exact mapHp_cons (by rfl) (BMap.clo hclo) mapHp_nil
            · rw [if_neg h2] at hnew hlen
              have q7 : ((ii : Int) == jj) = false := by rw [beq_eq_false_iff_ne]; omega
              have q8 : ((ii : Int) != jj) = true := by simp; omega
              have e : kk = 0 ∨ kk = 2 := by omega
              rcases e with rfl | rfl
              · rw [if_neg (by decide), opsC_some, opC_z] at hnew
                rw [if_neg (by decide)] at hlen
                (repeat (first | refine DO.nil (by kernel_rfl) ?_ | (with_reducible first | apply oz1 | apply oz2 | apply oz3 | apply oz4 | apply oz5 | apply oz6 | apply oz7 | apply oz8 | apply oz9 | apply ozb | apply ozc | apply oze | apply ozf | apply ozg | apply ozh | apply ozi | apply ozj | apply ozk | refine ozd (by decide) ?_) | ((first | apply SO.call | apply DO.call); (iterate 3 (focus (simp (disch := omega) only [go_sem, ↓reduceIte, zn1, zn2, zn3, zn4, zn5, zn6, reduceCtorEq, zn7, zi1, zi2, if_pos, if_neg, q1, q2, q3, r1, r2, r3, g1, g2, hn0, gl, ht, hone, q7, q8, reps1, List.flatten_cons, List.flatten_nil, List.append_nil] <;> rfl))); (first | apply SCall.ofX | apply DCall.ofX); (focus (first | assumption)); (focus (simp (disch := omega) only [go_sem, ↓reduceIte, zn1, zn2, zn3, zn4, zn5, zn6, reduceCtorEq, zn7, zi1, zi2, if_pos, if_neg, q1, q2, q3, r1, r2, r3, g1, g2, hn0, gl, ht, hone, q7, q8, reps1, List.flatten_cons, List.flatten_nil, List.append_nil] <;> rfl))) | ((with_reducible first | apply SC.condB | apply SC.region | apply SO.run | apply DO.run); (focus (simp (disch := omega) only [go_sem, ↓reduceIte, zn1, zn3, zn4, zn5, reduceCtorEq, if_pos, if_neg, q1, q2, q3, r1, r2, r3, g1, g2, gl, ht, q8, reps1, List.append_nil] <;> rfl)); (first | refine pickT ?_ | refine pickF ?_ | fail_if_success with_reducible refine pickA ?_)) | ((with_reducible refine SC.draw Tab.mixed ?_ ?_); (focus (first | rfl | simp (disch := omega) only [go_sem, ↓reduceIte, zn1, zn2, zn3, zn4, zn5, zn6, reduceCtorEq, zn7, zi1, zi2, if_pos, if_neg, q1, q2, q3, r1, r2, r3, g1, g2, hn0, gl, ht, hone, q7, q8, reps1, List.flatten_cons, List.flatten_nil, List.append_nil]))) | (with_reducible apply SC.ops)))
                refine hK _ (k + 1) ?_ ⟨by omega, by omega, by omega⟩ (by omega)
                simp only [hZ', hL', hnew, hlen]
                refine Le.ren 0 3 hB (by omega) (by omega) (by omega) ?_ ?_
                · (repeat' (first | exact trivial | refine mapSl_cons (by simp (disch := omega) only [go_sem, ↓reduceIte, zn1, reduceCtorEq] <;> rfl) ?_ ?_ | exact VMap.junk _ | exact VMap.sc _ | exact VMap.clo rfl | exact VMap.sl rfl (by omega) | exact VMap.cap rfl (by omega) | exact VMap.pt rfl (by omega) | exact VMap.nil_sl _ _ _ | exact VMap.int (by first | rfl | omega | (dsimp only; omega))))
                · exact mapHp_cons (by rfl) (bmapTail hclo (by repeat' (first | exact mapL_nil | refine mapL_cons ?_ ?_ | exact VMap.nil_im | exact VMap.clo rfl | exact VMap.sc _))) mapHp_nil
              · have c1 := of_i f (by omega) (by omega)
                rw [if_pos rfl, opsC_some] at hnew
                rw [if_pos rfl] at hlen
                unfold opC at hnew
                simp only at hnew
                unfold iv sv at c1
                unfold sv at hnew
                (repeat (first | refine DO.nil (by kernel_rfl) ?_ | (with_reducible first | apply oz1 | apply oz2 | apply oz3 | apply oz4 | apply oz5 | apply oz6 | apply oz7 | apply oz8 | apply oz9 | apply ozb | apply ozc | apply oze | apply ozf | apply ozg | apply ozh | apply ozi | apply ozj | apply ozk | refine ozd (by decide) ?_) | ((first | apply SO.call | apply DO.call); (iterate 3 (focus (simp (disch := omega) only [go_sem, ↓reduceIte, List.append_nil] <;> rfl))); (first | apply SCall.ofX | apply DCall.ofX); (focus (first | assumption)); (focus (simp (disch := omega) only [go_sem] <;> rfl))) | ((with_reducible first | apply SC.condB | apply SC.region | apply SO.run | apply DO.run); (focus (simp (disch := omega) only [go_sem, ↓reduceIte, zn1, zn3, zn4, zn5, reduceCtorEq, if_pos, if_neg, q1, q2, q3, r1, r2, r3, g1, g2, gl, ht, q8, reps1, List.append_nil] <;> rfl)); (first | refine pickT ?_ | refine pickF ?_ | fail_if_success with_reducible refine pickA ?_)) | ((with_reducible refine SC.draw Tab.mixed ?_ ?_); (focus (first | rfl | simp (disch := omega) only [go_sem, ↓reduceIte, zn1, zn2, zn3, zn4, zn5, zn6, reduceCtorEq, zn7, zi1, zi2, if_pos, if_neg, q1, q2, q3, r1, r2, r3, g1, g2, hn0, gl, ht, hone, q7, q8, reps1, List.flatten_cons, List.flatten_nil, List.append_nil]))) | (with_reducible apply SC.ops)))
                refine hK _ (k + 1) ?_ ⟨by omega, by omega, by omega⟩ (by omega)
                simp only [hZ', hL', hnew, hlen]
                refine Le.ren 0 3 hB (by omega) (by omega) (by omega) ?_ ?_
                · (repeat' (first | exact trivial | refine mapSl_cons (by simp (disch := omega) only [go_sem, ↓reduceIte, zn1, reduceCtorEq] <;> rfl) ?_ ?_ | exact VMap.junk _ | exact VMap.sc _ | exact VMap.clo rfl | exact VMap.sl rfl (by omega) | exact VMap.cap rfl (by omega) | exact VMap.pt rfl (by omega) | exact VMap.nil_sl _ _ _ | exact VMap.int (by first | rfl | omega | (dsimp only; omega))))
                · exact mapHp_cons (by rfl) (bmapTail hclo (by repeat' (first | exact mapL_nil | refine mapL_cons ?_ ?_ | exact VMap.nil_im | exact VMap.clo rfl | exact VMap.sc _))) mapHp_nil
        · have q3 : decide ((0 : Int) < (n : Int)) = false := decide_eq_false (by omega)
          have h0 := hk3 (by omega)
          subst h0
          rw [madeL_0 n m l (.inl (by omega))]
          rw [madeL_0 n 0 l (.inr rfl)] at gl ⊢
          (repeat (first | refine DO.nil (by kernel_rfl) ?_ | (with_reducible first | apply oz1 | apply oz2 | apply oz3 | apply oz4 | apply oz5 | apply oz6 | apply oz7 | apply oz8 | apply oz9 | apply ozb | apply ozc | apply oze | apply ozf | apply ozg | apply ozh | apply ozi | apply ozj | apply ozk | refine ozd (by decide) ?_) | ((first | apply SO.call | apply DO.call); (iterate 3 (focus (simp (disch := omega) only [go_sem, ↓reduceIte, zn1, zn2, zn3, zn4, zn5, zn6, reduceCtorEq, zn7, zi1, zi2, if_pos, if_neg, q1, q2, q3] <;> rfl))); (first | apply SCall.ofX | apply DCall.ofX); (focus (first | assumption)); (focus (simp (disch := omega) only [go_sem, ↓reduceIte, zn1, zn2, zn3, zn4, zn5, zn6, reduceCtorEq, zn7, zi1, zi2, if_pos, if_neg, q1, q2, q3] <;> rfl))) | ((with_reducible first | apply SC.condB | apply SC.region | apply SO.run | apply DO.run); (focus (simp (disch := omega) only [go_sem, ↓reduceIte, zn1, zn2, reduceCtorEq, q1, q2, q3] <;> rfl)); (first | refine pickT ?_ | refine pickF ?_ | fail_if_success with_reducible refine pickA ?_)) | ((with_reducible refine SC.draw Tab.mixed ?_ ?_); (focus (first | rfl | simp (disch := omega) only [go_sem, ↓reduceIte, zn1, zn2, zn3, zn4, zn5, zn6, reduceCtorEq, zn7, zi1, zi2, if_pos, if_neg, q1, q2, q3]))) | (with_reducible apply SC.ops)))
          exact retQ_ret Try.results9 (by simp (disch := omega) only [go_sem, ↓reduceIte] <;> rfl) (by simp (disch := omega) only [go_sem, ↓reduceIte, if_pos] <;> rfl) rfl
      · have q2 : decide ((k : Int) < (m : Int)) = false := decide_eq_false (by omega)
        have hkm : k = m := by omega
        subst hkm
        have hclo := opsC_clo (madeL n k l)
        have ht : (opsC (madeL n k l)).take ((madeL n k l).length * 5) = opsC (madeL n k l) := List.take_of_length_le (by omega)
        (repeat (first | refine DO.nil (by kernel_rfl) ?_ | (with_reducible first | apply oz1 | apply oz2 | apply oz3 | apply oz4 | apply oz5 | apply oz6 | apply oz7 | apply oz8 | apply oz9 | apply ozb | apply ozc | apply oze | apply ozf | apply ozg | apply ozh | apply ozi | apply ozj | apply ozk | refine ozd (by decide) ?_) | ((first | apply SO.call | apply DO.call); (iterate 3 (focus (simp (disch := omega) only [go_sem, ↓reduceIte, zn1, zn2, zn3, zn4, zn5, zn6, reduceCtorEq, zn7, zi1, zi2, if_pos, if_neg, q1, q2] <;> rfl))); (first | apply SCall.ofX | apply DCall.ofX); (focus (first | assumption)); (focus (simp (disch := omega) only [go_sem, ↓reduceIte, zn1, zn2, zn3, zn4, zn5, zn6, reduceCtorEq, zn7, zi1, zi2, if_pos, if_neg, q1, q2] <;> rfl))) | ((with_reducible first | apply SC.condB | apply SC.region | apply SO.run | apply DO.run); (focus (simp (disch := omega) only [go_sem, ↓reduceIte, zn1, zn2, reduceCtorEq, q1, q2] <;> rfl)); (first | refine pickT ?_ | refine pickF ?_ | fail_if_success with_reducible refine pickA ?_)) | ((with_reducible refine SC.draw Tab.mixed ?_ ?_); (focus (first | rfl | simp (disch := omega) only [go_sem, ↓reduceIte, zn1, zn2, zn3, zn4, zn5, zn6, reduceCtorEq, zn7, zi1, zi2, if_pos, if_neg, q1, q2]))) | (with_reducible apply SC.ops)))
        exact retQ_ret Try.results9 (by simp (disch := omega) only [go_sem, ↓reduceIte] <;> rfl) (by simp (disch := omega) only [go_sem, ↓reduceIte, if_pos, hclo, ht, gl] <;> rfl) rfl
    · have q1 : decide ((k : Int) < (l.length : Int)) = false := decide_eq_false (by omega)
      have hkl : k = l.length := by omega
      have e : madeL n m l = madeL n k l := by rw [madeL_end (by omega), ← hkl]
      rw [e]
      have hclo := opsC_clo (madeL n k l)
      have ht : (opsC (madeL n k l)).take ((madeL n k l).length * 5) = opsC (madeL n k l) := List.take_of_length_le (by omega)
      (repeat (first | refine DO.nil (by kernel_rfl) ?_ | (with_reducible first | apply oz1 | apply oz2 | apply oz3 | apply oz4 | apply oz5 | apply oz6 | apply oz7 | apply oz8 | apply oz9 | apply ozb | apply ozc | apply oze | apply ozf | apply ozg | apply ozh | apply ozi | apply ozj | apply ozk | refine ozd (by decide) ?_) | ((first | apply SO.call | apply DO.call); (iterate 3 (focus (simp (disch := omega) only [go_sem, ↓reduceIte, zn1, zn2, zn3, zn4, zn5, zn6, reduceCtorEq, zn7, zi1, zi2, if_pos, if_neg, q1] <;> rfl))); (first | apply SCall.ofX | apply DCall.ofX); (focus (first | assumption)); (focus (simp (disch := omega) only [go_sem, ↓reduceIte, zn1, zn2, zn3, zn4, zn5, zn6, reduceCtorEq, zn7, zi1, zi2, if_pos, if_neg, q1] <;> rfl))) | ((with_reducible first | apply SC.condB | apply SC.region | apply SO.run | apply DO.run); (focus (simp (disch := omega) only [go_sem, ↓reduceIte, zn1, zn2, reduceCtorEq, q1] <;> rfl)); (first | refine pickT ?_ | refine pickF ?_ | fail_if_success with_reducible refine pickA ?_)) | ((with_reducible refine SC.draw Tab.mixed ?_ ?_); (focus (first | rfl | simp (disch := omega) only [go_sem, ↓reduceIte, zn1, zn2, zn3, zn4, zn5, zn6, reduceCtorEq, zn7, zi1, zi2, if_pos, if_neg, q1]))) | (with_reducible apply SC.ops)))
      exact retQ_ret Try.results9 (by simp (disch := omega) only [go_sem, ↓reduceIte] <;> rfl) (by simp (disch := omega) only [go_sem, ↓reduceIte, if_pos, hclo, ht, gl] <;> rfl) rfl
end Go.Proofs.Ytfhcmibgpddggaa
namespace Go.Proofs.Ytfhcmibgpddggaa
open Go.ChangeShapes Go.WideShapes Go.ChangeAt Go.RowKit
theorem i8_wf (n : Int) (h : (Lit.int .i8 n).wf = true) : -128 ≤ n ∧ n ≤ 127 := by
  have h : (IntKind.i8.min ≤ n ∧ n ≤ IntKind.i8.max) := by simpa [Lit.wf] using h
  have h1 : IntKind.i8.min = -128 := by decide
  have h2 : IntKind.i8.max = 127 := by decide
  omega
theorem mvs_val : ∀ {yss : List (List V)}, (∀ z ∈ yss, (Shp.st [.int .u8, .int .u8, .int .u8, .int .i8]).Rep z) → ∃ l : List MvL, yss.flatten = mvsC l ∧ l.length = yss.length ∧ ∀ o ∈ l, OkMv o
  | [], _ => ⟨[], rfl, rfl, fun o ho => by cases ho⟩
  | y :: r, h => by
    obtain ⟨a1, b1, rfl, ⟨n1, rfl, w1⟩, a2, b2, rfl, ⟨n2, rfl, w2⟩, a3, b3, rfl, ⟨n3, rfl, w3⟩, a4, b4, rfl, ⟨n4, rfl, w4⟩, rfl⟩ := h y (by simp)
    obtain ⟨m1, rfl, h1⟩ := wf_nat u8_wf w1
    obtain ⟨m2, rfl, h2⟩ := wf_nat u8_wf w2
    obtain ⟨m3, rfl, h3⟩ := wf_nat u8_wf w3
    obtain ⟨l, e1, e2, e3⟩ := mvs_val (yss := r) fun z hz => h z (by simp [hz])
    refine ⟨⟨m1, m2, m3, n4⟩ :: l, ?_, by simp [e2], fun o ho => ?_⟩
    · rw [List.flatten_cons, e1]; rfl
    · rcases List.mem_cons.1 ho with rfl | ho
      · exact ⟨by show m1 < _; omega, by show m2 < _; omega, by show m3 < _; omega, i8_wf _ w4⟩
      · exact e3 o ho
theorem mv_val {x : V} (h : (Shp.slc (.st [.int .u8, .int .u8, .int .u8, .int .i8])).Val x) : ∃ l : List MvL, x = .im (mvsC l) l.length ∧ (∀ o ∈ l, OkMv o) ∧ l.length ≤ 9223372036854775807 := by
  obtain ⟨yss, hl, rfl, hr⟩ := h
  obtain ⟨l, h1, h2, h3⟩ := mvs_val hr
  unfold maxLen at hl
  exact ⟨l, by rw [h1, h2], h3, by omega⟩
theorem idL_mi {n : Nat} : MI n n 1 (idL n) := mk_mi fun _ _ _ _ => fits01
end Go.Proofs.Ytfhcmibgpddggaa
namespace Go.Proofs.Ytfhcmibgpddggaa
open Go.RowKit
def wk (x y : V) : Prop := ∀ (S : Nat → Prop) (rho : Nat → Nat) (w : World) (A : Nat → Prop) (v : Value), R S rho w A x v → R S rho w A y v
inductive wkL : List V → List V → Prop
  | nil : wkL [] []
  | cons {x y : V} {xs ys : List V} : wk x y → wkL xs ys → wkL (x :: xs) (y :: ys)
theorem wk.rfl {x : V} : wk x x := fun _ _ _ _ _ h => h
theorem wkL.len {xs ys : List V} (h : wkL xs ys) : xs.length = ys.length := by induction h with | nil => exact Eq.refl _ | cons _ _ ih => simp [ih]
theorem wkL.get {xs ys : List V} (h : wkL xs ys) : ∀ {i : Nat} {y : V}, ys[i]? = some y → ∃ x, xs[i]? = some x ∧ wk x y := by
  induction h with
  | nil => intro i y h; simp at h
  | @cons a b _ _ hw _ ih =>
    intro i y h
    cases i with
    | zero => simp at h; exact ⟨a, Eq.refl _, h ▸ hw⟩
    | succ i => simp at h ⊢; exact ih h
theorem wkL.app {xs ys us zs : List V} (h : wkL xs ys) (k : wkL us zs) : wkL (xs ++ us) (ys ++ zs) := by
  induction h with
  | nil => exact k
  | cons hw _ ih => exact .cons hw ih
theorem wk.im {cs ds : List V} {n : Nat} (h : wkL cs ds) : wk (.im cs n) (.im ds n) := by
  intro S rho w A v hr
  cases hr with
  | im0 a b c => cases h; exact .im0 a b c
  | im1 f a b c d e =>
    refine .im1 f a b c (fun i x hx => ?_) fun i x hx => ?_
    · obtain ⟨y, hy, _⟩ := h.get hx; exact d i y hy
    · obtain ⟨y, hy, hw⟩ := h.get hx; exact hw _ _ _ _ _ (e i y hy)
theorem wk.ag {cs ds : List V} (h : wkL cs ds) : wk (.ag cs) (.ag ds) := by
  intro S rho w A v hr
  cases hr with
  | ag a b =>
    refine .ag (by rw [← h.len]; exact a) fun i x u hx hu => ?_
    obtain ⟨y, hy, hw⟩ := h.get hx; exact hw _ _ _ _ _ (b i y u hy hu)
theorem wk.nil : wk (.sc (.slice none 0 0)) (.im [] 0) := by
  intro S rho w A v hr
  cases hr
  exact .im0 (Nat.le_refl _) (by unfold maxLen; omega) (fun _ => Eq.refl _)
theorem Spec.wk {P : Program} {f : Nat} {xs ys : List V} {x : V} (h : Spec P f ys x) (hw : wkL xs ys) : Spec P f xs x := by
  intro S w vs hS hT ha
  refine h S w vs hS hT ⟨by rw [← hw.len]; exact ha.1, fun i y u hy hu => ?_⟩
  obtain ⟨z, hz, hw⟩ := hw.get hy
  exact hw _ _ _ _ _ (ha.2 i z u hz hu)
theorem fits1z : Fits 1 0 := by unfold Fits; decide
def unZ : V → V → Option Int
  | .sc (.bool false), .sc (.slice none 0 0) => some 0
  | .sc (.bool false), .im [] 0 => some 0
  | .sc (.bool false), .im [.sc (.int .u32 (.ofNat v))] 1 => if 0 < v ∧ v < 4294967296 then some (.ofNat v) else none
  | .sc (.bool true), .im [.sc (.int .u32 (.ofNat v))] 1 => if 0 < v ∧ v < 4294967296 then some (.negSucc (v - 1)) else none
  | _, _ => none
theorem unZ_s {b m : V} {z : Int} (h : unZ b m = some z) : wkL [b, m] (ivC z) ∧ Fits 1 z := by
  unfold unZ at h
  split at h
  · cases h; exact ⟨.cons wk.rfl (.cons wk.nil .nil), fits1z⟩
  · cases h; exact ⟨.cons wk.rfl (.cons wk.rfl .nil), fits1z⟩
  · split at h
    · rename_i v hv
      cases h
      have e : ivC (Int.ofNat v) = [.sc (.bool false), .im [.sc (.int .u32 (.ofNat v))] 1] := by
        unfold ivC sv
        rw [show (Int.ofNat v).natAbs = v from Eq.refl _, limbsOf_one hv.1 hv.2, decide_eq_false (by have := Int.natCast_nonneg v; exact Int.not_lt.2 this)]; exact Eq.refl _
      rw [e]
      exact ⟨.cons wk.rfl (.cons wk.rfl .nil), by unfold Fits; show v < _; omega⟩
    · cases h
  · split at h
    · rename_i v hv
      cases h
      have e : ivC (Int.negSucc (v - 1)) = [.sc (.bool true), .im [.sc (.int .u32 (.ofNat v))] 1] := by
        unfold ivC sv
        rw [show (Int.negSucc (v - 1)).natAbs = v by rw [Int.natAbs_negSucc]; omega, limbsOf_one hv.1 hv.2, decide_eq_true (by omega)]; exact Eq.refl _
      rw [e]
      exact ⟨.cons wk.rfl (.cons wk.rfl .nil), by unfold Fits; rw [Int.natAbs_negSucc]; omega⟩
    · cases h
  · cases h
def unOps : List V → Option (List OpL)
  | .sc (.int .i64 (.ofNat kd)) :: .sc (.int .i64 (.ofNat i)) :: .sc (.int .i64 (.ofNat j)) :: b :: m :: r => (unZ b m).bind fun k => (unOps r).map fun l => ⟨kd, i, j, k⟩ :: l
  | [] => some []
  | _ => none
theorem unOps_s : ∀ {cs : List V} {l : List OpL}, unOps cs = some l → wkL cs (opsC l) ∧ ∀ o ∈ l, Fits 1 o.k := by
  intro cs
  induction cs using unOps.induct with
  | case1 kd i j b m r ih =>
    intro l h
    rw [unOps] at h
    cases hz : unZ b m with
    | none => rw [hz] at h; cases h
    | some k =>
      cases hr : unOps r with
      | none => rw [hz, hr] at h; cases h
      | some t =>
        rw [hz, hr] at h
        cases h
        have h1 := unZ_s hz
        have h2 := ih hr
        refine ⟨?_, fun o ho => ?_⟩
        · exact wkL.app (.cons wk.rfl (.cons wk.rfl (.cons wk.rfl h1.1))) h2.1
        · rcases List.mem_cons.1 ho with rfl | ho
          · exact h1.2
          · exact h2.2 o ho
  | case2 => intro l h; cases h; exact ⟨.nil, fun o ho => by cases ho⟩
  | case3 t h1 h2 =>
    intro l h
    rw [unOps] at h
    · cases h
    · exact h1
    · exact h2
def okB (n : Nat) (o : OpL) : Bool := decide (o.i < n) && ((decide (o.kd = 1) && decide (o.j < n) && decide (o.i ≠ o.j) && decide (o.k = 0)) || (decide (o.kd = 2) && decide (o.j = 0) && decide (o.k = 0)) || (decide (o.kd = 3) && decide (o.j < n) && decide (o.i ≠ o.j)))
theorem okB_s {n : Nat} {o : OpL} (h : okB n o = true) (hk : Fits 1 o.k) : OkOp n o := by
  simp only [okB, Bool.and_eq_true, Bool.or_eq_true, decide_eq_true_eq] at h
  refine ⟨h.1, hk, ?_⟩
  rcases h.2 with (⟨⟨⟨a, b⟩, c⟩, d⟩ | ⟨⟨a, b⟩, c⟩) | ⟨⟨a, b⟩, c⟩
  · exact .inl ⟨a, b, c, d⟩
  · exact .inr (.inl ⟨a, b, c⟩)
  · exact .inr (.inr ⟨a, b, c⟩)
def unRowI : List V → Option (List Int)
  | b :: m :: r => (unZ b m).bind fun k => (unRowI r).map fun l => k :: l
  | [] => some []
  | _ => none
theorem unRowI_s : ∀ {cs : List V} {l : List Int}, unRowI cs = some l → wkL cs (ivR l) ∧ ∀ x ∈ l, Fits 1 x := by
  intro cs
  induction cs using unRowI.induct with
  | case1 b m r ih =>
    intro l h
    rw [unRowI] at h
    cases hz : unZ b m with
    | none => rw [hz] at h; cases h
    | some k =>
      cases hr : unRowI r with
      | none => rw [hz, hr] at h; cases h
      | some t =>
        rw [hz, hr] at h
        cases h
        have h1 := unZ_s hz
        have h2 := ih hr
        refine ⟨wkL.app h1.1 h2.1, fun o ho => ?_⟩
        rcases List.mem_cons.1 ho with rfl | ho
        · exact h1.2
        · exact h2.2 o ho
  | case2 => intro l h; cases h; exact ⟨.nil, fun o ho => by cases ho⟩
  | case3 t h1 h2 =>
    intro l h
    rw [unRowI] at h
    · cases h
    · exact h1
    · exact h2
def unImI (w : Nat) : V → Option (List Int)
  | .im cs n => if n = w then (unRowI cs).bind fun l => if l.length = w then some l else none else none
  | _ => none
theorem unImI_s {w : Nat} {x : V} {l : List Int} (h : unImI w x = some l) : wk x (.im (ivR l) w) ∧ l.length = w ∧ ∀ x ∈ l, Fits 1 x := by
  unfold unImI at h
  split at h
  · rename_i cs n
    split at h
    · rename_i e
      cases hz : unRowI cs with
      | none => rw [hz] at h; cases h
      | some k =>
        rw [hz, Option.bind_some] at h
        split at h
        · rename_i hkl
          cases h
          have h1 := unRowI_s hz
          subst e
          exact ⟨wk.im h1.1, hkl, h1.2⟩
        · cases h
    · cases h
  · cases h
def unRowsI (w : Nat) : List V → Option (List (List Int))
  | [] => some []
  | x :: r => (unImI w x).bind fun l => (unRowsI w r).map fun M => l :: M
theorem unRowsI_s {w : Nat} : ∀ {cs : List V} {M : List (List Int)}, unRowsI w cs = some M → wkL cs (imR w (rI M)) ∧ ∀ r ∈ M, r.length = w ∧ ∀ x ∈ r, Fits 1 x
  | [], M, h => by cases h; exact ⟨.nil, fun o ho => by cases ho⟩
  | x :: r, M, h => by
    simp only [unRowsI] at h
    cases hx : unImI w x with
    | none => rw [hx] at h; cases h
    | some a =>
      cases hr : unRowsI w r with
      | none => rw [hx, hr] at h; cases h
      | some t =>
        rw [hx, hr] at h
        cases h
        have h1 := unImI_s hx
        have h2 := unRowsI_s hr
        refine ⟨.cons h1.1 h2.1, fun o ho => ?_⟩
        rcases List.mem_cons.1 ho with rfl | ho
        · exact h1.2
        · exact h2.2 o ho
def sanK (f : Nat) (ys : List V) : Option V :=
  if f = 10 then
    match ys with
    | [.im cs n, .ag [.sc (.int .i64 (.ofNat h)), .sc (.int .i64 (.ofNat w)), .im rs m]] =>
      (unOps cs).bind fun l => (unRowsI w rs).bind fun M => if n = l.length ∧ m = h ∧ M.length = h ∧ h ≤ 10 ∧ w ≤ 10 ∧ l.length ≤ 10 ∧ l.all (okB h) = true then some (.tu [mat w (actsO M l), .sc (.int .i64 0)]) else none
    | _ => none
  else if f = 38 then
    match ys with
    | [.sc (.int .i64 (.ofNat n))] => if n ≤ 10 then some (mat n (idL n)) else none
    | _ => none
  else none
theorem sanK_s : KSound Try.prog sanK := by
  intro f ys x h
  unfold sanK at h
  split at h
  · rename_i e
    subst e
    split at h
    · rename_i cs n h' w rs m
      cases ho : unOps cs with
      | none => rw [ho] at h; cases h
      | some l =>
        cases hr : unRowsI w rs with
        | none => rw [ho, hr] at h; cases h
        | some M =>
          rw [ho, hr, Option.bind_some, Option.bind_some] at h
          split at h
          · rename_i hc
            obtain ⟨rfl, rfl, hm, hh, hw, hl, hok⟩ := hc
            cases h
            have h1 := unOps_s ho
            have h2 := unRowsI_s hr
            have h3 : ∀ o ∈ l, OkOp m o := fun o ho => okB_s (List.all_eq_true.1 hok o ho) (h1.2 o ho)
            have hs := iapply_s (h := m) (w := w) (K := 1) (M := M) (l := l) ⟨hm, h2.2⟩ h3 (by omega) (by omega) (by omega)
            refine hs.wk (.cons (wk.im h1.1) (.cons (wk.ag ?_) .nil))
            rw [hm]
            exact .cons wk.rfl (.cons wk.rfl (.cons (wk.im h2.1) .nil))
          · cases h
    · cases h
  · split at h
    · rename_i e
      subst e
      split at h
      · split at h
        · cases h; exact pident_s _ (by omega)
        · cases h
      · cases h
    · cases h
def sanI (f : Nat) : Bool := f == 34 || f == 83 || f == 42
theorem sanity_s : Spec Try.prog 7 [] (.sc (.bool true)) := Spec.eval sanK_s 200 sanI (by kernel_rfl)
end Go.Proofs.Ytfhcmibgpddggaa
