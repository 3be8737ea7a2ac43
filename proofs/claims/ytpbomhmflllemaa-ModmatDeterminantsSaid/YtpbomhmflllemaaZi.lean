/- Texts joined: Mak Na Nb Nc Mam Mao Man Map Maq. -/
import Derived.Test.YtpbomhmflllemaaZc
import Derived.Test.YtpbomhmflllemaaZd
import Derived.Test.YtpbomhmflllemaaZg
import Derived.Test.YtpbomhmflllemaaZh
set_option linter.all false
/- The reference: Det, by expansion along the first row. -/
namespace Go.Proofs.Ytpbomhmflllemaa
open Go.RowKit

def cutL (k : Nat) (r : List Nat) : List Nat := r.take k ++ r.drop (k + 1)
def minorL (M : List (List Nat)) (k : Nat) : List (List Nat) := (M.drop 1).map (cutL k)
def lapT (p : Nat) (f : Nat → Nat) (M : List (List Nat)) (k : Nat) : Nat :=
  if k % 2 = 1 then (0 + p - f k * ent M 0 k % p) % p else f k * ent M 0 k % p
def lapTo (p : Nat) (f : Nat → Nat) (M : List (List Nat)) : Nat → Nat
  | 0 => 0
  | k + 1 => (lapTo p f M k + lapT p f M k) % p
def lapL (p : Nat) : Nat → List (List Nat) → Nat
  | 0, _ => 1
  | n + 1, M => lapTo p (fun k => lapL p n (minorL M k)) M (n + 1)
theorem lapTo_lt {p : Nat} (hp : 0 < p) {f : Nat → Nat} {M : List (List Nat)} : ∀ k, lapTo p f M k < p
  | 0 => hp
  | _ + 1 => Nat.mod_lt _ hp
theorem lapL_lt {p : Nat} (hp : 1 < p) : ∀ (n : Nat) (M : List (List Nat)), lapL p n M < p
  | 0, _ => hp
  | _ + 1, _ => lapTo_lt (by omega) _
theorem cutL_rw {p n k : Nat} {r : List Nat} (h : Rw p (n + 1) r) (hk : k < n + 1) : Rw p n (cutL k r) := by
  refine ⟨?_, fun x hx => ?_⟩
  · unfold cutL; rw [List.length_append, List.length_take, List.length_drop, h.1]; omega
  · rcases List.mem_append.1 hx with g | g
    · exact h.2 x (List.mem_of_mem_take g)
    · exact h.2 x (List.mem_of_mem_drop g)
theorem minorL_mv {p n k : Nat} {M : List (List Nat)} (h : MV p (n + 1) (n + 1) M) (hk : k < n + 1) : MV p n n (minorL M k) := by
  refine ⟨?_, fun r hr => ?_⟩
  · unfold minorL; rw [List.length_map, List.length_drop, h.1]; omega
  · obtain ⟨r', h', rfl⟩ := List.mem_map.1 hr
    exact cutL_rw (h.2 _ (List.mem_of_mem_drop h')) hk
theorem minorL_get {k j : Nat} {M : List (List Nat)} (h : j + 1 < M.length) : (minorL M k).getD j [] = cutL k (M.getD (j + 1) []) := by
  unfold minorL
  rw [List.getD_eq_getElem?_getD, List.getElem?_map, List.getElem?_drop, Nat.add_comm 1 j, getD_get' (d := []) h]
  rfl

set_option maxHeartbeats 8000000 in
set_option maxRecDepth 8000 in
theorem rdet_s {p : Nat} (hp : Pr p) (hp2 : p ≤ 2147483647) : ∀ {n : Nat} {M : List (List Nat)}, MV p n n M → n ≤ 1000000 →
    Spec Try.prog 17 [md p n M] (.tu [.sc (.int .u64 (lapL p n M)), .sc (.int .i64 0)])
  | 0, M, hM, _ => by
    have hl := hM.1
    have hM0 : M = [] := List.eq_nil_of_length_eq_zero hl
    subst hM0
    unfold md mv
    refine Spec.run Try.func17 rfl Try.ntmps17 (by simp) (by simp (disch := omega) only [go_sem]; rfl) fun B hB => ?_
    (repeat (first | refine DO.nil (by kernel_rfl) ?_ | (with_reducible first | apply oz1 | apply oz2 | apply oz3 | apply oz4 | apply oz5 | apply oz6 | apply oz7 | apply oz8 | apply oz9 | apply ozb | apply ozc | apply oze | apply ozf | apply ozg | apply ozh | apply ozi | apply ozj | apply ozk | refine ozd (by decide) ?_) | ((first | apply SO.call | apply DO.call); (iterate 3 (focus (simp (disch := omega) only [go_sem, ↓reduceIte, Nat.reduceEqDiff, Nat.reduceLT, Nat.reduceLeDiff, Nat.reduceAdd, Nat.reduceMul, Nat.reduceSub, reduceCtorEq, Nat.reduceBEq, Int.reduceToNat, Int.reducePow, if_pos, if_neg, bne_self_eq_false, beq_self_eq_true, List.length_nil] <;> rfl))); (first | apply SCall.ofX | apply DCall.ofX); (focus (first | assumption)); (focus (simp (disch := omega) only [go_sem, ↓reduceIte, Nat.reduceEqDiff, Nat.reduceLT, Nat.reduceLeDiff, Nat.reduceAdd, Nat.reduceMul, Nat.reduceSub, reduceCtorEq, Nat.reduceBEq, Int.reduceToNat, Int.reducePow, if_pos, if_neg, bne_self_eq_false, beq_self_eq_true, List.length_nil] <;> rfl))) | ((with_reducible first | apply SC.condB | apply SC.region | apply SO.run | apply DO.run); (focus (simp (disch := omega) only [go_sem, ↓reduceIte, Nat.reduceEqDiff, reduceCtorEq, bne_self_eq_false] <;> rfl)); (first | refine pickT ?_ | refine pickF ?_ | fail_if_success with_reducible refine pickA ?_)) | ((with_reducible refine SC.draw Tab.mixed ?_ ?_); (focus (first | rfl | simp (disch := omega) only [go_sem, ↓reduceIte, Nat.reduceEqDiff, Nat.reduceLT, Nat.reduceLeDiff, Nat.reduceAdd, Nat.reduceMul, Nat.reduceSub, reduceCtorEq, Nat.reduceBEq, Int.reduceToNat, Int.reducePow, if_pos, if_neg, bne_self_eq_false, beq_self_eq_true, List.length_nil]))) | (with_reducible apply SC.ops)))
    exact retQ_ret Try.results17 (by simp (disch := omega) only [go_sem, ↓reduceIte, Nat.reduceEqDiff] <;> rfl) (by simp (disch := omega) only [go_sem, ↓reduceIte] <;> rfl) rfl
  | n + 1, M, hM, hn => by
    have hp1 := hp.1
    have hl := hM.1
    have gl := imR_len (n + 1) M
    have hmv : ∀ k, k < n + 1 → MV p n n (minorL M k) := fun k hk => minorL_mv hM hk
    have ih : ∀ k, k < n + 1 → Spec Try.prog 17 [.ag [.sc (.int .u64 p), .sc (.int .i64 n), .im (imR n (nR (minorL M k))) n]] (.tu [.sc (.int .u64 (lapL p n (minorL M k))), .sc (.int .i64 0)]) := fun k hk => by
      have := rdet_s hp hp2 (hmv k hk) (by omega)
      unfold md mv at this
      rwa [(hmv k hk).1] at this
    have hlt := lapTo_lt (p := p) (f := fun k => lapL p n (minorL M k)) (M := M) (by omega)
    have hll := fun k => lapL_lt hp1 n (minorL M k)
    have hres : lapL p (n + 1) M = lapTo p (fun k => lapL p n (minorL M k)) M (n + 1) := rfl
    rw [hres]
    unfold md mv
    rw [hl] at gl ⊢
    clear hres
    generalize hf : (fun k => lapL p n (minorL M k)) = f at *
    have hfk : ∀ k, lapL p n (minorL M k) = f k := fun k => by rw [← hf]
    generalize hw : n + 1 = w at *
    have q0 : ((w : Int) == 0) = false := by rw [beq_eq_false_iff_ne]; omega
    have e0 : ((w : Int) - 1) = (n : Int) := by omega
    refine Spec.run Try.func17 rfl Try.ntmps17 (by simp) (by simp (disch := omega) only [go_sem]; rfl) fun B hB => ?_
    (repeat (first | refine DO.nil (by kernel_rfl) ?_ | (with_reducible first | apply oz1 | apply oz2 | apply oz3 | apply oz4 | apply oz5 | apply oz6 | apply oz7 | apply oz8 | apply oz9 | apply ozb | apply ozc | apply oze | apply ozf | apply ozg | apply ozh | apply ozi | apply ozj | apply ozk | refine ozd (by decide) ?_) | ((first | apply SO.call | apply DO.call); (iterate 3 (focus (simp (disch := omega) only [go_sem, ↓reduceIte, Nat.reduceEqDiff, Nat.reduceLT, Nat.reduceLeDiff, Nat.reduceAdd, Nat.reduceMul, Nat.reduceSub, reduceCtorEq, Nat.reduceBEq, Int.reduceToNat, Int.reducePow, if_pos, if_neg, bne_self_eq_false, q0] <;> rfl))); (first | apply SCall.ofX | apply DCall.ofX); (focus (first | assumption)); (focus (simp (disch := omega) only [go_sem, ↓reduceIte, Nat.reduceEqDiff, Nat.reduceLT, Nat.reduceLeDiff, Nat.reduceAdd, Nat.reduceMul, Nat.reduceSub, reduceCtorEq, Nat.reduceBEq, Int.reduceToNat, Int.reducePow, if_pos, if_neg, bne_self_eq_false, q0] <;> rfl))) | ((with_reducible first | apply SC.condB | apply SC.region | apply SO.run | apply DO.run); (focus (simp (disch := omega) only [go_sem, ↓reduceIte, Nat.reduceEqDiff, reduceCtorEq, bne_self_eq_false, q0] <;> rfl)); (first | refine pickT ?_ | refine pickF ?_ | fail_if_success with_reducible refine pickA ?_)) | ((with_reducible refine SC.draw Tab.mixed ?_ ?_); (focus (first | rfl | simp (disch := omega) only [go_sem, ↓reduceIte, Nat.reduceEqDiff, Nat.reduceLT, Nat.reduceLeDiff, Nat.reduceAdd, Nat.reduceMul, Nat.reduceSub, reduceCtorEq, Nat.reduceBEq, Int.reduceToNat, Int.reducePow, if_pos, if_neg, bne_self_eq_false, q0]))) | (with_reducible apply SC.ops)))
    refine SC.loop (fun k : Nat => ⟨[(1, .pt 0 0), (4, .sc (.int .u64 (lapTo p f M k))), (5, .sc (.int .i64 k))], [(0, ⟨29, [.sc (.int .u64 p), .sc (.int .i64 w), .im (imR w (nR M)) w], false⟩)], 1, 92⟩)
      (fun k => k ≤ w) (fun k => w - k) 0 ?_ ?_ ?_
    · (refine Le.of [] hB (by first | exact ⟨Nat.zero_le _, fun _ _ => Nat.zero_le _⟩ | (constructor <;> (try simp) <;> (try omega))) ?_ ?_ <;> (repeat' (first | exact leSl_nil | exact leHp_nil | refine leSl_cons (by simp (disch := omega) only [go_sem, ↓reduceIte, Nat.reduceEqDiff]; rfl) ?_ ?_ | refine leHp_cons (by simp (disch := omega) only [go_sem, ↓reduceIte]; rfl) ?_ ?_ | exact VLe.junk _ | exact VLe.refl rfl | exact VLe.nil_sl _ _ _ | exact VLe.int (by first | rfl | omega | (dsimp only; omega)) | exact VLe.bool rfl | exact VLe.sl rfl (by first | rfl | omega | (dsimp only; omega) | (simp; done)) | exact VLe.cap rfl (by first | rfl | omega | (dsimp only; omega) | (simp; done)) | exact VLe.im rfl rfl | exact HLe.new rfl | exact HLe.same rfl (LLe.refl rfl) | refine HLe.same rfl ?_ | exact LLe.nil _ | exact LLe.refl rfl | refine LLe.cons ?_ ?_)))
    · exact Nat.zero_le _
    · intro k hk K hK
      by_cases hkw : k < w
      · have q1 := decide_eq_true (p := (k : Int) < (w : Int)) (by omega)
        (repeat (first | refine DO.nil (by kernel_rfl) ?_ | (with_reducible first | apply oz1 | apply oz2 | apply oz3 | apply oz4 | apply oz5 | apply oz6 | apply oz7 | apply oz8 | apply oz9 | apply ozb | apply ozc | apply oze | apply ozf | apply ozg | apply ozh | apply ozi | apply ozj | apply ozk | refine ozd (by decide) ?_) | ((first | apply SO.call | apply DO.call); (iterate 3 (focus (simp (disch := omega) only [go_sem, ↓reduceIte, Nat.reduceEqDiff, Nat.reduceLT, Nat.reduceLeDiff, Nat.reduceAdd, Nat.reduceMul, Nat.reduceSub, reduceCtorEq, Nat.reduceBEq, Int.reduceToNat, Int.reducePow, if_pos, if_neg, q1, e0] <;> rfl))); (first | apply SCall.ofX | apply DCall.ofX); (focus (first | assumption)); (focus (simp (disch := omega) only [go_sem, ↓reduceIte, Nat.reduceEqDiff, Nat.reduceLT, Nat.reduceLeDiff, Nat.reduceAdd, Nat.reduceMul, Nat.reduceSub, reduceCtorEq, Nat.reduceBEq, Int.reduceToNat, Int.reducePow, if_pos, if_neg, q1, e0] <;> rfl))) | ((with_reducible first | apply SC.condB | apply SC.region | apply SO.run | apply DO.run); (focus (simp (disch := omega) only [go_sem, ↓reduceIte, Nat.reduceEqDiff, Nat.reduceLeDiff, Nat.reduceAdd, reduceCtorEq, q1, e0] <;> rfl)); (first | refine pickT ?_ | refine pickF ?_ | fail_if_success with_reducible refine pickA ?_)) | ((with_reducible refine SC.draw Tab.mixed ?_ ?_); (focus (first | rfl | simp (disch := omega) only [go_sem, ↓reduceIte, Nat.reduceEqDiff, Nat.reduceLT, Nat.reduceLeDiff, Nat.reduceAdd, Nat.reduceMul, Nat.reduceSub, reduceCtorEq, Nat.reduceBEq, Int.reduceToNat, Int.reducePow, if_pos, if_neg, q1, e0]))) | (with_reducible apply SC.ops)))
        refine SC.loop (fun j : Nat => ⟨[(1, .pt 0 0), (4, .sc (.int .u64 (lapTo p f M k))), (5, .sc (.int .i64 k)), (6, .pt 1 0), (7, .sc (.int .i64 (j + 1 : Nat)))], [(1, ⟨29, [.sc (.int .u64 p), .sc (.int .i64 n), .sl 2 0 j 1 none], false⟩), (2, ⟨44, imR n (nR ((minorL M k).take j)), false⟩), (0, ⟨29, [.sc (.int .u64 p), .sc (.int .i64 w), .im (imR w (nR M)) w], false⟩)], 3, 92⟩)
          (fun j => j ≤ n) (fun j => n - j) 0 ?_ ?_ ?_
        · refine nilRow (pre := [.sc (.int .u64 p), .sc (.int .i64 n)]) 1 2 hB (by simp (disch := omega) only [go_sem, ↓reduceIte] <;> rfl) rfl (by omega) ?_ (by omega) ?_
          · exact ⟨⟨by omega, by omega, by omega, by simp, by simp (disch := omega) only [go_sem, ↓reduceIte, reduceCtorEq] <;> rfl, rfl⟩, trivial⟩
          · (repeat' (first | exact trivial | refine mapSl_cons (by simp (disch := omega) only [go_sem, ↓reduceIte, Nat.reduceEqDiff] <;> rfl) ?_ ?_ | exact VMap.junk _ | exact VMap.sc _ | exact VMap.clo rfl | exact VMap.sl rfl (by omega) | exact VMap.cap rfl (by omega) | exact VMap.pt rfl (by omega) | exact VMap.nil_sl _ _ _ | exact VMap.int (by first | rfl | omega | (dsimp only; omega))))
        · exact Nat.zero_le _
        · intro j hj K2 hK2
          have hmk := hmv k (by omega)
          have hmc := hmk.1
          by_cases hjn : j < n
          · have q2 := decide_eq_true (p := ((j + 1 : Nat) : Int) < (w : Int)) (by omega)
            have g1 := imR_get (w := w) (M := M) (i := j + 1) (by omega)
            have hr := hM.get (i := j + 1) (by omega)
            have g3 := nv_len (M.getD (j + 1) [])
            rw [hr.1] at g3
            have gm := minorL_get (k := k) (j := j) (M := M) (by omega)
            have g4 := imR_take (w := n) (M := minorL M k) (i := j) (by omega)
            rw [gm] at g4
            have g5 := imR_len n ((minorL M k).take j)
            rw [List.length_take, hmc, Nat.min_eq_left hj] at g5
            have g6 : (imR n (nR ((minorL M k).take j))).take j = imR n (nR ((minorL M k).take j)) := List.take_of_length_le (by omega)
            have hc := cutL_rw (k := k) (hw ▸ hr) (by omega)
            have t1 : ((k : Int) + 1).toNat = k + 1 := by omega
            unfold cutL at hc g4
            generalize M.getD (j + 1) [] = r at *
            have t2 : (nv r).take k = nv (r.take k) := by simp [nv, List.map_take]
            have t3 := nv_len (r.take k)
            have t4 := nv_one (r.take k)
            have hrl := hr.1
            rw [List.length_take, hrl, Nat.min_eq_left hk] at t3
            have t5 : ((nv r).drop (k + 1)).take (w - (k + 1)) = nv (r.drop (k + 1)) := by
              rw [nv_drop]; exact List.take_of_length_le (by rw [nv_len, List.length_drop, hrl]; exact Nat.le_refl _)
            have t6 := nv_len (r.drop (k + 1))
            have t7 := nv_one (r.drop (k + 1))
            rw [List.length_drop, hrl] at t6
            have t8 : (nv (r.take k)).take k = nv (r.take k) := List.take_of_length_le (by omega)
            have t9 := nv_app (r.take k) (r.drop (k + 1))
            have t10 : (nv (r.drop (k + 1))).take (w - (k + 1)) = nv (r.drop (k + 1)) := List.take_of_length_le (by omega)
            generalize hm : w - (k + 1) = m at *
            (repeat (first | refine DO.nil (by kernel_rfl) ?_ | (with_reducible first | apply oz1 | apply oz2 | apply oz3 | apply oz4 | apply oz5 | apply oz6 | apply oz7 | apply oz8 | apply oz9 | apply ozb | apply ozc | apply oze | apply ozf | apply ozg | apply ozh | apply ozi | apply ozj | apply ozk | refine ozd (by decide) ?_) | ((first | apply SO.call | apply DO.call); (iterate 3 (focus (simp (disch := omega) only [go_sem, ↓reduceIte, Nat.reduceEqDiff, Nat.reduceLT, Nat.reduceLeDiff, Nat.reduceAdd, Nat.reduceMul, Nat.reduceSub, reduceCtorEq, Nat.reduceBEq, Int.reduceToNat, Int.reducePow, if_pos, if_neg, q2, gl, hl, g1, g3, g5, g6, t1, t2, t3, t4, t5, t6, t7, t8, t9, t10, hm, List.getElem?_drop] <;> rfl))); (first | apply SCall.ofX | apply DCall.ofX); (focus (first | assumption)); (focus (simp (disch := omega) only [go_sem, ↓reduceIte, Nat.reduceEqDiff, Nat.reduceLT, Nat.reduceLeDiff, Nat.reduceAdd, Nat.reduceMul, Nat.reduceSub, reduceCtorEq, Nat.reduceBEq, Int.reduceToNat, Int.reducePow, if_pos, if_neg, q2, gl, hl, g1, g3, g5, g6, t1, t2, t3, t4, t5, t6, t7, t8, t9, t10, hm, List.getElem?_drop] <;> rfl))) | ((with_reducible first | apply SC.condB | apply SC.region | apply SO.run | apply DO.run); (focus (simp (disch := omega) only [go_sem, ↓reduceIte, Nat.reduceEqDiff, Nat.reduceLeDiff, Nat.reduceAdd, reduceCtorEq, if_pos, q2, gl, g1, g5, g6, t1, t2, t3, t4, t5, t6, t7, t8, t9, hm, List.getElem?_drop] <;> rfl)); (first | refine pickT ?_ | refine pickF ?_ | fail_if_success with_reducible refine pickA ?_)) | ((with_reducible refine SC.draw Tab.mixed ?_ ?_); (focus (first | rfl | simp (disch := omega) only [go_sem, ↓reduceIte, Nat.reduceEqDiff, Nat.reduceLT, Nat.reduceLeDiff, Nat.reduceAdd, Nat.reduceMul, Nat.reduceSub, reduceCtorEq, Nat.reduceBEq, Int.reduceToNat, Int.reducePow, if_pos, if_neg, q2, gl, hl, g1, g3, g5, g6, t1, t2, t3, t4, t5, t6, t7, t8, t9, t10, hm, List.getElem?_drop]))) | (with_reducible apply SC.ops)))
            have hkm : k + m = n := by omega
            have t11 := nv_clo (r.take k ++ r.drop (k + 1))
            have t12 := nv_len (r.take k ++ r.drop (k + 1))
            rw [hc.1] at t12
            have t13 : (nv (r.take k ++ r.drop (k + 1))).take n = nv (r.take k ++ r.drop (k + 1)) := List.take_of_length_le (by omega)
            refine hK2 _ (j + 1) ?_ (by omega) (by omega)
            rw [hkm, ← g4]
            refine appRow (pre := [.sc (.int .u64 p), .sc (.int .i64 n)]) (y := .im (nv (r.take k ++ r.drop (k + 1))) n) (ids := [5]) 1 2 7 hB (by simp (disch := omega) only [go_sem, ↓reduceIte, Nat.reduceEqDiff] <;> rfl) (by simp (disch := omega) only [go_sem, ↓reduceIte] <;> rfl) (by simp (disch := omega) only [go_sem, ↓reduceIte, Nat.reduceEqDiff, if_pos, t11, t12, t13] <;> rfl) rfl (imR_clo _ _) rfl (by omega) (by omega) (by simp) (by simp) ?_ (by omega) ?_
            · exact ⟨⟨by omega, by omega, by omega, by simp, by simp (disch := omega) only [go_sem, ↓reduceIte, reduceCtorEq] <;> rfl, rfl⟩, trivial⟩
            · (repeat' (first | exact trivial | refine mapSl_cons (by simp (disch := omega) only [go_sem, ↓reduceIte, Nat.reduceEqDiff] <;> rfl) ?_ ?_ | exact VMap.junk _ | exact VMap.sc _ | exact VMap.clo rfl | exact VMap.sl rfl (by omega) | exact VMap.cap rfl (by omega) | exact VMap.pt rfl (by omega) | exact VMap.nil_sl _ _ _ | exact VMap.int (by first | rfl | omega | (dsimp only; omega))))
          · have q2 := decide_eq_false (p := ((j + 1 : Nat) : Int) < (w : Int)) (by omega)
            have hjn' : j = n := by omega
            subst hjn'
            rw [List.take_of_length_le (by omega)]
            have g2 := imR_len j (minorL M k)
            rw [hmc] at g2
            have g3 := imR_clo j (nR (minorL M k))
            have g4 : (imR j (nR (minorL M k))).take j = imR j (nR (minorL M k)) := List.take_of_length_le (by omega)
            have c1 := ih k (by omega)
            have hr := hM.get (i := 0) (by omega)
            have g5 := imR_get (w := w) (M := M) (i := 0) (by omega)
            have g6 := nv_get (r := M.getD 0 []) (j := k) (by rw [hr.1]; exact hkw)
            have g7 := nv_len (M.getD 0 [])
            rw [hr.1] at g7
            have he : (M.getD 0 []).getD k 0 = ent M 0 k := rfl
            rw [he] at g6
            have hel := hM.lt (i := 0) (j := k) (by omega) hkw
            have hfl := hll k
            rw [hfk] at c1 hfl
            have c2 := rMul_s p (f k) (ent M 0 k) (by omega) (by omega) hfl hel
            have hx := Nat.mod_lt (f k * ent M 0 k) (y := p) (by omega)
            have c3 := rSub0_s p (f k * ent M 0 k % p) (by omega) (by omega) hx
            have hn1 : lapTo p f M (k + 1) = (lapTo p f M k + lapT p f M k) % p := rfl
            have e2 : ((k : Int)).tmod 2 = ((k % 2 : Nat) : Int) := by
              rw [Int.tmod_eq_emod_of_nonneg (by omega)]; omega
            (repeat (first | refine DO.nil (by kernel_rfl) ?_ | (with_reducible first | apply oz1 | apply oz2 | apply oz3 | apply oz4 | apply oz5 | apply oz6 | apply oz7 | apply oz8 | apply oz9 | apply ozb | apply ozc | apply oze | apply ozf | apply ozg | apply ozh | apply ozi | apply ozj | apply ozk | refine ozd (by decide) ?_) | ((first | apply SO.call | apply DO.call); (iterate 3 (focus (simp (disch := omega) only [go_sem, ↓reduceIte, Nat.reduceEqDiff, if_pos, g2, g3, g4] <;> rfl))); (first | apply SCall.ofX | apply DCall.ofX); (focus (first | assumption)); (focus (simp (disch := omega) only [go_sem] <;> rfl))) | ((with_reducible first | apply SC.condB | apply SC.region | apply SO.run | apply DO.run); (focus (simp (disch := omega) only [go_sem, ↓reduceIte, Nat.reduceEqDiff, Nat.reduceLeDiff, Nat.reduceAdd, reduceCtorEq, Int.reduceToNat, if_pos, if_neg, q2, g5, g6, g7, e2, gl, List.getElem?_drop] <;> rfl)); (first | refine pickT ?_ | refine pickF ?_ | fail_if_success with_reducible refine pickA ?_)) | ((with_reducible refine SC.draw Tab.mixed ?_ ?_); (focus (first | rfl | simp (disch := omega) only [go_sem, ↓reduceIte, Nat.reduceEqDiff, Nat.reduceLT, Nat.reduceLeDiff, Nat.reduceAdd, Nat.reduceMul, Nat.reduceSub, reduceCtorEq, Nat.reduceBEq, Int.reduceToNat, Int.reducePow, if_pos, if_neg, q2, g2, g3, g4, g5, g6, g7, e2, gl, hl, List.getElem?_drop]))) | (with_reducible apply SC.ops)))
            have hto := hlt k
            by_cases hk2 : k % 2 = 1
            · have q4 : (((k % 2 : Nat) : Int) == 1) = true := by rw [hk2]; rfl
              have hT : lapT p f M k = (0 + p - f k * ent M 0 k % p) % p := by unfold lapT; rw [if_pos hk2]
              rw [hT] at hn1
              have c4 := rAdd_s p (lapTo p f M k) ((0 + p - f k * ent M 0 k % p) % p) (by omega) (by omega) hto (Nat.mod_lt _ (by omega))
              rw [← hn1] at c4
              clear hn1 hT
              generalize (0 + p - f k * ent M 0 k % p) % p = y at *
              generalize f k * ent M 0 k % p = x at *
              (repeat (first | refine DO.nil (by kernel_rfl) ?_ | (with_reducible first | apply oz1 | apply oz2 | apply oz3 | apply oz4 | apply oz5 | apply oz6 | apply oz7 | apply oz8 | apply oz9 | apply ozb | apply ozc | apply oze | apply ozf | apply ozg | apply ozh | apply ozi | apply ozj | apply ozk | refine ozd (by decide) ?_) | ((first | apply SO.call | apply DO.call); (iterate 3 (focus (simp (disch := omega) only [go_sem, ↓reduceIte, Nat.reduceEqDiff] <;> rfl))); (first | apply SCall.ofX | apply DCall.ofX); (focus (first | assumption)); (focus (simp (disch := omega) only [go_sem] <;> rfl))) | ((with_reducible first | apply SC.condB | apply SC.region | apply SO.run | apply DO.run); (focus (simp (disch := omega) only [go_sem, ↓reduceIte, Nat.reduceEqDiff, reduceCtorEq, q4] <;> rfl)); (first | refine pickT ?_ | refine pickF ?_ | fail_if_success with_reducible refine pickA ?_)) | ((with_reducible refine SC.draw Tab.mixed ?_ ?_); (focus (first | rfl | simp (disch := omega) only [go_sem, ↓reduceIte, Nat.reduceEqDiff, Nat.reduceLT, Nat.reduceLeDiff, Nat.reduceAdd, Nat.reduceMul, Nat.reduceSub, reduceCtorEq, Nat.reduceBEq, Int.reduceToNat, Int.reducePow, if_pos, if_neg, q4]))) | (with_reducible apply SC.ops)))
              refine hK _ (k + 1) ?_ (by omega) (by omega)
              (refine Le.of [] hB (by first | exact ⟨Nat.zero_le _, fun _ _ => Nat.zero_le _⟩ | (constructor <;> (try simp) <;> (try omega))) ?_ ?_ <;> (repeat' (first | exact leSl_nil | exact leHp_nil | refine leSl_cons (by simp (disch := omega) only [go_sem, ↓reduceIte, Nat.reduceEqDiff]; rfl) ?_ ?_ | refine leHp_cons (by simp (disch := omega) only [go_sem, ↓reduceIte, reduceCtorEq]; rfl) ?_ ?_ | exact VLe.junk _ | exact VLe.refl rfl | exact VLe.nil_sl _ _ _ | exact VLe.int (by first | rfl | omega | (dsimp only; omega)) | exact VLe.bool rfl | exact VLe.sl rfl (by first | rfl | omega | (dsimp only; omega) | (simp; done)) | exact VLe.cap rfl (by first | rfl | omega | (dsimp only; omega) | (simp; done)) | exact VLe.im rfl rfl | exact HLe.new rfl | exact HLe.same rfl (LLe.refl rfl) | refine HLe.same rfl ?_ | exact LLe.nil _ | exact LLe.refl rfl | refine LLe.cons ?_ ?_)))
            · have q4 : (((k % 2 : Nat) : Int) == 1) = false := by rw [beq_eq_false_iff_ne]; omega
              have hT : lapT p f M k = f k * ent M 0 k % p := by unfold lapT; rw [if_neg hk2]
              rw [hT] at hn1
              have c4 := rAdd_s p (lapTo p f M k) (f k * ent M 0 k % p) (by omega) (by omega) hto hx
              rw [← hn1] at c4
              clear hn1 hT
              generalize f k * ent M 0 k % p = x at *
              (repeat (first | refine DO.nil (by kernel_rfl) ?_ | (with_reducible first | apply oz1 | apply oz2 | apply oz3 | apply oz4 | apply oz5 | apply oz6 | apply oz7 | apply oz8 | apply oz9 | apply ozb | apply ozc | apply oze | apply ozf | apply ozg | apply ozh | apply ozi | apply ozj | apply ozk | refine ozd (by decide) ?_) | ((first | apply SO.call | apply DO.call); (iterate 3 (focus (simp (disch := omega) only [go_sem, ↓reduceIte, Nat.reduceEqDiff] <;> rfl))); (first | apply SCall.ofX | apply DCall.ofX); (focus (first | assumption)); (focus (simp (disch := omega) only [go_sem] <;> rfl))) | ((with_reducible first | apply SC.condB | apply SC.region | apply SO.run | apply DO.run); (focus (simp (disch := omega) only [go_sem, ↓reduceIte, Nat.reduceEqDiff, reduceCtorEq, q4] <;> rfl)); (first | refine pickT ?_ | refine pickF ?_ | fail_if_success with_reducible refine pickA ?_)) | ((with_reducible refine SC.draw Tab.mixed ?_ ?_); (focus (first | rfl | simp (disch := omega) only [go_sem, ↓reduceIte, Nat.reduceEqDiff, Nat.reduceLT, Nat.reduceLeDiff, Nat.reduceAdd, Nat.reduceMul, Nat.reduceSub, reduceCtorEq, Nat.reduceBEq, Int.reduceToNat, Int.reducePow, if_pos, if_neg, q4]))) | (with_reducible apply SC.ops)))
              refine hK _ (k + 1) ?_ (by omega) (by omega)
              (refine Le.of [] hB (by first | exact ⟨Nat.zero_le _, fun _ _ => Nat.zero_le _⟩ | (constructor <;> (try simp) <;> (try omega))) ?_ ?_ <;> (repeat' (first | exact leSl_nil | exact leHp_nil | refine leSl_cons (by simp (disch := omega) only [go_sem, ↓reduceIte, Nat.reduceEqDiff]; rfl) ?_ ?_ | refine leHp_cons (by simp (disch := omega) only [go_sem, ↓reduceIte, reduceCtorEq]; rfl) ?_ ?_ | exact VLe.junk _ | exact VLe.refl rfl | exact VLe.nil_sl _ _ _ | exact VLe.int (by first | rfl | omega | (dsimp only; omega)) | exact VLe.bool rfl | exact VLe.sl rfl (by first | rfl | omega | (dsimp only; omega) | (simp; done)) | exact VLe.cap rfl (by first | rfl | omega | (dsimp only; omega) | (simp; done)) | exact VLe.im rfl rfl | exact HLe.new rfl | exact HLe.same rfl (LLe.refl rfl) | refine HLe.same rfl ?_ | exact LLe.nil _ | exact LLe.refl rfl | refine LLe.cons ?_ ?_)))
      · have q1 := decide_eq_false (p := (k : Int) < (w : Int)) (by omega)
        have hkw' : k = w := by omega
        rw [hkw'] at q1 ⊢
        (repeat (first | refine DO.nil (by kernel_rfl) ?_ | (with_reducible first | apply oz1 | apply oz2 | apply oz3 | apply oz4 | apply oz5 | apply oz6 | apply oz7 | apply oz8 | apply oz9 | apply ozb | apply ozc | apply oze | apply ozf | apply ozg | apply ozh | apply ozi | apply ozj | apply ozk | refine ozd (by decide) ?_) | ((first | apply SO.call | apply DO.call); (iterate 3 (focus (simp (disch := omega) only [go_sem, ↓reduceIte, Nat.reduceEqDiff, Nat.reduceLT, Nat.reduceLeDiff, Nat.reduceAdd, Nat.reduceMul, Nat.reduceSub, reduceCtorEq, Nat.reduceBEq, Int.reduceToNat, Int.reducePow, if_pos, if_neg, q1] <;> rfl))); (first | apply SCall.ofX | apply DCall.ofX); (focus (first | assumption)); (focus (simp (disch := omega) only [go_sem, ↓reduceIte, Nat.reduceEqDiff, Nat.reduceLT, Nat.reduceLeDiff, Nat.reduceAdd, Nat.reduceMul, Nat.reduceSub, reduceCtorEq, Nat.reduceBEq, Int.reduceToNat, Int.reducePow, if_pos, if_neg, q1] <;> rfl))) | ((with_reducible first | apply SC.condB | apply SC.region | apply SO.run | apply DO.run); (focus (simp (disch := omega) only [go_sem, ↓reduceIte, Nat.reduceEqDiff, Nat.reduceLT, reduceCtorEq, q1] <;> rfl)); (first | refine pickT ?_ | refine pickF ?_ | fail_if_success with_reducible refine pickA ?_)) | ((with_reducible refine SC.draw Tab.mixed ?_ ?_); (focus (first | rfl | simp (disch := omega) only [go_sem, ↓reduceIte, Nat.reduceEqDiff, Nat.reduceLT, Nat.reduceLeDiff, Nat.reduceAdd, Nat.reduceMul, Nat.reduceSub, reduceCtorEq, Nat.reduceBEq, Int.reduceToNat, Int.reducePow, if_pos, if_neg, q1]))) | (with_reducible apply SC.ops)))
        exact retQ_ret Try.results17 (by simp (disch := omega) only [go_sem, ↓reduceIte, Nat.reduceEqDiff] <;> rfl) (by simp (disch := omega) only [go_sem, ↓reduceIte] <;> rfl) rfl
end Go.Proofs.Ytpbomhmflllemaa

/- Determinants of at most four rows over a commutative ring. -/
namespace Go.Proofs.Ytpbomhmflllemaa
section det
variable {K : Type} [Lean.Grind.CommRing K]

/-- the minor of the first row's place k -/
def mnr (A : Nat → Nat → K) (k i j : Nat) : K := A (i + 1) (if j < k then j else j + 1)
def sgk (k : Nat) (x : K) : K := if k % 2 = 1 then -x else x
/-- the determinant, by expansion along the first row -/
def dt : Nat → (Nat → Nat → K) → K
  | 0, _ => 1
  | n + 1, A => sg (fun k => sgk k (dt n (mnr A k) * A 0 k)) (n + 1)

theorem dt_congr : ∀ {n : Nat} {A B : Nat → Nat → K}, (∀ i j, i < n → j < n → A i j = B i j) → dt n A = dt n B
  | 0, _, _, _ => rfl
  | n + 1, A, B, h => by
    unfold dt
    refine sg_congr fun k hk => ?_
    rw [h 0 k (by omega) hk, dt_congr (A := mnr A k) (B := mnr B k)]
    intro i j hi hj
    unfold mnr
    exact h _ _ (by omega) (by split <;> omega)

theorem sgk_add (k : Nat) (x y : K) : sgk k (x + y) = sgk k x + sgk k y := by unfold sgk; split <;> grind
theorem sgk_mul (k : Nat) (a x : K) : sgk k (a * x) = a * sgk k x := by unfold sgk; split <;> grind

/-- linear in each row -/
theorem dt_lin : ∀ {n i : Nat} {A B C : Nat → Nat → K} {a b : K}, i < n → (∀ j, j < n → A i j = a * B i j + b * C i j) → (∀ r j, r < n → j < n → r ≠ i → A r j = B r j ∧ A r j = C r j) → dt n A = a * dt n B + b * dt n C
  | 0, _, _, _, _, _, _, hi, _, _ => by omega
  | n + 1, 0, A, B, C, a, b, _, h1, h2 => by
    unfold dt
    rw [← sg_mul, ← sg_mul, ← sg_add]
    refine sg_congr fun k hk => ?_
    rw [h1 k hk]
    have eB : dt n (mnr A k) = dt n (mnr B k) := dt_congr fun i j hi hj => (h2 _ _ (by omega) (by split <;> omega) (by omega)).1
    have eC : dt n (mnr A k) = dt n (mnr C k) := dt_congr fun i j hi hj => (h2 _ _ (by omega) (by split <;> omega) (by omega)).2
    rw [← sgk_mul, ← sgk_mul, ← sgk_add, ← eB, ← eC]
    congr 1
    grind
  | n + 1, i + 1, A, B, C, a, b, hi, h1, h2 => by
    unfold dt
    rw [← sg_mul, ← sg_mul, ← sg_add]
    refine sg_congr fun k hk => ?_
    have := dt_lin (n := n) (i := i) (A := mnr A k) (B := mnr B k) (C := mnr C k) (a := a) (b := b) (by omega) (fun j hj => h1 _ (by split <;> omega)) (fun r j hr hj hne => h2 _ _ (by omega) (by split <;> omega) (by omega))
    rw [this, ← sgk_mul, ← sgk_mul, ← sgk_add, ← (h2 0 k (by omega) hk (by omega)).1, ← (h2 0 k (by omega) hk (by omega)).2]
    congr 1
    grind

/-- a row in the place of another -/
def rw1 (A : Nat → Nat → K) (i : Nat) (r : Nat → K) (k j : Nat) : K := if k = i then r j else A k j

omit [Lean.Grind.CommRing K] in
theorem rw1_self (A : Nat → Nat → K) (i : Nat) : rw1 A i (A i) = A := by
  funext k j; unfold rw1; split
  · rename_i h; rw [h]
  · rfl
theorem dt_row {n i : Nat} {A : Nat → Nat → K} {r u : Nat → K} {a b : K} (hi : i < n) : dt n (rw1 A i fun j => a * r j + b * u j) = a * dt n (rw1 A i r) + b * dt n (rw1 A i u) :=
  dt_lin hi (fun j _ => by simp [rw1]) (fun k j _ _ hne => by simp [rw1, hne])
theorem dt_zero {n i : Nat} {A : Nat → Nat → K} {r : Nat → K} (hi : i < n) (h : ∀ j, j < n → r j = 0) : dt n (rw1 A i r) = 0 := by
  have := dt_row (n := n) (i := i) (A := A) (r := fun _ => 0) (u := fun _ => 0) (a := 0) (b := 0) hi
  have e : dt n (rw1 A i r) = dt n (rw1 A i fun j => (0 : K) * (0 : K) + 0 * 0) := dt_congr fun k j _ hj => by
    unfold rw1; split
    · rw [h j hj]; grind
    · rfl
  rw [e, this]; grind
theorem dt_sum {n i : Nat} {A : Nat → Nat → K} {R : Nat → Nat → K} {x : Nat → K} (hi : i < n) : ∀ m : Nat, dt n (rw1 A i fun j => sg (fun k => x k * R k j) m) = sg (fun k => x k * dt n (rw1 A i (R k))) m
  | 0 => dt_zero hi fun _ _ => rfl
  | m + 1 => by
    have := dt_row (n := n) (i := i) (A := A) (r := fun j => sg (fun k => x k * R k j) m) (u := R m) (a := 1) (b := x m) hi
    have e : dt n (rw1 A i fun j => sg (fun k => x k * R k j) (m + 1)) = dt n (rw1 A i fun j => (1 : K) * sg (fun k => x k * R k j) m + x m * R m j) := dt_congr fun k j _ _ => by
      unfold rw1; split
      · show sg (fun k => x k * R k j) (m + 1) = _
        simp only [sg]; grind
      · rfl
    rw [e, this, dt_sum hi m]
    show _ = sg (fun k => x k * dt n (rw1 A i (R k))) m + x m * dt n (rw1 A i (R m))
    grind

/-- two rows alike, at most four rows -/
theorem dt_alt {n : Nat} (hn : n ≤ 4) {A : Nat → Nat → K} {i k : Nat} (hk : k < n) (hik : i < k) (h : ∀ j, j < n → A i j = A k j) : dt n A = 0 := by
  rcases (by omega : n = 2 ∨ n = 3 ∨ n = 4 ∨ n = 0 ∨ n = 1) with rfl | rfl | rfl | rfl | rfl
  · have h0 := h 0 (by omega); have h1 := h 1 (by omega)
    obtain ⟨rfl, rfl⟩ : i = 0 ∧ k = 1 := by omega
    simp [dt, sg, mnr, sgk, h0, h1]; grind
  · have h0 := h 0 (by omega); have h1 := h 1 (by omega); have h2 := h 2 (by omega)
    rcases (by omega : (i = 0 ∧ k = 1) ∨ (i = 0 ∧ k = 2) ∨ (i = 1 ∧ k = 2)) with ⟨rfl, rfl⟩ | ⟨rfl, rfl⟩ | ⟨rfl, rfl⟩ <;>
    · simp [dt, sg, mnr, sgk, h0, h1, h2]; grind
  · have h0 := h 0 (by omega); have h1 := h 1 (by omega); have h2 := h 2 (by omega); have h3 := h 3 (by omega)
    rcases (by omega : (i = 0 ∧ k = 1) ∨ (i = 0 ∧ k = 2) ∨ (i = 0 ∧ k = 3) ∨ (i = 1 ∧ k = 2) ∨ (i = 1 ∧ k = 3) ∨ (i = 2 ∧ k = 3)) with ⟨rfl, rfl⟩ | ⟨rfl, rfl⟩ | ⟨rfl, rfl⟩ | ⟨rfl, rfl⟩ | ⟨rfl, rfl⟩ | ⟨rfl, rfl⟩ <;>
    · simp [dt, sg, mnr, sgk, h0, h1, h2, h3]; grind
  · omega
  · omega

theorem dt_alt' {n : Nat} (hn : n ≤ 4) {A : Nat → Nat → K} {i k : Nat} (hi : i < n) (hk : k < n) (hik : i ≠ k) (h : ∀ j, j < n → A i j = A k j) : dt n A = 0 := by
  rcases Nat.lt_or_ge i k with g | g
  · exact dt_alt hn hk g h
  · exact dt_alt hn hi (by omega) fun j hj => (h j hj).symm
/-- another row added -/
theorem dt_add {n : Nat} (hn : n ≤ 4) {A B : Nat → Nat → K} {i k : Nat} {a : K} (hi : i < n) (hk : k < n) (hik : i ≠ k) (h1 : ∀ j, j < n → B i j = A i j + a * A k j) (h2 : ∀ r j, r < n → j < n → r ≠ i → B r j = A r j) : dt n B = dt n A := by
  have h := dt_lin (n := n) (i := i) (A := B) (B := A) (C := rw1 A i (A k)) (a := 1) (b := a) hi (fun j hj => by rw [h1 j hj]; simp only [rw1, if_pos]; grind) (fun r j hr hj hne => ⟨h2 r j hr hj hne, by rw [h2 r j hr hj hne]; simp [rw1, hne]⟩)
  have h0 : dt n (rw1 A i (A k)) = 0 := dt_alt' hn hi hk hik fun j _ => by simp [rw1, Ne.symm hik]
  rw [h, h0]; grind
/-- two rows changed for one another -/
theorem dt_swap {n : Nat} (hn : n ≤ 4) {A B : Nat → Nat → K} {i k : Nat} (hi : i < n) (hk : k < n) (hik : i ≠ k) (h1 : ∀ j, j < n → B i j = A k j) (h2 : ∀ j, j < n → B k j = A i j) (h3 : ∀ r j, r < n → j < n → r ≠ i → r ≠ k → B r j = A r j) : dt n B = - dt n A := by
  -- row i + row k in both places
  let u : Nat → K := fun j => A i j + A k j
  have e0 : dt n (rw1 (rw1 A i u) k u) = 0 := dt_alt' hn hi hk hik fun j _ => by simp [rw1]
  have e1 : dt n (rw1 (rw1 A i u) k u) = 1 * dt n (rw1 A k u) + 1 * dt n (rw1 (rw1 A i (A k)) k u) := by
    refine dt_lin hi (fun j _ => ?_) (fun r j _ _ hne => ?_)
    · simp only [rw1, if_neg hik, if_pos, u]; grind
    · simp [rw1, hne]
  have e2 : dt n (rw1 A k u) = 1 * dt n (rw1 A k (A i)) + 1 * dt n A := by
    refine dt_lin hk (fun j _ => ?_) (fun r j _ _ hne => ?_)
    · simp only [rw1, if_pos, u]; grind
    · simp [rw1, hne]
  have e3 : dt n (rw1 (rw1 A i (A k)) k u) = 1 * dt n B + 1 * dt n (rw1 A i (A k)) := by
    refine dt_lin hk (fun j hj => ?_) (fun r j hr hj hne => ?_)
    · simp only [rw1, if_pos, if_neg (Ne.symm hik), u]; rw [h2 j hj]; grind
    · by_cases e : r = i
      · subst e; simp [rw1, hne]; exact (h1 j hj).symm
      · simp [rw1, hne, e]; exact (h3 r j hr hj e hne).symm
  have e4 : dt n (rw1 A k (A i)) = 0 := dt_alt' hn hi hk hik fun j _ => by simp [rw1, hik]
  have e5 : dt n (rw1 A i (A k)) = 0 := dt_alt' hn hi hk hik fun j _ => by simp [rw1, Ne.symm hik]
  rw [e2, e3, e4, e5, e0] at e1
  grind
/-- rows that depend on one another -/
theorem dt_dep {n : Nat} (hn : n ≤ 4) {A : Nat → Nat → K} {x : Nat → K} {i : Nat} {b : K} (hi : i < n) (hb : b * x i = 1) (h : ∀ j, j < n → sg (fun k => x k * A k j) n = 0) : dt n A = 0 := by
  have h1 := dt_sum (n := n) (i := i) (A := A) (R := A) (x := x) hi n
  rw [dt_zero hi h, sg_one (k := i) hi, rw1_self] at h1
  · have : b * (x i * dt n A) = 0 := by rw [← h1]; grind
    grind
  · intro k hk hne
    rw [dt_alt' hn hi hk (Ne.symm hne) fun j _ => by simp [rw1, hne]]; grind
/-- the product of the first k on the diagonal -/
def dg (A : Nat → Nat → K) : Nat → K
  | 0 => 1
  | k + 1 => dg A k * A k k
theorem dt_upper {n : Nat} (hn : n ≤ 4) {A : Nat → Nat → K} (h : ∀ i j, i < n → j < i → A i j = 0) : dt n A = dg A n := by
  rcases (by omega : n = 2 ∨ n = 3 ∨ n = 4 ∨ n = 0 ∨ n = 1) with rfl | rfl | rfl | rfl | rfl
  · have h0 := h 1 0 (by omega) (by omega)
    simp [dt, sg, mnr, sgk, dg, h0]; grind
  · have h0 := h 1 0 (by omega) (by omega); have h1 := h 2 0 (by omega) (by omega); have h2 := h 2 1 (by omega) (by omega)
    simp [dt, sg, mnr, sgk, dg, h0, h1, h2]; grind
  · have h0 := h 1 0 (by omega) (by omega); have h1 := h 2 0 (by omega) (by omega); have h2 := h 2 1 (by omega) (by omega)
    have h3 := h 3 0 (by omega) (by omega); have h4 := h 3 1 (by omega) (by omega); have h5 := h 3 2 (by omega) (by omega)
    simp [dt, sg, mnr, sgk, dg, h0, h1, h2, h3, h4, h5]; grind
  · rfl
  · simp [dt, sg, sgk, dg]; grind
theorem dt_turn {n : Nat} (hn : n ≤ 4) {A B : Nat → Nat → K} (h : ∀ i j, i < n → j < n → B i j = A j i) : dt n B = dt n A := by
  rw [dt_congr h]
  rcases (by omega : n = 2 ∨ n = 3 ∨ n = 4 ∨ n = 0 ∨ n = 1) with rfl | rfl | rfl | rfl | rfl
  · simp [dt, sg, mnr, sgk]; grind
  · simp [dt, sg, mnr, sgk]; grind
  · simp [dt, sg, mnr, sgk]; grind
  · rfl
  · simp [dt, sg, sgk]
/-- the product of two matrices -/
def mulM (n : Nat) (A B : Nat → Nat → K) (i j : Nat) : K := sg (fun k => A i k * B k j) n
/-- the determinant of a product, as a function of the one factor -/
def dtm (n : Nat) (A B : Nat → Nat → K) : K := dt n (mulM n A B)
theorem dtm_congr {n : Nat} {A A' B : Nat → Nat → K} (h : ∀ i j, i < n → j < n → A i j = A' i j) : dtm n A B = dtm n A' B :=
  dt_congr fun i j hi _ => sg_congr fun k hk => by rw [h i k hi hk]
theorem dtm_add {n : Nat} (hn : n ≤ 4) {A A' B : Nat → Nat → K} {i k : Nat} {a : K} (hi : i < n) (hk : k < n) (hik : i ≠ k) (h1 : ∀ j, j < n → A' i j = A i j + a * A k j) (h2 : ∀ r j, r < n → j < n → r ≠ i → A' r j = A r j) : dtm n A' B = dtm n A B := by
  refine dt_add hn hi hk hik (a := a) (fun j _ => ?_) (fun r j hr _ hne => sg_congr fun l hl => by rw [h2 r l hr hl hne])
  unfold mulM
  rw [← sg_mul, ← sg_add]
  exact sg_congr fun l hl => by rw [h1 l hl]; grind
theorem dtm_swap {n : Nat} (hn : n ≤ 4) {A A' B : Nat → Nat → K} {i k : Nat} (hi : i < n) (hk : k < n) (hik : i ≠ k) (h1 : ∀ j, j < n → A' i j = A k j) (h2 : ∀ j, j < n → A' k j = A i j) (h3 : ∀ r j, r < n → j < n → r ≠ i → r ≠ k → A' r j = A r j) : dtm n A' B = - dtm n A B :=
  dt_swap hn hi hk hik (fun j _ => sg_congr fun l hl => by rw [h1 l hl]) (fun j _ => sg_congr fun l hl => by rw [h2 l hl]) (fun r j hr _ a b => sg_congr fun l hl => by rw [h3 r l hr hl a b])
theorem dtm_dep {n : Nat} (hn : n ≤ 4) {A B : Nat → Nat → K} {x : Nat → K} {i : Nat} {b : K} (hi : i < n) (hb : b * x i = 1) (h : ∀ j, j < n → sg (fun k => x k * A k j) n = 0) : dtm n A B = 0 := by
  refine dt_dep hn (x := x) hi hb fun j _ => ?_
  unfold mulM
  rw [sg_congr (g := fun k => sg (fun l => x k * A k l * B l j) n) fun k _ => by rw [← sg_mul]; exact sg_congr fun l _ => by grind, sg_comm (fun k l => x k * A k l * B l j)]
  refine sg_zero fun l hl => ?_
  rw [sg_mulr, h l hl]; grind
theorem dtm_upper {n : Nat} (hn : n ≤ 4) {A B : Nat → Nat → K} (h : ∀ i j, i < n → j < i → A i j = 0) : dtm n A B = dg A n * dt n B := by
  -- the rows from t on are those of B
  let W : Nat → Nat → Nat → K := fun t i j => if i < t then mulM n A B i j else B i j
  have step : ∀ t, t < n → dt n (W (t + 1)) = A t t * dt n (W t) := by
    intro t ht
    have e : dt n (W (t + 1)) = dt n (rw1 (W t) t fun j => sg (fun k => A t k * B k j) n) := dt_congr fun i j _ _ => by
      simp only [W, rw1]
      by_cases e : i = t
      · subst e; rw [if_pos (by omega), if_pos rfl]; rfl
      · rw [if_neg e]
        by_cases g : i < t
        · rw [if_pos (by omega), if_pos g]
        · rw [if_neg (by omega), if_neg g]
    rw [e, dt_sum ht n, sg_one (k := t) ht]
    · congr 1
      refine dt_congr fun i j _ _ => ?_
      simp only [W, rw1]
      by_cases e : i = t
      · subst e; rw [if_pos rfl, if_neg (by omega)]
      · rw [if_neg e]
    · intro k hk hne
      rcases Nat.lt_or_ge k t with g | g
      · rw [h t k ht g]; grind
      · rw [dt_alt' hn ht hk (Ne.symm hne) fun j _ => by simp only [W, rw1]; rw [if_pos trivial, if_neg hne, if_neg (by omega)]]; grind
  have all : ∀ t, t ≤ n → dt n (W t) = dg A t * dt n B := by
    intro t
    induction t with
    | zero => intro _; rw [dg, show W 0 = B from by funext i j; simp [W]]; grind
    | succ t ih => intro ht; rw [step t (by omega), ih (by omega), dg]; grind
  rw [← all n (Nat.le_refl _)]
  exact dt_congr fun i j hi _ => by simp only [W, if_pos hi]
/-- rows that have no place left -/
theorem dtm_none (h10 : (1 : K) ≠ 0) (hinv : ∀ a : K, a ≠ 0 → ∃ b, a * b = 1) {n k : Nat} (hn : n ≤ 4) {A B : Nat → Nat → K} (hk : k < n) (h : ∀ i j, k ≤ i → i < n → j ≤ k → A i j = 0) : dtm n A B = 0 := by
  obtain ⟨x, ⟨i, hi, hx⟩, hs⟩ := kernel_ex h10 hinv (n - (k + 1)) (fun i j => A (k + i) (k + 1 + j))
  obtain ⟨b, hb⟩ := hinv _ hx
  refine dtm_dep hn (x := fun r => if r < k then 0 else x (r - k)) (i := k + i) (b := b) (by omega) ?_ fun j hj => ?_
  · simp only [if_neg (show ¬ k + i < k by omega), show k + i - k = i by omega]; grind
  · have e : n = k + (n - (k + 1) + 1) := by omega
    rw [e, sg_split, sg_zero fun r hr => by simp only [if_pos hr]; grind]
    rw [sg_congr (g := fun r => x r * A (k + r) j) fun r _ => by simp only [if_neg (show ¬ k + r < k by omega), show k + r - k = r by omega]]
    rcases Nat.lt_or_ge k j with g | g
    · have := hs (j - (k + 1)) (by omega)
      simp only [show k + 1 + (j - (k + 1)) = j by omega] at this
      rw [this]; grind
    · rw [sg_zero fun r hr => by rw [h _ _ (by omega) (by omega) g]; grind]; grind
/-- the identity -/
def idM (i j : Nat) : K := if i = j then 1 else 0
theorem dtm_one {n : Nat} {A : Nat → Nat → K} : dtm n A idM = dt n A := dt_congr fun i j _ hj => by
  unfold mulM
  rw [sg_one (k := j) hj fun k _ hne => by simp only [idM, if_neg hne]; grind]
  simp only [idM, if_pos]; grind
theorem dt_one {n : Nat} (hn : n ≤ 4) : dt n (idM : Nat → Nat → K) = 1 := by
  rw [dt_upper hn fun i j _ hj => by unfold idM; rw [if_neg (by omega)]]
  have : ∀ t, dg (idM : Nat → Nat → K) t = 1 := by
    intro t
    induction t with
    | zero => rfl
    | succ t ih => rw [dg, ih]; simp only [idM, if_pos]; grind
  exact this n
end det
end Go.Proofs.Ytpbomhmflllemaa

/- Determinants of lists of rows modulo a prime: elimination, expansion, products, transposes, rank. -/
namespace Go.Proofs.Ytpbomhmflllemaa
section
variable {p n : Nat} [NeZero p]

theorem fM_set {M : List (List Nat)} {i : Nat} {r : List Nat} (hi : i < M.length) (k j : Nat) : fM p (M.set i r) k j = if k = i then fR p r j else fM p M k j := by
  unfold fM ent
  rw [getD_set hi]
  split <;> rfl
theorem downTo_fM (hp : 0 < p) {k b : Nat} {rk : List Nat} {M : List (List Nat)} (hM : MV p n n M) (hr : rk.length = n) (hrk : M.getD k [] = rk) (hn : n ≤ 4) (hk : k < n) {B : Nat → Nat → Fin p} : ∀ t, k + 1 + t ≤ n → dtm n (fM p (downTo p k (k + 1 + t) b rk M)) B = dtm n (fM p M) B
  | 0, _ => by rw [Nat.add_zero, downTo_zero]
  | t + 1, ht => by
    have ih := downTo_fM hp (b := b) hM hr hrk hn hk (B := B) t (by omega)
    rw [← ih, show k + 1 + (t + 1) = k + 1 + t + 1 by omega, ← downTo_set (by omega) (by rw [hM.1]; omega)]
    have hl := downTo_len (p := p) (k := k) (t := k + 1 + t) (b := b) (rk := rk) (M := M)
    have hmv := downTo_mv (p := p) (k := k) (t := k + 1 + t) (b := b) hp hM hr
    refine dtm_add hn (i := k + 1 + t) (k := k) (a := fz p ((0 + p - b * (M.getD (k + 1 + t) []).getD k 0 % p) % p)) (by omega) hk (by omega) (fun j hj => ?_) (fun r j hr' hj hne => ?_)
    · rw [fM_set (by rw [hl, hM.1]; omega), if_pos rfl, addRw_fR (w := n) (hM.get (by omega)).1 hr hj]
      have e1 : fM p (downTo p k (k + 1 + t) b rk M) (k + 1 + t) j = fR p (M.getD (k + 1 + t) []) j := by
        unfold fM ent
        rw [downTo_get (by rw [hM.1]; omega), if_neg (by omega)]; rfl
      have e2 : fM p (downTo p k (k + 1 + t) b rk M) k j = fR p rk j := by
        unfold fM ent
        rw [downTo_get (by rw [hM.1]; omega), if_neg (by omega), hrk]; rfl
      rw [e1, e2]
    · rw [fM_set (by rw [hl, hM.1]; omega), if_neg hne]

/-- elimination computes the determinant -/
theorem detGo_dtm (hp : Pr p) (hn : n ≤ 4) {B : Nat → Nat → Fin p} : ∀ (t k : Nat) (M : List (List Nat)) (d : Nat), k + t = n → MV p n n M → d < p → (∀ i j, i < n → j < k → j < i → fM p M i j = 0) →
    fz p (detGo p t k M d) * dg (fM p M) k * dt n B = fz p d * dtm n (fM p M) B
  | 0, k, M, d, hk, hM, hd, hz => by
    have : k = n := by omega
    subst this
    rw [detGo, dtm_upper hn fun i j hi hj => hz i j hi (by omega) hj]
    grind
  | t + 1, k, M, d, hk, hM, hd, hz => by
    have hp1 := hp.1
    have hl := hM.1
    have hsi := searchL_inv (M := M) (c := k) (f := M.length - k) (k := k)
    rw [detGo]
    cases hs : searchL M k (M.length - k) k with
    | none =>
      rw [hs] at hsi
      simp only at hsi ⊢
      rw [dtm_none (fin10 hp) (finInv hp) hn (k := k) (by omega) fun i j h1 h2 h3 => ?_, fz_zero]
      · grind
      · rcases Nat.lt_or_ge j k with g | g
        · exact hz i j h2 g (by omega)
        · rw [show j = k by omega]
          unfold fM
          rw [hsi i h1 (by omega), fz_zero]
    | some q =>
      rw [hs] at hsi
      simp only at hsi ⊢
      obtain ⟨s1, s2, s3, s4⟩ := hsi
      have hqn : q < n := by omega
      have hkn : k < n := by omega
      have hx := hM.lt hqn hkn
      have hr := hM.get hqn
      have hM1 := swapL_mv hM hkn hqn
      have hM2 := downTo_mv (p := p) (k := k) (t := n) (b := ent M q k ^ (p - 2) % p) (by omega) hM1 hr.1
      have eM1 : (swapL M k q).getD k [] = M.getD q [] := by
        rw [swapL_get (by omega) (by omega)]
        by_cases e : k = q
        · rw [if_pos e, e]
        · rw [if_neg e, if_pos rfl]
      have e2 := downTo_fM (p := p) (n := n) (by omega) (k := k) (b := ent M q k ^ (p - 2) % p) hM1 hr.1 eM1 hn hkn (B := B) (n - (k + 1)) (by omega)
      rw [show k + 1 + (n - (k + 1)) = n by omega] at e2
      rw [hl]
      have hd2 := Nat.mod_lt ((if q = k then d else (0 + p - d) % p) * ent M q k) (y := p) (by omega)
      have f1 : ∀ i j, fM p (swapL M k q) i j = if i = q then fM p M k j else if i = k then fM p M q j else fM p M i j := by
        intro i j
        unfold fM ent
        rw [swapL_get (by omega) (by omega)]
        split
        · rfl
        · split <;> rfl
      have hdn : ∀ i j, i < n → i ≤ k → fM p (downTo p k n (ent M q k ^ (p - 2) % p) (M.getD q []) (swapL M k q)) i j = fM p (swapL M k q) i j := by
        intro i j hi hik
        unfold fM ent
        rw [downTo_get (by rw [hM1.1]; exact hi), if_neg (by omega)]
      have hup : ∀ i j, k < i → i < n → j < n → fM p (downTo p k n (ent M q k ^ (p - 2) % p) (M.getD q []) (swapL M k q)) i j = fM p (swapL M k q) i j - fz p (ent M q k ^ (p - 2) % p) * fM p (swapL M k q) i k * fM p M q j := by
        intro i j hki hi hj
        have e : (downTo p k n (ent M q k ^ (p - 2) % p) (M.getD q []) (swapL M k q)).getD i [] = addRw p ((swapL M k q).getD i []) (M.getD q []) ((0 + p - (ent M q k ^ (p - 2) % p) * ((swapL M k q).getD i []).getD k 0 % p) % p) := by
          rw [downTo_get (by rw [hM1.1]; exact hi), if_pos ⟨hki, hi⟩]
        have : fM p (downTo p k n (ent M q k ^ (p - 2) % p) (M.getD q []) (swapL M k q)) i j = fR p (addRw p ((swapL M k q).getD i []) (M.getD q []) ((0 + p - (ent M q k ^ (p - 2) % p) * ((swapL M k q).getD i []).getD k 0 % p) % p)) j := by
          exact congrArg (fun r => fz p (r.getD j 0)) e
        rw [this, addRw_fR (w := n) (hM1.get hi).1 hr.1 hj, fz_neg (Nat.le_of_lt (Nat.mod_lt _ (by omega))), fz_mul]
        show fM p (swapL M k q) i j + _ = _
        have : fz p (((swapL M k q).getD i []).getD k 0) = fM p (swapL M k q) i k := rfl
        rw [this]
        have : fR p (M.getD q []) j = fM p M q j := rfl
        rw [this]
        grind
      have hxk : fM p M q k = fz p (ent M q k) := rfl
      have hinv := fz_inv hp s3 hx
      have ih := detGo_dtm hp hn (B := B) t (k + 1) _ _ (by omega) hM2 hd2 fun i j hi hj hji => by
        rcases Nat.lt_or_ge k i with g | g
        · rw [hup i j g hi (by omega)]
          rcases Nat.lt_or_ge j k with g2 | g2
          · have z1 : fM p (swapL M k q) i j = 0 := by
              rw [f1]
              split
              · exact hz k j hkn g2 (by omega)
              · split
                · omega
                · exact hz i j hi g2 hji
            rw [z1, hz q j hqn g2 (by omega)]; grind
          · have : j = k := by omega
            subst this
            rw [hxk]; grind
        · rw [hdn i j hi g, f1]
          split
          · exact hz k j hkn (by omega) (by omega)
          · split
            · exact hz q j hqn (by omega) (by omega)
            · exact hz i j hi (by omega) hji
      rw [e2] at ih
      have hdg : ∀ i, i ≤ k → dg (fM p (downTo p k n (ent M q k ^ (p - 2) % p) (M.getD q []) (swapL M k q))) i = dg (fM p M) i := by
        intro i
        induction i with
        | zero => intro _; rfl
        | succ i ih' =>
          intro hi
          rw [dg, dg, ih' (by omega), hdn i i (by omega) (by omega), f1, if_neg (by omega), if_neg (by omega)]
      rw [dg, hdg k (Nat.le_refl _), hdn k k hkn (Nat.le_refl _), fz_mul] at ih
      have hkk : fM p (swapL M k q) k k = fz p (ent M q k) := by
        rw [f1]
        split
        · rename_i e; rw [← hxk, ← e]
        · rw [if_pos rfl]; rfl
      rw [hkk] at ih
      by_cases hqk : q = k
      · rw [if_pos hqk] at ih
        have hs : dtm n (fM p (swapL M k q)) B = dtm n (fM p M) B := dtm_congr fun i j _ _ => by
          rw [f1, hqk]; split
          · rename_i e; rw [e]
          · rfl
        rw [hs] at ih
        rw [if_pos hqk]
        generalize fz p (detGo p t (k + 1) (downTo p k n (ent M q k ^ (p - 2) % p) (M.getD q []) (swapL M k q)) (d * ent M q k % p)) = X at *
        generalize fz p (ent M q k) = x at *
        generalize fz p (ent M q k ^ (p - 2) % p) = y at *
        generalize dtm n (fM p M) B = D at *
        generalize dg (fM p M) k = G at *
        generalize dt n B = b at *
        generalize fz p d = dd at *
        have : y * (X * (G * x) * b) = y * (dd * x * D) := by rw [ih]
        grind
      · rw [if_neg hqk] at ih
        have hs : dtm n (fM p (swapL M k q)) B = - dtm n (fM p M) B := dtm_swap hn hkn hqn (fun e => hqk e.symm) (fun j _ => by rw [f1, if_neg (fun e => hqk e.symm), if_pos rfl]) (fun j _ => by rw [f1, if_pos rfl]) (fun r j _ _ a b => by rw [f1, if_neg b, if_neg a])
        rw [hs, fz_neg (Nat.le_of_lt hd)] at ih
        rw [if_neg hqk]
        generalize fz p (detGo p t (k + 1) (downTo p k n (ent M q k ^ (p - 2) % p) (M.getD q []) (swapL M k q)) ((0 + p - d) % p * ent M q k % p)) = X at *
        generalize fz p (ent M q k) = x at *
        generalize fz p (ent M q k ^ (p - 2) % p) = y at *
        generalize dtm n (fM p M) B = D at *
        generalize dg (fM p M) k = G at *
        generalize dt n B = b at *
        generalize fz p d = dd at *
        have : y * (X * (G * x) * b) = y * (-dd * x * -D) := by rw [ih]
        grind
theorem detL_dtm (hp : Pr p) (hn : n ≤ 4) {M : List (List Nat)} (hM : MV p n n M) {B : Nat → Nat → Fin p} : fz p (detL p M) * dt n B = dtm n (fM p M) B := by
  have h := detGo_dtm hp hn (B := B) n 0 M 1 (by omega) hM hp.1 fun i j _ hj _ => by omega
  unfold detL
  rw [hM.1, fz_one, dg] at *
  grind
theorem detL_dt (hp : Pr p) (hn : n ≤ 4) {M : List (List Nat)} (hM : MV p n n M) : fz p (detL p M) = dt n (fM p M) := by
  have h := detL_dtm hp hn hM (B := idM)
  rw [dt_one hn, dtm_one] at h
  rw [← h]; grind
end
end Go.Proofs.Ytpbomhmflllemaa

/- Determinants: expansion, products, transposes, exchanged rows, and the rank. -/
namespace Go.Proofs.Ytpbomhmflllemaa
theorem detGo_lt {p : Nat} (hp : 1 < p) : ∀ (t k : Nat) (M : List (List Nat)) (d : Nat), d < p → detGo p t k M d < p
  | 0, _, _, _, h => h
  | t + 1, k, M, d, h => by
    rw [detGo]
    split
    · omega
    · exact detGo_lt hp t _ _ _ (Nat.mod_lt _ (by omega))
theorem detL_lt {p : Nat} (hp : 1 < p) (M : List (List Nat)) : detL p M < p := detGo_lt hp _ _ _ _ hp
section
variable {p n : Nat} [NeZero p]

theorem cutL_get {k j : Nat} {r : List Nat} (hk : k < r.length) : (cutL k r).getD j 0 = r.getD (if j < k then j else j + 1) 0 := by
  unfold cutL
  by_cases h : j < k
  · rw [if_pos h, getD_appL (by rw [List.length_take]; omega)]
    simp [List.getD_eq_getElem?_getD, h]
  · rw [if_neg h, getD_appR (by rw [List.length_take]; omega), List.length_take, Nat.min_eq_left (by omega)]
    simp only [List.getD_eq_getElem?_getD, List.getElem?_drop]
    rw [show k + 1 + (j - k) = j + 1 by omega]
theorem minorL_fM {M : List (List Nat)} (hM : MV p (n + 1) (n + 1) M) {k i j : Nat} (hk : k < n + 1) (hi : i < n) : fM p (minorL M k) i j = mnr (fM p M) k i j := by
  unfold mnr fM ent
  rw [minorL_get (by rw [hM.1]; omega), cutL_get (by rw [(hM.get (by omega)).1]; exact hk)]
theorem lapTo_fz (hp : 1 < p) {f : Nat → Nat} {M : List (List Nat)} : ∀ m, fz p (lapTo p f M m) = sg (fun k => sgk k (fz p (f k) * fM p M 0 k)) m
  | 0 => fz_zero
  | m + 1 => by
    rw [lapTo, sg, fz_add, lapTo_fz hp m]
    congr 1
    unfold lapT sgk
    split
    · rw [fz_neg (Nat.le_of_lt (Nat.mod_lt _ (by omega))), fz_mul]; rfl
    · rw [fz_mul]; rfl
theorem lapL_dt (hp : 1 < p) : ∀ {n : Nat} {M : List (List Nat)}, MV p n n M → fz p (lapL p n M) = dt n (fM p M)
  | 0, _, _ => fz_one
  | n + 1, M, hM => by
    rw [lapL, lapTo_fz hp, dt]
    refine sg_congr fun k hk => ?_
    rw [lapL_dt hp (minorL_mv hM hk), dt_congr fun i j hi _ => minorL_fM hM hk hi]
theorem det_lap (hp : Pr p) (hn : n ≤ 4) {M : List (List Nat)} (hM : MV p n n M) : detL p M = lapL p n M :=
  fz_inj (detL_lt hp.1 M) (lapL_lt hp.1 n M) (by rw [detL_dt hp hn hM, lapL_dt hp.1 hM])
/-- the determinant of a product -/
theorem det_mul (hp : Pr p) (hn : n ≤ 4) {A B C : List (List Nat)} (hA : MV p n n A) (hB : MV p n n B) (hC : MV p n n C) (h : ∀ i j, i < n → j < n → fM p C i j = mulM n (fM p A) (fM p B) i j) : detL p C = detL p A * detL p B % p := by
  have hp1 := hp.1
  refine fz_inj (detL_lt hp1 C) (Nat.mod_lt _ (by omega)) ?_
  rw [fz_mul, detL_dt hp hn hC, dt_congr h, detL_dt hp hn hB]
  exact (detL_dtm hp hn hA).symm
theorem det_turn (hp : Pr p) (hn : n ≤ 4) {A B : List (List Nat)} (hA : MV p n n A) (hB : MV p n n B) (h : ∀ i j, i < n → j < n → fM p B i j = fM p A j i) : detL p B = detL p A :=
  fz_inj (detL_lt hp.1 B) (detL_lt hp.1 A) (by rw [detL_dt hp hn hA, detL_dt hp hn hB]; exact dt_turn hn h)
theorem det_swap (hp : Pr p) (hn : n ≤ 4) {A : List (List Nat)} (hA : MV p n n A) {k q : Nat} (hk : k < n) (hq : q < n) (hkq : k ≠ q) : (0 + p - detL p (swapL A k q)) % p = detL p A := by
  have hp1 := hp.1
  have hl := hA.1
  have f1 : ∀ i j, fM p (swapL A k q) i j = if i = q then fM p A k j else if i = k then fM p A q j else fM p A i j := by
    intro i j
    unfold fM ent
    rw [swapL_get (by omega) (by omega)]
    split
    · rfl
    · split <;> rfl
  refine fz_inj (Nat.mod_lt _ (by omega)) (detL_lt hp1 A) ?_
  rw [fz_neg (Nat.le_of_lt (detL_lt hp1 _)), detL_dt hp hn (swapL_mv hA hk hq), detL_dt hp hn hA,
    dt_swap hn (A := fM p A) hk hq hkq (fun j _ => by rw [f1, if_neg hkq, if_pos rfl]) (fun j _ => by rw [f1, if_pos rfl]) (fun r j _ _ a b => by rw [f1, if_neg b, if_neg a])]
  grind
/-- a function as a list of rows -/
def ofM (n : Nat) (X : Nat → Nat → Fin p) : List (List Nat) := (List.range n).map fun i => (List.range n).map fun j => (X i j).val
omit [NeZero p] in
theorem ofM_get {X : Nat → Nat → Fin p} {i : Nat} (hi : i < n) : (ofM n X).getD i [] = (List.range n).map fun j => (X i j).val := by
  unfold ofM
  rw [List.getD_eq_getElem?_getD, List.getElem?_map, List.getElem?_range hi]; rfl
omit [NeZero p] in
theorem ofM_mv {X : Nat → Nat → Fin p} : MV p n n (ofM n X) := by
  refine ⟨by simp [ofM], fun r hr => ?_⟩
  obtain ⟨i, _, rfl⟩ := List.mem_map.1 hr
  refine ⟨by simp, fun x hx => ?_⟩
  obtain ⟨j, _, rfl⟩ := List.mem_map.1 hx
  exact (X i j).isLt
theorem ofM_fM {X : Nat → Nat → Fin p} {i j : Nat} (hi : i < n) (hj : j < n) : fM p (ofM n X) i j = X i j := by
  unfold fM ent
  rw [ofM_get hi, List.getD_eq_getElem?_getD, List.getElem?_map, List.getElem?_range hj]
  exact fz_cast _
theorem inc_id {c : Nat → Nat} {n : Nat} (h1 : ∀ i, i < n → c i < n) (h2 : ∀ i k, i < k → k < n → c i < c k) : ∀ i, i < n → c i = i := by
  have lo : ∀ i, i < n → i ≤ c i := by
    intro i
    induction i with
    | zero => intro _; omega
    | succ i ih => intro hi; have := h2 i (i + 1) (by omega) hi; have := ih (by omega); omega
  have hi : ∀ d i, i < n → n - 1 - i = d → c i ≤ i := by
    intro d
    induction d with
    | zero => intro i hi h; have := h1 i hi; omega
    | succ d ih => intro i hi h; have := h2 i (i + 1) (by omega) (by omega); have := ih (i + 1) (by omega) (by omega); omega
  intro i h
  have := lo i h
  have := hi _ i h rfl
  omega
/-- the determinant is 0 exactly if the rank is less than the number of rows -/
theorem det_rank (hp : Pr p) (hn : n ≤ 4) {M : List (List Nat)} (hM : MV p n n M) : detL p M = 0 ↔ (rrefL p n M).2.length < n := by
  have hp1 := hp.1
  have hz : detL p M = 0 ↔ dt n (fM p M) = 0 := by
    rw [← detL_dt hp hn hM]
    constructor
    · intro e; rw [e, fz_zero]
    · intro e
      exact fz_inj (detL_lt hp1 M) (by omega) (by rw [e, fz_zero])
  rw [hz]
  constructor
  · intro h0
    refine Classical.byContradiction fun hr => ?_
    obtain ⟨hF, hS⟩ := rrefL_form hp hM
    have hrk := (rank_le hp hM).1
    have hlen : (rrefL p n M).2.length = n := by omega
    have hR := hF.mv.1
    have hE := hF.ech
    rw [hlen] at hR hE
    have hid := inc_id hE.lt hE.inc
    -- the form is the identity
    have hRi : ∀ i j, i < n → j < n → fM p (rrefL p n M).1 i j = idM i j := by
      intro i j hi hj
      have := hE.piv i j hi hj
      rw [hid j hj] at this
      rw [this]; rfl
    have hx : ∀ i, ∃ x : Nat → Fin p, i < n → ∀ j, j < n → fM p (rrefL p n M).1 i j = sg (fun k => x k * fM p M k j) n := by
      intro i
      by_cases hi : i < n
      · obtain ⟨x, hx⟩ := hS.2 i (by omega)
        rw [hM.1] at hx
        exact ⟨x, fun _ => hx⟩
      · exact ⟨fun _ => 0, fun h => absurd h hi⟩
    have hX : ∃ X : Nat → Nat → Fin p, ∀ i, i < n → ∀ j, j < n → fM p (rrefL p n M).1 i j = sg (fun k => X i k * fM p M k j) n := ⟨fun i => Classical.choose (hx i), fun i => Classical.choose_spec (hx i)⟩
    obtain ⟨X, hX⟩ := hX
    have h1 := detL_dtm hp hn (ofM_mv (X := X) (n := n)) (B := fM p M)
    have h2 : dtm n (fM p (ofM n X)) (fM p M) = 1 := by
      rw [← dt_one (K := Fin p) hn]
      refine dt_congr fun i j hi hj => ?_
      rw [← hRi i j hi hj, hX i hi j hj]
      exact sg_congr fun k hk => by rw [ofM_fM hi hk]
    rw [h2, h0] at h1
    exact fin10 hp (by rw [← h1]; grind)
  · intro hr
    have hN := nullity hp hM
    obtain ⟨⟨pv, hF⟩, hA, hS⟩ := leftL_spec hp hM
    have hK := hF.mv.1
    have hpos : 0 < pv.length := by omega
    have hpiv := hF.ech.piv 0 0 hpos hpos
    rw [if_pos rfl] at hpiv
    refine dt_dep hn (x := fM p (leftL p n M) 0) (i := pv.getD 0 0) (b := 1) (hF.ech.lt 0 hpos) (by rw [hpiv]; grind) fun j hj => ?_
    exact hA 0 (by omega) j hj
end
end Go.Proofs.Ytpbomhmflllemaa

/- Arguments of chapter 07's laws opened; what all of them know of a matrix made. -/
namespace Go.Proofs.Ytpbomhmflllemaa
open Go.ChangeShapes Go.WideShapes Go.ChangeAt Go.RowKit

theorem u32_list {yss : List (List V)} (h : ∀ z ∈ yss, (Shp.int .u32).Rep z) : ∃ l : List Nat, yss.flatten = uv l ∧ l.length = yss.length ∧ ∀ x ∈ l, x < 4294967296 := by
  obtain ⟨l, h1, h2, h3⟩ := reps_nats u32_wf h
  exact ⟨l, h1, h2, fun x hx => by have := h3 x hx; omega⟩
theorem u32_rows : ∀ {yss : List (List V)}, (∀ z ∈ yss, (Shp.slc (.int .u32)).Rep z) → ∃ L : List (List Nat), yss.flatten = uR L ∧ L.length = yss.length ∧ ∀ l ∈ L, (∀ x ∈ l, x < 4294967296) ∧ l.length ≤ maxLen
  | [], _ => ⟨[], rfl, rfl, fun l h => by simp at h⟩
  | y :: r, h => by
    obtain ⟨zss, h1, rfl, h2⟩ := h y (by simp)
    obtain ⟨l, h3, h4, h5⟩ := u32_list h2
    obtain ⟨L, h6, h7, h8⟩ := u32_rows (yss := r) fun z hz => h z (by simp [hz])
    refine ⟨l :: L, ?_, by simp [h7], fun l' hl => ?_⟩
    · rw [List.flatten_cons, h6, h3, ← h4]; rfl
    · rcases List.mem_cons.1 hl with rfl | hl
      · exact ⟨h5, by omega⟩
      · exact h8 l' hl
/-- a list of numbers of 32 bits -/
theorem u32_val {x : V} (h : (Shp.slc (.int .u32)).Val x) : ∃ l : List Nat, x = .im (uv l) l.length ∧ (∀ y ∈ l, y < 4294967296) ∧ l.length ≤ maxLen := by
  obtain ⟨yss, h1, rfl, h2⟩ := h
  obtain ⟨l, h3, h4, h5⟩ := u32_list h2
  exact ⟨l, by rw [h3, h4], h5, by omega⟩
def rawShp : Shp := .st [.int .u8, .int .u8, .slc (.slc (.int .u32))]
def rawV (kp kc : Nat) (L : List (List Nat)) : V := .ag [.sc (.int .u8 kp), .sc (.int .u8 kc), .im (uR L) L.length]
theorem raw_val {x : V} (h : (Shp.st [.int .u8, .int .u8, .slc (.slc (.int .u32))]).Val x) : ∃ (kp kc : Nat) (L : List (List Nat)), x = rawV kp kc L ∧ kp ≤ 255 ∧ kc ≤ 255 ∧ (∀ l ∈ L, ∀ y ∈ l, y < 4294967296) ∧ L.length ≤ 9223372036854775807 := by
  obtain ⟨ys, rfl, a, b, rfl, ⟨n, rfl, hn⟩, c, d, rfl, ⟨m, rfl, hm⟩, e, f, rfl, ⟨yss, h1, rfl, h2⟩, rfl⟩ := h
  obtain ⟨kp, rfl, hkp⟩ := wf_nat u8_wf hn
  obtain ⟨kc, rfl, hkc⟩ := wf_nat u8_wf hm
  obtain ⟨L, h3, h4, h5⟩ := u32_rows h2
  unfold maxLen at h1
  refine ⟨kp, kc, L, ?_, hkp, hkc, fun l hl => (h5 l hl).1, by omega⟩
  rw [h3, ← h4]; rfl

/-- the prime that a number stands for -/
def pOf (kp : Nat) : Nat := primesL.getD (kp % 15) 0
theorem pOf_pr (kp : Nat) : Pr (pOf kp) := prs _ (Nat.mod_lt _ (by decide))
theorem pOf_le (kp : Nat) : pOf kp ≤ 2147483647 := by
  have : ∀ j, j < 15 → primesL.getD j 0 ≤ 2147483647 := by decide
  exact this _ (Nat.mod_lt _ (by decide))
theorem prim_s (kp : Nat) : Spec Try.prog 73 [.sc (.int .u64 (pOf kp))] (.sc (.bool true)) := prime_s kp
theorem pr5 : Pr 5 := prs 2 (by decide)
/-- what the laws know of a matrix that Made makes -/
structure Mm (p n w : Nat) (M : List (List Nat)) : Prop where
  pr : Pr p
  le : p ≤ 2147483647
  prime : Spec Try.prog 73 [.sc (.int .u64 p)] (.sc (.bool true))
  mv : MV p n w M
  n4 : n ≤ 4
  w5 : w ≤ 5
theorem made_val {x : V} (h : (Shp.st [.int .u8, .int .u8, .slc (.slc (.int .u32))]).Val x) : ∃ (p n w : Nat) (M : List (List Nat)) (kp kc : Nat) (L : List (List Nat)), Mm p n w M ∧ x = rawV kp kc L ∧ Spec Try.prog 12 [rawV kp kc L] (md p w M) := by
  obtain ⟨kp, kc, L, rfl, h1, h2, h3, h4⟩ := raw_val h
  have hp := (pOf_pr kp).1
  have hle := pOf_le kp
  exact ⟨pOf kp, min L.length 4, kc % 6, _, kp, kc, L, ⟨pOf_pr kp, hle, prim_s kp, sizedL_mv (by omega), by omega, by omega⟩, rfl, rmade_s (by omega) (by omega) h1 h2 rfl h3 h4⟩
end Go.Proofs.Ytpbomhmflllemaa

/- Det of a matrix that is not square; rows whose numbers are the same. -/
namespace Go.Proofs.Ytpbomhmflllemaa
open Go.RowKit

theorem det_ne_s {p n w : Nat} {M : List (List Nat)} (hpr : Spec Try.prog 73 [.sc (.int .u64 p)] (.sc (.bool true))) (hM : MV p n w M) (hn : n ≤ 1000000) (hw : w ≤ 1000000) (hnw : n ≠ w) :
    Spec Try.prog 16 [md p w M] (.tu [.sc (.int .u64 (0 : Nat)), .sc (.int .i64 50)]) := by
  have hl := hM.1
  have cv := valid_s hpr hM hn hw
  have q1 : ((M.length : Int) != (w : Int)) = true := by rw [bne_iff_ne]; omega
  unfold md mv at *
  refine Spec.run Try.func16 rfl Try.ntmps16 (by simp) (by simp (disch := omega) only [go_sem]; rfl) fun B hB => ?_
  (repeat (first | refine DO.nil (by kernel_rfl) ?_ | (with_reducible first | apply oz1 | apply oz2 | apply oz3 | apply oz4 | apply oz5 | apply oz6 | apply oz7 | apply oz8 | apply oz9 | apply ozb | apply ozc | apply oze | apply ozf | apply ozg | apply ozh | apply ozi | apply ozj | apply ozk | refine ozd (by decide) ?_) | ((first | apply SO.call | apply DO.call); (iterate 3 (focus (simp (disch := omega) only [go_sem, ↓reduceIte] <;> rfl))); (first | apply SCall.ofX | apply DCall.ofX); (focus (first | assumption)); (focus (simp (disch := omega) only [go_sem] <;> rfl))) | ((with_reducible first | apply SC.condB | apply SC.region | apply SO.run | apply DO.run); (focus (simp (disch := omega) only [go_sem, ↓reduceIte, Nat.reduceEqDiff, Nat.reduceLeDiff, Nat.reduceAdd, reduceCtorEq, q1] <;> rfl)); (first | refine pickT ?_ | refine pickF ?_ | fail_if_success with_reducible refine pickA ?_)) | ((with_reducible refine SC.draw Tab.mixed ?_ ?_); (focus (first | rfl | simp (disch := omega) only [go_sem, ↓reduceIte, Nat.reduceEqDiff, Nat.reduceLT, Nat.reduceLeDiff, Nat.reduceAdd, Nat.reduceMul, Nat.reduceSub, reduceCtorEq, Nat.reduceBEq, Int.reduceToNat, Int.reducePow, if_pos, if_neg, q1]))) | (with_reducible apply SC.ops)))
  exact retQ_ret Try.results16 (by simp (disch := omega) only [go_sem, ↓reduceIte, Nat.reduceEqDiff] <;> rfl) (by simp (disch := omega) only [go_sem, ↓reduceIte] <;> rfl) rfl
theorem rdet_ne_s {p n w : Nat} {M : List (List Nat)} (hM : MV p n w M) (hnw : n ≠ w) :
    Spec Try.prog 17 [md p w M] (.tu [.sc (.int .u64 (0 : Nat)), .sc (.int .i64 50)]) := by
  have hl := hM.1
  have q1 : ((M.length : Int) != (w : Int)) = true := by rw [bne_iff_ne]; omega
  unfold md mv at *
  refine Spec.run Try.func17 rfl Try.ntmps17 (by simp) (by simp (disch := omega) only [go_sem]; rfl) fun B hB => ?_
  (repeat (first | refine DO.nil (by kernel_rfl) ?_ | (with_reducible first | apply oz1 | apply oz2 | apply oz3 | apply oz4 | apply oz5 | apply oz6 | apply oz7 | apply oz8 | apply oz9 | apply ozb | apply ozc | apply oze | apply ozf | apply ozg | apply ozh | apply ozi | apply ozj | apply ozk | refine ozd (by decide) ?_) | ((first | apply SO.call | apply DO.call); (iterate 3 (focus (simp (disch := omega) only [go_sem, ↓reduceIte, Nat.reduceEqDiff, Nat.reduceLT, Nat.reduceLeDiff, Nat.reduceAdd, Nat.reduceMul, Nat.reduceSub, reduceCtorEq, Nat.reduceBEq, Int.reduceToNat, Int.reducePow, if_pos, if_neg, q1] <;> rfl))); (first | apply SCall.ofX | apply DCall.ofX); (focus (first | assumption)); (focus (simp (disch := omega) only [go_sem, ↓reduceIte, Nat.reduceEqDiff, Nat.reduceLT, Nat.reduceLeDiff, Nat.reduceAdd, Nat.reduceMul, Nat.reduceSub, reduceCtorEq, Nat.reduceBEq, Int.reduceToNat, Int.reducePow, if_pos, if_neg, q1] <;> rfl))) | ((with_reducible first | apply SC.condB | apply SC.region | apply SO.run | apply DO.run); (focus (simp (disch := omega) only [go_sem, ↓reduceIte, Nat.reduceEqDiff, reduceCtorEq, q1] <;> rfl)); (first | refine pickT ?_ | refine pickF ?_ | fail_if_success with_reducible refine pickA ?_)) | ((with_reducible refine SC.draw Tab.mixed ?_ ?_); (focus (first | rfl | simp (disch := omega) only [go_sem, ↓reduceIte, Nat.reduceEqDiff, Nat.reduceLT, Nat.reduceLeDiff, Nat.reduceAdd, Nat.reduceMul, Nat.reduceSub, reduceCtorEq, Nat.reduceBEq, Int.reduceToNat, Int.reducePow, if_pos, if_neg, q1]))) | (with_reducible apply SC.ops)))
  exact retQ_ret Try.results17 (by simp (disch := omega) only [go_sem, ↓reduceIte, Nat.reduceEqDiff] <;> rfl) (by simp (disch := omega) only [go_sem, ↓reduceIte] <;> rfl) rfl
/-- the determinant, and whether there is one -/
def detV (p n w : Nat) (M : List (List Nat)) : Nat × Nat := if n = w then (detL p M, 0) else (0, 50)
theorem det_any {p n w : Nat} {M : List (List Nat)} (hm : Mm p n w M) : Spec Try.prog 16 [md p w M] (.tu [.sc (.int .u64 (detV p n w M).1), .sc (.int .i64 (detV p n w M).2)]) := by
  obtain ⟨hp, hle, hpr, hM, hn, hw⟩ := hm
  unfold detV
  by_cases h : n = w
  · subst h
    rw [if_pos rfl]
    exact det_s hpr hp hle hM (by omega)
  · rw [if_neg h]
    exact det_ne_s hpr hM (by omega) (by omega) h
theorem rdet_any {p n w : Nat} {M : List (List Nat)} (hm : Mm p n w M) : Spec Try.prog 17 [md p w M] (.tu [.sc (.int .u64 (detV p n w M).1), .sc (.int .i64 (detV p n w M).2)]) := by
  obtain ⟨hp, hle, hpr, hM, hn, hw⟩ := hm
  have hp1 := hp.1
  have : NeZero p := ⟨by omega⟩
  unfold detV
  by_cases h : n = w
  · subst h
    rw [if_pos rfl, det_lap hp hn hM]
    exact rdet_s hp hle hM (by omega)
  · rw [if_neg h]
    exact rdet_ne_s hM h
end Go.Proofs.Ytpbomhmflllemaa

/- The reference: Copied, handing over a new list of rows; the law's changed. -/
namespace Go.Proofs.Ytpbomhmflllemaa
open Go.RowKit

set_option maxRecDepth 4000 in
set_option maxHeartbeats 1000000 in
theorem rcopied_0 {p n w : Nat} {M : List (List Nat)} (hM : MV p n w M) (hn : n ≤ 1000000) (hw : w ≤ 1000000) :
    Inl Try.prog 13 [md p w M] [] 0 (.ag [.sc (.int .u64 p), .sc (.int .i64 w), .sl 3 0 n 1 none]) [(3, ⟨44, imR w (nR M), false⟩)] 4 := by
  have hl := hM.1
  subst hl
  have gl := imR_len w M
  unfold md mv
  refine Inl.run Try.func13 rfl Try.ntmps13 (by simp) (by simp (disch := omega) only [go_sem]; rfl) fun B hB => ?_
  (repeat (first | refine DO.nil (by kernel_rfl) ?_ | (with_reducible first | apply oz1 | apply oz2 | apply oz3 | apply oz4 | apply oz5 | apply oz6 | apply oz7 | apply oz8 | apply oz9 | apply ozb | apply ozc | apply oze | apply ozf | apply ozg | apply ozh | apply ozi | apply ozj | apply ozk | refine ozd (by decide) ?_) | ((first | apply SO.call | apply DO.call); (iterate 3 (focus (simp (disch := omega) only [go_sem, ↓reduceIte, Nat.reduceEqDiff, Nat.reduceLT, Nat.reduceLeDiff, Nat.reduceAdd, Nat.reduceMul, Nat.reduceSub, reduceCtorEq, Nat.reduceBEq, Int.reduceToNat, Int.reducePow, if_pos, if_neg] <;> rfl))); (first | apply SCall.ofX | apply DCall.ofX); (focus (first | assumption)); (focus (simp (disch := omega) only [go_sem, ↓reduceIte, Nat.reduceEqDiff, Nat.reduceLT, Nat.reduceLeDiff, Nat.reduceAdd, Nat.reduceMul, Nat.reduceSub, reduceCtorEq, Nat.reduceBEq, Int.reduceToNat, Int.reducePow, if_pos, if_neg] <;> rfl))) | ((with_reducible first | apply SC.condB | apply SC.region | apply SO.run | apply DO.run); (focus (simp (disch := omega) only [go_sem, ↓reduceIte, Nat.reduceEqDiff, Nat.reduceLeDiff, Nat.reduceAdd, reduceCtorEq] <;> rfl)); (first | refine pickT ?_ | refine pickF ?_ | fail_if_success with_reducible refine pickA ?_)) | ((with_reducible refine SC.draw Tab.mixed ?_ ?_); (focus (first | rfl | simp (disch := omega) only [go_sem, ↓reduceIte, Nat.reduceEqDiff, Nat.reduceLT, Nat.reduceLeDiff, Nat.reduceAdd, Nat.reduceMul, Nat.reduceSub, reduceCtorEq, Nat.reduceBEq, Int.reduceToNat, Int.reducePow, if_pos, if_neg]))) | (with_reducible apply SC.ops)))
  refine SC.loop (fun i : Nat => ⟨[(1, .pt 0 0), (2, .pt 1 0), (3, .pt 2 0), (4, .sc (.int .i64 i))], [(2, ⟨29, [.sc (.int .u64 p), .sc (.int .i64 w), .sl 3 0 i 1 none], false⟩), (3, ⟨44, imR w (nR (M.take i)), false⟩), (1, ⟨29, [.sc (.int .u64 0), .sc (.int .i64 0), .sc (.slice none 0 0)], false⟩), (0, ⟨29, [.sc (.int .u64 p), .sc (.int .i64 w), .im (imR w (nR M)) M.length], false⟩)], 4, 30⟩)
    (fun i => i ≤ M.length) (fun i => M.length - i) 0 ?_ ?_ ?_
  · refine nilRow (pre := [.sc (.int .u64 p), .sc (.int .i64 w)]) 2 3 hB (by simp (disch := omega) only [go_sem, ↓reduceIte] <;> rfl) rfl (by omega) ?_ (by omega) ?_
    · exact ⟨⟨by omega, by omega, by omega, by simp, by simp (disch := omega) only [go_sem, ↓reduceIte, Nat.reduceEqDiff] <;> rfl, rfl⟩, ⟨by omega, by omega, by omega, by simp, by simp (disch := omega) only [go_sem, ↓reduceIte, reduceCtorEq] <;> rfl, rfl⟩, trivial⟩
    · (repeat' (first | exact trivial | refine mapSl_cons (by simp (disch := omega) only [go_sem, ↓reduceIte, Nat.reduceEqDiff] <;> rfl) ?_ ?_ | exact VMap.junk _ | exact VMap.sc _ | exact VMap.clo rfl | exact VMap.sl rfl (by omega) | exact VMap.cap rfl (by omega) | exact VMap.pt rfl (by omega) | exact VMap.nil_sl _ _ _ | exact VMap.int (by first | rfl | omega | (dsimp only; omega))))
  · exact Nat.zero_le _
  · intro i hi K hK
    by_cases hc : i < M.length
    · have q1 := decide_eq_true (p := (i : Int) < (M.length : Int)) (by omega)
      have g1 := imR_get (w := w) (M := M) (i := i) (by omega)
      have hr := hM.get hc
      have g3 := nv_len (M.getD i [])
      rw [hr.1] at g3
      have g4 := imR_take (w := w) hc
      have g5 := imR_len w (M.take i)
      rw [List.length_take, Nat.min_eq_left hi] at g5
      have g6 : (imR w (nR (M.take i))).take i = imR w (nR (M.take i)) := List.take_of_length_le (by omega)
      have t6 : (nv (M.getD i [])).take w = nv (M.getD i []) := List.take_of_length_le (by rw [g3]; exact Nat.le_refl _)
      have t7 := nv_one (M.getD i [])
      generalize M.getD i [] = r at *
      (repeat (first | refine DO.nil (by kernel_rfl) ?_ | (with_reducible first | apply oz1 | apply oz2 | apply oz3 | apply oz4 | apply oz5 | apply oz6 | apply oz7 | apply oz8 | apply oz9 | apply ozb | apply ozc | apply oze | apply ozf | apply ozg | apply ozh | apply ozi | apply ozj | apply ozk | refine ozd (by decide) ?_) | ((first | apply SO.call | apply DO.call); (iterate 3 (focus (simp (disch := omega) only [go_sem, ↓reduceIte, Nat.reduceEqDiff, Nat.reduceLT, Nat.reduceLeDiff, Nat.reduceAdd, Nat.reduceMul, Nat.reduceSub, reduceCtorEq, Nat.reduceBEq, Int.reduceToNat, Int.reducePow, if_pos, if_neg, q1, gl, g1, g3, g5, g6, t6, t7, List.getElem?_drop] <;> rfl))); (first | apply SCall.ofX | apply DCall.ofX); (focus (first | assumption)); (focus (simp (disch := omega) only [go_sem, ↓reduceIte, Nat.reduceEqDiff, Nat.reduceLT, Nat.reduceLeDiff, Nat.reduceAdd, Nat.reduceMul, Nat.reduceSub, reduceCtorEq, Nat.reduceBEq, Int.reduceToNat, Int.reducePow, if_pos, if_neg, q1, gl, g1, g3, g5, g6, t6, t7, List.getElem?_drop] <;> rfl))) | ((with_reducible first | apply SC.condB | apply SC.region | apply SO.run | apply DO.run); (focus (simp (disch := omega) only [go_sem, ↓reduceIte, Nat.reduceEqDiff, Nat.reduceLeDiff, Nat.reduceAdd, reduceCtorEq, if_pos, q1, gl, g1, g3, g5, g6, t7, List.getElem?_drop] <;> rfl)); (first | refine pickT ?_ | refine pickF ?_ | fail_if_success with_reducible refine pickA ?_)) | ((with_reducible refine SC.draw Tab.mixed ?_ ?_); (focus (first | rfl | simp (disch := omega) only [go_sem, ↓reduceIte, Nat.reduceEqDiff, Nat.reduceLT, Nat.reduceLeDiff, Nat.reduceAdd, Nat.reduceMul, Nat.reduceSub, reduceCtorEq, Nat.reduceBEq, Int.reduceToNat, Int.reducePow, if_pos, if_neg, q1, gl, g1, g3, g5, g6, t6, t7, List.getElem?_drop]))) | (with_reducible apply SC.ops)))
      have t8 := nv_clo r
      refine hK _ (i + 1) ?_ (by omega) (by omega)
      rw [← g4]
      refine appRow (pre := [.sc (.int .u64 p), .sc (.int .i64 w)]) (y := .im (nv r) w) (ids := [5]) 2 3 7 hB (by simp (disch := omega) only [go_sem, ↓reduceIte, Nat.reduceEqDiff] <;> rfl) (by simp (disch := omega) only [go_sem, ↓reduceIte] <;> rfl) (by simp (disch := omega) only [go_sem, ↓reduceIte, Nat.reduceEqDiff, if_pos, g3, t6, t8] <;> rfl) rfl (imR_clo _ _) rfl (by omega) (by omega) (by simp) (by simp) ?_ (by omega) ?_
      · exact ⟨⟨by omega, by omega, by omega, by simp, by simp (disch := omega) only [go_sem, ↓reduceIte, Nat.reduceEqDiff] <;> rfl, rfl⟩, ⟨by omega, by omega, by omega, by simp, by simp (disch := omega) only [go_sem, ↓reduceIte, reduceCtorEq] <;> rfl, rfl⟩, trivial⟩
      · (repeat' (first | exact trivial | refine mapSl_cons (by simp (disch := omega) only [go_sem, ↓reduceIte, Nat.reduceEqDiff] <;> rfl) ?_ ?_ | exact VMap.junk _ | exact VMap.sc _ | exact VMap.clo rfl | exact VMap.sl rfl (by omega) | exact VMap.cap rfl (by omega) | exact VMap.pt rfl (by omega) | exact VMap.nil_sl _ _ _ | exact VMap.int (by first | rfl | omega | (dsimp only; omega))))
    · have q1 := decide_eq_false (p := (i : Int) < (M.length : Int)) (by omega)
      have hin : i = M.length := by omega
      subst hin
      rw [List.take_of_length_le (Nat.le_refl _)]
      (repeat (first | refine DO.nil (by kernel_rfl) ?_ | (with_reducible first | apply oz1 | apply oz2 | apply oz3 | apply oz4 | apply oz5 | apply oz6 | apply oz7 | apply oz8 | apply oz9 | apply ozb | apply ozc | apply oze | apply ozf | apply ozg | apply ozh | apply ozi | apply ozj | apply ozk | refine ozd (by decide) ?_) | ((first | apply SO.call | apply DO.call); (iterate 3 (focus (simp (disch := omega) only [go_sem, ↓reduceIte, Nat.reduceEqDiff, Nat.reduceLT, Nat.reduceLeDiff, Nat.reduceAdd, Nat.reduceMul, Nat.reduceSub, reduceCtorEq, Nat.reduceBEq, Int.reduceToNat, Int.reducePow, if_pos, if_neg, q1] <;> rfl))); (first | apply SCall.ofX | apply DCall.ofX); (focus (first | assumption)); (focus (simp (disch := omega) only [go_sem, ↓reduceIte, Nat.reduceEqDiff, Nat.reduceLT, Nat.reduceLeDiff, Nat.reduceAdd, Nat.reduceMul, Nat.reduceSub, reduceCtorEq, Nat.reduceBEq, Int.reduceToNat, Int.reducePow, if_pos, if_neg, q1] <;> rfl))) | ((with_reducible first | apply SC.condB | apply SC.region | apply SO.run | apply DO.run); (focus (simp (disch := omega) only [go_sem, ↓reduceIte, Nat.reduceEqDiff, Nat.reduceLT, Nat.reduceLeDiff, Nat.reduceAdd, reduceCtorEq, q1] <;> rfl)); (first | refine pickT ?_ | refine pickF ?_ | fail_if_success with_reducible refine pickA ?_)) | ((with_reducible refine SC.draw Tab.mixed ?_ ?_); (focus (first | rfl | simp (disch := omega) only [go_sem, ↓reduceIte, Nat.reduceEqDiff, Nat.reduceLT, Nat.reduceLeDiff, Nat.reduceAdd, Nat.reduceMul, Nat.reduceSub, reduceCtorEq, Nat.reduceBEq, Int.reduceToNat, Int.reducePow, if_pos, if_neg, q1]))) | (with_reducible apply SC.ops)))
      refine retI_ret Try.results13 (by simp (disch := omega) only [go_sem, ↓reduceIte, Nat.reduceEqDiff, Nat.reduceLeDiff, Nat.reduceAdd] <;> rfl) ?_
      refine Le.slots (leSl_cons (by simp (disch := omega) only [go_sem, ↓reduceIte] <;> rfl) (VLe.refl rfl) leSl_nil) ?_ (Nat.le_refl _)
      (refine fun id k h => ?_; simp only [hget] at h ⊢; (repeat' (split at h)) <;> first | (cases h; done) | (simp (disch := omega) only [if_pos, if_neg]; exact h))


theorem rx_mod (a b : Value) (n : Nat) : RX fun id => .ag [.sc a, .sc b, .sl id 0 n 1 none] := by
  intro S S' rho rho' A A' w id id' v h hS hA ha he
  cases h with | ag hl hi =>
  refine .ag hl fun i x u hx hu => ?_
  rcases i with _ | _ | _ | i
  · cases hx; have := hi 0 _ u rfl hu; cases this; exact .sc _
  · cases hx; have := hi 1 _ u rfl hu; cases this; exact .sc _
  · cases hx; exact rx_sl 0 n 1 none _ _ _ _ _ _ _ _ _ _ (hi 2 _ u rfl hu) hS hA ha he
  · cases hx
theorem live_mod {a b : Value} {n i0 : Nat} (hn : 0 < n) {S : Nat → Prop} {rho : Nat → Nat} {A : Nat → Prop} {w : World} {v : Value} (h : R S rho w A (.ag [.sc a, .sc b, .sl i0 0 n 1 none]) v) : A i0 ∧ R S rho w (fun i => i = i0) (.ag [.sc a, .sc b, .sl i0 0 n 1 none]) v := by
  cases h with | ag hl hi =>
  rename_i vs
  have hA : ∀ u, R S rho w A (.sl i0 0 n 1 none) u → A i0 := by
    intro u h
    cases h with
    | sl h _ _ _ _ => exact h
    | sln _ => omega
  have h2 : 2 < vs.size := by rw [← hl]; simp
  refine ⟨hA vs[2] (hi 2 _ _ rfl (Array.getElem?_eq_getElem h2)), .ag hl fun i x u hx hu => ?_⟩
  rcases i with _ | _ | _ | i
  · cases hx; have := hi 0 _ u rfl hu; cases this; exact .sc _
  · cases hx; have := hi 1 _ u rfl hu; cases this; exact .sc _
  · cases hx
    have := hi 2 _ u rfl hu
    cases this with
    | sl h a b c d => exact .sl rfl a b c d
    | sln h => exact .sln h
  · cases hx
theorem rcopied_x {p n w : Nat} {M : List (List Nat)} (hM : MV p n w M) (h0 : 0 < n) (hn : n ≤ 1000000) (hw : w ≤ 1000000) :
    NewX Try.prog 13 [md p w M] ⟨44, imR w (nR M), false⟩ (fun id => .ag [.sc (.int .u64 p), .sc (.int .i64 w), .sl id 0 n 1 none]) false :=
  NewX.of 3 (rx_mod _ _ _) rfl rfl (fun _ _ _ _ _ h => live_mod h0 h) (imR_clo _ _) (rcopied_0 hM hn hw)
end Go.Proofs.Ytpbomhmflllemaa

/- The law's changed: a matrix with the same combinations of rows. -/
namespace Go.Proofs.Ytpbomhmflllemaa
open Go.RowKit

/-- a change of rows -/
def changeL (p : Nat) (M : List (List Nat)) (what i k c : Nat) : List (List Nat) :=
  if M.length = 0 then M else
  if what % 4 = 0 then swapL M (i % M.length) (k % M.length)
  else if what % 4 = 1 then (if c % p ≠ 0 then M.set (i % M.length) (scaleL p (c % p) (M.getD (i % M.length) [])) else M)
  else if what % 4 = 2 then (if i % M.length ≠ k % M.length then M.set (i % M.length) (addRw p (M.getD (i % M.length) []) (M.getD (k % M.length) []) (c % p)) else M)
  else M ++ [addRw p (M.getD (i % M.length) []) (M.getD (k % M.length) []) (c % p)]
theorem change_mv {p n w what i k c : Nat} {M : List (List Nat)} (hp : 0 < p) (hM : MV p n w M) : ∃ n', MV p n' w (changeL p M what i k c) ∧ n' ≤ n + 1 ∧ (what % 4 ≠ 3 → n' = n) := by
  have hl := hM.1
  unfold changeL
  by_cases h0 : M.length = 0
  · rw [if_pos h0]; exact ⟨n, hM, by omega, fun _ => rfl⟩
  · rw [if_neg h0]
    have hi : i % M.length < n := by rw [← hl]; exact Nat.mod_lt _ (by omega)
    have hk : k % M.length < n := by rw [← hl]; exact Nat.mod_lt _ (by omega)
    have ha := addRw_rw (p := p) hp (k := c % p) (hM.get hi).1 (hM.get hk).1
    split
    · exact ⟨n, swapL_mv hM hi hk, by omega, fun _ => rfl⟩
    · split
      · split
        · exact ⟨n, hM.set (scaleL_rw hp (hM.get hi).1), by omega, fun _ => rfl⟩
        · exact ⟨n, hM, by omega, fun _ => rfl⟩
      · split
        · split
          · exact ⟨n, hM.set ha, by omega, fun _ => rfl⟩
          · exact ⟨n, hM, by omega, fun _ => rfl⟩
        · exact ⟨n + 1, with_mv hM ha, by omega, fun h => by omega⟩
theorem set_same {p w i : Nat} [NeZero p] {M : List (List Nat)} {r : List Nat} {a : Fin p} (hi : i < M.length) (h1 : Sp M.length w (fM p M) (fR p r)) (h2 : Sp M.length w (fM p (M.set i r)) (fM p M i)) : Same p w M (M.set i r) := by
  have hg : ∀ k j, fM p (M.set i r) k j = if k = i then fR p r j else fM p M k j := by
    intro k j
    unfold fM ent
    rw [getD_set hi]
    split <;> rfl
  refine ⟨fun k hk => ?_, fun k hk => ?_⟩
  · rw [List.length_set]
    by_cases e : k = i
    · subst e; exact h2
    · refine (Sp.row (A := fM p (M.set i r)) hk).congr fun j _ => ?_
      rw [hg, if_neg e]
  · rw [List.length_set] at hk
    by_cases e : k = i
    · subst e
      exact h1.congr fun j _ => by rw [hg, if_pos rfl]
    · exact (Sp.row (A := fM p M) hk).congr fun j _ => by rw [hg, if_neg e]
theorem change_same {p n w what i k c : Nat} [NeZero p] {M : List (List Nat)} (hp : Pr p) (hM : MV p n w M) : Same p w M (changeL p M what i k c) := by
  have hp1 := hp.1
  have hl := hM.1
  unfold changeL
  by_cases h0 : M.length = 0
  · rw [if_pos h0]; exact Same.refl
  · rw [if_neg h0]
    have hi : i % M.length < n := by rw [← hl]; exact Nat.mod_lt _ (by omega)
    have hk : k % M.length < n := by rw [← hl]; exact Nat.mod_lt _ (by omega)
    generalize i % M.length = i at *
    generalize k % M.length = k at *
    have hri := hM.get hi
    have hrk := hM.get hk
    have fi : ∀ j, fR p (M.getD i []) j = fM p M i j := fun j => rfl
    have fk : ∀ j, fR p (M.getD k []) j = fM p M k j := fun j => rfl
    have hadd : ∀ j, j < w → fR p (addRw p (M.getD i []) (M.getD k []) (c % p)) j = fM p M i j + fz p (c % p) * fM p M k j := fun j hj => by
      rw [addRw_fR hri.1 hrk.1 hj, fi, fk]
    have s1 : Sp M.length w (fM p M) (fR p (addRw p (M.getD i []) (M.getD k []) (c % p))) :=
      (Sp.add (Sp.row (by omega : i < M.length)) (Sp.smul (fz p (c % p)) (Sp.row (by omega : k < M.length)))).congr fun j hj => hadd j hj
    split
    · -- exchanged
      have hg : ∀ r j, fM p (swapL M i k) r j = if r = k then fM p M i j else if r = i then fM p M k j else fM p M r j := by
        intro r j
        unfold fM ent
        rw [swapL_get (by omega) (by omega)]
        split
        · rfl
        · split <;> rfl
      have hsl : (swapL M i k).length = M.length := by simp [swapL]
      refine ⟨fun r hr => ?_, fun r hr => ?_⟩
      · rw [hsl]
        by_cases e1 : r = k
        · refine (Sp.row (A := fM p (swapL M i k)) (by omega : i < M.length)).congr fun j _ => ?_
          rw [hg, e1]
          by_cases e2 : i = k
          · rw [if_pos e2, e2]
          · rw [if_neg e2, if_pos rfl]
        · by_cases e2 : r = i
          · refine (Sp.row (A := fM p (swapL M i k)) (by omega : k < M.length)).congr fun j _ => ?_
            rw [hg, if_pos rfl, e2]
          · refine (Sp.row (A := fM p (swapL M i k)) hr).congr fun j _ => ?_
            rw [hg, if_neg e1, if_neg e2]
      · rw [hsl] at hr
        by_cases e1 : r = k
        · exact (Sp.row (A := fM p M) (by omega : i < M.length)).congr fun j _ => by rw [hg, if_pos e1]
        · by_cases e2 : r = i
          · exact (Sp.row (A := fM p M) (by omega : k < M.length)).congr fun j _ => by rw [hg, if_neg e1, if_pos e2]
          · exact (Sp.row (A := fM p M) hr).congr fun j _ => by rw [hg, if_neg e1, if_neg e2]
    · split
      · split
        · rename_i hc
          have hcl := Nat.mod_lt c (y := p) (by omega)
          have hsc : ∀ j, j < w → fR p (scaleL p (c % p) (M.getD i [])) j = fz p (c % p) * fM p M i j := fun j hj => by
            unfold fR
            rw [scaleL_get (by rw [hri.1]; exact hj), fz_mul]; rfl
          refine set_same (a := 0) (by omega) ((Sp.smul _ (Sp.row (by omega : i < M.length))).congr hsc) ?_
          have hinv := fz_inv hp hc hcl
          have hrow : fM p (M.set i (scaleL p (c % p) (M.getD i []))) i = fR p (scaleL p (c % p) (M.getD i [])) := by
            funext j; unfold fM ent fR; rw [getD_set (by omega), if_pos rfl]
          refine (Sp.smul (fz p ((c % p) ^ (p - 2) % p)) (Sp.row (A := fM p (M.set i (scaleL p (c % p) (M.getD i [])))) (by omega : i < M.length))).congr fun j hj => ?_
          rw [hrow, hsc j hj]; grind
        · exact Same.refl
      · split
        · split
          · rename_i hik
            refine set_same (a := 0) (by omega) s1 ?_
            have hg : ∀ r j, fM p (M.set i (addRw p (M.getD i []) (M.getD k []) (c % p))) r j = if r = i then fR p (addRw p (M.getD i []) (M.getD k []) (c % p)) j else fM p M r j := by
              intro r j
              unfold fM ent
              rw [getD_set (by omega)]
              split <;> rfl
            refine (Sp.add (Sp.row (A := fM p (M.set i (addRw p (M.getD i []) (M.getD k []) (c % p)))) (by omega : i < M.length)) (Sp.smul (- fz p (c % p)) (Sp.row (by omega : k < M.length)))).congr fun j hj => ?_
            rw [hg, hg, if_pos rfl, if_neg (fun e => hik e.symm), hadd j hj]; grind
          · exact Same.refl
        · rw [hl] at s1
          exact with_same hM (addRw_rw (by omega) hri.1 hrk.1) s1

set_option maxHeartbeats 8000000 in
set_option maxRecDepth 8000 in
theorem changed_s {p n w what i k c : Nat} {M : List (List Nat)} (hp : Pr p) (hp2 : p ≤ 2147483647) (hM : MV p n w M) (hn : n ≤ 100000) (hw : w ≤ 1000000) (hwh : what ≤ 255) (hi : i ≤ 255) (hk : k ≤ 255) (hc : c ≤ 4294967295) :
    Spec Try.prog 28 [md p w M, .ag [.sc (.int .u8 what), .sc (.int .u8 i), .sc (.int .u8 k), .sc (.int .u32 c)]] (md p w (changeL p M what i k c)) := by
  have hp1 := hp.1
  have hl := hM.1
  have gl := imR_len w M
  have e1 : ((c : Int) % (p : Int)) = ((c % p : Nat) : Int) := by simp
  have hf := Nat.mod_lt c (y := p) (by omega)
  have qp : ((p : Int) == 0) = false := by rw [beq_eq_false_iff_ne]; omega
  by_cases h0 : n = 0
  · have hM0 : M = [] := List.eq_nil_of_length_eq_zero (by omega)
    have c1 := rcopied_s hM (by omega) hw
    have hch : changeL p M what i k c = M := by unfold changeL; rw [if_pos (by omega)]
    rw [hch]
    subst hM0
    have hnil : imR w (nR []) = [] := rfl
    have q0 : (((0 : Nat) : Int) == 0) = true := rfl
    unfold md mv at *
    rw [hnil] at *
    refine Spec.run Try.func28 rfl Try.ntmps28 (by simp) (by simp (disch := omega) only [go_sem, Nat.reduceAdd]; rfl) fun B hB => ?_
    (repeat (first | refine DO.nil (by kernel_rfl) ?_ | (with_reducible first | apply oz1 | apply oz2 | apply oz3 | apply oz4 | apply oz5 | apply oz6 | apply oz7 | apply oz8 | apply oz9 | apply ozb | apply ozc | apply oze | apply ozf | apply ozg | apply ozh | apply ozi | apply ozj | apply ozk | refine ozd (by decide) ?_) | ((first | apply SO.call | apply DO.call); (iterate 3 (focus (simp (disch := omega) only [go_sem, ↓reduceIte] <;> rfl))); (first | apply SCall.ofX | apply DCall.ofX); (focus (first | assumption)); (focus (simp (disch := omega) only [go_sem, List.length_nil] <;> rfl))) | ((with_reducible first | apply SC.condB | apply SC.region | apply SO.run | apply DO.run); (focus (simp (disch := omega) only [go_sem, ↓reduceIte, Nat.reduceEqDiff, Nat.reduceLeDiff, Nat.reduceAdd, reduceCtorEq, if_neg, e1, q0, List.length_nil] <;> rfl)); (first | refine pickT ?_ | refine pickF ?_ | fail_if_success with_reducible refine pickA ?_)) | ((with_reducible refine SC.draw Tab.mixed ?_ ?_); (focus (first | rfl | simp (disch := omega) only [go_sem, ↓reduceIte, Nat.reduceEqDiff, Nat.reduceLT, Nat.reduceLeDiff, Nat.reduceAdd, Nat.reduceMul, Nat.reduceSub, reduceCtorEq, Nat.reduceBEq, Int.reduceToNat, Int.reducePow, if_pos, if_neg, e1, qp, q0, List.length_nil]))) | (with_reducible apply SC.ops)))
    exact retQ_ret Try.results28 (by simp (disch := omega) only [go_sem, ↓reduceIte, Nat.reduceEqDiff, Nat.reduceLeDiff, Nat.reduceAdd] <;> rfl) (by simp (disch := omega) only [go_sem, ↓reduceIte] <;> rfl) rfl
  · have c1 := rcopied_x hM (by omega) (by omega) hw
    have hi' : i % n < n := Nat.mod_lt _ (by omega)
    have hk' : k % n < n := Nat.mod_lt _ (by omega)
    have e2 : ((i : Int) % (n : Int)) = ((i % n : Nat) : Int) := by simp
    have e3 : ((k : Int) % (n : Int)) = ((k % n : Nat) : Int) := by simp
    have e4 : ((what : Int) % 4) = ((what % 4 : Nat) : Int) := by simp
    have q0 : ((n : Int) == 0) = false := by rw [beq_eq_false_iff_ne]; omega
    have hw4 := Nat.mod_lt what (y := 4) (by omega)
    have hri := hM.get hi'
    have hrk := hM.get hk'
    have hch : changeL p M what i k c = if what % 4 = 0 then swapL M (i % n) (k % n) else if what % 4 = 1 then (if c % p ≠ 0 then M.set (i % n) (scaleL p (c % p) (M.getD (i % n) [])) else M)
        else if what % 4 = 2 then (if i % n ≠ k % n then M.set (i % n) (addRw p (M.getD (i % n) []) (M.getD (k % n) []) (c % p)) else M) else M ++ [addRw p (M.getD (i % n) []) (M.getD (k % n) []) (c % p)] := by
      unfold changeL; rw [if_neg (by omega), hl]
    rw [hch]
    clear hch
    have gi := imR_get (w := w) (M := M) (i := i % n) (by omega)
    have gk := imR_get (w := w) (M := M) (i := k % n) (by omega)
    have c2 := times_s (p := p) (c := c % p) (by omega) (by omega) hf hri hw
    have c3 := plus_s (p := p) (by omega) (by omega) hf hri hrk hw
    have f1 := imR_clo w (nR M)
    have f2 : (imR w (nR M)).take n = imR w (nR M) := List.take_of_length_le (by omega)
    have f3 : ∀ i r, (imR w (nR (M.set i r))).length = n := fun i r => by rw [imR_len, List.length_set, hl]
    have f4 : ∀ i r, (imR w (nR (M.set i r))).take n = imR w (nR (M.set i r)) := fun i r => List.take_of_length_le (by rw [f3]; exact Nat.le_refl _)
    have f5 : ∀ i r, (imR w (nR (M.set i r))).all clo = true := fun i r => imR_clo _ _
    have f6 : ∀ i k, (imR w (nR (swapL M i k))).length = n := fun i r => by rw [imR_len]; simp [swapL]; exact hl
    have f7 : ∀ i k, (imR w (nR (swapL M i k))).take n = imR w (nR (swapL M i k)) := fun i r => List.take_of_length_le (by rw [f6]; exact Nat.le_refl _)
    have f8 : ∀ i k, (imR w (nR (swapL M i k))).all clo = true := fun i r => imR_clo _ _
    have hsw : ∀ i k, (M.set i (M.getD k [])).set k (M.getD i []) = swapL M i k := fun i k => rfl
    have f9 : ∀ i k, (swapL M i k).length = n := fun i r => by simp [swapL]; exact hl
    unfold md mv at *
    rw [hl] at c1 gl ⊢
    refine Spec.run Try.func28 rfl Try.ntmps28 (by simp) (by simp (disch := omega) only [go_sem, Nat.reduceAdd]; rfl) fun B hB => ?_
    (repeat (first | refine DO.nil (by kernel_rfl) ?_ | (with_reducible first | apply oz1 | apply oz2 | apply oz3 | apply oz4 | apply oz5 | apply oz6 | apply oz7 | apply oz8 | apply oz9 | apply ozb | apply ozc | apply oze | apply ozf | apply ozg | apply ozh | apply ozi | apply ozj | apply ozk | refine ozd (by decide) ?_) | ((first | apply SO.call | apply DO.call); (iterate 3 (focus (simp (disch := omega) only [go_sem, ↓reduceIte] <;> rfl))); (first | apply SCall.ofX | apply DCall.ofX); (focus (first | assumption)); (focus (simp (disch := omega) only [go_sem, ↓reduceIte, Nat.reduceEqDiff, Nat.reduceLT, Nat.reduceLeDiff, Nat.reduceAdd, Nat.reduceMul, Nat.reduceSub, reduceCtorEq, Nat.reduceBEq, Int.reduceToNat, Int.reducePow, if_pos, if_neg, e1, qp] <;> rfl))) | ((with_reducible first | apply SC.condB | apply SC.region | apply SO.run | apply DO.run); (focus (simp (disch := omega) only [go_sem, ↓reduceIte, Nat.reduceEqDiff, Nat.reduceLeDiff, Nat.reduceAdd, reduceCtorEq] <;> rfl)); (first | refine pickT ?_ | refine pickF ?_ | fail_if_success with_reducible refine pickA ?_)) | ((with_reducible refine SC.draw Tab.mixed ?_ ?_); (focus (first | rfl | simp (disch := omega) only [go_sem, ↓reduceIte, Nat.reduceEqDiff, Nat.reduceLT, Nat.reduceLeDiff, Nat.reduceAdd, Nat.reduceMul, Nat.reduceSub, reduceCtorEq, Nat.reduceBEq, Int.reduceToNat, Int.reducePow, if_pos, if_neg, e1, qp]))) | (with_reducible apply SC.ops)))
    refine DO.callN Tab.go13 (by simp (disch := omega) only [go_sem, ↓reduceIte]; rfl) (by simp (disch := omega) only [go_sem] <;> rfl) ?_
    refine DNew.ofX c1 rfl (by simp (disch := omega) only [go_sem, Nat.reduceAdd]; rfl) ?_
    rcases (by omega : what % 4 = 0 ∨ what % 4 = 1 ∨ what % 4 = 2 ∨ what % 4 = 3) with g | g | g | g
    · rw [if_pos g, f9]
      have r0 : (((what % 4 : Nat) : Int) == 0) = true := by rw [g]; rfl
      (repeat (first | refine DO.nil (by kernel_rfl) ?_ | (with_reducible first | apply oz1 | apply oz2 | apply oz3 | apply oz4 | apply oz5 | apply oz6 | apply oz7 | apply oz8 | apply oz9 | apply ozb | apply ozc | apply oze | apply ozf | apply ozg | apply ozh | apply ozi | apply ozj | apply ozk | refine ozd (by decide) ?_) | ((first | apply SO.call | apply DO.call); (iterate 3 (focus (simp (disch := omega) only [go_sem, ↓reduceIte, Nat.reduceEqDiff, Nat.reduceLT, Nat.reduceLeDiff, Nat.reduceAdd, Nat.reduceMul, Nat.reduceSub, reduceCtorEq, Nat.reduceBEq, Int.reduceToNat, Int.reducePow, if_pos, if_neg, e1, e2, e3, e4, qp, q0, r0, gl, hl, gi, gk, f3, imR_set, hsw, List.length_set] <;> rfl))); (first | apply SCall.ofX | apply DCall.ofX); (focus (first | assumption)); (focus (simp (disch := omega) only [go_sem, ↓reduceIte, Nat.reduceEqDiff, Nat.reduceLT, Nat.reduceLeDiff, Nat.reduceAdd, Nat.reduceMul, Nat.reduceSub, reduceCtorEq, Nat.reduceBEq, Int.reduceToNat, Int.reducePow, if_pos, if_neg, e1, e2, e3, e4, qp, q0, r0, gl, hl, gi, gk, f3, imR_set, hsw, List.length_set] <;> rfl))) | ((with_reducible first | apply SC.condB | apply SC.region | apply SO.run | apply DO.run); (focus (simp (disch := omega) only [go_sem, ↓reduceIte, Nat.reduceEqDiff, Nat.reduceLT, Nat.reduceLeDiff, Nat.reduceAdd, reduceCtorEq, if_pos, if_neg, e1, e2, e3, e4, q0, r0, gl, gi, gk, f3, imR_set, hsw] <;> rfl)); (first | refine pickT ?_ | refine pickF ?_ | fail_if_success with_reducible refine pickA ?_)) | ((with_reducible refine SC.draw Tab.mixed ?_ ?_); (focus (first | rfl | simp (disch := omega) only [go_sem, ↓reduceIte, Nat.reduceEqDiff, Nat.reduceLT, Nat.reduceLeDiff, Nat.reduceAdd, Nat.reduceMul, Nat.reduceSub, reduceCtorEq, Nat.reduceBEq, Int.reduceToNat, Int.reducePow, if_pos, if_neg, e1, e2, e3, e4, qp, q0, r0, gl, hl, gi, gk, f3, imR_set, hsw, List.length_set]))) | (with_reducible apply SC.ops)))
      exact retQ_ret Try.results28 (by simp (disch := omega) only [go_sem, ↓reduceIte, Nat.reduceEqDiff, Nat.reduceLeDiff, Nat.reduceAdd] <;> rfl) (by simp (disch := omega) only [go_sem, ↓reduceIte, Nat.reduceEqDiff, if_pos, f6, f7, f8] <;> rfl) rfl
    · rw [if_neg (by omega), if_pos g]
      have r0 : (((what % 4 : Nat) : Int) == 0) = false := by rw [g]; rfl
      have r1 : (((what % 4 : Nat) : Int) == 1) = true := by rw [g]; rfl
      by_cases hz : c % p = 0
      · have r2 : (((c % p : Nat) : Int) != 0) = false := by rw [hz]; rfl
        rw [if_neg (by omega), hl]
        (repeat (first | refine DO.nil (by kernel_rfl) ?_ | (with_reducible first | apply oz1 | apply oz2 | apply oz3 | apply oz4 | apply oz5 | apply oz6 | apply oz7 | apply oz8 | apply oz9 | apply ozb | apply ozc | apply oze | apply ozf | apply ozg | apply ozh | apply ozi | apply ozj | apply ozk | refine ozd (by decide) ?_) | ((first | apply SO.call | apply DO.call); (iterate 3 (focus (simp (disch := omega) only [go_sem, ↓reduceIte, Nat.reduceEqDiff, Nat.reduceLT, Nat.reduceLeDiff, Nat.reduceAdd, Nat.reduceMul, Nat.reduceSub, reduceCtorEq, Nat.reduceBEq, Int.reduceToNat, Int.reducePow, if_pos, if_neg, e1, e2, e3, e4, qp, q0, r0, r1, r2, gl, hl, gi, gk, f3, imR_set, List.length_set] <;> rfl))); (first | apply SCall.ofX | apply DCall.ofX); (focus (first | assumption)); (focus (simp (disch := omega) only [go_sem, ↓reduceIte, Nat.reduceEqDiff, Nat.reduceLT, Nat.reduceLeDiff, Nat.reduceAdd, Nat.reduceMul, Nat.reduceSub, reduceCtorEq, Nat.reduceBEq, Int.reduceToNat, Int.reducePow, if_pos, if_neg, e1, e2, e3, e4, qp, q0, r0, r1, r2, gl, hl, gi, gk, f3, imR_set, List.length_set] <;> rfl))) | ((with_reducible first | apply SC.condB | apply SC.region | apply SO.run | apply DO.run); (focus (simp (disch := omega) only [go_sem, ↓reduceIte, Nat.reduceEqDiff, Nat.reduceLT, Nat.reduceLeDiff, Nat.reduceAdd, reduceCtorEq, if_neg, e1, e2, e3, e4, q0, r0, r1, r2] <;> rfl)); (first | refine pickT ?_ | refine pickF ?_ | fail_if_success with_reducible refine pickA ?_)) | ((with_reducible refine SC.draw Tab.mixed ?_ ?_); (focus (first | rfl | simp (disch := omega) only [go_sem, ↓reduceIte, Nat.reduceEqDiff, Nat.reduceLT, Nat.reduceLeDiff, Nat.reduceAdd, Nat.reduceMul, Nat.reduceSub, reduceCtorEq, Nat.reduceBEq, Int.reduceToNat, Int.reducePow, if_pos, if_neg, e1, e2, e3, e4, qp, q0, r0, r1, r2, gl, hl, gi, gk, f3, imR_set, List.length_set]))) | (with_reducible apply SC.ops)))
        exact retQ_ret Try.results28 (by simp (disch := omega) only [go_sem, ↓reduceIte, Nat.reduceEqDiff, Nat.reduceLeDiff, Nat.reduceAdd] <;> rfl) (by simp (disch := omega) only [go_sem, ↓reduceIte, Nat.reduceEqDiff, if_pos, gl, f1, f2] <;> rfl) rfl
      · have r2 : (((c % p : Nat) : Int) != 0) = true := by rw [bne_iff_ne]; omega
        rw [if_pos hz, List.length_set, hl]
        (repeat (first | refine DO.nil (by kernel_rfl) ?_ | (with_reducible first | apply oz1 | apply oz2 | apply oz3 | apply oz4 | apply oz5 | apply oz6 | apply oz7 | apply oz8 | apply oz9 | apply ozb | apply ozc | apply oze | apply ozf | apply ozg | apply ozh | apply ozi | apply ozj | apply ozk | refine ozd (by decide) ?_) | ((first | apply SO.call | apply DO.call); (iterate 3 (focus (simp (disch := omega) only [go_sem, ↓reduceIte, Nat.reduceEqDiff] <;> rfl))); (first | apply SCall.ofX | apply DCall.ofX); (focus (first | assumption)); (focus (simp (disch := omega) only [go_sem] <;> rfl))) | ((with_reducible first | apply SC.condB | apply SC.region | apply SO.run | apply DO.run); (focus (simp (disch := omega) only [go_sem, ↓reduceIte, Nat.reduceEqDiff, Nat.reduceLT, Nat.reduceLeDiff, Nat.reduceAdd, reduceCtorEq, if_pos, if_neg, e1, e2, e3, e4, q0, r0, r1, r2, gl, gi, imR_set] <;> rfl)); (first | refine pickT ?_ | refine pickF ?_ | fail_if_success with_reducible refine pickA ?_)) | ((with_reducible refine SC.draw Tab.mixed ?_ ?_); (focus (first | rfl | simp (disch := omega) only [go_sem, ↓reduceIte, Nat.reduceEqDiff, Nat.reduceLT, Nat.reduceLeDiff, Nat.reduceAdd, Nat.reduceMul, Nat.reduceSub, reduceCtorEq, Nat.reduceBEq, Int.reduceToNat, Int.reducePow, if_pos, if_neg, e1, e2, e3, e4, qp, q0, r0, r1, r2, gl, hl, gi, gk, f3, imR_set, List.length_set]))) | (with_reducible apply SC.ops)))
        exact retQ_ret Try.results28 (by simp (disch := omega) only [go_sem, ↓reduceIte, Nat.reduceEqDiff, Nat.reduceLeDiff, Nat.reduceAdd] <;> rfl) (by simp (disch := omega) only [go_sem, ↓reduceIte, Nat.reduceEqDiff, if_pos, f3, f4, f5] <;> rfl) rfl
    · rw [if_neg (by omega), if_neg (by omega), if_pos g]
      have r0 : (((what % 4 : Nat) : Int) == 0) = false := by rw [g]; rfl
      have r1 : (((what % 4 : Nat) : Int) == 1) = false := by rw [g]; rfl
      have r2 : (((what % 4 : Nat) : Int) == 2) = true := by rw [g]; rfl
      by_cases hz : i % n = k % n
      · have r3 : (((i % n : Nat) : Int) != ((k % n : Nat) : Int)) = false := by rw [hz]; simp
        rw [if_neg (by omega), hl]
        (repeat (first | refine DO.nil (by kernel_rfl) ?_ | (with_reducible first | apply oz1 | apply oz2 | apply oz3 | apply oz4 | apply oz5 | apply oz6 | apply oz7 | apply oz8 | apply oz9 | apply ozb | apply ozc | apply oze | apply ozf | apply ozg | apply ozh | apply ozi | apply ozj | apply ozk | refine ozd (by decide) ?_) | ((first | apply SO.call | apply DO.call); (iterate 3 (focus (simp (disch := omega) only [go_sem, ↓reduceIte, Nat.reduceEqDiff, Nat.reduceLT, Nat.reduceLeDiff, Nat.reduceAdd, Nat.reduceMul, Nat.reduceSub, reduceCtorEq, Nat.reduceBEq, Int.reduceToNat, Int.reducePow, if_pos, if_neg, e1, e2, e3, e4, qp, q0, r0, r1, r2, r3, gl, hl, gi, gk, f3, imR_set, List.length_set] <;> rfl))); (first | apply SCall.ofX | apply DCall.ofX); (focus (first | assumption)); (focus (simp (disch := omega) only [go_sem, ↓reduceIte, Nat.reduceEqDiff, Nat.reduceLT, Nat.reduceLeDiff, Nat.reduceAdd, Nat.reduceMul, Nat.reduceSub, reduceCtorEq, Nat.reduceBEq, Int.reduceToNat, Int.reducePow, if_pos, if_neg, e1, e2, e3, e4, qp, q0, r0, r1, r2, r3, gl, hl, gi, gk, f3, imR_set, List.length_set] <;> rfl))) | ((with_reducible first | apply SC.condB | apply SC.region | apply SO.run | apply DO.run); (focus (simp (disch := omega) only [go_sem, ↓reduceIte, Nat.reduceEqDiff, Nat.reduceLT, Nat.reduceLeDiff, Nat.reduceAdd, reduceCtorEq, if_neg, e1, e2, e3, e4, q0, r0, r1, r2, r3] <;> rfl)); (first | refine pickT ?_ | refine pickF ?_ | fail_if_success with_reducible refine pickA ?_)) | ((with_reducible refine SC.draw Tab.mixed ?_ ?_); (focus (first | rfl | simp (disch := omega) only [go_sem, ↓reduceIte, Nat.reduceEqDiff, Nat.reduceLT, Nat.reduceLeDiff, Nat.reduceAdd, Nat.reduceMul, Nat.reduceSub, reduceCtorEq, Nat.reduceBEq, Int.reduceToNat, Int.reducePow, if_pos, if_neg, e1, e2, e3, e4, qp, q0, r0, r1, r2, r3, gl, hl, gi, gk, f3, imR_set, List.length_set]))) | (with_reducible apply SC.ops)))
        exact retQ_ret Try.results28 (by simp (disch := omega) only [go_sem, ↓reduceIte, Nat.reduceEqDiff, Nat.reduceLeDiff, Nat.reduceAdd] <;> rfl) (by simp (disch := omega) only [go_sem, ↓reduceIte, Nat.reduceEqDiff, if_pos, gl, f1, f2] <;> rfl) rfl
      · have r3 : (((i % n : Nat) : Int) != ((k % n : Nat) : Int)) = true := by rw [bne_iff_ne]; omega
        rw [if_pos hz, List.length_set, hl]
        (repeat (first | refine DO.nil (by kernel_rfl) ?_ | (with_reducible first | apply oz1 | apply oz2 | apply oz3 | apply oz4 | apply oz5 | apply oz6 | apply oz7 | apply oz8 | apply oz9 | apply ozb | apply ozc | apply oze | apply ozf | apply ozg | apply ozh | apply ozi | apply ozj | apply ozk | refine ozd (by decide) ?_) | ((first | apply SO.call | apply DO.call); (iterate 3 (focus (simp (disch := omega) only [go_sem, ↓reduceIte, Nat.reduceEqDiff] <;> rfl))); (first | apply SCall.ofX | apply DCall.ofX); (focus (first | assumption)); (focus (simp (disch := omega) only [go_sem] <;> rfl))) | ((with_reducible first | apply SC.condB | apply SC.region | apply SO.run | apply DO.run); (focus (simp (disch := omega) only [go_sem, ↓reduceIte, Nat.reduceEqDiff, Nat.reduceLT, Nat.reduceLeDiff, Nat.reduceAdd, reduceCtorEq, if_pos, if_neg, e1, e2, e3, e4, q0, r0, r1, r2, r3, gl, gi, gk, imR_set] <;> rfl)); (first | refine pickT ?_ | refine pickF ?_ | fail_if_success with_reducible refine pickA ?_)) | ((with_reducible refine SC.draw Tab.mixed ?_ ?_); (focus (first | rfl | simp (disch := omega) only [go_sem, ↓reduceIte, Nat.reduceEqDiff, Nat.reduceLT, Nat.reduceLeDiff, Nat.reduceAdd, Nat.reduceMul, Nat.reduceSub, reduceCtorEq, Nat.reduceBEq, Int.reduceToNat, Int.reducePow, if_pos, if_neg, e1, e2, e3, e4, qp, q0, r0, r1, r2, r3, gl, hl, gi, gk, f3, imR_set, List.length_set]))) | (with_reducible apply SC.ops)))
        exact retQ_ret Try.results28 (by simp (disch := omega) only [go_sem, ↓reduceIte, Nat.reduceEqDiff, Nat.reduceLeDiff, Nat.reduceAdd] <;> rfl) (by simp (disch := omega) only [go_sem, ↓reduceIte, Nat.reduceEqDiff, if_pos, f3, f4, f5] <;> rfl) rfl
    · rw [if_neg (by omega), if_neg (by omega), if_neg (by omega), List.length_append, hl]
      have r0 : (((what % 4 : Nat) : Int) == 0) = false := by rw [g]; rfl
      have r1 : (((what % 4 : Nat) : Int) == 1) = false := by rw [g]; rfl
      have r2 : (((what % 4 : Nat) : Int) == 2) = false := by rw [g]; rfl
      have h4 := imR_snoc w M (addRw p (M.getD (i % n) []) (M.getD (k % n) []) (c % p))
      have h5 := imR_len w (M ++ [addRw p (M.getD (i % n) []) (M.getD (k % n) []) (c % p)])
      rw [List.length_append, hl, List.length_singleton] at h5
      have h6 := imR_clo w (nR (M ++ [addRw p (M.getD (i % n) []) (M.getD (k % n) []) (c % p)]))
      have h7 : (imR w (nR (M ++ [addRw p (M.getD (i % n) []) (M.getD (k % n) []) (c % p)]))).take (n + 1) = imR w (nR (M ++ [addRw p (M.getD (i % n) []) (M.getD (k % n) []) (c % p)])) := List.take_of_length_le (by omega)
      generalize addRw p (M.getD (i % n) []) (M.getD (k % n) []) (c % p) = o at *
      (repeat (first | refine DO.nil (by kernel_rfl) ?_ | (with_reducible first | apply oz1 | apply oz2 | apply oz3 | apply oz4 | apply oz5 | apply oz6 | apply oz7 | apply oz8 | apply oz9 | apply ozb | apply ozc | apply oze | apply ozf | apply ozg | apply ozh | apply ozi | apply ozj | apply ozk | refine ozd (by decide) ?_) | ((first | apply SO.call | apply DO.call); (iterate 3 (focus (simp (disch := omega) only [go_sem, ↓reduceIte, Nat.reduceEqDiff] <;> rfl))); (first | apply SCall.ofX | apply DCall.ofX); (focus (first | assumption)); (focus (simp (disch := omega) only [go_sem] <;> rfl))) | ((with_reducible first | apply SC.condB | apply SC.region | apply SO.run | apply DO.run); (focus (simp (disch := omega) only [go_sem, ↓reduceIte, Nat.reduceEqDiff, Nat.reduceLT, Nat.reduceLeDiff, Nat.reduceAdd, reduceCtorEq, if_pos, if_neg, e1, e2, e3, e4, q0, r0, r1, r2, gl, gi, gk, f2, h4] <;> rfl)); (first | refine pickT ?_ | refine pickF ?_ | fail_if_success with_reducible refine pickA ?_)) | ((with_reducible refine SC.draw Tab.mixed ?_ ?_); (focus (first | rfl | simp (disch := omega) only [go_sem, ↓reduceIte, Nat.reduceEqDiff, Nat.reduceLT, Nat.reduceLeDiff, Nat.reduceAdd, Nat.reduceMul, Nat.reduceSub, reduceCtorEq, Nat.reduceBEq, Int.reduceToNat, Int.reducePow, if_pos, if_neg, e1, e2, e3, e4, qp, q0, r0, r1, r2, gl, hl, gi, gk, f2, f3, h4, imR_set, List.length_set]))) | (with_reducible apply SC.ops)))
      exact retQ_ret Try.results28 (by simp (disch := omega) only [go_sem, ↓reduceIte, Nat.reduceEqDiff, Nat.reduceLeDiff, Nat.reduceAdd] <;> rfl) (by simp (disch := omega) only [go_sem, ↓reduceIte, Nat.reduceLeDiff, if_pos, h5, h6, h7] <;> rfl) rfl
end Go.Proofs.Ytpbomhmflllemaa

/- The reference: Mul, Square. -/
namespace Go.Proofs.Ytpbomhmflllemaa
open Go.RowKit

def mulL (p w : Nat) (A B : List (List Nat)) : List (List Nat) := A.map fun r => actL p w r B
theorem mulL_len {p w : Nat} {A B : List (List Nat)} : (mulL p w A B).length = A.length := by simp [mulL]
theorem mulL_get {p w i : Nat} {A B : List (List Nat)} (h : i < A.length) : (mulL p w A B).getD i [] = actL p w (A.getD i []) B := by
  unfold mulL; rw [List.getD_eq_getElem?_getD, List.getElem?_map, getD_get' (d := []) h]; rfl
theorem mulL_mv {p n m w : Nat} (hp : 0 < p) {A B : List (List Nat)} (hA : MV p n m A) (hB : MV p m w B) : MV p n w (mulL p w A B) := by
  have : NeZero p := ⟨by omega⟩
  refine ⟨mulL_len.trans hA.1, fun r hr => ?_⟩
  obtain ⟨x, hx, rfl⟩ := List.mem_map.1 hr
  exact (actL_post hB (hA.2 x hx).1).1
theorem mulL_snoc {p w i : Nat} {A B : List (List Nat)} (h : i < A.length) : imR w (nR ((mulL p w A B).take i)) ++ [V.im (nv (actL p w (A.getD i []) B)) w] = imR w (nR ((mulL p w A B).take (i + 1))) := by
  rw [← mulL_get h]
  exact imR_take (by rw [mulL_len]; exact h)

set_option maxRecDepth 4000 in
set_option maxHeartbeats 4000000 in
theorem rmul_s {p n m w : Nat} {A C : List (List Nat)} (hp : 0 < p) (hp2 : p ≤ 2147483648) (hA : MV p n m A) (hC : MV p m w C) (hn : n ≤ 1000000) (hm : m ≤ 1000000) (hw : w ≤ 1000000) :
    Spec Try.prog 34 [md p m A, md p w C] (md p w (mulL p w A C)) := by
  have hla := hA.1
  have hlb := hC.1
  have gl := imR_len m A
  have hlm := mulL_len (p := p) (w := w) (A := A) (B := C)
  have hmv := mulL_mv hp hA hC
  unfold md mv
  rw [hlm, hla, hlb]
  rw [hla] at hlm
  refine Spec.run Try.func34 rfl Try.ntmps34 (by simp) (by simp (disch := omega) only [go_sem, Nat.reduceAdd]; rfl) fun B hB => ?_
  (repeat (first | refine DO.nil (by kernel_rfl) ?_ | (with_reducible first | apply oz1 | apply oz2 | apply oz3 | apply oz4 | apply oz5 | apply oz6 | apply oz7 | apply oz8 | apply oz9 | apply ozb | apply ozc | apply oze | apply ozf | apply ozg | apply ozh | apply ozi | apply ozj | apply ozk | refine ozd (by decide) ?_) | ((first | apply SO.call | apply DO.call); (iterate 3 (focus (simp (disch := omega) only [go_sem, ↓reduceIte, Nat.reduceEqDiff, Nat.reduceLT, Nat.reduceLeDiff, Nat.reduceAdd, Nat.reduceMul, Nat.reduceSub, reduceCtorEq, Nat.reduceBEq, Int.reduceToNat, Int.reducePow, if_pos, if_neg] <;> rfl))); (first | apply SCall.ofX | apply DCall.ofX); (focus (first | assumption)); (focus (simp (disch := omega) only [go_sem, ↓reduceIte, Nat.reduceEqDiff, Nat.reduceLT, Nat.reduceLeDiff, Nat.reduceAdd, Nat.reduceMul, Nat.reduceSub, reduceCtorEq, Nat.reduceBEq, Int.reduceToNat, Int.reducePow, if_pos, if_neg] <;> rfl))) | ((with_reducible first | apply SC.condB | apply SC.region | apply SO.run | apply DO.run); (focus (simp (disch := omega) only [go_sem, ↓reduceIte, Nat.reduceEqDiff, Nat.reduceLeDiff, Nat.reduceAdd, reduceCtorEq] <;> rfl)); (first | refine pickT ?_ | refine pickF ?_ | fail_if_success with_reducible refine pickA ?_)) | ((with_reducible refine SC.draw Tab.mixed ?_ ?_); (focus (first | rfl | simp (disch := omega) only [go_sem, ↓reduceIte, Nat.reduceEqDiff, Nat.reduceLT, Nat.reduceLeDiff, Nat.reduceAdd, Nat.reduceMul, Nat.reduceSub, reduceCtorEq, Nat.reduceBEq, Int.reduceToNat, Int.reducePow, if_pos, if_neg]))) | (with_reducible apply SC.ops)))
  refine SC.loop (fun i : Nat => ⟨[(2, .pt 0 0), (3, .pt 1 0), (4, .pt 2 0), (5, .pt 3 0), (6, .sc (.int .i64 i))], [(3, ⟨29, [.sc (.int .u64 p), .sc (.int .i64 w), .sl 4 0 i 1 none], false⟩), (4, ⟨44, imR w (nR ((mulL p w A C).take i)), false⟩), (2, ⟨29, [.sc (.int .u64 0), .sc (.int .i64 0), .sc (.slice none 0 0)], false⟩), (1, ⟨29, [.sc (.int .u64 p), .sc (.int .i64 w), .im (imR w (nR C)) m], false⟩), (0, ⟨29, [.sc (.int .u64 p), .sc (.int .i64 m), .im (imR m (nR A)) n], false⟩)], 5, 32⟩)
    (fun i => i ≤ n) (fun i => n - i) 0 ?_ ?_ ?_
  · refine nilRow (pre := [.sc (.int .u64 p), .sc (.int .i64 w)]) 3 4 hB (by simp (disch := omega) only [go_sem, ↓reduceIte] <;> rfl) rfl (by omega) ?_ (by omega) ?_
    · exact ⟨⟨by omega, by omega, by omega, by simp, by simp (disch := omega) only [go_sem, ↓reduceIte, Nat.reduceEqDiff] <;> rfl, rfl⟩, ⟨by omega, by omega, by omega, by simp, by simp (disch := omega) only [go_sem, ↓reduceIte, Nat.reduceEqDiff] <;> rfl, rfl⟩, ⟨by omega, by omega, by omega, by simp, by simp (disch := omega) only [go_sem, ↓reduceIte, reduceCtorEq] <;> rfl, rfl⟩, trivial⟩
    · (repeat' (first | exact trivial | refine mapSl_cons (by simp (disch := omega) only [go_sem, ↓reduceIte, Nat.reduceEqDiff] <;> rfl) ?_ ?_ | exact VMap.junk _ | exact VMap.sc _ | exact VMap.clo rfl | exact VMap.sl rfl (by omega) | exact VMap.cap rfl (by omega) | exact VMap.pt rfl (by omega) | exact VMap.nil_sl _ _ _ | exact VMap.int (by first | rfl | omega | (dsimp only; omega))))
  · exact Nat.zero_le _
  · intro i hi K hK
    by_cases hc : i < n
    · have q1 := decide_eq_true (p := (i : Int) < (n : Int)) (by omega)
      have g1 := imR_get (w := m) (M := A) (i := i) (by omega)
      have hr := hA.get hc
      have c1 := ract_s hp hp2 hC hr hm hw
      have g4 := mulL_snoc (p := p) (w := w) (A := A) (B := C) (i := i) (by omega)
      have g5 := imR_len w ((mulL p w A C).take i)
      rw [List.length_take, hlm, Nat.min_eq_left hi] at g5
      have g6 : (imR w (nR ((mulL p w A C).take i))).take i = imR w (nR ((mulL p w A C).take i)) := List.take_of_length_le (by omega)
      unfold md mv at c1
      rw [hlb] at c1
      generalize actL p w (A.getD i []) C = o at *
      generalize A.getD i [] = r at *
      (repeat (first | refine DO.nil (by kernel_rfl) ?_ | (with_reducible first | apply oz1 | apply oz2 | apply oz3 | apply oz4 | apply oz5 | apply oz6 | apply oz7 | apply oz8 | apply oz9 | apply ozb | apply ozc | apply oze | apply ozf | apply ozg | apply ozh | apply ozi | apply ozj | apply ozk | refine ozd (by decide) ?_) | ((first | apply SO.call | apply DO.call); (iterate 3 (focus (simp (disch := omega) only [go_sem, ↓reduceIte, Nat.reduceEqDiff] <;> rfl))); (first | apply SCall.ofX | apply DCall.ofX); (focus (first | assumption)); (focus (simp (disch := omega) only [go_sem] <;> rfl))) | ((with_reducible first | apply SC.condB | apply SC.region | apply SO.run | apply DO.run); (focus (simp (disch := omega) only [go_sem, ↓reduceIte, Nat.reduceEqDiff, Nat.reduceLeDiff, Nat.reduceAdd, reduceCtorEq, if_pos, q1, gl, hla, g1, g5, g6, List.getElem?_drop] <;> rfl)); (first | refine pickT ?_ | refine pickF ?_ | fail_if_success with_reducible refine pickA ?_)) | ((with_reducible refine SC.draw Tab.mixed ?_ ?_); (focus (first | rfl | simp (disch := omega) only [go_sem, ↓reduceIte, Nat.reduceEqDiff, Nat.reduceLT, Nat.reduceLeDiff, Nat.reduceAdd, Nat.reduceMul, Nat.reduceSub, reduceCtorEq, Nat.reduceBEq, Int.reduceToNat, Int.reducePow, if_pos, if_neg, q1, gl, hla, g1, g5, g6, List.getElem?_drop]))) | (with_reducible apply SC.ops)))
      refine hK _ (i + 1) ?_ (by omega) (by omega)
      rw [← g4]
      refine appRow (pre := [.sc (.int .u64 p), .sc (.int .i64 w)]) (y := .im (nv o) w) (ids := []) 3 4 6 hB (by simp (disch := omega) only [go_sem, ↓reduceIte, Nat.reduceEqDiff] <;> rfl) (by simp (disch := omega) only [go_sem, ↓reduceIte] <;> rfl) (by simp (disch := omega) only [go_sem] <;> rfl) rfl (imR_clo _ _) rfl (by omega) (by omega) (by simp) (by simp) ?_ (by omega) ?_
      · exact ⟨⟨by omega, by omega, by omega, by simp, by simp (disch := omega) only [go_sem, ↓reduceIte, Nat.reduceEqDiff] <;> rfl, rfl⟩, ⟨by omega, by omega, by omega, by simp, by simp (disch := omega) only [go_sem, ↓reduceIte, Nat.reduceEqDiff] <;> rfl, rfl⟩, ⟨by omega, by omega, by omega, by simp, by simp (disch := omega) only [go_sem, ↓reduceIte, reduceCtorEq] <;> rfl, rfl⟩, trivial⟩
      · (repeat' (first | exact trivial | refine mapSl_cons (by simp (disch := omega) only [go_sem, ↓reduceIte, Nat.reduceEqDiff] <;> rfl) ?_ ?_ | exact VMap.junk _ | exact VMap.sc _ | exact VMap.clo rfl | exact VMap.sl rfl (by omega) | exact VMap.cap rfl (by omega) | exact VMap.pt rfl (by omega) | exact VMap.nil_sl _ _ _ | exact VMap.int (by first | rfl | omega | (dsimp only; omega))))
    · have q1 := decide_eq_false (p := (i : Int) < (n : Int)) (by omega)
      have hin : i = n := by omega
      rw [hin] at q1 ⊢
      rw [List.take_of_length_le (by omega)]
      have g5 := imR_len w (mulL p w A C)
      have u3 := imR_clo w (nR (mulL p w A C))
      have u4 : (imR w (nR (mulL p w A C))).take n = imR w (nR (mulL p w A C)) := List.take_of_length_le (by omega)
      (repeat (first | refine DO.nil (by kernel_rfl) ?_ | (with_reducible first | apply oz1 | apply oz2 | apply oz3 | apply oz4 | apply oz5 | apply oz6 | apply oz7 | apply oz8 | apply oz9 | apply ozb | apply ozc | apply oze | apply ozf | apply ozg | apply ozh | apply ozi | apply ozj | apply ozk | refine ozd (by decide) ?_) | ((first | apply SO.call | apply DO.call); (iterate 3 (focus (simp (disch := omega) only [go_sem, ↓reduceIte, Nat.reduceEqDiff, Nat.reduceLT, Nat.reduceLeDiff, Nat.reduceAdd, Nat.reduceMul, Nat.reduceSub, reduceCtorEq, Nat.reduceBEq, Int.reduceToNat, Int.reducePow, if_pos, if_neg, q1] <;> rfl))); (first | apply SCall.ofX | apply DCall.ofX); (focus (first | assumption)); (focus (simp (disch := omega) only [go_sem, ↓reduceIte, Nat.reduceEqDiff, Nat.reduceLT, Nat.reduceLeDiff, Nat.reduceAdd, Nat.reduceMul, Nat.reduceSub, reduceCtorEq, Nat.reduceBEq, Int.reduceToNat, Int.reducePow, if_pos, if_neg, q1] <;> rfl))) | ((with_reducible first | apply SC.condB | apply SC.region | apply SO.run | apply DO.run); (focus (simp (disch := omega) only [go_sem, ↓reduceIte, Nat.reduceEqDiff, Nat.reduceLT, Nat.reduceLeDiff, Nat.reduceAdd, reduceCtorEq, q1] <;> rfl)); (first | refine pickT ?_ | refine pickF ?_ | fail_if_success with_reducible refine pickA ?_)) | ((with_reducible refine SC.draw Tab.mixed ?_ ?_); (focus (first | rfl | simp (disch := omega) only [go_sem, ↓reduceIte, Nat.reduceEqDiff, Nat.reduceLT, Nat.reduceLeDiff, Nat.reduceAdd, Nat.reduceMul, Nat.reduceSub, reduceCtorEq, Nat.reduceBEq, Int.reduceToNat, Int.reducePow, if_pos, if_neg, q1]))) | (with_reducible apply SC.ops)))
      exact retQ_ret Try.results34 (by simp (disch := omega) only [go_sem, ↓reduceIte, Nat.reduceEqDiff, Nat.reduceLeDiff, Nat.reduceAdd] <;> rfl) (by simp (disch := omega) only [go_sem, ↓reduceIte, Nat.reduceEqDiff, if_pos, u3, u4, g5, hlm] <;> rfl) rfl

theorem rsquare_s {p kp kc : Nat} {L : List (List Nat)} (hp : 0 < p) (hp2 : p ≤ 2147483648) (hk : kp ≤ 255) (hpk : primesL.getD (kp % 15) 0 = p) (hu : ∀ l ∈ L, ∀ x ∈ l, x < 4294967296) (hL : L.length ≤ 9223372036854775807) :
    Spec Try.prog 32 [.ag [.sc (.int .u8 kp), .sc (.int .u8 kc), .im (uR L) L.length]] (md p (min L.length 4) (sizedL p L (min L.length 4) (min L.length 4))) := by
  have c1 := rsized_s (kc := kc) (rows := min L.length 4) (cols := min L.length 4) hp hp2 hk hpk hu (by omega) (by omega)
  have e1 : (if (4 : Int) < (L.length : Int) then 4 else (L.length : Int)) = ((min L.length 4 : Nat) : Int) := by split <;> omega
  have gl := uR_len L
  unfold md mv at *
  generalize sizedL p L (min L.length 4) (min L.length 4) = Z at *
  generalize min L.length 4 = a at *
  refine Spec.run Try.func32 rfl Try.ntmps32 (by simp) (by simp (disch := omega) only [go_sem]; rfl) fun B hB => ?_
  (repeat (first | refine DO.nil (by kernel_rfl) ?_ | (with_reducible first | apply oz1 | apply oz2 | apply oz3 | apply oz4 | apply oz5 | apply oz6 | apply oz7 | apply oz8 | apply oz9 | apply ozb | apply ozc | apply oze | apply ozf | apply ozg | apply ozh | apply ozi | apply ozj | apply ozk | refine ozd (by decide) ?_) | ((first | apply SO.call | apply DO.call); (iterate 3 (focus (simp (disch := omega) only [go_sem, ↓reduceIte, Nat.reduceEqDiff, Nat.reduceLT] <;> rfl))); (first | apply SCall.ofX | apply DCall.ofX); (focus (first | assumption)); (focus (simp (disch := omega) only [go_sem] <;> rfl))) | ((with_reducible first | apply SC.condB | apply SC.region | apply SO.run | apply DO.run); (focus (simp (disch := omega) only [go_sem, ↓reduceIte, Nat.reduceEqDiff, Nat.reduceLT, Nat.reduceLeDiff, Nat.reduceAdd, reduceCtorEq, e1] <;> rfl)); (first | refine pickT ?_ | refine pickF ?_ | fail_if_success with_reducible refine pickA ?_)) | ((with_reducible refine SC.draw Tab.mixed ?_ ?_); (focus (first | rfl | simp (disch := omega) only [go_sem, ↓reduceIte, Nat.reduceEqDiff, Nat.reduceLT, Nat.reduceLeDiff, Nat.reduceAdd, Nat.reduceMul, Nat.reduceSub, reduceCtorEq, Nat.reduceBEq, Int.reduceToNat, Int.reducePow, if_pos, if_neg, e1, gl]))) | (with_reducible apply SC.ops)))
  exact retQ_ret Try.results32 (by simp (disch := omega) only [go_sem, ↓reduceIte, Nat.reduceEqDiff, Nat.reduceLeDiff, Nat.reduceAdd] <;> rfl) (by simp (disch := omega) only [go_sem, ↓reduceIte] <;> rfl) rfl
end Go.Proofs.Ytpbomhmflllemaa
