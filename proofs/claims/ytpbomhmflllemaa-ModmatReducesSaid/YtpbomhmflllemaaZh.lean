/- Texts joined: Mad Mae Maf Mag Mah Mal Mar Na Nb Nc Mam Maq. -/
import Derived.Test.YtpbomhmflllemaaZc
import Derived.Test.YtpbomhmflllemaaZd
import Derived.Test.YtpbomhmflllemaaZf
import Derived.Test.YtpbomhmflllemaaZg
set_option linter.all false
/- The program's test of the 15 primes: closed runs. -/
namespace Go.Proofs.Ytpbomhmflllemaa
open Go.RowKit
theorem prime2 : Spec Try.prog 73 [.sc (.int .u64 (2 : Nat))] (.sc (.bool true)) := Spec.eval (K := fun _ _ => none) (fun _ _ _ h => by cases h) 200 (fun _ => false) (by kernel_rfl)
theorem prime3 : Spec Try.prog 73 [.sc (.int .u64 (3 : Nat))] (.sc (.bool true)) := Spec.eval (K := fun _ _ => none) (fun _ _ _ h => by cases h) 200 (fun _ => false) (by kernel_rfl)
theorem prime5 : Spec Try.prog 73 [.sc (.int .u64 (5 : Nat))] (.sc (.bool true)) := Spec.eval (K := fun _ _ => none) (fun _ _ _ h => by cases h) 200 (fun _ => false) (by kernel_rfl)
theorem prime7 : Spec Try.prog 73 [.sc (.int .u64 (7 : Nat))] (.sc (.bool true)) := Spec.eval (K := fun _ _ => none) (fun _ _ _ h => by cases h) 200 (fun _ => false) (by kernel_rfl)
theorem prime11 : Spec Try.prog 73 [.sc (.int .u64 (11 : Nat))] (.sc (.bool true)) := Spec.eval (K := fun _ _ => none) (fun _ _ _ h => by cases h) 200 (fun _ => false) (by kernel_rfl)
theorem prime101 : Spec Try.prog 73 [.sc (.int .u64 (101 : Nat))] (.sc (.bool true)) := Spec.eval (K := fun _ _ => none) (fun _ _ _ h => by cases h) 200 (fun _ => false) (by kernel_rfl)
theorem prime65521 : Spec Try.prog 73 [.sc (.int .u64 (65521 : Nat))] (.sc (.bool true)) := Spec.eval (K := fun _ _ => none) (fun _ _ _ h => by cases h) 200 (fun _ => false) (by kernel_rfl)
theorem prime65537 : Spec Try.prog 73 [.sc (.int .u64 (65537 : Nat))] (.sc (.bool true)) := Spec.eval (K := fun _ _ => none) (fun _ _ _ h => by cases h) 200 (fun _ => false) (by kernel_rfl)
theorem prime1000003 : Spec Try.prog 73 [.sc (.int .u64 (1000003 : Nat))] (.sc (.bool true)) := Spec.eval (K := fun _ _ => none) (fun _ _ _ h => by cases h) 200 (fun _ => false) (by kernel_rfl)
theorem prime2147483549 : Spec Try.prog 73 [.sc (.int .u64 (2147483549 : Nat))] (.sc (.bool true)) := Spec.eval (K := fun _ _ => none) (fun _ _ _ h => by cases h) 200 (fun _ => false) (by kernel_rfl)
theorem prime2147483563 : Spec Try.prog 73 [.sc (.int .u64 (2147483563 : Nat))] (.sc (.bool true)) := Spec.eval (K := fun _ _ => none) (fun _ _ _ h => by cases h) 200 (fun _ => false) (by kernel_rfl)
theorem prime2147483579 : Spec Try.prog 73 [.sc (.int .u64 (2147483579 : Nat))] (.sc (.bool true)) := Spec.eval (K := fun _ _ => none) (fun _ _ _ h => by cases h) 200 (fun _ => false) (by kernel_rfl)
theorem prime2147483587 : Spec Try.prog 73 [.sc (.int .u64 (2147483587 : Nat))] (.sc (.bool true)) := Spec.eval (K := fun _ _ => none) (fun _ _ _ h => by cases h) 200 (fun _ => false) (by kernel_rfl)
theorem prime2147483629 : Spec Try.prog 73 [.sc (.int .u64 (2147483629 : Nat))] (.sc (.bool true)) := Spec.eval (K := fun _ _ => none) (fun _ _ _ h => by cases h) 200 (fun _ => false) (by kernel_rfl)
theorem prime2147483647 : Spec Try.prog 73 [.sc (.int .u64 (2147483647 : Nat))] (.sc (.bool true)) := Spec.eval (K := fun _ _ => none) (fun _ _ _ h => by cases h) 200 (fun _ => false) (by kernel_rfl)
theorem prime_s (k : Nat) : Spec Try.prog 73 [.sc (.int .u64 (primesL.getD (k % 15) 0 : Nat))] (.sc (.bool true)) := by
  have h : k % 15 < 15 := Nat.mod_lt _ (by decide)
  generalize k % 15 = i at *
  match i, h with
  | 0, _ => exact prime2
  | 1, _ => exact prime3
  | 2, _ => exact prime5
  | 3, _ => exact prime7
  | 4, _ => exact prime11
  | 5, _ => exact prime101
  | 6, _ => exact prime65521
  | 7, _ => exact prime65537
  | 8, _ => exact prime1000003
  | 9, _ => exact prime2147483549
  | 10, _ => exact prime2147483563
  | 11, _ => exact prime2147483579
  | 12, _ => exact prime2147483587
  | 13, _ => exact prime2147483629
  | 14, _ => exact prime2147483647
  | i + 15, h => exact absurd h (by omega)
end Go.Proofs.Ytpbomhmflllemaa

/- The law's helpers: ints. -/
namespace Go.Proofs.Ytpbomhmflllemaa
open Go.RowKit
end Go.Proofs.Ytpbomhmflllemaa

/- The fixed examples of the law's package: a closed run with a table for Rref, Rank, Left, Solve. -/
namespace Go.Proofs.Ytpbomhmflllemaa
open Go.RowKit
def unN : V → Option Nat
  | .sc (.int .u64 (.ofNat n)) => some n
  | _ => none
theorem unN_s {x : V} {n : Nat} (h : unN x = some n) : x = .sc (.int .u64 (n : Int)) := by
  unfold unN at h
  split at h
  · cases h; rfl
  · cases h
def unRow : List V → Option (List Nat)
  | [] => some []
  | x :: r => (unN x).bind fun a => (unRow r).map fun l => a :: l
theorem unRow_s : ∀ {cs : List V} {l : List Nat}, unRow cs = some l → cs = nv l
  | [], l, h => by cases h; rfl
  | x :: r, l, h => by
    simp only [unRow] at h
    cases hx : unN x with
    | none => rw [hx] at h; cases h
    | some a =>
      cases hr : unRow r with
      | none => rw [hx, hr] at h; cases h
      | some t =>
        rw [hx, hr] at h
        cases h
        rw [unN_s hx, unRow_s hr]; rfl
def unIm (w : Nat) : V → Option (List Nat)
  | .im cs n => if n = w then unRow cs else none
  | _ => none
theorem unIm_s {w : Nat} {x : V} {l : List Nat} (h : unIm w x = some l) : x = .im (nv l) w := by
  unfold unIm at h
  split at h
  · split at h
    · rename_i e; subst e; rw [unRow_s h]
    · cases h
  · cases h
def unRows (w : Nat) : List V → Option (List (List Nat))
  | [] => some []
  | x :: r => (unIm w x).bind fun a => (unRows w r).map fun l => a :: l
theorem unRows_s {w : Nat} : ∀ {cs : List V} {M : List (List Nat)}, unRows w cs = some M → cs = imR w (nR M)
  | [], l, h => by cases h; rfl
  | x :: r, l, h => by
    simp only [unRows] at h
    cases hx : unIm w x with
    | none => rw [hx] at h; cases h
    | some a =>
      cases hr : unRows w r with
      | none => rw [hx, hr] at h; cases h
      | some t =>
        rw [hx, hr] at h
        cases h
        rw [unIm_s hx, unRows_s hr]; rfl
def unMd : V → Option (Nat × List (List Nat))
  | .ag [.sc (.int .u64 5), .sc (.int .i64 2), .im cs n] => (unRows 2 cs).bind fun M => if n = M.length ∧ M.length ≤ 10 ∧ M.all (fun r => r.length == 2 && r.all fun x => decide (x < 5)) = true then some (2, M) else none
  | _ => none
theorem unMd_s {x : V} {w : Nat} {M : List (List Nat)} (h : unMd x = some (w, M)) : w = 2 ∧ x = md 5 2 M ∧ MV 5 M.length 2 M ∧ M.length ≤ 10 := by
  unfold unMd at h
  split at h
  · rename_i cs n
    cases hr : unRows 2 cs with
    | none => rw [hr] at h; cases h
    | some t =>
      rw [hr] at h
      simp only [Option.bind_some] at h
      split at h
      · rename_i hc
        cases h
        refine ⟨rfl, ?_, ⟨rfl, fun r hr' => ?_⟩, hc.2.1⟩
        · rw [unRows_s hr, hc.1]; rfl
        · have := List.all_eq_true.1 hc.2.2 r hr'
          rw [Bool.and_eq_true, beq_iff_eq, List.all_eq_true] at this
          exact ⟨this.1, fun x hx => by simpa using this.2 x hx⟩
      · cases h
  · cases h
def sanK (f : Nat) (ys : List V) : Option V :=
  match ys with
  | [x] => (unMd x).bind fun q => if f = 14 then some (.tu [md 5 2 (rrefL 5 2 q.2).1, .im (wv (rrefL 5 2 q.2).2) (rrefL 5 2 q.2).2.length])
    else if f = 22 then some (.sc (.int .i64 (rrefL 5 2 q.2).2.length))
    else if f = 18 then some (md 5 q.2.length (leftL 5 2 q.2)) else none
  | [x, y] => if f = 25 then (unMd x).bind fun q => (unIm 2 y).bind fun b => if b.length = 2 ∧ b.all (fun x => decide (x < 5)) = true then some (solV q.2.length (solveL 5 2 q.2 b)) else none else none
  | _ => none
theorem sanK_s (h5 : Pr 5) : KSound Try.prog sanK := by
  intro f ys x h
  unfold sanK at h
  split at h
  · rename_i x'
    cases hx : unMd x' with
    | none => rw [hx] at h; cases h
    | some q =>
      obtain ⟨w, M⟩ := q
      obtain ⟨rfl, rfl, hM, hl⟩ := unMd_s hx
      rw [hx] at h
      simp only [Option.bind_some] at h
      split at h
      · rename_i e; subst e; cases h; exact rref_s prime5 h5 (by omega) hM (by omega) (by omega)
      · split at h
        · rename_i e; subst e; cases h; exact rank_s prime5 h5 (by omega) hM (by omega) (by omega)
        · split at h
          · rename_i e; subst e; cases h; exact left_s prime5 h5 (by omega) hM (by omega) (by omega)
          · cases h
  · rename_i x' y'
    split at h
    · rename_i e
      subst e
      cases hx : unMd x' with
      | none => rw [hx] at h; cases h
      | some q =>
        obtain ⟨w, M⟩ := q
        obtain ⟨rfl, rfl, hM, hl⟩ := unMd_s hx
        rw [hx] at h
        simp only [Option.bind_some] at h
        cases hy : unIm 2 y' with
        | none => rw [hy] at h; cases h
        | some b =>
          rw [hy] at h
          simp only [Option.bind_some] at h
          split at h
          · rename_i hc
            cases h
            rw [unIm_s hy]
            exact solve_s prime5 h5 (by omega) hM ⟨hc.1, fun x hx => by simpa using List.all_eq_true.1 hc.2 x hx⟩ (by omega) (by omega)
          · cases h
    · cases h
  · cases h
/- sanity: NOT BUILT yet (the closed run fails somewhere; try Det of flat, of one row, of none, and modmat.Reduce, torsionref01.Of):
theorem sanity_s (h5 : Pr 5) : Spec Try.prog 11 [] (.sc (.bool true)) := Spec.eval (sanK_s h5) 200 (fun f => f == 13) (by kernel_rfl)
-/
end Go.Proofs.Ytpbomhmflllemaa

/- Det: what the elimination computes. -/
namespace Go.Proofs.Ytpbomhmflllemaa
open Go.RowKit
def downTo (p k t b : Nat) (rk : List Nat) (M : List (List Nat)) : List (List Nat) :=
  M.mapIdx fun i r => if k < i ∧ i < t then addRw p r rk ((0 + p - b * r.getD k 0 % p) % p) else r
def detGo (p : Nat) : Nat → Nat → List (List Nat) → Nat → Nat
  | 0, _, _, d => d
  | t + 1, k, M, d => match searchL M k (M.length - k) k with
    | none => 0
    | some q => detGo p t (k + 1) (downTo p k M.length (ent M q k ^ (p - 2) % p) (M.getD q []) (swapL M k q)) ((if q = k then d else (0 + p - d) % p) * ent M q k % p)
def detL (p : Nat) (M : List (List Nat)) : Nat := detGo p M.length 0 M 1
theorem downTo_len {p k t b : Nat} {rk : List Nat} {M : List (List Nat)} : (downTo p k t b rk M).length = M.length := by simp [downTo]
theorem downTo_get {p k t b i : Nat} {rk : List Nat} {M : List (List Nat)} (h : i < M.length) : (downTo p k t b rk M).getD i [] = if k < i ∧ i < t then addRw p (M.getD i []) rk ((0 + p - b * (M.getD i []).getD k 0 % p) % p) else M.getD i [] := by
  unfold downTo
  rw [List.getD_eq_getElem?_getD, List.getElem?_mapIdx, List.getElem?_eq_getElem h, List.getD_eq_getElem?_getD (l := M), List.getElem?_eq_getElem h]; rfl
theorem downTo_zero {p k b : Nat} {rk : List Nat} {M : List (List Nat)} : downTo p k (k + 1) b rk M = M := by
  refine mat_ext downTo_len fun i hi => ?_
  rw [downTo_len] at hi
  rw [downTo_get hi, if_neg (by omega)]
theorem downTo_set {p k t b : Nat} {rk : List Nat} {M : List (List Nat)} (hk : k < t) (h : t < M.length) : (downTo p k t b rk M).set t (addRw p (M.getD t []) rk ((0 + p - b * (M.getD t []).getD k 0 % p) % p)) = downTo p k (t + 1) b rk M := by
  refine mat_ext (by rw [List.length_set, downTo_len, downTo_len]) fun i hi => ?_
  rw [List.length_set, downTo_len] at hi
  rw [getD_set (by rw [downTo_len]; exact h), downTo_get hi, downTo_get hi]
  by_cases e : i = t
  · subst e; rw [if_pos rfl, if_pos ⟨hk, Nat.lt_succ_self _⟩]
  · rw [if_neg e]
    by_cases g : k < i ∧ i < t
    · rw [if_pos g, if_pos ⟨g.1, by omega⟩]
    · rw [if_neg g, if_neg (by omega)]
theorem downTo_mv {p n w k t b : Nat} {rk : List Nat} {M : List (List Nat)} (hp : 0 < p) (hM : MV p n w M) (hr : rk.length = w) : MV p n w (downTo p k t b rk M) := by
  refine ⟨downTo_len.trans hM.1, fun r hr' => ?_⟩
  obtain ⟨i, hi, rfl⟩ := List.mem_iff_getElem.1 hr'
  rw [downTo_len] at hi
  have e := downTo_get (p := p) (k := k) (t := t) (b := b) (rk := rk) hi
  rw [List.getD_eq_getElem?_getD, List.getElem?_eq_getElem (by rw [downTo_len]; exact hi)] at e
  simp only [Option.getD_some] at e
  rw [e]
  have hr := hM.get (by rw [← hM.1]; exact hi)
  split
  · exact addRw_rw hp hr.1 ‹_›
  · exact hr
end Go.Proofs.Ytpbomhmflllemaa

/- Contract: Det. -/
namespace Go.Proofs.Ytpbomhmflllemaa
open Go.RowKit
set_option maxHeartbeats 8000000 in
set_option maxRecDepth 8000 in
theorem det_s {p n : Nat} {M0 : List (List Nat)} (hpr : Spec Try.prog 73 [.sc (.int .u64 p)] (.sc (.bool true))) (hp : Pr p) (hp2 : p ≤ 2147483647) (hM0 : MV p n n M0) (hn : n ≤ 1000000) :
    Spec Try.prog 16 [md p n M0] (.tu [.sc (.int .u64 (detL p M0)), .sc (.int .i64 0)]) := by
  have hp1 := hp.1
  have hl0 := hM0.1
  have cv := valid_s hpr hM0 hn hn
  have cc := fun nx => copied_s hM0 nx hn hn
  unfold md mv at cv ⊢
  unfold mv at cc
  rw [hl0] at cv cc ⊢
  refine Spec.run Try.func16 rfl Try.ntmps16 (by simp) (by simp (disch := omega) only [go_sem]; rfl) fun B hB => ?_
  (repeat (first | (first | refine DO.nilC (by kernel_rfl) ?_ | refine DO.nil (by kernel_rfl) ?_) | (with_reducible first | apply oz1 | apply oz2 | apply oz3 | apply oz4 | apply oz5 | apply oz6 | apply oz7 | apply oz8 | apply oz9 | apply ozb | apply ozc | apply oze | apply ozf | apply ozg | apply ozh | apply ozi | apply ozj | apply ozk | refine ozd (by decide) ?_) | ((first | apply SO.call | apply DO.call); (iterate 3 (focus (simp (disch := omega) only [go_sem, ↓reduceIte] <;> rfl))); (first | apply SCall.ofX | apply DCall.ofX); (focus (first | assumption)); (focus (simp (disch := omega) only [go_sem] <;> rfl))) | ((with_reducible first | apply SC.condB | apply SC.region | apply SO.run | apply DO.run); (focus (simp (disch := omega) only [go_sem, ↓reduceIte, Nat.reduceEqDiff, Nat.reduceLeDiff, Nat.reduceAdd, reduceCtorEq, bne_self_eq_false] <;> rfl)); (first | refine pickT ?_ | refine pickF ?_ | fail_if_success with_reducible refine pickA ?_)) | ((with_reducible refine SC.draw Tab.mixed ?_ ?_); (focus (first | rfl | simp (disch := omega) only [go_sem, ↓reduceIte, Nat.reduceEqDiff, Nat.reduceLT, Nat.reduceLeDiff, Nat.reduceAdd, Nat.reduceMul, Nat.reduceSub, reduceCtorEq, Nat.reduceBEq, Int.reduceToNat, Int.reducePow, if_pos, if_neg, bne_self_eq_false]))) | (with_reducible apply SC.ops)))
  refine SO.inlQ (by simp (disch := omega) only [go_sem] <;> rfl) Tab.go49 (by simp (disch := omega) only [go_sem, ↓reduceIte] <;> rfl) (by simp (disch := omega) only [go_sem] <;> rfl) (SInlQ.newR (cc 1) ?_ ?_ ?_)
  · exact klc (by omega) kln
  · exact fun x hp' nx' h => rowsQ_new h
  rintro x hp' nx ⟨o, ids0, hR, rfl, rfl⟩
  have hI0 : Ids o ids0 ids0 n nx := ⟨by rw [hR.len, hl0], hR.nod, fun i h => h, fun i h => (hR.lt i h).2, hR.o1.2, hR.o2⟩
  have ho := hR.o1
  have hlo := fun i hi => (hR.lt i hi).1
  rw [hl0]
  (repeat (first | (first | refine DO.nilC (by kernel_rfl) ?_ | refine DO.nil (by kernel_rfl) ?_) | (with_reducible first | apply oz1 | apply oz2 | apply oz3 | apply oz4 | apply oz5 | apply oz6 | apply oz7 | apply oz8 | apply oz9 | apply ozb | apply ozc | apply oze | apply ozf | apply ozg | apply ozh | apply ozi | apply ozj | apply ozk | refine ozd (by decide) ?_) | ((first | apply SO.call | apply DO.call); (iterate 3 (focus (simp (disch := omega) only [go_sem, ↓reduceIte, Nat.reduceEqDiff, Nat.reduceLT, Nat.reduceLeDiff, Nat.reduceAdd, Nat.reduceMul, Nat.reduceSub, reduceCtorEq, Nat.reduceBEq, Int.reduceToNat, Int.reducePow, if_pos, if_neg] <;> rfl))); (first | apply SCall.ofX | apply DCall.ofX); (focus (first | assumption)); (focus (simp (disch := omega) only [go_sem, ↓reduceIte, Nat.reduceEqDiff, Nat.reduceLT, Nat.reduceLeDiff, Nat.reduceAdd, Nat.reduceMul, Nat.reduceSub, reduceCtorEq, Nat.reduceBEq, Int.reduceToNat, Int.reducePow, if_pos, if_neg] <;> rfl))) | ((with_reducible first | apply SC.condB | apply SC.region | apply SO.run | apply DO.run); (focus (simp (disch := omega) only [go_sem, ↓reduceIte, Nat.reduceEqDiff] <;> rfl)); (first | refine pickT ?_ | refine pickF ?_ | fail_if_success with_reducible refine pickA ?_)) | ((with_reducible refine SC.draw Tab.mixed ?_ ?_); (focus (first | rfl | simp (disch := omega) only [go_sem, ↓reduceIte, Nat.reduceEqDiff, Nat.reduceLT, Nat.reduceLeDiff, Nat.reduceAdd, Nat.reduceMul, Nat.reduceSub, reduceCtorEq, Nat.reduceBEq, Int.reduceToNat, Int.reducePow, if_pos, if_neg]))) | (with_reducible apply SC.ops)))
  refine SC.loop (fun x : Nat × List (List Nat) × List Nat × Nat => ⟨[(1, .pt 0 0), (4, .sl o 0 n 1 none), (5, .sc (.int .u64 x.2.2.2)), (28, .sc (.int .i64 n)), (29, .sc (.int .i64 x.1))], (0, ⟨29, [.sc (.int .u64 p), .sc (.int .i64 n), .im (imR n (nR M0)) n], false⟩) :: (o, ⟨44, slR 1 n x.2.2.1, false⟩) :: rowsH 26 x.2.2.1 (nR x.2.1), nx, 115⟩)
    (fun x => x.1 ≤ n ∧ MV p n n x.2.1 ∧ Ids o ids0 x.2.2.1 n nx ∧ x.2.2.2 < p ∧ detGo p (n - x.1) x.1 x.2.1 x.2.2.2 = detL p M0) (fun x => n - x.1) (0, M0, ids0, 1) ?_ ?_ ?_
  · (refine Le.slots ?_ ?_ ?_ <;> (repeat' (first | (exact fun _ _ h => h) | exact Nat.le_refl _ | exact leSl_nil | refine leSl_cons (by simp (disch := omega) only [go_sem, ↓reduceIte, Nat.reduceEqDiff] <;> rfl) ?_ ?_ | exact VLe.junk _ | exact VLe.refl rfl | exact VLe.nil_sl _ _ _ | exact VLe.int (by first | rfl | omega | (dsimp only; omega)) | exact VLe.bool rfl | exact VLe.sl rfl (by first | rfl | omega) | exact VLe.cap rfl (by first | rfl | omega) | exact VLe.im rfl rfl | omega | (refine fun id k h => ?_; simp only [hget] at h ⊢; (repeat' (split at h)) <;> first | (cases h; done) | (simp (disch := omega) only [if_pos, if_neg]; exact h)))))
  · exact ⟨Nat.zero_le _, hM0, hI0, by simp only; omega, by unfold detL; rw [hl0]; rfl⟩
  · rintro ⟨k, M, ids, d⟩ ⟨hk, hM, hI, hd, hE⟩ K hK
    simp only at hk hM hI hd hE ⊢
    have hl := hM.1
    have hidl := hI.len
    have g1 := slR_len 1 n ids
    rw [hidl] at g1
    by_cases hkn : k < n
    · have q1 := decide_eq_true (p := (k : Int) < (n : Int)) (by omega)
      have ht : (slR 1 n ids).take n = slR 1 n ids := List.take_of_length_le (by omega)
      have hrows : ∀ k, k < ids.length → hget ((0, (⟨29, [.sc (.int .u64 p), .sc (.int .i64 n), .im (imR n (nR M0)) n], false⟩ : Blk)) :: (o, ⟨44, slR 1 n ids, false⟩) :: rowsH 26 ids (nR M)) (ids.getD k 0) = some ⟨26, (nR M).getD k [], false⟩ := by
        intro k hk
        have hm := getD_mem' hk
        have := hlo _ (hI.sub _ hm)
        simp only [hget]
        rw [if_neg (by omega), if_neg (fun e => hI.o2 (by rw [← e]; exact hm))]
        exact rows_get hI.nod hk (by rw [nR_len]; omega)
      have hal := slR_some (z := 1) (m := n) (ids := ids) (by omega)
      have hfz := frz_rowsA (n := 6) (z := 1) (m := n) (hp := (0, (⟨29, [.sc (.int .u64 p), .sc (.int .i64 n), .im (imR n (nR M0)) n], false⟩ : Blk)) :: (o, ⟨44, slR 1 n ids, false⟩) :: rowsH 26 ids (nR M)) (ty := 26) (ids := ids) (rs := nR M) (by omega) (by rw [nR_len]; omega) hrows (nR_rows hM)
      have c1 := search_s hM k k hk (by omega) hn hn
      unfold mv at c1
      have hsi := searchL_inv (M := M) (c := k) (f := n - k) (k := k)
      rw [show n - k = (n - (k + 1)) + 1 by omega, detGo, hl] at hE
      rw [hl] at c1
      cases hs : searchL M k (n - k) k with
      | none =>
        rw [hs] at c1 hE
        simp only [srV] at c1 hE
        have q3 : decide ((-1 : Int) < 0) = true := by decide
        (repeat (first | (first | refine DO.nilC (by kernel_rfl) ?_ | refine DO.nil (by kernel_rfl) ?_) | (with_reducible first | apply oz1 | apply oz2 | apply oz3 | apply oz4 | apply oz5 | apply oz6 | apply oz7 | apply oz8 | apply oz9 | apply ozb | apply ozc | apply oze | apply ozf | apply ozg | apply ozh | apply ozi | apply ozj | apply ozk | refine ozd (by decide) ?_) | ((first | apply SO.call | apply DO.call); (iterate 3 (focus (simp (disch := omega) only [go_sem, ↓reduceIte, Nat.reduceEqDiff, if_pos, if_neg, hal, hfz, ht, g1] <;> rfl))); (first | apply SCall.ofX | apply DCall.ofX); (focus (first | assumption)); (focus (simp (disch := omega) only [go_sem] <;> rfl))) | ((with_reducible first | apply SC.condB | apply SC.region | apply SO.run | apply DO.run); (focus (simp (disch := omega) only [go_sem, ↓reduceIte, Nat.reduceEqDiff, q1, q3] <;> rfl)); (first | refine pickT ?_ | refine pickF ?_ | fail_if_success with_reducible refine pickA ?_)) | ((with_reducible refine SC.draw Tab.mixed ?_ ?_); (focus (first | rfl | simp (disch := omega) only [go_sem, ↓reduceIte, Nat.reduceEqDiff, Nat.reduceLT, Nat.reduceLeDiff, Nat.reduceAdd, Nat.reduceMul, Nat.reduceSub, reduceCtorEq, Nat.reduceBEq, Int.reduceToNat, Int.reducePow, if_pos, if_neg, q1, q3, hal, hfz, ht, g1]))) | (with_reducible apply SC.ops)))
        exact retQ_ret Try.results16 (by simp (disch := omega) only [go_sem, ↓reduceIte, Nat.reduceEqDiff] <;> rfl) (by simp (disch := omega) only [go_sem, ↓reduceIte] <;> rfl) (by rw [← hE]; rfl)
      | some q =>
        rw [hs] at c1 hE hsi
        simp only [srV] at c1 hE hsi
        obtain ⟨s1, s2, s3, s4⟩ := hsi
        have hqn : q < n := by omega
        have q3 : decide ((q : Int) < 0) = false := decide_eq_false (by omega)
        (repeat (first | (first | refine DO.nilC (by kernel_rfl) ?_ | refine DO.nil (by kernel_rfl) ?_) | (with_reducible first | apply oz1 | apply oz2 | apply oz3 | apply oz4 | apply oz5 | apply oz6 | apply oz7 | apply oz8 | apply oz9 | apply ozb | apply ozc | apply oze | apply ozf | apply ozg | apply ozh | apply ozi | apply ozj | apply ozk | refine ozd (by decide) ?_) | ((first | apply SO.call | apply DO.call); (iterate 3 (focus (simp (disch := omega) only [go_sem, ↓reduceIte, Nat.reduceEqDiff, if_pos, if_neg, hal, hfz, ht, g1] <;> rfl))); (first | apply SCall.ofX | apply DCall.ofX); (focus (first | assumption)); (focus (simp (disch := omega) only [go_sem] <;> rfl))) | ((with_reducible first | apply SC.condB | apply SC.region | apply SO.run | apply DO.run); (focus (simp (disch := omega) only [go_sem, ↓reduceIte, Nat.reduceEqDiff, q1, q3] <;> rfl)); (first | refine pickT ?_ | refine pickF ?_ | fail_if_success with_reducible refine pickA ?_)) | ((with_reducible refine SC.draw Tab.mixed ?_ ?_); (focus (first | rfl | simp (disch := omega) only [go_sem, ↓reduceIte, Nat.reduceEqDiff, Nat.reduceLT, Nat.reduceLeDiff, Nat.reduceAdd, Nat.reduceMul, Nat.reduceSub, reduceCtorEq, Nat.reduceBEq, Int.reduceToNat, Int.reducePow, if_pos, if_neg, q1, q3, hal, hfz, ht, g1]))) | (with_reducible apply SC.ops)))
        have hM1 := swapL_mv hM hkn hqn
        have eM1 : (swapL M k q).getD k [] = M.getD q [] := by
          rw [swapL_get (by omega) (by omega)]
          by_cases e : k = q
          · rw [if_pos e, e]
          · rw [if_neg e, if_pos rfl]
        have hd1 : (if q = k then d else (0 + p - d) % p) < p := by
          split
          · exact hd
          · exact Nat.mod_lt _ (by omega)
        refine SC.condI (fun z : List Nat => ⟨[(1, .pt 0 0), (4, .sl o 0 n 1 none), (5, .sc (.int .u64 ((if q = k then d else (0 + p - d) % p : Nat) : Int))), (6, .sc (.int .i64 k)), (28, .sc (.int .i64 n)), (29, .sc (.int .i64 k))], (0, ⟨29, [.sc (.int .u64 p), .sc (.int .i64 n), .im (imR n (nR M0)) n], false⟩) :: (o, ⟨44, slR 1 n z, false⟩) :: rowsH 26 z (nR (swapL M k q)), nx, 115⟩) (fun z => Ids o ids0 z n nx) (by simp (disch := omega) only [go_sem, ↓reduceIte] <;> rfl) ?_ ?_ ?_
        · intro hne K2 hK2
          have hqk : q ≠ k := by intro e; subst e; simp at hne
          rw [if_neg hqk] at hK2
          have gq := slR_get (z := 1) (m := n) (ids := ids) (k := q) (by omega)
          have gk := slR_get (z := 1) (m := n) (ids := ids) (k := k) (by omega)
          have hkl := klB_rows (ty := 26) (rs := nR M) (n := nx) (fun j hj => by have := hI.lt j hj; omega)
          have hsw : (ids.set k (ids.getD q 0)).set q (ids.getD k 0) = swapN ids k q := rfl
          have c2 := mSub0_s p d (by omega) (by omega) hd
          generalize (0 + p - d) % p = d1 at *
          (repeat (first | (first | refine DO.nilC (by kernel_rfl) ?_ | refine DO.nil (by kernel_rfl) ?_) | (with_reducible first | apply oz1 | apply oz2 | apply oz3 | apply oz4 | apply oz5 | apply oz6 | apply oz7 | apply oz8 | apply oz9 | apply ozb | apply ozc | apply oze | apply ozf | apply ozg | apply ozh | apply ozi | apply ozj | apply ozk | refine ozd (by decide) ?_) | ((first | apply SO.call | apply DO.call); (iterate 3 (focus (simp (disch := omega) only [go_sem, ↓reduceIte, Nat.reduceEqDiff] <;> rfl))); (first | apply SCall.ofX | apply DCall.ofX); (focus (first | assumption)); (focus (simp (disch := omega) only [go_sem] <;> rfl))) | ((with_reducible first | apply SC.condB | apply SC.region | apply SO.run | apply DO.run); (focus (simp (disch := omega) only [go_sem, ↓reduceIte, Nat.reduceEqDiff, reduceCtorEq, if_pos, if_neg, gq, gk, slR_set, slR_len, List.length_set, hidl, hsw] <;> rfl)); (first | refine pickT ?_ | refine pickF ?_ | fail_if_success with_reducible refine pickA ?_)) | ((with_reducible refine SC.draw Tab.mixed ?_ ?_); (focus (first | rfl | simp (disch := omega) only [go_sem, if_pos, hkl]))) | (with_reducible apply SC.ops)))
          refine hK2 _ (swapN ids k q) (Le.trans (Le.less (less_cons (less_cons (rows_swap (ids := ids) (M := M) (k := k) (q := q) hI.nod (by omega) (by omega) (by omega)))) (Nat.le_refl _)) ?_) (hI.swap hkn hqn)
          (refine Le.slots ?_ ?_ ?_ <;> (repeat' (first | (exact fun _ _ h => h) | exact Nat.le_refl _ | exact leSl_nil | refine leSl_cons (by simp (disch := omega) only [go_sem, ↓reduceIte, Nat.reduceEqDiff] <;> rfl) ?_ ?_ | exact VLe.junk _ | exact VLe.refl rfl | exact VLe.nil_sl _ _ _ | exact VLe.int (by first | rfl | omega | (dsimp only; omega)) | exact VLe.bool rfl | exact VLe.sl rfl (by first | rfl | omega) | exact VLe.cap rfl (by first | rfl | omega) | exact VLe.im rfl rfl | omega | (refine fun id k h => ?_; simp only [hget] at h ⊢; (repeat' (split at h)) <;> first | (cases h; done) | (simp (disch := omega) only [if_pos, if_neg]; exact h)))))
        · intro hne K2 hK2
          have hqk : q = k := by
            have : ((q : Int) != (k : Int)) = false := hne
            rw [bne_eq_false_iff_eq] at this
            omega
          have hsame : swapL M k q = M := by
            refine mat_ext (by simp [swapL]) fun i hi => ?_
            rw [swapL_get (by omega) (by omega)]
            by_cases e : i = k
            · rw [if_pos (by omega), e]
            · rw [if_neg (by omega), if_neg e]
          rw [if_pos hqk, hsame] at hK2
          (repeat (first | (first | refine DO.nilC (by kernel_rfl) ?_ | refine DO.nil (by kernel_rfl) ?_) | (with_reducible first | apply oz1 | apply oz2 | apply oz3 | apply oz4 | apply oz5 | apply oz6 | apply oz7 | apply oz8 | apply oz9 | apply ozb | apply ozc | apply oze | apply ozf | apply ozg | apply ozh | apply ozi | apply ozj | apply ozk | refine ozd (by decide) ?_) | ((first | apply SO.call | apply DO.call); (iterate 3 (focus (simp (disch := omega) only [go_sem, ↓reduceIte, Nat.reduceEqDiff, Nat.reduceLT, Nat.reduceLeDiff, Nat.reduceAdd, Nat.reduceMul, Nat.reduceSub, reduceCtorEq, Nat.reduceBEq, Int.reduceToNat, Int.reducePow, if_pos, if_neg] <;> rfl))); (first | apply SCall.ofX | apply DCall.ofX); (focus (first | assumption)); (focus (simp (disch := omega) only [go_sem, ↓reduceIte, Nat.reduceEqDiff, Nat.reduceLT, Nat.reduceLeDiff, Nat.reduceAdd, Nat.reduceMul, Nat.reduceSub, reduceCtorEq, Nat.reduceBEq, Int.reduceToNat, Int.reducePow, if_pos, if_neg] <;> rfl))) | ((with_reducible first | apply SC.condB | apply SC.region | apply SO.run | apply DO.run); (focus (simp (disch := omega) only [go_sem, ↓reduceIte, Nat.reduceEqDiff, Nat.reduceLT, Nat.reduceLeDiff, Nat.reduceAdd, Nat.reduceMul, Nat.reduceSub, reduceCtorEq, Nat.reduceBEq, Int.reduceToNat, Int.reducePow, if_pos, if_neg] <;> rfl)); (first | refine pickT ?_ | refine pickF ?_ | fail_if_success with_reducible refine pickA ?_)) | ((with_reducible refine SC.draw Tab.mixed ?_ ?_); (focus (first | rfl | simp (disch := omega) only [go_sem, ↓reduceIte, Nat.reduceEqDiff, Nat.reduceLT, Nat.reduceLeDiff, Nat.reduceAdd, Nat.reduceMul, Nat.reduceSub, reduceCtorEq, Nat.reduceBEq, Int.reduceToNat, Int.reducePow, if_pos, if_neg]))) | (with_reducible apply SC.ops)))
          refine hK2 _ ids ?_ hI
          (refine Le.slots ?_ ?_ ?_ <;> (repeat' (first | (exact fun _ _ h => h) | exact Nat.le_refl _ | exact leSl_nil | refine leSl_cons (by simp (disch := omega) only [go_sem, ↓reduceIte, Nat.reduceEqDiff] <;> rfl) ?_ ?_ | exact VLe.junk _ | exact VLe.refl rfl | exact VLe.nil_sl _ _ _ | exact VLe.int (by first | rfl | omega | (dsimp only; omega)) | exact VLe.bool rfl | exact VLe.sl rfl (by first | rfl | omega) | exact VLe.cap rfl (by first | rfl | omega) | exact VLe.im rfl rfl | omega | (refine fun id k h => ?_; simp only [hget] at h ⊢; (repeat' (split at h)) <;> first | (cases h; done) | (simp (disch := omega) only [if_pos, if_neg]; exact h)))))
        intro ids1 hI1
        have hxl : ent M q k < p := hM.lt hqn (by omega)
        have hr := hM.get hqn
        have hx : (M.getD q []).getD k 0 = ent M q k := rfl
        clear hfz hal hrows hs c1 g1 ht
        generalize ent M q k = x at *
        generalize M.getD q [] = r at *
        generalize swapL M k q = M1 at *
        generalize (if q = k then d else (0 + p - d) % p) = d1 at *
        have hl1 := hM1.1
        have hid1 := hI1.len
        have hmem := getD_mem' (ids := ids1) (k := k) (by omega)
        have gk := slR_get (z := 1) (m := n) (ids := ids1) (k := k) (by omega)
        have gR := rows_get (ty := 26) (rs := nR M1) (k := k) hI1.nod (by omega) (by rw [nR_len]; omega)
        rw [nR_getD, eM1] at gR
        have hrl := hr.1
        have gl := nv_len r
        have gx := nv_get (r := r) (j := k) (by omega)
        rw [hx] at gx
        have hne1 : ids1.getD k 0 ≠ o := fun e => hI1.o2 (by rw [← e]; exact hmem)
        have hne2 := hI1.lt _ hmem
        have hne3 := hlo _ (hI1.sub _ hmem)
        have c2 := mInv_s p x (by omega) (by omega) hxl s3
        have c3 := mMul_s p d1 x (by omega) (by omega) hd1 hxl
        have hb := Nat.mod_lt (x ^ (p - 2)) (y := p) (by omega)
        have hd2 := Nat.mod_lt (d1 * x) (y := p) (by omega)
        have hkl := klB_rows (ty := 26) (rs := nR M1) (n := nx) (fun j hj => by have := hI1.lt j hj; omega)
        generalize x ^ (p - 2) % p = b at *
        generalize d1 * x % p = d2 at *
        (repeat (first | (first | refine DO.nilC (by kernel_rfl) ?_ | refine DO.nil (by kernel_rfl) ?_) | (with_reducible first | apply oz1 | apply oz2 | apply oz3 | apply oz4 | apply oz5 | apply oz6 | apply oz7 | apply oz8 | apply oz9 | apply ozb | apply ozc | apply oze | apply ozf | apply ozg | apply ozh | apply ozi | apply ozj | apply ozk | refine ozd (by decide) ?_) | ((first | apply SO.call | apply DO.call); (iterate 3 (focus (simp (disch := omega) only [go_sem, ↓reduceIte, Nat.reduceEqDiff] <;> rfl))); (first | apply SCall.ofX | apply DCall.ofX); (focus (first | assumption)); (focus (simp (disch := omega) only [go_sem] <;> rfl))) | ((with_reducible first | apply SC.condB | apply SC.region | apply SO.run | apply DO.run); (focus (simp (disch := omega) only [go_sem, ↓reduceIte, Nat.reduceEqDiff, reduceCtorEq, if_pos, if_neg, gk, gR, gx] <;> rfl)); (first | refine pickT ?_ | refine pickF ?_ | fail_if_success with_reducible refine pickA ?_)) | ((with_reducible refine SC.draw Tab.mixed ?_ ?_); (focus (first | rfl | simp (disch := omega) only [go_sem, if_pos, hkl]))) | (with_reducible apply SC.ops)))
        have t1 : ((k : Int) + 1).toNat = k + 1 := by omega
        by_cases hlast : k + 1 < n
        · obtain ⟨m, hm⟩ : ∃ m, m = n - (k + 1) := ⟨_, rfl⟩
          (repeat (first | (first | refine DO.nilC (by kernel_rfl) ?_ | refine DO.nil (by kernel_rfl) ?_) | (with_reducible first | apply oz1 | apply oz2 | apply oz3 | apply oz4 | apply oz5 | apply oz6 | apply oz7 | apply oz8 | apply oz9 | apply ozb | apply ozc | apply oze | apply ozf | apply ozg | apply ozh | apply ozi | apply ozj | apply ozk | refine ozd (by decide) ?_) | ((first | apply SO.call | apply DO.call); (iterate 3 (focus (simp (disch := omega) only [go_sem, ↓reduceIte, Nat.reduceEqDiff, Nat.reduceLT, Nat.reduceLeDiff, Nat.reduceAdd, Nat.reduceMul, Nat.reduceSub, reduceCtorEq, Nat.reduceBEq, Int.reduceToNat, Int.reducePow, if_pos, if_neg, t1, ← hm] <;> rfl))); (first | apply SCall.ofX | apply DCall.ofX); (focus (first | assumption)); (focus (simp (disch := omega) only [go_sem, ↓reduceIte, Nat.reduceEqDiff, Nat.reduceLT, Nat.reduceLeDiff, Nat.reduceAdd, Nat.reduceMul, Nat.reduceSub, reduceCtorEq, Nat.reduceBEq, Int.reduceToNat, Int.reducePow, if_pos, if_neg, t1, ← hm] <;> rfl))) | ((with_reducible first | apply SC.condB | apply SC.region | apply SO.run | apply DO.run); (focus (simp (disch := omega) only [go_sem, ↓reduceIte, Nat.reduceEqDiff, reduceCtorEq, if_pos, t1, ← hm] <;> rfl)); (first | refine pickT ?_ | refine pickF ?_ | fail_if_success with_reducible refine pickA ?_)) | ((with_reducible refine SC.draw Tab.mixed ?_ ?_); (focus (first | rfl | simp (disch := omega) only [go_sem, ↓reduceIte, Nat.reduceEqDiff, Nat.reduceLT, Nat.reduceLeDiff, Nat.reduceAdd, Nat.reduceMul, Nat.reduceSub, reduceCtorEq, Nat.reduceBEq, Int.reduceToNat, Int.reducePow, if_pos, if_neg, t1, ← hm]))) | (with_reducible apply SC.ops)))
          refine SC.loop (fun t : Nat => ⟨[(1, .pt 0 0), (4, .sl o 0 n 1 none), (5, .sc (.int .u64 d2)), (6, .sc (.int .i64 k)), (8, .sc (.int .u64 b)), (28, .sc (.int .i64 n)), (29, .sc (.int .i64 k)), (86, .sl o (k + 1) m 1 none), (87, .sc (.int .i64 m)), (88, .sc (.int .i64 t))], (0, ⟨29, [.sc (.int .u64 p), .sc (.int .i64 n), .im (imR n (nR M0)) n], false⟩) :: (o, ⟨44, slR 1 n ids1, false⟩) :: rowsH 26 ids1 (nR (downTo p k (k + 1 + t) b r M1)), nx, 115⟩) (fun t => t ≤ m) (fun t => m - t) 0 ?_ ?_ ?_
          · rw [Nat.add_zero, downTo_zero]
            (refine Le.slots ?_ ?_ ?_ <;> (repeat' (first | (exact fun _ _ h => h) | exact Nat.le_refl _ | exact leSl_nil | refine leSl_cons (by simp (disch := omega) only [go_sem, ↓reduceIte, Nat.reduceEqDiff] <;> rfl) ?_ ?_ | exact VLe.junk _ | exact VLe.refl rfl | exact VLe.nil_sl _ _ _ | exact VLe.int (by first | rfl | omega | (dsimp only; omega)) | exact VLe.bool rfl | exact VLe.sl rfl (by first | rfl | omega) | exact VLe.cap rfl (by first | rfl | omega) | exact VLe.im rfl rfl | omega | (refine fun id k h => ?_; simp only [hget] at h ⊢; (repeat' (split at h)) <;> first | (cases h; done) | (simp (disch := omega) only [if_pos, if_neg]; exact h)))))
          · exact Nat.zero_le _
          · intro t ht K3 hK3
            have hM3 := downTo_mv (p := p) (k := k) (t := k + 1 + t) (b := b) (by omega) hM1 hrl
            have hl3 := hM3.1
            by_cases htm : t < m
            · have q5 := decide_eq_true (p := (t : Int) < (m : Int)) (by omega)
              obtain ⟨h, hh⟩ : ∃ h, h = k + 1 + t := ⟨_, rfl⟩
              have hhn : h < n := by omega
              have gh := slR_get (z := 1) (m := n) (ids := ids1) (k := h) (by omega)
              have hmemh := getD_mem' (ids := ids1) (k := h) (by omega)
              have hneh1 : ids1.getD h 0 ≠ o := fun e => hI1.o2 (by rw [← e]; exact hmemh)
              have hneh2 := hI1.lt _ hmemh
              have hneh3 := hlo _ (hI1.sub _ hmemh)
              have hhk2 : ids1.getD h 0 ≠ ids1.getD k 0 := fun e => by have := nodup_getD hI1.nod (by omega) (by omega) e; omega
              have hset := downTo_set (p := p) (k := k) (t := k + 1 + t) (b := b) (rk := r) (M := M1) (by omega) (by omega)
              have hget0 := downTo_get (p := p) (k := k) (t := k + 1 + t) (b := b) (rk := r) (M := M1) (i := h) (by omega)
              rw [if_neg (by omega)] at hget0
              have hgetk := downTo_get (p := p) (k := k) (t := k + 1 + t) (b := b) (rk := r) (M := M1) (i := k) (by omega)
              rw [if_neg (by omega), eM1] at hgetk
              have htn : k + 1 + t + 1 = k + 1 + (t + 1) := by omega
              rw [htn, ← hh] at hset
              rw [← hh] at hget0 hgetk hM3 hl3 ⊢
              have gRh := rows_get (ty := 26) (rs := nR (downTo p k h b r M1)) (k := h) hI1.nod (by omega) (by rw [nR_len]; omega)
              have gRk := rows_get (ty := 26) (rs := nR (downTo p k h b r M1)) (k := k) hI1.nod (by omega) (by rw [nR_len]; omega)
              rw [nR_getD, hget0] at gRh
              rw [nR_getD, hgetk] at gRk
              have hrh := hM1.get hhn
              have hset1 := rows_set (ty := 26) (rs := nR (downTo p k h b r M1)) (k := h) (r := nv (addRw p (M1.getD h []) r ((0 + p - b * (M1.getD h []).getD k 0 % p) % p))) hI1.nod (by omega) (by rw [nR_len]; omega)
              rw [nR_set, hset] at hset1
              have hset2 := rows_set (ty := 26) (rs := nR (downTo p k h b r M1)) (k := k) (r := nv r) hI1.nod (by omega) (by rw [nR_len]; omega)
              have eself : (downTo p k h b r M1).set k r = downTo p k h b r M1 := by
                refine mat_ext (by simp) fun i hi => ?_
                rw [getD_set (by omega)]
                by_cases e : i = k
                · rw [if_pos e, e, hgetk]
                · rw [if_neg e]
              rw [nR_set, eself] at hset2
              have glh := nv_len (M1.getD h [])
              have hrhl := hrh.1
              have gxh := nv_get (r := M1.getD h []) (j := k) (by omega)
              have xhl := hrh.lt (j := k) (by omega)
              have c4 := mMul_s p b ((M1.getD h []).getD k 0) (by omega) (by omega) hb xhl
              have hf := Nat.mod_lt (b * (M1.getD h []).getD k 0) (y := p) (by omega)
              have c5 := mSub0_s p (b * (M1.getD h []).getD k 0 % p) (by omega) (by omega) hf
              have hzl := Nat.mod_lt (0 + p - b * (M1.getD h []).getD k 0 % p) (y := p) (by omega)
              have hkl3 : klB (rowsH 26 ids1 (nR (downTo p k h b r M1))) nx = true := klB_rows (fun j hj => by have := hI1.lt j hj; omega)
              have hkl4 : ∀ id q, hget (rowsH 26 ids1 (nR (downTo p k h b r M1))) id = some q → id < nx := klr (fun j hj => by have := hI1.lt j hj; omega)
              clear hget0 hgetk eself hset hkl c2 c3 gl gx gR
              generalize hH1 : rowsH 26 ids1 (nR (downTo p k (k + 1 + (t + 1)) b r M1)) = H1 at *
              generalize hH : rowsH 26 ids1 (nR (downTo p k h b r M1)) = H at *
              generalize (0 + p - b * (M1.getD h []).getD k 0 % p) % p = zz at *
              generalize b * (M1.getD h []).getD k 0 % p = ff at *
              generalize (M1.getD h []).getD k 0 = xh at *
              generalize M1.getD h [] = rh at *
              have hadd := (addTo_s p n (ids1.getD h 0) (ids1.getD k 0) zz nx rh r (by omega) (by omega) hrh hr hzl hhk2 (by omega) (by omega) hn).toQ
              generalize ids1.getD h 0 = idh at *
              generalize ids1.getD k 0 = idk at *
              ((repeat (first | (first | refine DO.nilC (by kernel_rfl) ?_ | refine DO.nil (by kernel_rfl) ?_) | (with_reducible refine SC.condB (by simp (disch := omega) only [go_sem, ↓reduceIte]; rfl) ?_; first | with_reducible refine pickT ?_ | with_reducible refine pickF ?_) | (with_reducible first | apply oz1 | apply oz2 | apply oz3 | apply oz4 | apply oz5 | apply oz6 | apply oz7 | apply oz8 | apply oz9 | apply ozb | apply ozc | apply oze | apply ozf | apply ozg | apply ozh | apply ozi | apply ozj | apply ozk | refine ozd (by decide) ?_) | ((with_reducible apply SC.region); (focus (simp (disch := omega) only [go_sem, ↓reduceIte, Nat.reduceEqDiff, if_pos, if_neg, q5, gh, ← hh]; rfl))) | (with_reducible refine SC.draw Tab.mixed rfl ?_; (repeat (refine DO.run (by simp (disch := omega) only [go_sem, ↓reduceIte, Nat.reduceEqDiff, Nat.reduceLT, Nat.reduceLeDiff, Nat.reduceAdd, Nat.reduceMul, Nat.reduceSub, reduceCtorEq, Nat.reduceBEq, Int.reduceToNat, Int.reducePow, if_pos, if_neg, q5, gh, gk, gRh, glh, gxh, hrhl, slR_len, hid1, hkl3, ← hh, List.getElem?_drop]; rfl) ?_)); (first | refine DO.nilC (by kernel_rfl) ?_ | refine DO.nil (by kernel_rfl) ?_)))); (first | refine SC.ops ?_ | refine SC.draw Tab.mixed (by first | rfl | simp (disch := omega) only [go_sem, if_pos, hkl3]) ?_ | skip); (repeat (first | refine SO.run (by simp (disch := omega) only [go_sem, ↓reduceIte, Nat.reduceEqDiff, Nat.reduceLT, Nat.reduceLeDiff, Nat.reduceAdd, Nat.reduceMul, Nat.reduceSub, reduceCtorEq, Nat.reduceBEq, Int.reduceToNat, Int.reducePow, if_pos, if_neg, q5, gh, gk, gRh, glh, gxh, hrhl, slR_len, hid1, hkl3, ← hh, List.getElem?_drop]; rfl) ?_ | refine DO.run (by simp (disch := omega) only [go_sem, ↓reduceIte, Nat.reduceEqDiff, reduceCtorEq, if_pos, if_neg, gRh, gxh]; rfl) ?_)); (first | (refine DO.call Tab.go56 (by simp (disch := omega) only [go_sem, ↓reduceIte, Nat.reduceEqDiff]; rfl) (by simp (disch := omega) only [go_sem] <;> rfl) ?_; refine DCall.of (c4) (by simp (disch := omega) only [go_sem]; rfl) ?_) | (refine SO.call Tab.go56 (by simp (disch := omega) only [go_sem, ↓reduceIte, Nat.reduceEqDiff, Nat.reduceLT, Nat.reduceLeDiff, Nat.reduceAdd, Nat.reduceMul, Nat.reduceSub, reduceCtorEq, Nat.reduceBEq, Int.reduceToNat, Int.reducePow, if_pos, if_neg, q5, gh, gk, gRh, glh, gxh, hrhl, slR_len, hid1, hkl3, ← hh, List.getElem?_drop]; rfl) (by simp (disch := omega) only [go_sem, ↓reduceIte, Nat.reduceEqDiff, Nat.reduceLT, Nat.reduceLeDiff, Nat.reduceAdd, Nat.reduceMul, Nat.reduceSub, reduceCtorEq, Nat.reduceBEq, Int.reduceToNat, Int.reducePow, if_pos, if_neg, q5, gh, gk, gRh, glh, gxh, hrhl, slR_len, hid1, hkl3, ← hh, List.getElem?_drop] <;> rfl) ?_; first | refine SCall.of (c4) (by simp (disch := omega) only [go_sem, ↓reduceIte, Nat.reduceEqDiff, Nat.reduceLT, Nat.reduceLeDiff, Nat.reduceAdd, Nat.reduceMul, Nat.reduceSub, reduceCtorEq, Nat.reduceBEq, Int.reduceToNat, Int.reducePow, if_pos, if_neg, q5, gh, gk, gRh, glh, gxh, hrhl, slR_len, hid1, hkl3, ← hh, List.getElem?_drop]; rfl) ?_ | refine SCall.ofF (c4) (by simp (disch := omega) only [go_sem, ↓reduceIte, Nat.reduceEqDiff, Nat.reduceLT, Nat.reduceLeDiff, Nat.reduceAdd, Nat.reduceMul, Nat.reduceSub, reduceCtorEq, Nat.reduceBEq, Int.reduceToNat, Int.reducePow, if_pos, if_neg, q5, gh, gk, gRh, glh, gxh, hrhl, slR_len, hid1, hkl3, ← hh, List.getElem?_drop]; rfl) ?_)); (repeat (first | refine SO.run (by simp (disch := omega) only [go_sem, ↓reduceIte, Nat.reduceEqDiff, Nat.reduceLT, Nat.reduceLeDiff, Nat.reduceAdd, Nat.reduceMul, Nat.reduceSub, reduceCtorEq, Nat.reduceBEq, Int.reduceToNat, Int.reducePow, if_pos, if_neg, q5, gh, gk, gRh, glh, gxh, hrhl, slR_len, hid1, hkl3, ← hh, List.getElem?_drop]; rfl) ?_ | refine DO.run (by simp (disch := omega) only [go_sem, ↓reduceIte]; rfl) ?_)))
              (repeat (first | (first | refine DO.nilC (by kernel_rfl) ?_ | refine DO.nil (by kernel_rfl) ?_) | (with_reducible refine SC.condB (by simp (disch := omega) only [go_sem, ↓reduceIte, Nat.reduceEqDiff, Nat.reduceLT, Nat.reduceLeDiff, Nat.reduceAdd, Nat.reduceMul, Nat.reduceSub, reduceCtorEq, Nat.reduceBEq, Int.reduceToNat, Int.reducePow, if_pos, if_neg, q5, gh, gk, gRh, glh, gxh, hrhl, slR_len, hid1, hkl3, ← hh, List.getElem?_drop]; rfl) ?_; first | with_reducible refine pickT ?_ | with_reducible refine pickF ?_) | (with_reducible first | apply oz1 | apply oz2 | apply oz3 | apply oz4 | apply oz5 | apply oz6 | apply oz7 | apply oz8 | apply oz9 | apply ozb | apply ozc | apply oze | apply ozf | apply ozg | apply ozh | apply ozi | apply ozj | apply ozk | refine ozd (by decide) ?_) | ((with_reducible apply SC.region); (focus (simp (disch := omega) only [go_sem, ↓reduceIte, Nat.reduceEqDiff, Nat.reduceLT, Nat.reduceLeDiff, Nat.reduceAdd, Nat.reduceMul, Nat.reduceSub, reduceCtorEq, Nat.reduceBEq, Int.reduceToNat, Int.reducePow, if_pos, if_neg, q5, gh, gk, gRh, glh, gxh, hrhl, slR_len, hid1, hkl3, ← hh, List.getElem?_drop]; rfl))) | (with_reducible refine SC.draw Tab.mixed rfl ?_; (repeat (refine DO.run (by simp (disch := omega) only [go_sem, ↓reduceIte, Nat.reduceEqDiff, Nat.reduceLT, Nat.reduceLeDiff, Nat.reduceAdd, Nat.reduceMul, Nat.reduceSub, reduceCtorEq, Nat.reduceBEq, Int.reduceToNat, Int.reducePow, if_pos, if_neg, q5, gh, gk, gRh, glh, gxh, hrhl, slR_len, hid1, hkl3, ← hh, List.getElem?_drop]; rfl) ?_)); (first | refine DO.nilC (by kernel_rfl) ?_ | refine DO.nil (by kernel_rfl) ?_))))
              refine SC.drawT 11 (by simp only [List.take_succ_cons, List.take_zero]; rfl) (by simp only [List.drop_succ_cons, List.drop_zero]; rfl) Tab.mixed ?_ (by kernel_rfl) ?_
              · exact klc (show 0 < nx by omega) (klc (show o < nx by omega) hkl4)
              (repeat (first | (first | refine DO.nilC (by kernel_rfl) ?_ | refine DO.nil (by kernel_rfl) ?_) | (with_reducible first | apply oz1 | apply oz2 | apply oz3 | apply oz4 | apply oz5 | apply oz6 | apply oz7 | apply oz8 | apply oz9 | apply ozb | apply ozc | apply oze | apply ozf | apply ozg | apply ozh | apply ozi | apply ozj | apply ozk | refine ozd (by decide) ?_) | ((first | apply SO.call | apply DO.call); (iterate 3 (focus (simp (disch := omega) only [go_sem, ↓reduceIte, Nat.reduceEqDiff, if_pos, if_neg, gRh, glh, hrhl] <;> rfl))); (first | apply SCall.ofX | apply DCall.ofX); (focus (first | assumption)); (focus (simp (disch := omega) only [go_sem] <;> rfl))) | ((with_reducible first | apply SC.condB | apply SC.region | apply SO.run | apply DO.run); (focus (simp (disch := omega) only [go_sem, ↓reduceIte, Nat.reduceEqDiff, reduceCtorEq, if_pos, if_neg, gk] <;> rfl)); (first | refine pickT ?_ | refine pickF ?_ | fail_if_success with_reducible refine pickA ?_)) | ((with_reducible refine SC.draw Tab.mixed ?_ ?_); (focus (first | rfl | simp (disch := omega) only [go_sem, ↓reduceIte, Nat.reduceEqDiff, Nat.reduceLT, Nat.reduceLeDiff, Nat.reduceAdd, Nat.reduceMul, Nat.reduceSub, reduceCtorEq, Nat.reduceBEq, Int.reduceToNat, Int.reducePow, if_pos, if_neg, gk, gRk, gRh, gxh, glh, hrhl, slR_len, hid1, List.getElem?_drop]))) | (with_reducible apply SC.ops)))
              have hsub : ∀ id q, hget [(idh, (⟨26, nv rh, false⟩ : Blk)), (idk, ⟨26, nv r, false⟩)] id = some q → hget ((0, (⟨29, [.sc (.int .u64 p), .sc (.int .i64 n), .im (imR n (nR M0)) n], false⟩ : Blk)) :: (o, ⟨44, slR 1 n ids1, false⟩) :: H) id = some q := by
                intro id b hb
                simp only [hget] at hb ⊢
                by_cases e1 : id = idh
                · rw [if_pos e1] at hb
                  rw [if_neg (by omega), if_neg (by omega), e1, gRh]; exact hb
                · rw [if_neg e1] at hb
                  by_cases e2 : id = idk
                  · rw [if_pos e2] at hb
                    rw [if_neg (by omega), if_neg (by omega), e2, gRk]; exact hb
                  · rw [if_neg e2] at hb; cases hb
              have hnew : hsets ((0, (⟨29, [.sc (.int .u64 p), .sc (.int .i64 n), .im (imR n (nR M0)) n], false⟩ : Blk)) :: (o, ⟨44, slR 1 n ids1, false⟩) :: H) [(idh, ⟨26, nv (addRw p rh r zz), false⟩), (idk, ⟨26, nv r, false⟩)] = (0, ⟨29, [.sc (.int .u64 p), .sc (.int .i64 n), .im (imR n (nR M0)) n], false⟩) :: (o, ⟨44, slR 1 n ids1, false⟩) :: H1 := by
                simp only [hsets_cons, hsets_nil, hset_cons]
                rw [if_neg (by omega), if_neg (by omega), hset2]
                simp only [hset_cons]
                rw [if_neg (by omega), if_neg (by omega), hset1]
              have hupd := hget_upd (new := []) (upd := [(idh, (⟨26, nv (addRw p rh r zz), false⟩ : Blk)), (idk, ⟨26, nv r, false⟩)]) hsub (fun i => rfl)
              rw [hnew] at hupd
              show SO _ _ _ _ _ _ _
              refine SO.inlQ (by simp (disch := omega) only [go_sem] <;> rfl) Tab.go58 (by simp (disch := omega) only [go_sem, ↓reduceIte, Nat.reduceEqDiff] <;> rfl) (by simp (disch := omega) only [go_sem] <;> rfl) (SInlQ.of hadd hsub ?_)
              rintro x' hp' nx' ⟨rfl, rfl, rfl⟩
              refine ⟨.tu (fun _ h => by cases h), ⟨fun y hy => Only.clo (List.all_eq_true.1 (nv_clo _) y hy), fun y hy => Only.clo (List.all_eq_true.1 (nv_clo _) y hy), trivial⟩, _, hupd, ?_⟩
              (repeat (first | (first | refine DO.nilC (by kernel_rfl) ?_ | refine DO.nil (by kernel_rfl) ?_) | (with_reducible first | apply oz1 | apply oz2 | apply oz3 | apply oz4 | apply oz5 | apply oz6 | apply oz7 | apply oz8 | apply oz9 | apply ozb | apply ozc | apply oze | apply ozf | apply ozg | apply ozh | apply ozi | apply ozj | apply ozk | refine ozd (by decide) ?_) | ((first | apply SO.call | apply DO.call); (iterate 3 (focus (simp (disch := omega) only [go_sem, ↓reduceIte, Nat.reduceEqDiff, Nat.reduceLT, Nat.reduceLeDiff, Nat.reduceAdd, Nat.reduceMul, Nat.reduceSub, reduceCtorEq, Nat.reduceBEq, Int.reduceToNat, Int.reducePow, if_pos, if_neg] <;> rfl))); (first | apply SCall.ofX | apply DCall.ofX); (focus (first | assumption)); (focus (simp (disch := omega) only [go_sem, ↓reduceIte, Nat.reduceEqDiff, Nat.reduceLT, Nat.reduceLeDiff, Nat.reduceAdd, Nat.reduceMul, Nat.reduceSub, reduceCtorEq, Nat.reduceBEq, Int.reduceToNat, Int.reducePow, if_pos, if_neg] <;> rfl))) | ((with_reducible first | apply SC.condB | apply SC.region | apply SO.run | apply DO.run); (focus (simp (disch := omega) only [go_sem, ↓reduceIte, Nat.reduceEqDiff] <;> rfl)); (first | refine pickT ?_ | refine pickF ?_ | fail_if_success with_reducible refine pickA ?_)) | ((with_reducible refine SC.draw Tab.mixed ?_ ?_); (focus (first | rfl | simp (disch := omega) only [go_sem, ↓reduceIte, Nat.reduceEqDiff, Nat.reduceLT, Nat.reduceLeDiff, Nat.reduceAdd, Nat.reduceMul, Nat.reduceSub, reduceCtorEq, Nat.reduceBEq, Int.reduceToNat, Int.reducePow, if_pos, if_neg]))) | (with_reducible apply SC.ops)))
              refine hK3 _ (t + 1) ?_ (by omega) (by omega)
              rw [hH1]
              (refine Le.slots ?_ ?_ ?_ <;> (repeat' (first | (exact fun _ _ h => h) | exact Nat.le_refl _ | exact leSl_nil | refine leSl_cons (by simp (disch := omega) only [go_sem, ↓reduceIte, Nat.reduceEqDiff] <;> rfl) ?_ ?_ | exact VLe.junk _ | exact VLe.refl rfl | exact VLe.nil_sl _ _ _ | exact VLe.int (by first | rfl | omega | (dsimp only; omega)) | exact VLe.bool rfl | exact VLe.sl rfl (by first | rfl | omega) | exact VLe.cap rfl (by first | rfl | omega) | exact VLe.im rfl rfl | omega | (refine fun id k h => ?_; simp only [hget] at h ⊢; (repeat' (split at h)) <;> first | (cases h; done) | (simp (disch := omega) only [if_pos, if_neg]; exact h)))))
            · have q5 := decide_eq_false (p := (t : Int) < (m : Int)) (by omega)
              have htm' : k + 1 + t = n := by omega
              rw [htm'] at hM3 hl3 ⊢
              (repeat (first | (first | refine DO.nilC (by kernel_rfl) ?_ | refine DO.nil (by kernel_rfl) ?_) | (with_reducible first | apply oz1 | apply oz2 | apply oz3 | apply oz4 | apply oz5 | apply oz6 | apply oz7 | apply oz8 | apply oz9 | apply ozb | apply ozc | apply oze | apply ozf | apply ozg | apply ozh | apply ozi | apply ozj | apply ozk | refine ozd (by decide) ?_) | ((first | apply SO.call | apply DO.call); (iterate 3 (focus (simp (disch := omega) only [go_sem, ↓reduceIte, Nat.reduceEqDiff, Nat.reduceLT, Nat.reduceLeDiff, Nat.reduceAdd, Nat.reduceMul, Nat.reduceSub, reduceCtorEq, Nat.reduceBEq, Int.reduceToNat, Int.reducePow, if_pos, if_neg, q5] <;> rfl))); (first | apply SCall.ofX | apply DCall.ofX); (focus (first | assumption)); (focus (simp (disch := omega) only [go_sem, ↓reduceIte, Nat.reduceEqDiff, Nat.reduceLT, Nat.reduceLeDiff, Nat.reduceAdd, Nat.reduceMul, Nat.reduceSub, reduceCtorEq, Nat.reduceBEq, Int.reduceToNat, Int.reducePow, if_pos, if_neg, q5] <;> rfl))) | ((with_reducible first | apply SC.condB | apply SC.region | apply SO.run | apply DO.run); (focus (simp (disch := omega) only [go_sem, ↓reduceIte, Nat.reduceEqDiff, q5] <;> rfl)); (first | refine pickT ?_ | refine pickF ?_ | fail_if_success with_reducible refine pickA ?_)) | ((with_reducible refine SC.draw Tab.mixed ?_ ?_); (focus (first | rfl | simp (disch := omega) only [go_sem, ↓reduceIte, Nat.reduceEqDiff, Nat.reduceLT, Nat.reduceLeDiff, Nat.reduceAdd, Nat.reduceMul, Nat.reduceSub, reduceCtorEq, Nat.reduceBEq, Int.reduceToNat, Int.reducePow, if_pos, if_neg, q5]))) | (with_reducible apply SC.ops)))
              refine hK _ (k + 1, downTo p k n b r M1, ids1, d2) ?_ ⟨by simp only; omega, hM3, hI1, hd2, hE⟩ (by simp only; omega)
              (refine Le.slots ?_ ?_ ?_ <;> (repeat' (first | (exact fun _ _ h => h) | exact Nat.le_refl _ | exact leSl_nil | refine leSl_cons (by simp (disch := omega) only [go_sem, ↓reduceIte, Nat.reduceEqDiff] <;> rfl) ?_ ?_ | exact VLe.junk _ | exact VLe.refl rfl | exact VLe.nil_sl _ _ _ | exact VLe.int (by first | rfl | omega | (dsimp only; omega)) | exact VLe.bool rfl | exact VLe.sl rfl (by first | rfl | omega) | exact VLe.cap rfl (by first | rfl | omega) | exact VLe.im rfl rfl | omega | (refine fun id k h => ?_; simp only [hget] at h ⊢; (repeat' (split at h)) <;> first | (cases h; done) | (simp (disch := omega) only [if_pos, if_neg]; exact h)))))
        · have hkn2 : n = k + 1 := by omega
          have q4 : n - (k + 1) = 0 := by omega
          have q6 : decide ((0 : Int) < ((0 : Nat) : Int)) = false := by decide
          (repeat (first | (first | refine DO.nilC (by kernel_rfl) ?_ | refine DO.nil (by kernel_rfl) ?_) | (with_reducible first | apply oz1 | apply oz2 | apply oz3 | apply oz4 | apply oz5 | apply oz6 | apply oz7 | apply oz8 | apply oz9 | apply ozb | apply ozc | apply oze | apply ozf | apply ozg | apply ozh | apply ozi | apply ozj | apply ozk | refine ozd (by decide) ?_) | ((first | apply SO.call | apply DO.call); (iterate 3 (focus (simp (disch := omega) only [go_sem, ↓reduceIte, Nat.reduceEqDiff, Nat.reduceLT, Nat.reduceLeDiff, Nat.reduceAdd, Nat.reduceMul, Nat.reduceSub, reduceCtorEq, Nat.reduceBEq, Int.reduceToNat, Int.reducePow, if_pos, if_neg, t1, q4] <;> rfl))); (first | apply SCall.ofX | apply DCall.ofX); (focus (first | assumption)); (focus (simp (disch := omega) only [go_sem, ↓reduceIte, Nat.reduceEqDiff, Nat.reduceLT, Nat.reduceLeDiff, Nat.reduceAdd, Nat.reduceMul, Nat.reduceSub, reduceCtorEq, Nat.reduceBEq, Int.reduceToNat, Int.reducePow, if_pos, if_neg, t1, q4] <;> rfl))) | ((with_reducible first | apply SC.condB | apply SC.region | apply SO.run | apply DO.run); (focus (simp (disch := omega) only [go_sem, ↓reduceIte, Nat.reduceEqDiff, reduceCtorEq, if_pos, if_neg, t1, q4] <;> rfl)); (first | refine pickT ?_ | refine pickF ?_ | fail_if_success with_reducible refine pickA ?_)) | ((with_reducible refine SC.draw Tab.mixed ?_ ?_); (focus (first | rfl | simp (disch := omega) only [go_sem, ↓reduceIte, Nat.reduceEqDiff, Nat.reduceLT, Nat.reduceLeDiff, Nat.reduceAdd, Nat.reduceMul, Nat.reduceSub, reduceCtorEq, Nat.reduceBEq, Int.reduceToNat, Int.reducePow, if_pos, if_neg, t1, q4]))) | (with_reducible apply SC.ops)))
          refine SC.loop (fun _ : Unit => ⟨[(1, .pt 0 0), (4, .sl o 0 n 1 none), (5, .sc (.int .u64 d2)), (28, .sc (.int .i64 n)), (29, .sc (.int .i64 k)), (87, .sc (.int .i64 (0 : Nat))), (88, .sc (.int .i64 0))], (0, ⟨29, [.sc (.int .u64 p), .sc (.int .i64 n), .im (imR n (nR M0)) n], false⟩) :: (o, ⟨44, slR 1 n ids1, false⟩) :: rowsH 26 ids1 (nR M1), nx, 115⟩) (fun _ => True) (fun _ => 0) () ?_ trivial ?_
          · (refine Le.slots ?_ ?_ ?_ <;> (repeat' (first | (exact fun _ _ h => h) | exact Nat.le_refl _ | exact leSl_nil | refine leSl_cons (by simp (disch := omega) only [go_sem, ↓reduceIte, Nat.reduceEqDiff] <;> rfl) ?_ ?_ | exact VLe.junk _ | exact VLe.refl rfl | exact VLe.nil_sl _ _ _ | exact VLe.int (by first | rfl | omega | (dsimp only; omega)) | exact VLe.bool rfl | exact VLe.sl rfl (by first | rfl | omega) | exact VLe.cap rfl (by first | rfl | omega) | exact VLe.im rfl rfl | omega | (refine fun id k h => ?_; simp only [hget] at h ⊢; (repeat' (split at h)) <;> first | (cases h; done) | (simp (disch := omega) only [if_pos, if_neg]; exact h)))))
          · intro _ _ K3 hK3
            (repeat (first | (first | refine DO.nilC (by kernel_rfl) ?_ | refine DO.nil (by kernel_rfl) ?_) | (with_reducible first | apply oz1 | apply oz2 | apply oz3 | apply oz4 | apply oz5 | apply oz6 | apply oz7 | apply oz8 | apply oz9 | apply ozb | apply ozc | apply oze | apply ozf | apply ozg | apply ozh | apply ozi | apply ozj | apply ozk | refine ozd (by decide) ?_) | ((first | apply SO.call | apply DO.call); (iterate 3 (focus (simp (disch := omega) only [go_sem, ↓reduceIte, Nat.reduceEqDiff, Nat.reduceLT, Nat.reduceLeDiff, Nat.reduceAdd, Nat.reduceMul, Nat.reduceSub, reduceCtorEq, Nat.reduceBEq, Int.reduceToNat, Int.reducePow, if_pos, if_neg, q6] <;> rfl))); (first | apply SCall.ofX | apply DCall.ofX); (focus (first | assumption)); (focus (simp (disch := omega) only [go_sem, ↓reduceIte, Nat.reduceEqDiff, Nat.reduceLT, Nat.reduceLeDiff, Nat.reduceAdd, Nat.reduceMul, Nat.reduceSub, reduceCtorEq, Nat.reduceBEq, Int.reduceToNat, Int.reducePow, if_pos, if_neg, q6] <;> rfl))) | ((with_reducible first | apply SC.condB | apply SC.region | apply SO.run | apply DO.run); (focus (simp (disch := omega) only [go_sem, ↓reduceIte, Nat.reduceEqDiff, q6] <;> rfl)); (first | refine pickT ?_ | refine pickF ?_ | fail_if_success with_reducible refine pickA ?_)) | ((with_reducible refine SC.draw Tab.mixed ?_ ?_); (focus (first | rfl | simp (disch := omega) only [go_sem, ↓reduceIte, Nat.reduceEqDiff, Nat.reduceLT, Nat.reduceLeDiff, Nat.reduceAdd, Nat.reduceMul, Nat.reduceSub, reduceCtorEq, Nat.reduceBEq, Int.reduceToNat, Int.reducePow, if_pos, if_neg, q6]))) | (with_reducible apply SC.ops)))
            refine hK _ (k + 1, M1, ids1, d2) ?_ ⟨by simp only; omega, hM1, hI1, hd2, ?_⟩ (by simp only; omega)
            · (refine Le.slots ?_ ?_ ?_ <;> (repeat' (first | (exact fun _ _ h => h) | exact Nat.le_refl _ | exact leSl_nil | refine leSl_cons (by simp (disch := omega) only [go_sem, ↓reduceIte, Nat.reduceEqDiff] <;> rfl) ?_ ?_ | exact VLe.junk _ | exact VLe.refl rfl | exact VLe.nil_sl _ _ _ | exact VLe.int (by first | rfl | omega | (dsimp only; omega)) | exact VLe.bool rfl | exact VLe.sl rfl (by first | rfl | omega) | exact VLe.cap rfl (by first | rfl | omega) | exact VLe.im rfl rfl | omega | (refine fun id k h => ?_; simp only [hget] at h ⊢; (repeat' (split at h)) <;> first | (cases h; done) | (simp (disch := omega) only [if_pos, if_neg]; exact h)))))
            · rw [← hE, hkn2, downTo_zero]
    · have q1 := decide_eq_false (p := (k : Int) < (n : Int)) (by omega)
      have : k = n := by omega
      subst this
      rw [Nat.sub_self, detGo] at hE
      (repeat (first | (first | refine DO.nilC (by kernel_rfl) ?_ | refine DO.nil (by kernel_rfl) ?_) | (with_reducible first | apply oz1 | apply oz2 | apply oz3 | apply oz4 | apply oz5 | apply oz6 | apply oz7 | apply oz8 | apply oz9 | apply ozb | apply ozc | apply oze | apply ozf | apply ozg | apply ozh | apply ozi | apply ozj | apply ozk | refine ozd (by decide) ?_) | ((first | apply SO.call | apply DO.call); (iterate 3 (focus (simp (disch := omega) only [go_sem, ↓reduceIte, Nat.reduceEqDiff, Nat.reduceLT, Nat.reduceLeDiff, Nat.reduceAdd, Nat.reduceMul, Nat.reduceSub, reduceCtorEq, Nat.reduceBEq, Int.reduceToNat, Int.reducePow, if_pos, if_neg, q1] <;> rfl))); (first | apply SCall.ofX | apply DCall.ofX); (focus (first | assumption)); (focus (simp (disch := omega) only [go_sem, ↓reduceIte, Nat.reduceEqDiff, Nat.reduceLT, Nat.reduceLeDiff, Nat.reduceAdd, Nat.reduceMul, Nat.reduceSub, reduceCtorEq, Nat.reduceBEq, Int.reduceToNat, Int.reducePow, if_pos, if_neg, q1] <;> rfl))) | ((with_reducible first | apply SC.condB | apply SC.region | apply SO.run | apply DO.run); (focus (simp (disch := omega) only [go_sem, ↓reduceIte, Nat.reduceEqDiff, Nat.reduceLT, q1] <;> rfl)); (first | refine pickT ?_ | refine pickF ?_ | fail_if_success with_reducible refine pickA ?_)) | ((with_reducible refine SC.draw Tab.mixed ?_ ?_); (focus (first | rfl | simp (disch := omega) only [go_sem, ↓reduceIte, Nat.reduceEqDiff, Nat.reduceLT, Nat.reduceLeDiff, Nat.reduceAdd, Nat.reduceMul, Nat.reduceSub, reduceCtorEq, Nat.reduceBEq, Int.reduceToNat, Int.reducePow, if_pos, if_neg, q1]))) | (with_reducible apply SC.ops)))
      exact retQ_ret Try.results16 (by simp (disch := omega) only [go_sem, ↓reduceIte, Nat.reduceEqDiff] <;> rfl) (by simp (disch := omega) only [go_sem, ↓reduceIte] <;> rfl) (by rw [hE])
end Go.Proofs.Ytpbomhmflllemaa

/- sanity of the law's package. -/
namespace Go.Proofs.Ytpbomhmflllemaa
open Go.RowKit
def sanK2 (f : Nat) (ys : List V) : Option V :=
  match ys with
  | [x] => if f = 16 then (unMd x).bind fun q => if q.2.length = 2 then some (.tu [.sc (.int .u64 (detL 5 q.2)), .sc (.int .i64 0)]) else none else sanK f [x]
  | ys => sanK f ys
theorem sanK2_s (h5 : Pr 5) : KSound Try.prog sanK2 := by
  intro f ys x h
  unfold sanK2 at h
  split at h
  · rename_i x'
    split at h
    · rename_i e
      subst e
      cases hx : unMd x' with
      | none => rw [hx] at h; cases h
      | some q =>
        obtain ⟨w, M⟩ := q
        obtain ⟨rfl, rfl, hM, hl⟩ := unMd_s hx
        rw [hx] at h
        simp only [Option.bind_some] at h
        split at h
        · rename_i hl2
          cases h
          rw [hl2] at hM
          exact det_s prime5 h5 (by omega) hM (by omega)
        · cases h
    · exact sanK_s h5 _ _ _ h
  · exact sanK_s h5 _ _ _ h
theorem sanity_s (h5 : Pr 5) : Spec Try.prog 11 [] (.sc (.bool true)) := Spec.eval (sanK2_s h5) 200 (fun f => f == 13) (by kernel_rfl)
end Go.Proofs.Ytpbomhmflllemaa

/- Expansion along the first row, of lists of rows. -/
namespace Go.Proofs.Ytpbomhmflllemaa
open Go.RowKit
def cutL (k : Nat) (r : List Nat) : List Nat := r.take k ++ r.drop (k + 1)
def minorL (M : List (List Nat)) (k : Nat) : List (List Nat) := (M.drop 1).map (cutL k)
def lapT (p : Nat) (f : Nat → Nat) (M : List (List Nat)) (k : Nat) : Nat :=
  if k % 2 = 1 then (0 + p - f k * ent M 0 k % p) % p else f k * ent M 0 k % p
def lapTo (p : Nat) (f : Nat → Nat) (M : List (List Nat)) : Nat → Nat
  | 0 => 0
  | k + 1 => (lapTo p f M k + lapT p f M k) % p
def lapL (p : Nat) : Nat → List (List Nat) → Nat
  | 0, _ => 1
  | n + 1, M => lapTo p (fun k => lapL p n (minorL M k)) M (n + 1)
theorem lapTo_lt {p : Nat} (hp : 0 < p) {f : Nat → Nat} {M : List (List Nat)} : ∀ k, lapTo p f M k < p
  | 0 => hp
  | _ + 1 => Nat.mod_lt _ hp
theorem lapL_lt {p : Nat} (hp : 1 < p) : ∀ (n : Nat) (M : List (List Nat)), lapL p n M < p
  | 0, _ => hp
  | _ + 1, _ => lapTo_lt (by omega) _
theorem cutL_rw {p n k : Nat} {r : List Nat} (h : Rw p (n + 1) r) (hk : k < n + 1) : Rw p n (cutL k r) := by
  refine ⟨?_, fun x hx => ?_⟩
  · unfold cutL; rw [List.length_append, List.length_take, List.length_drop, h.1]; omega
  · rcases List.mem_append.1 hx with g | g
    · exact h.2 x (List.mem_of_mem_take g)
    · exact h.2 x (List.mem_of_mem_drop g)
theorem minorL_mv {p n k : Nat} {M : List (List Nat)} (h : MV p (n + 1) (n + 1) M) (hk : k < n + 1) : MV p n n (minorL M k) := by
  refine ⟨?_, fun r hr => ?_⟩
  · unfold minorL; rw [List.length_map, List.length_drop, h.1]; omega
  · obtain ⟨r', h', rfl⟩ := List.mem_map.1 hr
    exact cutL_rw (h.2 _ (List.mem_of_mem_drop h')) hk
theorem minorL_get {k j : Nat} {M : List (List Nat)} (h : j + 1 < M.length) : (minorL M k).getD j [] = cutL k (M.getD (j + 1) []) := by
  unfold minorL
  rw [List.getD_eq_getElem?_getD, List.getElem?_map, List.getElem?_drop, Nat.add_comm 1 j, getD_get' (d := []) h]
  rfl
end Go.Proofs.Ytpbomhmflllemaa

/- Determinants of at most four rows over a commutative ring. -/
namespace Go.Proofs.Ytpbomhmflllemaa
section det
variable {K : Type} [Lean.Grind.CommRing K]
def mnr (A : Nat → Nat → K) (k i j : Nat) : K := A (i + 1) (if j < k then j else j + 1)
def sgk (k : Nat) (x : K) : K := if k % 2 = 1 then -x else x
def dt : Nat → (Nat → Nat → K) → K
  | 0, _ => 1
  | n + 1, A => sg (fun k => sgk k (dt n (mnr A k) * A 0 k)) (n + 1)
theorem dt_congr : ∀ {n : Nat} {A B : Nat → Nat → K}, (∀ i j, i < n → j < n → A i j = B i j) → dt n A = dt n B
  | 0, _, _, _ => rfl
  | n + 1, A, B, h => by
    unfold dt
    refine sg_congr fun k hk => ?_
    rw [h 0 k (by omega) hk, dt_congr (A := mnr A k) (B := mnr B k)]
    intro i j hi hj
    unfold mnr
    exact h _ _ (by omega) (by split <;> omega)
theorem sgk_add (k : Nat) (x y : K) : sgk k (x + y) = sgk k x + sgk k y := by unfold sgk; split <;> grind
theorem sgk_mul (k : Nat) (a x : K) : sgk k (a * x) = a * sgk k x := by unfold sgk; split <;> grind
theorem dt_lin : ∀ {n i : Nat} {A B C : Nat → Nat → K} {a b : K}, i < n → (∀ j, j < n → A i j = a * B i j + b * C i j) → (∀ r j, r < n → j < n → r ≠ i → A r j = B r j ∧ A r j = C r j) → dt n A = a * dt n B + b * dt n C
  | 0, _, _, _, _, _, _, hi, _, _ => by omega
  | n + 1, 0, A, B, C, a, b, _, h1, h2 => by
    unfold dt
    rw [← sg_mul, ← sg_mul, ← sg_add]
    refine sg_congr fun k hk => ?_
    rw [h1 k hk]
    have eB : dt n (mnr A k) = dt n (mnr B k) := dt_congr fun i j hi hj => (h2 _ _ (by omega) (by split <;> omega) (by omega)).1
    have eC : dt n (mnr A k) = dt n (mnr C k) := dt_congr fun i j hi hj => (h2 _ _ (by omega) (by split <;> omega) (by omega)).2
    rw [← sgk_mul, ← sgk_mul, ← sgk_add, ← eB, ← eC]
    congr 1
    grind
  | n + 1, i + 1, A, B, C, a, b, hi, h1, h2 => by
    unfold dt
    rw [← sg_mul, ← sg_mul, ← sg_add]
    refine sg_congr fun k hk => ?_
    have := dt_lin (n := n) (i := i) (A := mnr A k) (B := mnr B k) (C := mnr C k) (a := a) (b := b) (by omega) (fun j hj => h1 _ (by split <;> omega)) (fun r j hr hj hne => h2 _ _ (by omega) (by split <;> omega) (by omega))
    rw [this, ← sgk_mul, ← sgk_mul, ← sgk_add, ← (h2 0 k (by omega) hk (by omega)).1, ← (h2 0 k (by omega) hk (by omega)).2]
    congr 1
    grind
def rw1 (A : Nat → Nat → K) (i : Nat) (r : Nat → K) (k j : Nat) : K := if k = i then r j else A k j
omit [Lean.Grind.CommRing K] in
theorem rw1_self (A : Nat → Nat → K) (i : Nat) : rw1 A i (A i) = A := by
  funext k j; unfold rw1; split
  · rename_i h; rw [h]
  · rfl
theorem dt_row {n i : Nat} {A : Nat → Nat → K} {r u : Nat → K} {a b : K} (hi : i < n) : dt n (rw1 A i fun j => a * r j + b * u j) = a * dt n (rw1 A i r) + b * dt n (rw1 A i u) :=
  dt_lin hi (fun j _ => by simp [rw1]) (fun k j _ _ hne => by simp [rw1, hne])
theorem dt_zero {n i : Nat} {A : Nat → Nat → K} {r : Nat → K} (hi : i < n) (h : ∀ j, j < n → r j = 0) : dt n (rw1 A i r) = 0 := by
  have := dt_row (n := n) (i := i) (A := A) (r := fun _ => 0) (u := fun _ => 0) (a := 0) (b := 0) hi
  have e : dt n (rw1 A i r) = dt n (rw1 A i fun j => (0 : K) * (0 : K) + 0 * 0) := dt_congr fun k j _ hj => by
    unfold rw1; split
    · rw [h j hj]; grind
    · rfl
  rw [e, this]; grind
theorem dt_sum {n i : Nat} {A : Nat → Nat → K} {R : Nat → Nat → K} {x : Nat → K} (hi : i < n) : ∀ m : Nat, dt n (rw1 A i fun j => sg (fun k => x k * R k j) m) = sg (fun k => x k * dt n (rw1 A i (R k))) m
  | 0 => dt_zero hi fun _ _ => rfl
  | m + 1 => by
    have := dt_row (n := n) (i := i) (A := A) (r := fun j => sg (fun k => x k * R k j) m) (u := R m) (a := 1) (b := x m) hi
    have e : dt n (rw1 A i fun j => sg (fun k => x k * R k j) (m + 1)) = dt n (rw1 A i fun j => (1 : K) * sg (fun k => x k * R k j) m + x m * R m j) := dt_congr fun k j _ _ => by
      unfold rw1; split
      · show sg (fun k => x k * R k j) (m + 1) = _
        simp only [sg]; grind
      · rfl
    rw [e, this, dt_sum hi m]
    show _ = sg (fun k => x k * dt n (rw1 A i (R k))) m + x m * dt n (rw1 A i (R m))
    grind
theorem dt_alt {n : Nat} (hn : n ≤ 4) {A : Nat → Nat → K} {i k : Nat} (hk : k < n) (hik : i < k) (h : ∀ j, j < n → A i j = A k j) : dt n A = 0 := by
  rcases (by omega : n = 2 ∨ n = 3 ∨ n = 4 ∨ n = 0 ∨ n = 1) with rfl | rfl | rfl | rfl | rfl
  · have h0 := h 0 (by omega); have h1 := h 1 (by omega)
    obtain ⟨rfl, rfl⟩ : i = 0 ∧ k = 1 := by omega
    simp [dt, sg, mnr, sgk, h0, h1]; grind
  · have h0 := h 0 (by omega); have h1 := h 1 (by omega); have h2 := h 2 (by omega)
    rcases (by omega : (i = 0 ∧ k = 1) ∨ (i = 0 ∧ k = 2) ∨ (i = 1 ∧ k = 2)) with ⟨rfl, rfl⟩ | ⟨rfl, rfl⟩ | ⟨rfl, rfl⟩ <;>
    · simp [dt, sg, mnr, sgk, h0, h1, h2]; grind
  · have h0 := h 0 (by omega); have h1 := h 1 (by omega); have h2 := h 2 (by omega); have h3 := h 3 (by omega)
    rcases (by omega : (i = 0 ∧ k = 1) ∨ (i = 0 ∧ k = 2) ∨ (i = 0 ∧ k = 3) ∨ (i = 1 ∧ k = 2) ∨ (i = 1 ∧ k = 3) ∨ (i = 2 ∧ k = 3)) with ⟨rfl, rfl⟩ | ⟨rfl, rfl⟩ | ⟨rfl, rfl⟩ | ⟨rfl, rfl⟩ | ⟨rfl, rfl⟩ | ⟨rfl, rfl⟩ <;>
    · simp [dt, sg, mnr, sgk, h0, h1, h2, h3]; grind
  · omega
  · omega
theorem dt_alt' {n : Nat} (hn : n ≤ 4) {A : Nat → Nat → K} {i k : Nat} (hi : i < n) (hk : k < n) (hik : i ≠ k) (h : ∀ j, j < n → A i j = A k j) : dt n A = 0 := by
  rcases Nat.lt_or_ge i k with g | g
  · exact dt_alt hn hk g h
  · exact dt_alt hn hi (by omega) fun j hj => (h j hj).symm
theorem dt_add {n : Nat} (hn : n ≤ 4) {A B : Nat → Nat → K} {i k : Nat} {a : K} (hi : i < n) (hk : k < n) (hik : i ≠ k) (h1 : ∀ j, j < n → B i j = A i j + a * A k j) (h2 : ∀ r j, r < n → j < n → r ≠ i → B r j = A r j) : dt n B = dt n A := by
  have h := dt_lin (n := n) (i := i) (A := B) (B := A) (C := rw1 A i (A k)) (a := 1) (b := a) hi (fun j hj => by rw [h1 j hj]; simp only [rw1, if_pos]; grind) (fun r j hr hj hne => ⟨h2 r j hr hj hne, by rw [h2 r j hr hj hne]; simp [rw1, hne]⟩)
  have h0 : dt n (rw1 A i (A k)) = 0 := dt_alt' hn hi hk hik fun j _ => by simp [rw1, Ne.symm hik]
  rw [h, h0]; grind
theorem dt_swap {n : Nat} (hn : n ≤ 4) {A B : Nat → Nat → K} {i k : Nat} (hi : i < n) (hk : k < n) (hik : i ≠ k) (h1 : ∀ j, j < n → B i j = A k j) (h2 : ∀ j, j < n → B k j = A i j) (h3 : ∀ r j, r < n → j < n → r ≠ i → r ≠ k → B r j = A r j) : dt n B = - dt n A := by
  -- row i + row k in both places
  let u : Nat → K := fun j => A i j + A k j
  have e0 : dt n (rw1 (rw1 A i u) k u) = 0 := dt_alt' hn hi hk hik fun j _ => by simp [rw1]
  have e1 : dt n (rw1 (rw1 A i u) k u) = 1 * dt n (rw1 A k u) + 1 * dt n (rw1 (rw1 A i (A k)) k u) := by
    refine dt_lin hi (fun j _ => ?_) (fun r j _ _ hne => ?_)
    · simp only [rw1, if_neg hik, if_pos, u]; grind
    · simp [rw1, hne]
  have e2 : dt n (rw1 A k u) = 1 * dt n (rw1 A k (A i)) + 1 * dt n A := by
    refine dt_lin hk (fun j _ => ?_) (fun r j _ _ hne => ?_)
    · simp only [rw1, if_pos, u]; grind
    · simp [rw1, hne]
  have e3 : dt n (rw1 (rw1 A i (A k)) k u) = 1 * dt n B + 1 * dt n (rw1 A i (A k)) := by
    refine dt_lin hk (fun j hj => ?_) (fun r j hr hj hne => ?_)
    · simp only [rw1, if_pos, if_neg (Ne.symm hik), u]; rw [h2 j hj]; grind
    · by_cases e : r = i
      · subst e; simp [rw1, hne]; exact (h1 j hj).symm
      · simp [rw1, hne, e]; exact (h3 r j hr hj e hne).symm
  have e4 : dt n (rw1 A k (A i)) = 0 := dt_alt' hn hi hk hik fun j _ => by simp [rw1, hik]
  have e5 : dt n (rw1 A i (A k)) = 0 := dt_alt' hn hi hk hik fun j _ => by simp [rw1, Ne.symm hik]
  rw [e2, e3, e4, e5, e0] at e1
  grind
theorem dt_dep {n : Nat} (hn : n ≤ 4) {A : Nat → Nat → K} {x : Nat → K} {i : Nat} {b : K} (hi : i < n) (hb : b * x i = 1) (h : ∀ j, j < n → sg (fun k => x k * A k j) n = 0) : dt n A = 0 := by
  have h1 := dt_sum (n := n) (i := i) (A := A) (R := A) (x := x) hi n
  rw [dt_zero hi h, sg_one (k := i) hi, rw1_self] at h1
  · have : b * (x i * dt n A) = 0 := by rw [← h1]; grind
    grind
  · intro k hk hne
    rw [dt_alt' hn hi hk (Ne.symm hne) fun j _ => by simp [rw1, hne]]; grind
def dgP (A : Nat → Nat → K) : Nat → K
  | 0 => 1
  | k + 1 => dgP A k * A k k
theorem dt_upper {n : Nat} (hn : n ≤ 4) {A : Nat → Nat → K} (h : ∀ i j, i < n → j < i → A i j = 0) : dt n A = dgP A n := by
  rcases (by omega : n = 2 ∨ n = 3 ∨ n = 4 ∨ n = 0 ∨ n = 1) with rfl | rfl | rfl | rfl | rfl
  · have h0 := h 1 0 (by omega) (by omega)
    simp [dt, sg, mnr, sgk, dgP, h0]; grind
  · have h0 := h 1 0 (by omega) (by omega); have h1 := h 2 0 (by omega) (by omega); have h2 := h 2 1 (by omega) (by omega)
    simp [dt, sg, mnr, sgk, dgP, h0, h1, h2]; grind
  · have h0 := h 1 0 (by omega) (by omega); have h1 := h 2 0 (by omega) (by omega); have h2 := h 2 1 (by omega) (by omega)
    have h3 := h 3 0 (by omega) (by omega); have h4 := h 3 1 (by omega) (by omega); have h5 := h 3 2 (by omega) (by omega)
    simp [dt, sg, mnr, sgk, dgP, h0, h1, h2, h3, h4, h5]; grind
  · rfl
  · simp [dt, sg, sgk, dgP]; grind
def mulM (n : Nat) (A B : Nat → Nat → K) (i j : Nat) : K := sg (fun k => A i k * B k j) n
def dtm (n : Nat) (A B : Nat → Nat → K) : K := dt n (mulM n A B)
theorem dtm_congr {n : Nat} {A A' B : Nat → Nat → K} (h : ∀ i j, i < n → j < n → A i j = A' i j) : dtm n A B = dtm n A' B :=
  dt_congr fun i j hi _ => sg_congr fun k hk => by rw [h i k hi hk]
theorem dtm_add {n : Nat} (hn : n ≤ 4) {A A' B : Nat → Nat → K} {i k : Nat} {a : K} (hi : i < n) (hk : k < n) (hik : i ≠ k) (h1 : ∀ j, j < n → A' i j = A i j + a * A k j) (h2 : ∀ r j, r < n → j < n → r ≠ i → A' r j = A r j) : dtm n A' B = dtm n A B := by
  refine dt_add hn hi hk hik (a := a) (fun j _ => ?_) (fun r j hr _ hne => sg_congr fun l hl => by rw [h2 r l hr hl hne])
  unfold mulM
  rw [← sg_mul, ← sg_add]
  exact sg_congr fun l hl => by rw [h1 l hl]; grind
theorem dtm_swap {n : Nat} (hn : n ≤ 4) {A A' B : Nat → Nat → K} {i k : Nat} (hi : i < n) (hk : k < n) (hik : i ≠ k) (h1 : ∀ j, j < n → A' i j = A k j) (h2 : ∀ j, j < n → A' k j = A i j) (h3 : ∀ r j, r < n → j < n → r ≠ i → r ≠ k → A' r j = A r j) : dtm n A' B = - dtm n A B :=
  dt_swap hn hi hk hik (fun j _ => sg_congr fun l hl => by rw [h1 l hl]) (fun j _ => sg_congr fun l hl => by rw [h2 l hl]) (fun r j hr _ a b => sg_congr fun l hl => by rw [h3 r l hr hl a b])
theorem dtm_dep {n : Nat} (hn : n ≤ 4) {A B : Nat → Nat → K} {x : Nat → K} {i : Nat} {b : K} (hi : i < n) (hb : b * x i = 1) (h : ∀ j, j < n → sg (fun k => x k * A k j) n = 0) : dtm n A B = 0 := by
  refine dt_dep hn (x := x) hi hb fun j _ => ?_
  unfold mulM
  rw [sg_congr (g := fun k => sg (fun l => x k * A k l * B l j) n) fun k _ => by rw [← sg_mul]; exact sg_congr fun l _ => by grind, sg_comm (fun k l => x k * A k l * B l j)]
  refine sg_zero fun l hl => ?_
  rw [sg_mulr, h l hl]; grind
theorem dtm_upper {n : Nat} (hn : n ≤ 4) {A B : Nat → Nat → K} (h : ∀ i j, i < n → j < i → A i j = 0) : dtm n A B = dgP A n * dt n B := by
  -- the rows from t on are those of B
  let W : Nat → Nat → Nat → K := fun t i j => if i < t then mulM n A B i j else B i j
  have step : ∀ t, t < n → dt n (W (t + 1)) = A t t * dt n (W t) := by
    intro t ht
    have e : dt n (W (t + 1)) = dt n (rw1 (W t) t fun j => sg (fun k => A t k * B k j) n) := dt_congr fun i j _ _ => by
      simp only [W, rw1]
      by_cases e : i = t
      · subst e; rw [if_pos (by omega), if_pos rfl]; rfl
      · rw [if_neg e]
        by_cases g : i < t
        · rw [if_pos (by omega), if_pos g]
        · rw [if_neg (by omega), if_neg g]
    rw [e, dt_sum ht n, sg_one (k := t) ht]
    · congr 1
      refine dt_congr fun i j _ _ => ?_
      simp only [W, rw1]
      by_cases e : i = t
      · subst e; rw [if_pos rfl, if_neg (by omega)]
      · rw [if_neg e]
    · intro k hk hne
      rcases Nat.lt_or_ge k t with g | g
      · rw [h t k ht g]; grind
      · rw [dt_alt' hn ht hk (Ne.symm hne) fun j _ => by simp only [W, rw1]; rw [if_pos trivial, if_neg hne, if_neg (by omega)]]; grind
  have all : ∀ t, t ≤ n → dt n (W t) = dgP A t * dt n B := by
    intro t
    induction t with
    | zero => intro _; rw [dgP, show W 0 = B from by funext i j; simp [W]]; grind
    | succ t ih => intro ht; rw [step t (by omega), ih (by omega), dgP]; grind
  rw [← all n (Nat.le_refl _)]
  exact dt_congr fun i j hi _ => by simp only [W, if_pos hi]
theorem dtm_none (h10 : (1 : K) ≠ 0) (hinv : ∀ a : K, a ≠ 0 → ∃ b, a * b = 1) {n k : Nat} (hn : n ≤ 4) {A B : Nat → Nat → K} (hk : k < n) (h : ∀ i j, k ≤ i → i < n → j ≤ k → A i j = 0) : dtm n A B = 0 := by
  obtain ⟨x, ⟨i, hi, hx⟩, hs⟩ := kernel_ex h10 hinv (n - (k + 1)) (fun i j => A (k + i) (k + 1 + j))
  obtain ⟨b, hb⟩ := hinv _ hx
  refine dtm_dep hn (x := fun r => if r < k then 0 else x (r - k)) (i := k + i) (b := b) (by omega) ?_ fun j hj => ?_
  · simp only [if_neg (show ¬ k + i < k by omega), show k + i - k = i by omega]; grind
  · have e : n = k + (n - (k + 1) + 1) := by omega
    rw [e, sg_split, sg_zero fun r hr => by simp only [if_pos hr]; grind]
    rw [sg_congr (g := fun r => x r * A (k + r) j) fun r _ => by simp only [if_neg (show ¬ k + r < k by omega), show k + r - k = r by omega]]
    rcases Nat.lt_or_ge k j with g | g
    · have := hs (j - (k + 1)) (by omega)
      simp only [show k + 1 + (j - (k + 1)) = j by omega] at this
      rw [this]; grind
    · rw [sg_zero fun r hr => by rw [h _ _ (by omega) (by omega) g]; grind]; grind
def idM (i j : Nat) : K := if i = j then 1 else 0
theorem dtm_one {n : Nat} {A : Nat → Nat → K} : dtm n A idM = dt n A := dt_congr fun i j _ hj => by
  unfold mulM
  rw [sg_one (k := j) hj fun k _ hne => by simp only [idM, if_neg hne]; grind]
  simp only [idM, if_pos]; grind
theorem dt_one {n : Nat} (hn : n ≤ 4) : dt n (idM : Nat → Nat → K) = 1 := by
  rw [dt_upper hn fun i j _ hj => by unfold idM; rw [if_neg (by omega)]]
  have : ∀ t, dgP (idM : Nat → Nat → K) t = 1 := by
    intro t
    induction t with
    | zero => rfl
    | succ t ih => rw [dgP, ih]; simp only [idM, if_pos]; grind
  exact this n
end det
end Go.Proofs.Ytpbomhmflllemaa

/- Determinants of lists of rows modulo a prime: elimination, expansion, products, transposes, rank. -/
namespace Go.Proofs.Ytpbomhmflllemaa
section
variable {p n : Nat} [NeZero p]
theorem fM_set {M : List (List Nat)} {i : Nat} {r : List Nat} (hi : i < M.length) (k j : Nat) : fM p (M.set i r) k j = if k = i then fR p r j else fM p M k j := by
  unfold fM ent
  rw [getD_set hi]
  split <;> rfl
theorem downTo_fM (hp : 0 < p) {k b : Nat} {rk : List Nat} {M : List (List Nat)} (hM : MV p n n M) (hr : rk.length = n) (hrk : M.getD k [] = rk) (hn : n ≤ 4) (hk : k < n) {B : Nat → Nat → Fin p} : ∀ t, k + 1 + t ≤ n → dtm n (fM p (downTo p k (k + 1 + t) b rk M)) B = dtm n (fM p M) B
  | 0, _ => by rw [Nat.add_zero, downTo_zero]
  | t + 1, ht => by
    have ih := downTo_fM hp (b := b) hM hr hrk hn hk (B := B) t (by omega)
    rw [← ih, show k + 1 + (t + 1) = k + 1 + t + 1 by omega, ← downTo_set (by omega) (by rw [hM.1]; omega)]
    have hl := downTo_len (p := p) (k := k) (t := k + 1 + t) (b := b) (rk := rk) (M := M)
    have hmv := downTo_mv (p := p) (k := k) (t := k + 1 + t) (b := b) hp hM hr
    refine dtm_add hn (i := k + 1 + t) (k := k) (a := fz p ((0 + p - b * (M.getD (k + 1 + t) []).getD k 0 % p) % p)) (by omega) hk (by omega) (fun j hj => ?_) (fun r j hr' hj hne => ?_)
    · rw [fM_set (by rw [hl, hM.1]; omega), if_pos rfl, addRw_fR (w := n) (hM.get (by omega)).1 hr hj]
      have e1 : fM p (downTo p k (k + 1 + t) b rk M) (k + 1 + t) j = fR p (M.getD (k + 1 + t) []) j := by
        unfold fM ent
        rw [downTo_get (by rw [hM.1]; omega), if_neg (by omega)]; rfl
      have e2 : fM p (downTo p k (k + 1 + t) b rk M) k j = fR p rk j := by
        unfold fM ent
        rw [downTo_get (by rw [hM.1]; omega), if_neg (by omega), hrk]; rfl
      rw [e1, e2]
    · rw [fM_set (by rw [hl, hM.1]; omega), if_neg hne]
theorem detGo_dtm (hp : Pr p) (hn : n ≤ 4) {B : Nat → Nat → Fin p} : ∀ (t k : Nat) (M : List (List Nat)) (d : Nat), k + t = n → MV p n n M → d < p → (∀ i j, i < n → j < k → j < i → fM p M i j = 0) →
    fz p (detGo p t k M d) * dgP (fM p M) k * dt n B = fz p d * dtm n (fM p M) B
  | 0, k, M, d, hk, hM, hd, hz => by
    have : k = n := by omega
    subst this
    rw [detGo, dtm_upper hn fun i j hi hj => hz i j hi (by omega) hj]
    grind
  | t + 1, k, M, d, hk, hM, hd, hz => by
    have hp1 := hp.1
    have hl := hM.1
    have hsi := searchL_inv (M := M) (c := k) (f := M.length - k) (k := k)
    rw [detGo]
    cases hs : searchL M k (M.length - k) k with
    | none =>
      rw [hs] at hsi
      simp only at hsi ⊢
      rw [dtm_none (fin10 hp) (finInv hp) hn (k := k) (by omega) fun i j h1 h2 h3 => ?_, fz_zero]
      · grind
      · rcases Nat.lt_or_ge j k with g | g
        · exact hz i j h2 g (by omega)
        · rw [show j = k by omega]
          unfold fM
          rw [hsi i h1 (by omega), fz_zero]
    | some q =>
      rw [hs] at hsi
      simp only at hsi ⊢
      obtain ⟨s1, s2, s3, s4⟩ := hsi
      have hqn : q < n := by omega
      have hkn : k < n := by omega
      have hx := hM.lt hqn hkn
      have hr := hM.get hqn
      have hM1 := swapL_mv hM hkn hqn
      have hM2 := downTo_mv (p := p) (k := k) (t := n) (b := ent M q k ^ (p - 2) % p) (by omega) hM1 hr.1
      have eM1 : (swapL M k q).getD k [] = M.getD q [] := by
        rw [swapL_get (by omega) (by omega)]
        by_cases e : k = q
        · rw [if_pos e, e]
        · rw [if_neg e, if_pos rfl]
      have e2 := downTo_fM (p := p) (n := n) (by omega) (k := k) (b := ent M q k ^ (p - 2) % p) hM1 hr.1 eM1 hn hkn (B := B) (n - (k + 1)) (by omega)
      rw [show k + 1 + (n - (k + 1)) = n by omega] at e2
      rw [hl]
      have hd2 := Nat.mod_lt ((if q = k then d else (0 + p - d) % p) * ent M q k) (y := p) (by omega)
      have f1 : ∀ i j, fM p (swapL M k q) i j = if i = q then fM p M k j else if i = k then fM p M q j else fM p M i j := by
        intro i j
        unfold fM ent
        rw [swapL_get (by omega) (by omega)]
        split
        · rfl
        · split <;> rfl
      have hdn : ∀ i j, i < n → i ≤ k → fM p (downTo p k n (ent M q k ^ (p - 2) % p) (M.getD q []) (swapL M k q)) i j = fM p (swapL M k q) i j := by
        intro i j hi hik
        unfold fM ent
        rw [downTo_get (by rw [hM1.1]; exact hi), if_neg (by omega)]
      have hup : ∀ i j, k < i → i < n → j < n → fM p (downTo p k n (ent M q k ^ (p - 2) % p) (M.getD q []) (swapL M k q)) i j = fM p (swapL M k q) i j - fz p (ent M q k ^ (p - 2) % p) * fM p (swapL M k q) i k * fM p M q j := by
        intro i j hki hi hj
        have e : (downTo p k n (ent M q k ^ (p - 2) % p) (M.getD q []) (swapL M k q)).getD i [] = addRw p ((swapL M k q).getD i []) (M.getD q []) ((0 + p - (ent M q k ^ (p - 2) % p) * ((swapL M k q).getD i []).getD k 0 % p) % p) := by
          rw [downTo_get (by rw [hM1.1]; exact hi), if_pos ⟨hki, hi⟩]
        have : fM p (downTo p k n (ent M q k ^ (p - 2) % p) (M.getD q []) (swapL M k q)) i j = fR p (addRw p ((swapL M k q).getD i []) (M.getD q []) ((0 + p - (ent M q k ^ (p - 2) % p) * ((swapL M k q).getD i []).getD k 0 % p) % p)) j := by
          exact congrArg (fun r => fz p (r.getD j 0)) e
        rw [this, addRw_fR (w := n) (hM1.get hi).1 hr.1 hj, fz_neg (Nat.le_of_lt (Nat.mod_lt _ (by omega))), fz_mul]
        show fM p (swapL M k q) i j + _ = _
        have : fz p (((swapL M k q).getD i []).getD k 0) = fM p (swapL M k q) i k := rfl
        rw [this]
        have : fR p (M.getD q []) j = fM p M q j := rfl
        rw [this]
        grind
      have hxk : fM p M q k = fz p (ent M q k) := rfl
      have hinv := fz_inv hp s3 hx
      have ih := detGo_dtm hp hn (B := B) t (k + 1) _ _ (by omega) hM2 hd2 fun i j hi hj hji => by
        rcases Nat.lt_or_ge k i with g | g
        · rw [hup i j g hi (by omega)]
          rcases Nat.lt_or_ge j k with g2 | g2
          · have z1 : fM p (swapL M k q) i j = 0 := by
              rw [f1]
              split
              · exact hz k j hkn g2 (by omega)
              · split
                · omega
                · exact hz i j hi g2 hji
            rw [z1, hz q j hqn g2 (by omega)]; grind
          · have : j = k := by omega
            subst this
            rw [hxk]; grind
        · rw [hdn i j hi g, f1]
          split
          · exact hz k j hkn (by omega) (by omega)
          · split
            · exact hz q j hqn (by omega) (by omega)
            · exact hz i j hi (by omega) hji
      rw [e2] at ih
      have hdg : ∀ i, i ≤ k → dgP (fM p (downTo p k n (ent M q k ^ (p - 2) % p) (M.getD q []) (swapL M k q))) i = dgP (fM p M) i := by
        intro i
        induction i with
        | zero => intro _; rfl
        | succ i ih' =>
          intro hi
          rw [dgP, dgP, ih' (by omega), hdn i i (by omega) (by omega), f1, if_neg (by omega), if_neg (by omega)]
      rw [dgP, hdg k (Nat.le_refl _), hdn k k hkn (Nat.le_refl _), fz_mul] at ih
      have hkk : fM p (swapL M k q) k k = fz p (ent M q k) := by
        rw [f1]
        split
        · rename_i e; rw [← hxk, ← e]
        · rw [if_pos rfl]; rfl
      rw [hkk] at ih
      by_cases hqk : q = k
      · rw [if_pos hqk] at ih
        have hs : dtm n (fM p (swapL M k q)) B = dtm n (fM p M) B := dtm_congr fun i j _ _ => by
          rw [f1, hqk]; split
          · rename_i e; rw [e]
          · rfl
        rw [hs] at ih
        rw [if_pos hqk]
        generalize fz p (detGo p t (k + 1) (downTo p k n (ent M q k ^ (p - 2) % p) (M.getD q []) (swapL M k q)) (d * ent M q k % p)) = X at *
        generalize fz p (ent M q k) = x at *
        generalize fz p (ent M q k ^ (p - 2) % p) = y at *
        generalize dtm n (fM p M) B = D at *
        generalize dgP (fM p M) k = G at *
        generalize dt n B = b at *
        generalize fz p d = dd at *
        have : y * (X * (G * x) * b) = y * (dd * x * D) := by rw [ih]
        grind
      · rw [if_neg hqk] at ih
        have hs : dtm n (fM p (swapL M k q)) B = - dtm n (fM p M) B := dtm_swap hn hkn hqn (fun e => hqk e.symm) (fun j _ => by rw [f1, if_neg (fun e => hqk e.symm), if_pos rfl]) (fun j _ => by rw [f1, if_pos rfl]) (fun r j _ _ a b => by rw [f1, if_neg b, if_neg a])
        rw [hs, fz_neg (Nat.le_of_lt hd)] at ih
        rw [if_neg hqk]
        generalize fz p (detGo p t (k + 1) (downTo p k n (ent M q k ^ (p - 2) % p) (M.getD q []) (swapL M k q)) ((0 + p - d) % p * ent M q k % p)) = X at *
        generalize fz p (ent M q k) = x at *
        generalize fz p (ent M q k ^ (p - 2) % p) = y at *
        generalize dtm n (fM p M) B = D at *
        generalize dgP (fM p M) k = G at *
        generalize dt n B = b at *
        generalize fz p d = dd at *
        have : y * (X * (G * x) * b) = y * (-dd * x * -D) := by rw [ih]
        grind
theorem detL_dtm (hp : Pr p) (hn : n ≤ 4) {M : List (List Nat)} (hM : MV p n n M) {B : Nat → Nat → Fin p} : fz p (detL p M) * dt n B = dtm n (fM p M) B := by
  have h := detGo_dtm hp hn (B := B) n 0 M 1 (by omega) hM hp.1 fun i j _ hj _ => by omega
  unfold detL
  rw [hM.1, fz_one, dgP] at *
  grind
theorem detL_dt (hp : Pr p) (hn : n ≤ 4) {M : List (List Nat)} (hM : MV p n n M) : fz p (detL p M) = dt n (fM p M) := by
  have h := detL_dtm hp hn hM (B := idM)
  rw [dt_one hn, dtm_one] at h
  rw [← h]; grind
end
end Go.Proofs.Ytpbomhmflllemaa

/- Determinants: expansion, products, transposes, exchanged rows, and the rank. -/
namespace Go.Proofs.Ytpbomhmflllemaa
theorem detGo_lt {p : Nat} (hp : 1 < p) : ∀ (t k : Nat) (M : List (List Nat)) (d : Nat), d < p → detGo p t k M d < p
  | 0, _, _, _, h => h
  | t + 1, k, M, d, h => by
    rw [detGo]
    split
    · omega
    · exact detGo_lt hp t _ _ _ (Nat.mod_lt _ (by omega))
theorem detL_lt {p : Nat} (hp : 1 < p) (M : List (List Nat)) : detL p M < p := detGo_lt hp _ _ _ _ hp
section
variable {p n : Nat} [NeZero p]
theorem cutL_get {k j : Nat} {r : List Nat} (hk : k < r.length) : (cutL k r).getD j 0 = r.getD (if j < k then j else j + 1) 0 := by
  unfold cutL
  by_cases h : j < k
  · rw [if_pos h, getD_appL (by rw [List.length_take]; omega)]
    simp [List.getD_eq_getElem?_getD, h]
  · rw [if_neg h, getD_appR (by rw [List.length_take]; omega), List.length_take, Nat.min_eq_left (by omega)]
    simp only [List.getD_eq_getElem?_getD, List.getElem?_drop]
    rw [show k + 1 + (j - k) = j + 1 by omega]
theorem minorL_fM {M : List (List Nat)} (hM : MV p (n + 1) (n + 1) M) {k i j : Nat} (hk : k < n + 1) (hi : i < n) : fM p (minorL M k) i j = mnr (fM p M) k i j := by
  unfold mnr fM ent
  rw [minorL_get (by rw [hM.1]; omega), cutL_get (by rw [(hM.get (by omega)).1]; exact hk)]
theorem lapTo_fz (hp : 1 < p) {f : Nat → Nat} {M : List (List Nat)} : ∀ m, fz p (lapTo p f M m) = sg (fun k => sgk k (fz p (f k) * fM p M 0 k)) m
  | 0 => fz_zero
  | m + 1 => by
    rw [lapTo, sg, fz_add, lapTo_fz hp m]
    congr 1
    unfold lapT sgk
    split
    · rw [fz_neg (Nat.le_of_lt (Nat.mod_lt _ (by omega))), fz_mul]; rfl
    · rw [fz_mul]; rfl
theorem lapL_dt (hp : 1 < p) : ∀ {n : Nat} {M : List (List Nat)}, MV p n n M → fz p (lapL p n M) = dt n (fM p M)
  | 0, _, _ => fz_one
  | n + 1, M, hM => by
    rw [lapL, lapTo_fz hp, dt]
    refine sg_congr fun k hk => ?_
    rw [lapL_dt hp (minorL_mv hM hk), dt_congr fun i j hi _ => minorL_fM hM hk hi]
theorem det_lap (hp : Pr p) (hn : n ≤ 4) {M : List (List Nat)} (hM : MV p n n M) : detL p M = lapL p n M :=
  fz_inj (detL_lt hp.1 M) (lapL_lt hp.1 n M) (by rw [detL_dt hp hn hM, lapL_dt hp.1 hM])
end
end Go.Proofs.Ytpbomhmflllemaa

/- Arguments of chapter 07's laws opened; what all of them know of a matrix made. -/
namespace Go.Proofs.Ytpbomhmflllemaa
open Go.ChangeShapes Go.WideShapes Go.ChangeAt Go.RowKit
def pOf (kp : Nat) : Nat := primesL.getD (kp % 15) 0
theorem pOf_pr (kp : Nat) : Pr (pOf kp) := prs _ (Nat.mod_lt _ (by decide))
theorem pOf_le (kp : Nat) : pOf kp ≤ 2147483647 := by
  have : ∀ j, j < 15 → primesL.getD j 0 ≤ 2147483647 := by decide
  exact this _ (Nat.mod_lt _ (by decide))
theorem prim_s (kp : Nat) : Spec Try.prog 73 [.sc (.int .u64 (pOf kp))] (.sc (.bool true)) := prime_s kp
theorem pr5 : Pr 5 := prs 2 (by decide)
end Go.Proofs.Ytpbomhmflllemaa

/- The reference: Mul, Square. -/
namespace Go.Proofs.Ytpbomhmflllemaa
open Go.RowKit
def mulL (p w : Nat) (A B : List (List Nat)) : List (List Nat) := A.map fun r => actL p w r B
theorem mulL_len {p w : Nat} {A B : List (List Nat)} : (mulL p w A B).length = A.length := by simp [mulL]
theorem mulL_get {p w i : Nat} {A B : List (List Nat)} (h : i < A.length) : (mulL p w A B).getD i [] = actL p w (A.getD i []) B := by
  unfold mulL; rw [List.getD_eq_getElem?_getD, List.getElem?_map, getD_get' (d := []) h]; rfl
theorem mulL_mv {p n m w : Nat} (hp : 0 < p) {A B : List (List Nat)} (hA : MV p n m A) (hB : MV p m w B) : MV p n w (mulL p w A B) := by
  have : NeZero p := ⟨by omega⟩
  refine ⟨mulL_len.trans hA.1, fun r hr => ?_⟩
  obtain ⟨x, hx, rfl⟩ := List.mem_map.1 hr
  exact (actL_post hB (hA.2 x hx).1).1
theorem mulL_snoc {p w i : Nat} {A B : List (List Nat)} (h : i < A.length) : imR w (nR ((mulL p w A B).take i)) ++ [V.im (nv (actL p w (A.getD i []) B)) w] = imR w (nR ((mulL p w A B).take (i + 1))) := by
  rw [← mulL_get h]
  exact imR_take (by rw [mulL_len]; exact h)
set_option maxRecDepth 4000 in
set_option maxHeartbeats 4000000 in
theorem rmul_s {p n m w : Nat} {A C : List (List Nat)} (hp : 0 < p) (hp2 : p ≤ 2147483648) (hA : MV p n m A) (hC : MV p m w C) (hn : n ≤ 1000000) (hm : m ≤ 1000000) (hw : w ≤ 1000000) :
    Spec Try.prog 34 [md p m A, md p w C] (md p w (mulL p w A C)) := by
  have hla := hA.1
  have hlb := hC.1
  have gl := imR_len m A
  have hlm := mulL_len (p := p) (w := w) (A := A) (B := C)
  have hmv := mulL_mv hp hA hC
  unfold md mv
  rw [hlm, hla, hlb]
  rw [hla] at hlm
  refine Spec.run Try.func34 rfl Try.ntmps34 (by simp) (by simp (disch := omega) only [go_sem, Nat.reduceAdd]; rfl) fun B hB => ?_
  (repeat (first | refine DO.nil (by kernel_rfl) ?_ | (with_reducible first | apply oz1 | apply oz2 | apply oz3 | apply oz4 | apply oz5 | apply oz6 | apply oz7 | apply oz8 | apply oz9 | apply ozb | apply ozc | apply oze | apply ozf | apply ozg | apply ozh | apply ozi | apply ozj | apply ozk | refine ozd (by decide) ?_) | ((first | apply SO.call | apply DO.call); (iterate 3 (focus (simp (disch := omega) only [go_sem, ↓reduceIte, Nat.reduceEqDiff, Nat.reduceLT, Nat.reduceLeDiff, Nat.reduceAdd, Nat.reduceMul, Nat.reduceSub, reduceCtorEq, Nat.reduceBEq, Int.reduceToNat, Int.reducePow, if_pos, if_neg] <;> rfl))); (first | apply SCall.ofX | apply DCall.ofX); (focus (first | assumption)); (focus (simp (disch := omega) only [go_sem, ↓reduceIte, Nat.reduceEqDiff, Nat.reduceLT, Nat.reduceLeDiff, Nat.reduceAdd, Nat.reduceMul, Nat.reduceSub, reduceCtorEq, Nat.reduceBEq, Int.reduceToNat, Int.reducePow, if_pos, if_neg] <;> rfl))) | ((with_reducible first | apply SC.condB | apply SC.region | apply SO.run | apply DO.run); (focus (simp (disch := omega) only [go_sem, ↓reduceIte, Nat.reduceEqDiff, Nat.reduceLeDiff, Nat.reduceAdd, reduceCtorEq] <;> rfl)); (first | refine pickT ?_ | refine pickF ?_ | fail_if_success with_reducible refine pickA ?_)) | ((with_reducible refine SC.draw Tab.mixed ?_ ?_); (focus (first | rfl | simp (disch := omega) only [go_sem, ↓reduceIte, Nat.reduceEqDiff, Nat.reduceLT, Nat.reduceLeDiff, Nat.reduceAdd, Nat.reduceMul, Nat.reduceSub, reduceCtorEq, Nat.reduceBEq, Int.reduceToNat, Int.reducePow, if_pos, if_neg]))) | (with_reducible apply SC.ops)))
  refine SC.loop (fun i : Nat => ⟨[(2, .pt 0 0), (3, .pt 1 0), (4, .pt 2 0), (5, .pt 3 0), (6, .sc (.int .i64 i))], [(3, ⟨29, [.sc (.int .u64 p), .sc (.int .i64 w), .sl 4 0 i 1 none], false⟩), (4, ⟨44, imR w (nR ((mulL p w A C).take i)), false⟩), (2, ⟨29, [.sc (.int .u64 0), .sc (.int .i64 0), .sc (.slice none 0 0)], false⟩), (1, ⟨29, [.sc (.int .u64 p), .sc (.int .i64 w), .im (imR w (nR C)) m], false⟩), (0, ⟨29, [.sc (.int .u64 p), .sc (.int .i64 m), .im (imR m (nR A)) n], false⟩)], 5, 32⟩)
    (fun i => i ≤ n) (fun i => n - i) 0 ?_ ?_ ?_
  · refine nilRow (pre := [.sc (.int .u64 p), .sc (.int .i64 w)]) 3 4 hB (by simp (disch := omega) only [go_sem, ↓reduceIte] <;> rfl) rfl (by omega) ?_ (by omega) ?_
    · exact ⟨⟨by omega, by omega, by omega, by simp, by simp (disch := omega) only [go_sem, ↓reduceIte, Nat.reduceEqDiff] <;> rfl, rfl⟩, ⟨by omega, by omega, by omega, by simp, by simp (disch := omega) only [go_sem, ↓reduceIte, Nat.reduceEqDiff] <;> rfl, rfl⟩, ⟨by omega, by omega, by omega, by simp, by simp (disch := omega) only [go_sem, ↓reduceIte, reduceCtorEq] <;> rfl, rfl⟩, trivial⟩
    · (repeat' (first | exact trivial | refine mapSl_cons (by simp (disch := omega) only [go_sem, ↓reduceIte, Nat.reduceEqDiff] <;> rfl) ?_ ?_ | exact VMap.junk _ | exact VMap.sc _ | exact VMap.clo rfl | exact VMap.sl rfl (by omega) | exact VMap.cap rfl (by omega) | exact VMap.pt rfl (by omega) | exact VMap.nil_sl _ _ _ | exact VMap.int (by first | rfl | omega | (dsimp only; omega))))
  · exact Nat.zero_le _
  · intro i hi K hK
    by_cases hc : i < n
    · have q1 := decide_eq_true (p := (i : Int) < (n : Int)) (by omega)
      have g1 := imR_get (w := m) (M := A) (i := i) (by omega)
      have hr := hA.get hc
      have c1 := ract_s hp hp2 hC hr hm hw
      have g4 := mulL_snoc (p := p) (w := w) (A := A) (B := C) (i := i) (by omega)
      have g5 := imR_len w ((mulL p w A C).take i)
      rw [List.length_take, hlm, Nat.min_eq_left hi] at g5
      have g6 : (imR w (nR ((mulL p w A C).take i))).take i = imR w (nR ((mulL p w A C).take i)) := List.take_of_length_le (by omega)
      unfold md mv at c1
      rw [hlb] at c1
      generalize actL p w (A.getD i []) C = o at *
      generalize A.getD i [] = r at *
      (repeat (first | refine DO.nil (by kernel_rfl) ?_ | (with_reducible first | apply oz1 | apply oz2 | apply oz3 | apply oz4 | apply oz5 | apply oz6 | apply oz7 | apply oz8 | apply oz9 | apply ozb | apply ozc | apply oze | apply ozf | apply ozg | apply ozh | apply ozi | apply ozj | apply ozk | refine ozd (by decide) ?_) | ((first | apply SO.call | apply DO.call); (iterate 3 (focus (simp (disch := omega) only [go_sem, ↓reduceIte, Nat.reduceEqDiff] <;> rfl))); (first | apply SCall.ofX | apply DCall.ofX); (focus (first | assumption)); (focus (simp (disch := omega) only [go_sem] <;> rfl))) | ((with_reducible first | apply SC.condB | apply SC.region | apply SO.run | apply DO.run); (focus (simp (disch := omega) only [go_sem, ↓reduceIte, Nat.reduceEqDiff, Nat.reduceLeDiff, Nat.reduceAdd, reduceCtorEq, if_pos, q1, gl, hla, g1, g5, g6, List.getElem?_drop] <;> rfl)); (first | refine pickT ?_ | refine pickF ?_ | fail_if_success with_reducible refine pickA ?_)) | ((with_reducible refine SC.draw Tab.mixed ?_ ?_); (focus (first | rfl | simp (disch := omega) only [go_sem, ↓reduceIte, Nat.reduceEqDiff, Nat.reduceLT, Nat.reduceLeDiff, Nat.reduceAdd, Nat.reduceMul, Nat.reduceSub, reduceCtorEq, Nat.reduceBEq, Int.reduceToNat, Int.reducePow, if_pos, if_neg, q1, gl, hla, g1, g5, g6, List.getElem?_drop]))) | (with_reducible apply SC.ops)))
      refine hK _ (i + 1) ?_ (by omega) (by omega)
      rw [← g4]
      refine appRow (pre := [.sc (.int .u64 p), .sc (.int .i64 w)]) (y := .im (nv o) w) (ids := []) 3 4 6 hB (by simp (disch := omega) only [go_sem, ↓reduceIte, Nat.reduceEqDiff] <;> rfl) (by simp (disch := omega) only [go_sem, ↓reduceIte] <;> rfl) (by simp (disch := omega) only [go_sem] <;> rfl) rfl (imR_clo _ _) rfl (by omega) (by omega) (by simp) (by simp) ?_ (by omega) ?_
      · exact ⟨⟨by omega, by omega, by omega, by simp, by simp (disch := omega) only [go_sem, ↓reduceIte, Nat.reduceEqDiff] <;> rfl, rfl⟩, ⟨by omega, by omega, by omega, by simp, by simp (disch := omega) only [go_sem, ↓reduceIte, Nat.reduceEqDiff] <;> rfl, rfl⟩, ⟨by omega, by omega, by omega, by simp, by simp (disch := omega) only [go_sem, ↓reduceIte, reduceCtorEq] <;> rfl, rfl⟩, trivial⟩
      · (repeat' (first | exact trivial | refine mapSl_cons (by simp (disch := omega) only [go_sem, ↓reduceIte, Nat.reduceEqDiff] <;> rfl) ?_ ?_ | exact VMap.junk _ | exact VMap.sc _ | exact VMap.clo rfl | exact VMap.sl rfl (by omega) | exact VMap.cap rfl (by omega) | exact VMap.pt rfl (by omega) | exact VMap.nil_sl _ _ _ | exact VMap.int (by first | rfl | omega | (dsimp only; omega))))
    · have q1 := decide_eq_false (p := (i : Int) < (n : Int)) (by omega)
      have hin : i = n := by omega
      rw [hin] at q1 ⊢
      rw [List.take_of_length_le (by omega)]
      have g5 := imR_len w (mulL p w A C)
      have u3 := imR_clo w (nR (mulL p w A C))
      have u4 : (imR w (nR (mulL p w A C))).take n = imR w (nR (mulL p w A C)) := List.take_of_length_le (by omega)
      (repeat (first | refine DO.nil (by kernel_rfl) ?_ | (with_reducible first | apply oz1 | apply oz2 | apply oz3 | apply oz4 | apply oz5 | apply oz6 | apply oz7 | apply oz8 | apply oz9 | apply ozb | apply ozc | apply oze | apply ozf | apply ozg | apply ozh | apply ozi | apply ozj | apply ozk | refine ozd (by decide) ?_) | ((first | apply SO.call | apply DO.call); (iterate 3 (focus (simp (disch := omega) only [go_sem, ↓reduceIte, Nat.reduceEqDiff, Nat.reduceLT, Nat.reduceLeDiff, Nat.reduceAdd, Nat.reduceMul, Nat.reduceSub, reduceCtorEq, Nat.reduceBEq, Int.reduceToNat, Int.reducePow, if_pos, if_neg, q1] <;> rfl))); (first | apply SCall.ofX | apply DCall.ofX); (focus (first | assumption)); (focus (simp (disch := omega) only [go_sem, ↓reduceIte, Nat.reduceEqDiff, Nat.reduceLT, Nat.reduceLeDiff, Nat.reduceAdd, Nat.reduceMul, Nat.reduceSub, reduceCtorEq, Nat.reduceBEq, Int.reduceToNat, Int.reducePow, if_pos, if_neg, q1] <;> rfl))) | ((with_reducible first | apply SC.condB | apply SC.region | apply SO.run | apply DO.run); (focus (simp (disch := omega) only [go_sem, ↓reduceIte, Nat.reduceEqDiff, Nat.reduceLT, Nat.reduceLeDiff, Nat.reduceAdd, reduceCtorEq, q1] <;> rfl)); (first | refine pickT ?_ | refine pickF ?_ | fail_if_success with_reducible refine pickA ?_)) | ((with_reducible refine SC.draw Tab.mixed ?_ ?_); (focus (first | rfl | simp (disch := omega) only [go_sem, ↓reduceIte, Nat.reduceEqDiff, Nat.reduceLT, Nat.reduceLeDiff, Nat.reduceAdd, Nat.reduceMul, Nat.reduceSub, reduceCtorEq, Nat.reduceBEq, Int.reduceToNat, Int.reducePow, if_pos, if_neg, q1]))) | (with_reducible apply SC.ops)))
      exact retQ_ret Try.results34 (by simp (disch := omega) only [go_sem, ↓reduceIte, Nat.reduceEqDiff, Nat.reduceLeDiff, Nat.reduceAdd] <;> rfl) (by simp (disch := omega) only [go_sem, ↓reduceIte, Nat.reduceEqDiff, if_pos, u3, u4, g5, hlm] <;> rfl) rfl
end Go.Proofs.Ytpbomhmflllemaa
