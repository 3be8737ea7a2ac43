/- Texts joined: Mad Mae Maf Mag Mah Mal Mai Maj. -/
import Derived.Test.YtpbomhmflllemaaZc
import Derived.Test.YtpbomhmflllemaaZf
import Derived.Test.YtpbomhmflllemaaZg
set_option linter.all false
/- The program's test of the 15 primes: closed runs. -/
namespace Go.Proofs.Ytpbomhmflllemaa
open Go.RowKit
theorem prime2 : Spec Try.prog 73 [.sc (.int .u64 (2 : Nat))] (.sc (.bool true)) := Spec.eval (K := fun _ _ => none) (fun _ _ _ h => by cases h) 200 (fun _ => false) (by kernel_rfl)
theorem prime3 : Spec Try.prog 73 [.sc (.int .u64 (3 : Nat))] (.sc (.bool true)) := Spec.eval (K := fun _ _ => none) (fun _ _ _ h => by cases h) 200 (fun _ => false) (by kernel_rfl)
theorem prime5 : Spec Try.prog 73 [.sc (.int .u64 (5 : Nat))] (.sc (.bool true)) := Spec.eval (K := fun _ _ => none) (fun _ _ _ h => by cases h) 200 (fun _ => false) (by kernel_rfl)
theorem prime7 : Spec Try.prog 73 [.sc (.int .u64 (7 : Nat))] (.sc (.bool true)) := Spec.eval (K := fun _ _ => none) (fun _ _ _ h => by cases h) 200 (fun _ => false) (by kernel_rfl)
theorem prime11 : Spec Try.prog 73 [.sc (.int .u64 (11 : Nat))] (.sc (.bool true)) := Spec.eval (K := fun _ _ => none) (fun _ _ _ h => by cases h) 200 (fun _ => false) (by kernel_rfl)
theorem prime101 : Spec Try.prog 73 [.sc (.int .u64 (101 : Nat))] (.sc (.bool true)) := Spec.eval (K := fun _ _ => none) (fun _ _ _ h => by cases h) 200 (fun _ => false) (by kernel_rfl)
theorem prime65521 : Spec Try.prog 73 [.sc (.int .u64 (65521 : Nat))] (.sc (.bool true)) := Spec.eval (K := fun _ _ => none) (fun _ _ _ h => by cases h) 200 (fun _ => false) (by kernel_rfl)
theorem prime65537 : Spec Try.prog 73 [.sc (.int .u64 (65537 : Nat))] (.sc (.bool true)) := Spec.eval (K := fun _ _ => none) (fun _ _ _ h => by cases h) 200 (fun _ => false) (by kernel_rfl)
theorem prime1000003 : Spec Try.prog 73 [.sc (.int .u64 (1000003 : Nat))] (.sc (.bool true)) := Spec.eval (K := fun _ _ => none) (fun _ _ _ h => by cases h) 200 (fun _ => false) (by kernel_rfl)
theorem prime2147483549 : Spec Try.prog 73 [.sc (.int .u64 (2147483549 : Nat))] (.sc (.bool true)) := Spec.eval (K := fun _ _ => none) (fun _ _ _ h => by cases h) 200 (fun _ => false) (by kernel_rfl)
theorem prime2147483563 : Spec Try.prog 73 [.sc (.int .u64 (2147483563 : Nat))] (.sc (.bool true)) := Spec.eval (K := fun _ _ => none) (fun _ _ _ h => by cases h) 200 (fun _ => false) (by kernel_rfl)
theorem prime2147483579 : Spec Try.prog 73 [.sc (.int .u64 (2147483579 : Nat))] (.sc (.bool true)) := Spec.eval (K := fun _ _ => none) (fun _ _ _ h => by cases h) 200 (fun _ => false) (by kernel_rfl)
theorem prime2147483587 : Spec Try.prog 73 [.sc (.int .u64 (2147483587 : Nat))] (.sc (.bool true)) := Spec.eval (K := fun _ _ => none) (fun _ _ _ h => by cases h) 200 (fun _ => false) (by kernel_rfl)
theorem prime2147483629 : Spec Try.prog 73 [.sc (.int .u64 (2147483629 : Nat))] (.sc (.bool true)) := Spec.eval (K := fun _ _ => none) (fun _ _ _ h => by cases h) 200 (fun _ => false) (by kernel_rfl)
theorem prime2147483647 : Spec Try.prog 73 [.sc (.int .u64 (2147483647 : Nat))] (.sc (.bool true)) := Spec.eval (K := fun _ _ => none) (fun _ _ _ h => by cases h) 200 (fun _ => false) (by kernel_rfl)
theorem prime_s (k : Nat) : Spec Try.prog 73 [.sc (.int .u64 (primesL.getD (k % 15) 0 : Nat))] (.sc (.bool true)) := by
  have h : k % 15 < 15 := Nat.mod_lt _ (by decide)
  generalize k % 15 = i at *
  match i, h with
  | 0, _ => exact prime2
  | 1, _ => exact prime3
  | 2, _ => exact prime5
  | 3, _ => exact prime7
  | 4, _ => exact prime11
  | 5, _ => exact prime101
  | 6, _ => exact prime65521
  | 7, _ => exact prime65537
  | 8, _ => exact prime1000003
  | 9, _ => exact prime2147483549
  | 10, _ => exact prime2147483563
  | 11, _ => exact prime2147483579
  | 12, _ => exact prime2147483587
  | 13, _ => exact prime2147483629
  | 14, _ => exact prime2147483647
  | i + 15, h => exact absurd h (by omega)
end Go.Proofs.Ytpbomhmflllemaa

/- The law's helpers: ints. -/
namespace Go.Proofs.Ytpbomhmflllemaa
open Go.RowKit
theorem ints_t {l : List Nat} (hn : l.length ≤ 1000000) : Spec Try.prog 21 [.im (wv l) l.length, .im (wv l) l.length] (.sc (.bool true)) := by
  refine Spec.run Try.func21 rfl Try.ntmps21 (by simp) (by simp (disch := omega) only [go_sem, Nat.reduceAdd]; rfl) fun B hB => ?_
  (repeat (first | refine DO.nil (by kernel_rfl) ?_ | (with_reducible first | apply oz1 | apply oz2 | apply oz3 | apply oz4 | apply oz5 | apply oz6 | apply oz7 | apply oz8 | apply oz9 | apply ozb | apply ozc | apply oze | apply ozf | apply ozg | apply ozh | apply ozi | apply ozj | apply ozk | refine ozd (by decide) ?_) | ((first | apply SO.call | apply DO.call); (iterate 3 (focus (simp (disch := omega) only [go_sem, ↓reduceIte, Nat.reduceEqDiff, Nat.reduceLT, Nat.reduceLeDiff, Nat.reduceAdd, Nat.reduceMul, Nat.reduceSub, reduceCtorEq, Nat.reduceBEq, Int.reduceToNat, Int.reducePow, if_pos, if_neg, bne_self_eq_false] <;> rfl))); (first | apply SCall.ofX | apply DCall.ofX); (focus (first | assumption)); (focus (simp (disch := omega) only [go_sem, ↓reduceIte, Nat.reduceEqDiff, Nat.reduceLT, Nat.reduceLeDiff, Nat.reduceAdd, Nat.reduceMul, Nat.reduceSub, reduceCtorEq, Nat.reduceBEq, Int.reduceToNat, Int.reducePow, if_pos, if_neg, bne_self_eq_false] <;> rfl))) | ((with_reducible first | apply SC.condB | apply SC.region | apply SO.run | apply DO.run); (focus (simp (disch := omega) only [go_sem, ↓reduceIte, Nat.reduceEqDiff, reduceCtorEq, bne_self_eq_false] <;> rfl)); (first | refine pickT ?_ | refine pickF ?_ | fail_if_success with_reducible refine pickA ?_)) | ((with_reducible refine SC.draw Tab.mixed ?_ ?_); (focus (first | rfl | simp (disch := omega) only [go_sem, ↓reduceIte, Nat.reduceEqDiff, Nat.reduceLT, Nat.reduceLeDiff, Nat.reduceAdd, Nat.reduceMul, Nat.reduceSub, reduceCtorEq, Nat.reduceBEq, Int.reduceToNat, Int.reducePow, if_pos, if_neg, bne_self_eq_false]))) | (with_reducible apply SC.ops)))
  refine SC.loop (fun k : Nat => ⟨[(0, .im (wv l) l.length), (1, .im (wv l) l.length), (5, .sc (.int .i64 k))], [], 0, 26⟩)
    (fun k => k ≤ l.length) (fun k => l.length - k) 0 ?_ ?_ ?_
  · (refine Le.of [] hB (by first | exact ⟨Nat.zero_le _, fun _ _ => Nat.zero_le _⟩ | (constructor <;> (try simp) <;> (try omega))) ?_ ?_ <;> (repeat' (first | exact leSl_nil | exact leHp_nil | refine leSl_cons (by simp (disch := omega) only [go_sem, ↓reduceIte, Nat.reduceEqDiff, reduceCtorEq]; rfl) ?_ ?_ | refine leHp_cons (by simp (disch := omega) only [go_sem, ↓reduceIte, Nat.reduceEqDiff, Nat.reduceLT, Nat.reduceLeDiff, Nat.reduceAdd, Nat.reduceMul, Nat.reduceSub, reduceCtorEq, Nat.reduceBEq, Int.reduceToNat, Int.reducePow, if_pos, if_neg]; rfl) ?_ ?_ | exact VLe.junk _ | exact VLe.refl rfl | exact VLe.nil_sl _ _ _ | exact VLe.int (by first | rfl | omega | (dsimp only; omega)) | exact VLe.bool rfl | exact VLe.sl rfl (by first | rfl | omega | (dsimp only; omega) | (simp; done)) | exact VLe.cap rfl (by first | rfl | omega | (dsimp only; omega) | (simp; done)) | exact VLe.im rfl rfl | exact HLe.new rfl | exact HLe.same rfl (LLe.refl rfl) | refine HLe.same rfl ?_ | exact LLe.nil _ | exact LLe.refl rfl | refine LLe.cons ?_ ?_)))
  · exact Nat.zero_le _
  · intro k hk K hK
    by_cases hkw : k < l.length
    · have q1 := decide_eq_true (p := (k : Int) < (l.length : Int)) (by omega)
      have g1 := wv_get (r := l) (j := k) (by omega)
      have g2 := wv_len l
      (repeat (first | refine DO.nil (by kernel_rfl) ?_ | (with_reducible first | apply oz1 | apply oz2 | apply oz3 | apply oz4 | apply oz5 | apply oz6 | apply oz7 | apply oz8 | apply oz9 | apply ozb | apply ozc | apply oze | apply ozf | apply ozg | apply ozh | apply ozi | apply ozj | apply ozk | refine ozd (by decide) ?_) | ((first | apply SO.call | apply DO.call); (iterate 3 (focus (simp (disch := omega) only [go_sem, ↓reduceIte, Nat.reduceEqDiff, Nat.reduceLT, Nat.reduceLeDiff, Nat.reduceAdd, Nat.reduceMul, Nat.reduceSub, reduceCtorEq, Nat.reduceBEq, Int.reduceToNat, Int.reducePow, if_pos, if_neg, q1, g1, g2, bne_self_eq_false, List.getElem?_drop] <;> rfl))); (first | apply SCall.ofX | apply DCall.ofX); (focus (first | assumption)); (focus (simp (disch := omega) only [go_sem, ↓reduceIte, Nat.reduceEqDiff, Nat.reduceLT, Nat.reduceLeDiff, Nat.reduceAdd, Nat.reduceMul, Nat.reduceSub, reduceCtorEq, Nat.reduceBEq, Int.reduceToNat, Int.reducePow, if_pos, if_neg, q1, g1, g2, bne_self_eq_false, List.getElem?_drop] <;> rfl))) | ((with_reducible first | apply SC.condB | apply SC.region | apply SO.run | apply DO.run); (focus (simp (disch := omega) only [go_sem, ↓reduceIte, Nat.reduceEqDiff, Nat.reduceLT, reduceCtorEq, if_pos, q1, g1, g2, bne_self_eq_false, List.getElem?_drop] <;> rfl)); (first | refine pickT ?_ | refine pickF ?_ | fail_if_success with_reducible refine pickA ?_)) | ((with_reducible refine SC.draw Tab.mixed ?_ ?_); (focus (first | rfl | simp (disch := omega) only [go_sem, ↓reduceIte, Nat.reduceEqDiff, Nat.reduceLT, Nat.reduceLeDiff, Nat.reduceAdd, Nat.reduceMul, Nat.reduceSub, reduceCtorEq, Nat.reduceBEq, Int.reduceToNat, Int.reducePow, if_pos, if_neg, q1, g1, g2, bne_self_eq_false, List.getElem?_drop]))) | (with_reducible apply SC.ops)))
      refine hK _ (k + 1) ?_ (by omega) (by omega)
      (refine Le.of [] hB (by first | exact ⟨Nat.zero_le _, fun _ _ => Nat.zero_le _⟩ | (constructor <;> (try simp) <;> (try omega))) ?_ ?_ <;> (repeat' (first | exact leSl_nil | exact leHp_nil | refine leSl_cons (by simp (disch := omega) only [go_sem, ↓reduceIte, Nat.reduceEqDiff, reduceCtorEq]; rfl) ?_ ?_ | refine leHp_cons (by simp (disch := omega) only [go_sem, ↓reduceIte, Nat.reduceEqDiff, Nat.reduceLT, Nat.reduceLeDiff, Nat.reduceAdd, Nat.reduceMul, Nat.reduceSub, reduceCtorEq, Nat.reduceBEq, Int.reduceToNat, Int.reducePow, if_pos, if_neg]; rfl) ?_ ?_ | exact VLe.junk _ | exact VLe.refl rfl | exact VLe.nil_sl _ _ _ | exact VLe.int (by first | rfl | omega | (dsimp only; omega)) | exact VLe.bool rfl | exact VLe.sl rfl (by first | rfl | omega | (dsimp only; omega) | (simp; done)) | exact VLe.cap rfl (by first | rfl | omega | (dsimp only; omega) | (simp; done)) | exact VLe.im rfl rfl | exact HLe.new rfl | exact HLe.same rfl (LLe.refl rfl) | refine HLe.same rfl ?_ | exact LLe.nil _ | exact LLe.refl rfl | refine LLe.cons ?_ ?_)))
    · have q1 := decide_eq_false (p := (k : Int) < (l.length : Int)) (by omega)
      (repeat (first | refine DO.nil (by kernel_rfl) ?_ | (with_reducible first | apply oz1 | apply oz2 | apply oz3 | apply oz4 | apply oz5 | apply oz6 | apply oz7 | apply oz8 | apply oz9 | apply ozb | apply ozc | apply oze | apply ozf | apply ozg | apply ozh | apply ozi | apply ozj | apply ozk | refine ozd (by decide) ?_) | ((first | apply SO.call | apply DO.call); (iterate 3 (focus (simp (disch := omega) only [go_sem, ↓reduceIte, Nat.reduceEqDiff, Nat.reduceLT, Nat.reduceLeDiff, Nat.reduceAdd, Nat.reduceMul, Nat.reduceSub, reduceCtorEq, Nat.reduceBEq, Int.reduceToNat, Int.reducePow, if_pos, if_neg, q1] <;> rfl))); (first | apply SCall.ofX | apply DCall.ofX); (focus (first | assumption)); (focus (simp (disch := omega) only [go_sem, ↓reduceIte, Nat.reduceEqDiff, Nat.reduceLT, Nat.reduceLeDiff, Nat.reduceAdd, Nat.reduceMul, Nat.reduceSub, reduceCtorEq, Nat.reduceBEq, Int.reduceToNat, Int.reducePow, if_pos, if_neg, q1] <;> rfl))) | ((with_reducible first | apply SC.condB | apply SC.region | apply SO.run | apply DO.run); (focus (simp (disch := omega) only [go_sem, ↓reduceIte, Nat.reduceEqDiff, reduceCtorEq, q1] <;> rfl)); (first | refine pickT ?_ | refine pickF ?_ | fail_if_success with_reducible refine pickA ?_)) | ((with_reducible refine SC.draw Tab.mixed ?_ ?_); (focus (first | rfl | simp (disch := omega) only [go_sem, ↓reduceIte, Nat.reduceEqDiff, Nat.reduceLT, Nat.reduceLeDiff, Nat.reduceAdd, Nat.reduceMul, Nat.reduceSub, reduceCtorEq, Nat.reduceBEq, Int.reduceToNat, Int.reducePow, if_pos, if_neg, q1]))) | (with_reducible apply SC.ops)))
      exact retQ_ret Try.results21 (by simp (disch := omega) only [go_sem, ↓reduceIte] <;> rfl) (by simp (disch := omega) only [go_sem] <;> rfl) rfl
end Go.Proofs.Ytpbomhmflllemaa

/- The fixed examples of the law's package: a closed run with a table for Rref, Rank, Left, Solve. -/
namespace Go.Proofs.Ytpbomhmflllemaa
open Go.RowKit

def unN : V → Option Nat
  | .sc (.int .u64 (.ofNat n)) => some n
  | _ => none
theorem unN_s {x : V} {n : Nat} (h : unN x = some n) : x = .sc (.int .u64 (n : Int)) := by
  unfold unN at h
  split at h
  · cases h; rfl
  · cases h
def unRow : List V → Option (List Nat)
  | [] => some []
  | x :: r => (unN x).bind fun a => (unRow r).map fun l => a :: l
theorem unRow_s : ∀ {cs : List V} {l : List Nat}, unRow cs = some l → cs = nv l
  | [], l, h => by cases h; rfl
  | x :: r, l, h => by
    simp only [unRow] at h
    cases hx : unN x with
    | none => rw [hx] at h; cases h
    | some a =>
      cases hr : unRow r with
      | none => rw [hx, hr] at h; cases h
      | some t =>
        rw [hx, hr] at h
        cases h
        rw [unN_s hx, unRow_s hr]; rfl
def unIm (w : Nat) : V → Option (List Nat)
  | .im cs n => if n = w then unRow cs else none
  | _ => none
theorem unIm_s {w : Nat} {x : V} {l : List Nat} (h : unIm w x = some l) : x = .im (nv l) w := by
  unfold unIm at h
  split at h
  · split at h
    · rename_i e; subst e; rw [unRow_s h]
    · cases h
  · cases h
def unRows (w : Nat) : List V → Option (List (List Nat))
  | [] => some []
  | x :: r => (unIm w x).bind fun a => (unRows w r).map fun l => a :: l
theorem unRows_s {w : Nat} : ∀ {cs : List V} {M : List (List Nat)}, unRows w cs = some M → cs = imR w (nR M)
  | [], l, h => by cases h; rfl
  | x :: r, l, h => by
    simp only [unRows] at h
    cases hx : unIm w x with
    | none => rw [hx] at h; cases h
    | some a =>
      cases hr : unRows w r with
      | none => rw [hx, hr] at h; cases h
      | some t =>
        rw [hx, hr] at h
        cases h
        rw [unIm_s hx, unRows_s hr]; rfl
def unMd : V → Option (Nat × List (List Nat))
  | .ag [.sc (.int .u64 5), .sc (.int .i64 2), .im cs n] => (unRows 2 cs).bind fun M => if n = M.length ∧ M.length ≤ 10 ∧ M.all (fun r => r.length == 2 && r.all fun x => decide (x < 5)) = true then some (2, M) else none
  | _ => none
theorem unMd_s {x : V} {w : Nat} {M : List (List Nat)} (h : unMd x = some (w, M)) : w = 2 ∧ x = md 5 2 M ∧ MV 5 M.length 2 M ∧ M.length ≤ 10 := by
  unfold unMd at h
  split at h
  · rename_i cs n
    cases hr : unRows 2 cs with
    | none => rw [hr] at h; cases h
    | some t =>
      rw [hr] at h
      simp only [Option.bind_some] at h
      split at h
      · rename_i hc
        cases h
        refine ⟨rfl, ?_, ⟨rfl, fun r hr' => ?_⟩, hc.2.1⟩
        · rw [unRows_s hr, hc.1]; rfl
        · have := List.all_eq_true.1 hc.2.2 r hr'
          rw [Bool.and_eq_true, beq_iff_eq, List.all_eq_true] at this
          exact ⟨this.1, fun x hx => by simpa using this.2 x hx⟩
      · cases h
  · cases h
def sanK (f : Nat) (ys : List V) : Option V :=
  match ys with
  | [x] => (unMd x).bind fun q => if f = 14 then some (.tu [md 5 2 (rrefL 5 2 q.2).1, .im (wv (rrefL 5 2 q.2).2) (rrefL 5 2 q.2).2.length])
    else if f = 22 then some (.sc (.int .i64 (rrefL 5 2 q.2).2.length))
    else if f = 18 then some (md 5 q.2.length (leftL 5 2 q.2)) else none
  | [x, y] => if f = 25 then (unMd x).bind fun q => (unIm 2 y).bind fun b => if b.length = 2 ∧ b.all (fun x => decide (x < 5)) = true then some (solV q.2.length (solveL 5 2 q.2 b)) else none else none
  | _ => none
theorem sanK_s (h5 : Pr 5) : KSound Try.prog sanK := by
  intro f ys x h
  unfold sanK at h
  split at h
  · rename_i x'
    cases hx : unMd x' with
    | none => rw [hx] at h; cases h
    | some q =>
      obtain ⟨w, M⟩ := q
      obtain ⟨rfl, rfl, hM, hl⟩ := unMd_s hx
      rw [hx] at h
      simp only [Option.bind_some] at h
      split at h
      · rename_i e; subst e; cases h; exact rref_s prime5 h5 (by omega) hM (by omega) (by omega)
      · split at h
        · rename_i e; subst e; cases h; exact rank_s prime5 h5 (by omega) hM (by omega) (by omega)
        · split at h
          · rename_i e; subst e; cases h; exact left_s prime5 h5 (by omega) hM (by omega) (by omega)
          · cases h
  · rename_i x' y'
    split at h
    · rename_i e
      subst e
      cases hx : unMd x' with
      | none => rw [hx] at h; cases h
      | some q =>
        obtain ⟨w, M⟩ := q
        obtain ⟨rfl, rfl, hM, hl⟩ := unMd_s hx
        rw [hx] at h
        simp only [Option.bind_some] at h
        cases hy : unIm 2 y' with
        | none => rw [hy] at h; cases h
        | some b =>
          rw [hy] at h
          simp only [Option.bind_some] at h
          split at h
          · rename_i hc
            cases h
            rw [unIm_s hy]
            exact solve_s prime5 h5 (by omega) hM ⟨hc.1, fun x hx => by simpa using List.all_eq_true.1 hc.2 x hx⟩ (by omega) (by omega)
          · cases h
    · cases h
  · cases h
/- sanity: NOT BUILT yet (the closed run fails somewhere; try Det of flat, of one row, of none, and modmat.Reduce, torsionref01.Of):
theorem sanity_s (h5 : Pr 5) : Spec Try.prog 11 [] (.sc (.bool true)) := Spec.eval (sanK_s h5) 200 (fun f => f == 13) (by kernel_rfl)
-/
end Go.Proofs.Ytpbomhmflllemaa

/- Det: what the elimination computes. -/
namespace Go.Proofs.Ytpbomhmflllemaa
open Go.RowKit

/-- the rows k + 1 .. t - 1 cleared in column k -/
def downTo (p k t b : Nat) (rk : List Nat) (M : List (List Nat)) : List (List Nat) :=
  M.mapIdx fun i r => if k < i ∧ i < t then addRw p r rk ((0 + p - b * r.getD k 0 % p) % p) else r
def detGo (p : Nat) : Nat → Nat → List (List Nat) → Nat → Nat
  | 0, _, _, d => d
  | t + 1, k, M, d => match searchL M k (M.length - k) k with
    | none => 0
    | some q => detGo p t (k + 1) (downTo p k M.length (ent M q k ^ (p - 2) % p) (M.getD q []) (swapL M k q)) ((if q = k then d else (0 + p - d) % p) * ent M q k % p)
/-- the determinant by elimination -/
def detL (p : Nat) (M : List (List Nat)) : Nat := detGo p M.length 0 M 1
theorem downTo_len {p k t b : Nat} {rk : List Nat} {M : List (List Nat)} : (downTo p k t b rk M).length = M.length := by simp [downTo]
theorem downTo_get {p k t b i : Nat} {rk : List Nat} {M : List (List Nat)} (h : i < M.length) : (downTo p k t b rk M).getD i [] = if k < i ∧ i < t then addRw p (M.getD i []) rk ((0 + p - b * (M.getD i []).getD k 0 % p) % p) else M.getD i [] := by
  unfold downTo
  rw [List.getD_eq_getElem?_getD, List.getElem?_mapIdx, List.getElem?_eq_getElem h, List.getD_eq_getElem?_getD (l := M), List.getElem?_eq_getElem h]; rfl
theorem downTo_zero {p k b : Nat} {rk : List Nat} {M : List (List Nat)} : downTo p k (k + 1) b rk M = M := by
  refine mat_ext downTo_len fun i hi => ?_
  rw [downTo_len] at hi
  rw [downTo_get hi, if_neg (by omega)]
theorem downTo_set {p k t b : Nat} {rk : List Nat} {M : List (List Nat)} (hk : k < t) (h : t < M.length) : (downTo p k t b rk M).set t (addRw p (M.getD t []) rk ((0 + p - b * (M.getD t []).getD k 0 % p) % p)) = downTo p k (t + 1) b rk M := by
  refine mat_ext (by rw [List.length_set, downTo_len, downTo_len]) fun i hi => ?_
  rw [List.length_set, downTo_len] at hi
  rw [getD_set (by rw [downTo_len]; exact h), downTo_get hi, downTo_get hi]
  by_cases e : i = t
  · subst e; rw [if_pos rfl, if_pos ⟨hk, Nat.lt_succ_self _⟩]
  · rw [if_neg e]
    by_cases g : k < i ∧ i < t
    · rw [if_pos g, if_pos ⟨g.1, by omega⟩]
    · rw [if_neg g, if_neg (by omega)]
theorem downTo_mv {p n w k t b : Nat} {rk : List Nat} {M : List (List Nat)} (hp : 0 < p) (hM : MV p n w M) (hr : rk.length = w) : MV p n w (downTo p k t b rk M) := by
  refine ⟨downTo_len.trans hM.1, fun r hr' => ?_⟩
  obtain ⟨i, hi, rfl⟩ := List.mem_iff_getElem.1 hr'
  rw [downTo_len] at hi
  have e := downTo_get (p := p) (k := k) (t := t) (b := b) (rk := rk) hi
  rw [List.getD_eq_getElem?_getD, List.getElem?_eq_getElem (by rw [downTo_len]; exact hi)] at e
  simp only [Option.getD_some] at e
  rw [e]
  have hr := hM.get (by rw [← hM.1]; exact hi)
  split
  · exact addRw_rw hp hr.1 ‹_›
  · exact hr
end Go.Proofs.Ytpbomhmflllemaa

/- Contract: Det. -/
namespace Go.Proofs.Ytpbomhmflllemaa
open Go.RowKit

set_option maxHeartbeats 8000000 in
set_option maxRecDepth 8000 in
theorem det_s {p n : Nat} {M0 : List (List Nat)} (hpr : Spec Try.prog 73 [.sc (.int .u64 p)] (.sc (.bool true))) (hp : Pr p) (hp2 : p ≤ 2147483647) (hM0 : MV p n n M0) (hn : n ≤ 1000000) :
    Spec Try.prog 16 [md p n M0] (.tu [.sc (.int .u64 (detL p M0)), .sc (.int .i64 0)]) := by
  have hp1 := hp.1
  have hl0 := hM0.1
  have cv := valid_s hpr hM0 hn hn
  have cc := fun nx => copied_s hM0 nx hn hn
  unfold md mv at cv ⊢
  unfold mv at cc
  rw [hl0] at cv cc ⊢
  refine Spec.run Try.func16 rfl Try.ntmps16 (by simp) (by simp (disch := omega) only [go_sem]; rfl) fun B hB => ?_
  (repeat (first | (first | refine DO.nilC (by kernel_rfl) ?_ | refine DO.nil (by kernel_rfl) ?_) | (with_reducible first | apply oz1 | apply oz2 | apply oz3 | apply oz4 | apply oz5 | apply oz6 | apply oz7 | apply oz8 | apply oz9 | apply ozb | apply ozc | apply oze | apply ozf | apply ozg | apply ozh | apply ozi | apply ozj | apply ozk | refine ozd (by decide) ?_) | ((first | apply SO.call | apply DO.call); (iterate 3 (focus (simp (disch := omega) only [go_sem, ↓reduceIte] <;> rfl))); (first | apply SCall.ofX | apply DCall.ofX); (focus (first | assumption)); (focus (simp (disch := omega) only [go_sem] <;> rfl))) | ((with_reducible first | apply SC.condB | apply SC.region | apply SO.run | apply DO.run); (focus (simp (disch := omega) only [go_sem, ↓reduceIte, Nat.reduceEqDiff, Nat.reduceLeDiff, Nat.reduceAdd, reduceCtorEq, bne_self_eq_false] <;> rfl)); (first | refine pickT ?_ | refine pickF ?_ | fail_if_success with_reducible refine pickA ?_)) | ((with_reducible refine SC.draw Tab.mixed ?_ ?_); (focus (first | rfl | simp (disch := omega) only [go_sem, ↓reduceIte, Nat.reduceEqDiff, Nat.reduceLT, Nat.reduceLeDiff, Nat.reduceAdd, Nat.reduceMul, Nat.reduceSub, reduceCtorEq, Nat.reduceBEq, Int.reduceToNat, Int.reducePow, if_pos, if_neg, bne_self_eq_false]))) | (with_reducible apply SC.ops)))
  refine SO.inlQ (by simp (disch := omega) only [go_sem] <;> rfl) Tab.go49 (by simp (disch := omega) only [go_sem, ↓reduceIte] <;> rfl) (by simp (disch := omega) only [go_sem] <;> rfl) (SInlQ.newR (cc 1) ?_ ?_ ?_)
  · exact klc (by omega) kln
  · exact fun x hp' nx' h => rowsQ_new h
  rintro x hp' nx ⟨o, ids0, hR, rfl, rfl⟩
  have hI0 : Ids o ids0 ids0 n nx := ⟨by rw [hR.len, hl0], hR.nod, fun i h => h, fun i h => (hR.lt i h).2, hR.o1.2, hR.o2⟩
  have ho := hR.o1
  have hlo := fun i hi => (hR.lt i hi).1
  rw [hl0]
  (repeat (first | (first | refine DO.nilC (by kernel_rfl) ?_ | refine DO.nil (by kernel_rfl) ?_) | (with_reducible first | apply oz1 | apply oz2 | apply oz3 | apply oz4 | apply oz5 | apply oz6 | apply oz7 | apply oz8 | apply oz9 | apply ozb | apply ozc | apply oze | apply ozf | apply ozg | apply ozh | apply ozi | apply ozj | apply ozk | refine ozd (by decide) ?_) | ((first | apply SO.call | apply DO.call); (iterate 3 (focus (simp (disch := omega) only [go_sem, ↓reduceIte, Nat.reduceEqDiff, Nat.reduceLT, Nat.reduceLeDiff, Nat.reduceAdd, Nat.reduceMul, Nat.reduceSub, reduceCtorEq, Nat.reduceBEq, Int.reduceToNat, Int.reducePow, if_pos, if_neg] <;> rfl))); (first | apply SCall.ofX | apply DCall.ofX); (focus (first | assumption)); (focus (simp (disch := omega) only [go_sem, ↓reduceIte, Nat.reduceEqDiff, Nat.reduceLT, Nat.reduceLeDiff, Nat.reduceAdd, Nat.reduceMul, Nat.reduceSub, reduceCtorEq, Nat.reduceBEq, Int.reduceToNat, Int.reducePow, if_pos, if_neg] <;> rfl))) | ((with_reducible first | apply SC.condB | apply SC.region | apply SO.run | apply DO.run); (focus (simp (disch := omega) only [go_sem, ↓reduceIte, Nat.reduceEqDiff] <;> rfl)); (first | refine pickT ?_ | refine pickF ?_ | fail_if_success with_reducible refine pickA ?_)) | ((with_reducible refine SC.draw Tab.mixed ?_ ?_); (focus (first | rfl | simp (disch := omega) only [go_sem, ↓reduceIte, Nat.reduceEqDiff, Nat.reduceLT, Nat.reduceLeDiff, Nat.reduceAdd, Nat.reduceMul, Nat.reduceSub, reduceCtorEq, Nat.reduceBEq, Int.reduceToNat, Int.reducePow, if_pos, if_neg]))) | (with_reducible apply SC.ops)))
  refine SC.loop (fun x : Nat × List (List Nat) × List Nat × Nat => ⟨[(1, .pt 0 0), (4, .sl o 0 n 1 none), (5, .sc (.int .u64 x.2.2.2)), (28, .sc (.int .i64 n)), (29, .sc (.int .i64 x.1))], (0, ⟨29, [.sc (.int .u64 p), .sc (.int .i64 n), .im (imR n (nR M0)) n], false⟩) :: (o, ⟨44, slR 1 n x.2.2.1, false⟩) :: rowsH 26 x.2.2.1 (nR x.2.1), nx, 115⟩)
    (fun x => x.1 ≤ n ∧ MV p n n x.2.1 ∧ Ids o ids0 x.2.2.1 n nx ∧ x.2.2.2 < p ∧ detGo p (n - x.1) x.1 x.2.1 x.2.2.2 = detL p M0) (fun x => n - x.1) (0, M0, ids0, 1) ?_ ?_ ?_
  · (refine Le.slots ?_ ?_ ?_ <;> (repeat' (first | (exact fun _ _ h => h) | exact Nat.le_refl _ | exact leSl_nil | refine leSl_cons (by simp (disch := omega) only [go_sem, ↓reduceIte, Nat.reduceEqDiff] <;> rfl) ?_ ?_ | exact VLe.junk _ | exact VLe.refl rfl | exact VLe.nil_sl _ _ _ | exact VLe.int (by first | rfl | omega | (dsimp only; omega)) | exact VLe.bool rfl | exact VLe.sl rfl (by first | rfl | omega) | exact VLe.cap rfl (by first | rfl | omega) | exact VLe.im rfl rfl | omega | (refine fun id k h => ?_; simp only [hget] at h ⊢; (repeat' (split at h)) <;> first | (cases h; done) | (simp (disch := omega) only [if_pos, if_neg]; exact h)))))
  · exact ⟨Nat.zero_le _, hM0, hI0, by simp only; omega, by unfold detL; rw [hl0]; rfl⟩
  · rintro ⟨k, M, ids, d⟩ ⟨hk, hM, hI, hd, hE⟩ K hK
    simp only at hk hM hI hd hE ⊢
    have hl := hM.1
    have hidl := hI.len
    have g1 := slR_len 1 n ids
    rw [hidl] at g1
    by_cases hkn : k < n
    · have q1 := decide_eq_true (p := (k : Int) < (n : Int)) (by omega)
      have ht : (slR 1 n ids).take n = slR 1 n ids := List.take_of_length_le (by omega)
      have hrows : ∀ k, k < ids.length → hget ((0, (⟨29, [.sc (.int .u64 p), .sc (.int .i64 n), .im (imR n (nR M0)) n], false⟩ : Blk)) :: (o, ⟨44, slR 1 n ids, false⟩) :: rowsH 26 ids (nR M)) (ids.getD k 0) = some ⟨26, (nR M).getD k [], false⟩ := by
        intro k hk
        have hm := getD_mem' hk
        have := hlo _ (hI.sub _ hm)
        simp only [hget]
        rw [if_neg (by omega), if_neg (fun e => hI.o2 (by rw [← e]; exact hm))]
        exact rows_get hI.nod hk (by rw [nR_len]; omega)
      have hal := slR_some (z := 1) (m := n) (ids := ids) (by omega)
      have hfz := frz_rowsA (n := 6) (z := 1) (m := n) (hp := (0, (⟨29, [.sc (.int .u64 p), .sc (.int .i64 n), .im (imR n (nR M0)) n], false⟩ : Blk)) :: (o, ⟨44, slR 1 n ids, false⟩) :: rowsH 26 ids (nR M)) (ty := 26) (ids := ids) (rs := nR M) (by omega) (by rw [nR_len]; omega) hrows (nR_rows hM)
      have c1 := search_s hM k k hk (by omega) hn hn
      unfold mv at c1
      have hsi := searchL_inv (M := M) (c := k) (f := n - k) (k := k)
      rw [show n - k = (n - (k + 1)) + 1 by omega, detGo, hl] at hE
      rw [hl] at c1
      cases hs : searchL M k (n - k) k with
      | none =>
        rw [hs] at c1 hE
        simp only [srV] at c1 hE
        have q3 : decide ((-1 : Int) < 0) = true := by decide
        (repeat (first | (first | refine DO.nilC (by kernel_rfl) ?_ | refine DO.nil (by kernel_rfl) ?_) | (with_reducible first | apply oz1 | apply oz2 | apply oz3 | apply oz4 | apply oz5 | apply oz6 | apply oz7 | apply oz8 | apply oz9 | apply ozb | apply ozc | apply oze | apply ozf | apply ozg | apply ozh | apply ozi | apply ozj | apply ozk | refine ozd (by decide) ?_) | ((first | apply SO.call | apply DO.call); (iterate 3 (focus (simp (disch := omega) only [go_sem, ↓reduceIte, Nat.reduceEqDiff, if_pos, if_neg, hal, hfz, ht, g1] <;> rfl))); (first | apply SCall.ofX | apply DCall.ofX); (focus (first | assumption)); (focus (simp (disch := omega) only [go_sem] <;> rfl))) | ((with_reducible first | apply SC.condB | apply SC.region | apply SO.run | apply DO.run); (focus (simp (disch := omega) only [go_sem, ↓reduceIte, Nat.reduceEqDiff, q1, q3] <;> rfl)); (first | refine pickT ?_ | refine pickF ?_ | fail_if_success with_reducible refine pickA ?_)) | ((with_reducible refine SC.draw Tab.mixed ?_ ?_); (focus (first | rfl | simp (disch := omega) only [go_sem, ↓reduceIte, Nat.reduceEqDiff, Nat.reduceLT, Nat.reduceLeDiff, Nat.reduceAdd, Nat.reduceMul, Nat.reduceSub, reduceCtorEq, Nat.reduceBEq, Int.reduceToNat, Int.reducePow, if_pos, if_neg, q1, q3, hal, hfz, ht, g1]))) | (with_reducible apply SC.ops)))
        exact retQ_ret Try.results16 (by simp (disch := omega) only [go_sem, ↓reduceIte, Nat.reduceEqDiff] <;> rfl) (by simp (disch := omega) only [go_sem, ↓reduceIte] <;> rfl) (by rw [← hE]; rfl)
      | some q =>
        rw [hs] at c1 hE hsi
        simp only [srV] at c1 hE hsi
        obtain ⟨s1, s2, s3, s4⟩ := hsi
        have hqn : q < n := by omega
        have q3 : decide ((q : Int) < 0) = false := decide_eq_false (by omega)
        (repeat (first | (first | refine DO.nilC (by kernel_rfl) ?_ | refine DO.nil (by kernel_rfl) ?_) | (with_reducible first | apply oz1 | apply oz2 | apply oz3 | apply oz4 | apply oz5 | apply oz6 | apply oz7 | apply oz8 | apply oz9 | apply ozb | apply ozc | apply oze | apply ozf | apply ozg | apply ozh | apply ozi | apply ozj | apply ozk | refine ozd (by decide) ?_) | ((first | apply SO.call | apply DO.call); (iterate 3 (focus (simp (disch := omega) only [go_sem, ↓reduceIte, Nat.reduceEqDiff, if_pos, if_neg, hal, hfz, ht, g1] <;> rfl))); (first | apply SCall.ofX | apply DCall.ofX); (focus (first | assumption)); (focus (simp (disch := omega) only [go_sem] <;> rfl))) | ((with_reducible first | apply SC.condB | apply SC.region | apply SO.run | apply DO.run); (focus (simp (disch := omega) only [go_sem, ↓reduceIte, Nat.reduceEqDiff, q1, q3] <;> rfl)); (first | refine pickT ?_ | refine pickF ?_ | fail_if_success with_reducible refine pickA ?_)) | ((with_reducible refine SC.draw Tab.mixed ?_ ?_); (focus (first | rfl | simp (disch := omega) only [go_sem, ↓reduceIte, Nat.reduceEqDiff, Nat.reduceLT, Nat.reduceLeDiff, Nat.reduceAdd, Nat.reduceMul, Nat.reduceSub, reduceCtorEq, Nat.reduceBEq, Int.reduceToNat, Int.reducePow, if_pos, if_neg, q1, q3, hal, hfz, ht, g1]))) | (with_reducible apply SC.ops)))
        have hM1 := swapL_mv hM hkn hqn
        have eM1 : (swapL M k q).getD k [] = M.getD q [] := by
          rw [swapL_get (by omega) (by omega)]
          by_cases e : k = q
          · rw [if_pos e, e]
          · rw [if_neg e, if_pos rfl]
        have hd1 : (if q = k then d else (0 + p - d) % p) < p := by
          split
          · exact hd
          · exact Nat.mod_lt _ (by omega)
        refine SC.condI (fun z : List Nat => ⟨[(1, .pt 0 0), (4, .sl o 0 n 1 none), (5, .sc (.int .u64 ((if q = k then d else (0 + p - d) % p : Nat) : Int))), (6, .sc (.int .i64 k)), (28, .sc (.int .i64 n)), (29, .sc (.int .i64 k))], (0, ⟨29, [.sc (.int .u64 p), .sc (.int .i64 n), .im (imR n (nR M0)) n], false⟩) :: (o, ⟨44, slR 1 n z, false⟩) :: rowsH 26 z (nR (swapL M k q)), nx, 115⟩) (fun z => Ids o ids0 z n nx) (by simp (disch := omega) only [go_sem, ↓reduceIte] <;> rfl) ?_ ?_ ?_
        · intro hne K2 hK2
          have hqk : q ≠ k := by intro e; subst e; simp at hne
          rw [if_neg hqk] at hK2
          have gq := slR_get (z := 1) (m := n) (ids := ids) (k := q) (by omega)
          have gk := slR_get (z := 1) (m := n) (ids := ids) (k := k) (by omega)
          have hkl := klB_rows (ty := 26) (rs := nR M) (n := nx) (fun j hj => by have := hI.lt j hj; omega)
          have hsw : (ids.set k (ids.getD q 0)).set q (ids.getD k 0) = swapN ids k q := rfl
          have c2 := mSub0_s p d (by omega) (by omega) hd
          generalize (0 + p - d) % p = d1 at *
          (repeat (first | (first | refine DO.nilC (by kernel_rfl) ?_ | refine DO.nil (by kernel_rfl) ?_) | (with_reducible first | apply oz1 | apply oz2 | apply oz3 | apply oz4 | apply oz5 | apply oz6 | apply oz7 | apply oz8 | apply oz9 | apply ozb | apply ozc | apply oze | apply ozf | apply ozg | apply ozh | apply ozi | apply ozj | apply ozk | refine ozd (by decide) ?_) | ((first | apply SO.call | apply DO.call); (iterate 3 (focus (simp (disch := omega) only [go_sem, ↓reduceIte, Nat.reduceEqDiff] <;> rfl))); (first | apply SCall.ofX | apply DCall.ofX); (focus (first | assumption)); (focus (simp (disch := omega) only [go_sem] <;> rfl))) | ((with_reducible first | apply SC.condB | apply SC.region | apply SO.run | apply DO.run); (focus (simp (disch := omega) only [go_sem, ↓reduceIte, Nat.reduceEqDiff, reduceCtorEq, if_pos, if_neg, gq, gk, slR_set, slR_len, List.length_set, hidl, hsw] <;> rfl)); (first | refine pickT ?_ | refine pickF ?_ | fail_if_success with_reducible refine pickA ?_)) | ((with_reducible refine SC.draw Tab.mixed ?_ ?_); (focus (first | rfl | simp (disch := omega) only [go_sem, if_pos, hkl]))) | (with_reducible apply SC.ops)))
          refine hK2 _ (swapN ids k q) (Le.trans (Le.less (less_cons (less_cons (rows_swap (ids := ids) (M := M) (k := k) (q := q) hI.nod (by omega) (by omega) (by omega)))) (Nat.le_refl _)) ?_) (hI.swap hkn hqn)
          (refine Le.slots ?_ ?_ ?_ <;> (repeat' (first | (exact fun _ _ h => h) | exact Nat.le_refl _ | exact leSl_nil | refine leSl_cons (by simp (disch := omega) only [go_sem, ↓reduceIte, Nat.reduceEqDiff] <;> rfl) ?_ ?_ | exact VLe.junk _ | exact VLe.refl rfl | exact VLe.nil_sl _ _ _ | exact VLe.int (by first | rfl | omega | (dsimp only; omega)) | exact VLe.bool rfl | exact VLe.sl rfl (by first | rfl | omega) | exact VLe.cap rfl (by first | rfl | omega) | exact VLe.im rfl rfl | omega | (refine fun id k h => ?_; simp only [hget] at h ⊢; (repeat' (split at h)) <;> first | (cases h; done) | (simp (disch := omega) only [if_pos, if_neg]; exact h)))))
        · intro hne K2 hK2
          have hqk : q = k := by
            have : ((q : Int) != (k : Int)) = false := hne
            rw [bne_eq_false_iff_eq] at this
            omega
          have hsame : swapL M k q = M := by
            refine mat_ext (by simp [swapL]) fun i hi => ?_
            rw [swapL_get (by omega) (by omega)]
            by_cases e : i = k
            · rw [if_pos (by omega), e]
            · rw [if_neg (by omega), if_neg e]
          rw [if_pos hqk, hsame] at hK2
          (repeat (first | (first | refine DO.nilC (by kernel_rfl) ?_ | refine DO.nil (by kernel_rfl) ?_) | (with_reducible first | apply oz1 | apply oz2 | apply oz3 | apply oz4 | apply oz5 | apply oz6 | apply oz7 | apply oz8 | apply oz9 | apply ozb | apply ozc | apply oze | apply ozf | apply ozg | apply ozh | apply ozi | apply ozj | apply ozk | refine ozd (by decide) ?_) | ((first | apply SO.call | apply DO.call); (iterate 3 (focus (simp (disch := omega) only [go_sem, ↓reduceIte, Nat.reduceEqDiff, Nat.reduceLT, Nat.reduceLeDiff, Nat.reduceAdd, Nat.reduceMul, Nat.reduceSub, reduceCtorEq, Nat.reduceBEq, Int.reduceToNat, Int.reducePow, if_pos, if_neg] <;> rfl))); (first | apply SCall.ofX | apply DCall.ofX); (focus (first | assumption)); (focus (simp (disch := omega) only [go_sem, ↓reduceIte, Nat.reduceEqDiff, Nat.reduceLT, Nat.reduceLeDiff, Nat.reduceAdd, Nat.reduceMul, Nat.reduceSub, reduceCtorEq, Nat.reduceBEq, Int.reduceToNat, Int.reducePow, if_pos, if_neg] <;> rfl))) | ((with_reducible first | apply SC.condB | apply SC.region | apply SO.run | apply DO.run); (focus (simp (disch := omega) only [go_sem, ↓reduceIte, Nat.reduceEqDiff, Nat.reduceLT, Nat.reduceLeDiff, Nat.reduceAdd, Nat.reduceMul, Nat.reduceSub, reduceCtorEq, Nat.reduceBEq, Int.reduceToNat, Int.reducePow, if_pos, if_neg] <;> rfl)); (first | refine pickT ?_ | refine pickF ?_ | fail_if_success with_reducible refine pickA ?_)) | ((with_reducible refine SC.draw Tab.mixed ?_ ?_); (focus (first | rfl | simp (disch := omega) only [go_sem, ↓reduceIte, Nat.reduceEqDiff, Nat.reduceLT, Nat.reduceLeDiff, Nat.reduceAdd, Nat.reduceMul, Nat.reduceSub, reduceCtorEq, Nat.reduceBEq, Int.reduceToNat, Int.reducePow, if_pos, if_neg]))) | (with_reducible apply SC.ops)))
          refine hK2 _ ids ?_ hI
          (refine Le.slots ?_ ?_ ?_ <;> (repeat' (first | (exact fun _ _ h => h) | exact Nat.le_refl _ | exact leSl_nil | refine leSl_cons (by simp (disch := omega) only [go_sem, ↓reduceIte, Nat.reduceEqDiff] <;> rfl) ?_ ?_ | exact VLe.junk _ | exact VLe.refl rfl | exact VLe.nil_sl _ _ _ | exact VLe.int (by first | rfl | omega | (dsimp only; omega)) | exact VLe.bool rfl | exact VLe.sl rfl (by first | rfl | omega) | exact VLe.cap rfl (by first | rfl | omega) | exact VLe.im rfl rfl | omega | (refine fun id k h => ?_; simp only [hget] at h ⊢; (repeat' (split at h)) <;> first | (cases h; done) | (simp (disch := omega) only [if_pos, if_neg]; exact h)))))
        intro ids1 hI1
        have hxl : ent M q k < p := hM.lt hqn (by omega)
        have hr := hM.get hqn
        have hx : (M.getD q []).getD k 0 = ent M q k := rfl
        clear hfz hal hrows hs c1 g1 ht
        generalize ent M q k = x at *
        generalize M.getD q [] = r at *
        generalize swapL M k q = M1 at *
        generalize (if q = k then d else (0 + p - d) % p) = d1 at *
        have hl1 := hM1.1
        have hid1 := hI1.len
        have hmem := getD_mem' (ids := ids1) (k := k) (by omega)
        have gk := slR_get (z := 1) (m := n) (ids := ids1) (k := k) (by omega)
        have gR := rows_get (ty := 26) (rs := nR M1) (k := k) hI1.nod (by omega) (by rw [nR_len]; omega)
        rw [nR_getD, eM1] at gR
        have hrl := hr.1
        have gl := nv_len r
        have gx := nv_get (r := r) (j := k) (by omega)
        rw [hx] at gx
        have hne1 : ids1.getD k 0 ≠ o := fun e => hI1.o2 (by rw [← e]; exact hmem)
        have hne2 := hI1.lt _ hmem
        have hne3 := hlo _ (hI1.sub _ hmem)
        have c2 := mInv_s p x (by omega) (by omega) hxl s3
        have c3 := mMul_s p d1 x (by omega) (by omega) hd1 hxl
        have hb := Nat.mod_lt (x ^ (p - 2)) (y := p) (by omega)
        have hd2 := Nat.mod_lt (d1 * x) (y := p) (by omega)
        have hkl := klB_rows (ty := 26) (rs := nR M1) (n := nx) (fun j hj => by have := hI1.lt j hj; omega)
        generalize x ^ (p - 2) % p = b at *
        generalize d1 * x % p = d2 at *
        (repeat (first | (first | refine DO.nilC (by kernel_rfl) ?_ | refine DO.nil (by kernel_rfl) ?_) | (with_reducible first | apply oz1 | apply oz2 | apply oz3 | apply oz4 | apply oz5 | apply oz6 | apply oz7 | apply oz8 | apply oz9 | apply ozb | apply ozc | apply oze | apply ozf | apply ozg | apply ozh | apply ozi | apply ozj | apply ozk | refine ozd (by decide) ?_) | ((first | apply SO.call | apply DO.call); (iterate 3 (focus (simp (disch := omega) only [go_sem, ↓reduceIte, Nat.reduceEqDiff] <;> rfl))); (first | apply SCall.ofX | apply DCall.ofX); (focus (first | assumption)); (focus (simp (disch := omega) only [go_sem] <;> rfl))) | ((with_reducible first | apply SC.condB | apply SC.region | apply SO.run | apply DO.run); (focus (simp (disch := omega) only [go_sem, ↓reduceIte, Nat.reduceEqDiff, reduceCtorEq, if_pos, if_neg, gk, gR, gx] <;> rfl)); (first | refine pickT ?_ | refine pickF ?_ | fail_if_success with_reducible refine pickA ?_)) | ((with_reducible refine SC.draw Tab.mixed ?_ ?_); (focus (first | rfl | simp (disch := omega) only [go_sem, if_pos, hkl]))) | (with_reducible apply SC.ops)))
        have t1 : ((k : Int) + 1).toNat = k + 1 := by omega
        by_cases hlast : k + 1 < n
        · obtain ⟨m, hm⟩ : ∃ m, m = n - (k + 1) := ⟨_, rfl⟩
          (repeat (first | (first | refine DO.nilC (by kernel_rfl) ?_ | refine DO.nil (by kernel_rfl) ?_) | (with_reducible first | apply oz1 | apply oz2 | apply oz3 | apply oz4 | apply oz5 | apply oz6 | apply oz7 | apply oz8 | apply oz9 | apply ozb | apply ozc | apply oze | apply ozf | apply ozg | apply ozh | apply ozi | apply ozj | apply ozk | refine ozd (by decide) ?_) | ((first | apply SO.call | apply DO.call); (iterate 3 (focus (simp (disch := omega) only [go_sem, ↓reduceIte, Nat.reduceEqDiff, Nat.reduceLT, Nat.reduceLeDiff, Nat.reduceAdd, Nat.reduceMul, Nat.reduceSub, reduceCtorEq, Nat.reduceBEq, Int.reduceToNat, Int.reducePow, if_pos, if_neg, t1, ← hm] <;> rfl))); (first | apply SCall.ofX | apply DCall.ofX); (focus (first | assumption)); (focus (simp (disch := omega) only [go_sem, ↓reduceIte, Nat.reduceEqDiff, Nat.reduceLT, Nat.reduceLeDiff, Nat.reduceAdd, Nat.reduceMul, Nat.reduceSub, reduceCtorEq, Nat.reduceBEq, Int.reduceToNat, Int.reducePow, if_pos, if_neg, t1, ← hm] <;> rfl))) | ((with_reducible first | apply SC.condB | apply SC.region | apply SO.run | apply DO.run); (focus (simp (disch := omega) only [go_sem, ↓reduceIte, Nat.reduceEqDiff, reduceCtorEq, if_pos, t1, ← hm] <;> rfl)); (first | refine pickT ?_ | refine pickF ?_ | fail_if_success with_reducible refine pickA ?_)) | ((with_reducible refine SC.draw Tab.mixed ?_ ?_); (focus (first | rfl | simp (disch := omega) only [go_sem, ↓reduceIte, Nat.reduceEqDiff, Nat.reduceLT, Nat.reduceLeDiff, Nat.reduceAdd, Nat.reduceMul, Nat.reduceSub, reduceCtorEq, Nat.reduceBEq, Int.reduceToNat, Int.reducePow, if_pos, if_neg, t1, ← hm]))) | (with_reducible apply SC.ops)))
          refine SC.loop (fun t : Nat => ⟨[(1, .pt 0 0), (4, .sl o 0 n 1 none), (5, .sc (.int .u64 d2)), (6, .sc (.int .i64 k)), (8, .sc (.int .u64 b)), (28, .sc (.int .i64 n)), (29, .sc (.int .i64 k)), (86, .sl o (k + 1) m 1 none), (87, .sc (.int .i64 m)), (88, .sc (.int .i64 t))], (0, ⟨29, [.sc (.int .u64 p), .sc (.int .i64 n), .im (imR n (nR M0)) n], false⟩) :: (o, ⟨44, slR 1 n ids1, false⟩) :: rowsH 26 ids1 (nR (downTo p k (k + 1 + t) b r M1)), nx, 115⟩) (fun t => t ≤ m) (fun t => m - t) 0 ?_ ?_ ?_
          · rw [Nat.add_zero, downTo_zero]
            (refine Le.slots ?_ ?_ ?_ <;> (repeat' (first | (exact fun _ _ h => h) | exact Nat.le_refl _ | exact leSl_nil | refine leSl_cons (by simp (disch := omega) only [go_sem, ↓reduceIte, Nat.reduceEqDiff] <;> rfl) ?_ ?_ | exact VLe.junk _ | exact VLe.refl rfl | exact VLe.nil_sl _ _ _ | exact VLe.int (by first | rfl | omega | (dsimp only; omega)) | exact VLe.bool rfl | exact VLe.sl rfl (by first | rfl | omega) | exact VLe.cap rfl (by first | rfl | omega) | exact VLe.im rfl rfl | omega | (refine fun id k h => ?_; simp only [hget] at h ⊢; (repeat' (split at h)) <;> first | (cases h; done) | (simp (disch := omega) only [if_pos, if_neg]; exact h)))))
          · exact Nat.zero_le _
          · intro t ht K3 hK3
            have hM3 := downTo_mv (p := p) (k := k) (t := k + 1 + t) (b := b) (by omega) hM1 hrl
            have hl3 := hM3.1
            by_cases htm : t < m
            · have q5 := decide_eq_true (p := (t : Int) < (m : Int)) (by omega)
              obtain ⟨h, hh⟩ : ∃ h, h = k + 1 + t := ⟨_, rfl⟩
              have hhn : h < n := by omega
              have gh := slR_get (z := 1) (m := n) (ids := ids1) (k := h) (by omega)
              have hmemh := getD_mem' (ids := ids1) (k := h) (by omega)
              have hneh1 : ids1.getD h 0 ≠ o := fun e => hI1.o2 (by rw [← e]; exact hmemh)
              have hneh2 := hI1.lt _ hmemh
              have hneh3 := hlo _ (hI1.sub _ hmemh)
              have hhk2 : ids1.getD h 0 ≠ ids1.getD k 0 := fun e => by have := nodup_getD hI1.nod (by omega) (by omega) e; omega
              have hset := downTo_set (p := p) (k := k) (t := k + 1 + t) (b := b) (rk := r) (M := M1) (by omega) (by omega)
              have hget0 := downTo_get (p := p) (k := k) (t := k + 1 + t) (b := b) (rk := r) (M := M1) (i := h) (by omega)
              rw [if_neg (by omega)] at hget0
              have hgetk := downTo_get (p := p) (k := k) (t := k + 1 + t) (b := b) (rk := r) (M := M1) (i := k) (by omega)
              rw [if_neg (by omega), eM1] at hgetk
              have htn : k + 1 + t + 1 = k + 1 + (t + 1) := by omega
              rw [htn, ← hh] at hset
              rw [← hh] at hget0 hgetk hM3 hl3 ⊢
              have gRh := rows_get (ty := 26) (rs := nR (downTo p k h b r M1)) (k := h) hI1.nod (by omega) (by rw [nR_len]; omega)
              have gRk := rows_get (ty := 26) (rs := nR (downTo p k h b r M1)) (k := k) hI1.nod (by omega) (by rw [nR_len]; omega)
              rw [nR_getD, hget0] at gRh
              rw [nR_getD, hgetk] at gRk
              have hrh := hM1.get hhn
              have hset1 := rows_set (ty := 26) (rs := nR (downTo p k h b r M1)) (k := h) (r := nv (addRw p (M1.getD h []) r ((0 + p - b * (M1.getD h []).getD k 0 % p) % p))) hI1.nod (by omega) (by rw [nR_len]; omega)
              rw [nR_set, hset] at hset1
              have hset2 := rows_set (ty := 26) (rs := nR (downTo p k h b r M1)) (k := k) (r := nv r) hI1.nod (by omega) (by rw [nR_len]; omega)
              have eself : (downTo p k h b r M1).set k r = downTo p k h b r M1 := by
                refine mat_ext (by simp) fun i hi => ?_
                rw [getD_set (by omega)]
                by_cases e : i = k
                · rw [if_pos e, e, hgetk]
                · rw [if_neg e]
              rw [nR_set, eself] at hset2
              have glh := nv_len (M1.getD h [])
              have hrhl := hrh.1
              have gxh := nv_get (r := M1.getD h []) (j := k) (by omega)
              have xhl := hrh.lt (j := k) (by omega)
              have c4 := mMul_s p b ((M1.getD h []).getD k 0) (by omega) (by omega) hb xhl
              have hf := Nat.mod_lt (b * (M1.getD h []).getD k 0) (y := p) (by omega)
              have c5 := mSub0_s p (b * (M1.getD h []).getD k 0 % p) (by omega) (by omega) hf
              have hzl := Nat.mod_lt (0 + p - b * (M1.getD h []).getD k 0 % p) (y := p) (by omega)
              have hkl3 : klB (rowsH 26 ids1 (nR (downTo p k h b r M1))) nx = true := klB_rows (fun j hj => by have := hI1.lt j hj; omega)
              have hkl4 : ∀ id q, hget (rowsH 26 ids1 (nR (downTo p k h b r M1))) id = some q → id < nx := klr (fun j hj => by have := hI1.lt j hj; omega)
              clear hget0 hgetk eself hset hkl c2 c3 gl gx gR
              generalize hH1 : rowsH 26 ids1 (nR (downTo p k (k + 1 + (t + 1)) b r M1)) = H1 at *
              generalize hH : rowsH 26 ids1 (nR (downTo p k h b r M1)) = H at *
              generalize (0 + p - b * (M1.getD h []).getD k 0 % p) % p = zz at *
              generalize b * (M1.getD h []).getD k 0 % p = ff at *
              generalize (M1.getD h []).getD k 0 = xh at *
              generalize M1.getD h [] = rh at *
              have hadd := (addTo_s p n (ids1.getD h 0) (ids1.getD k 0) zz nx rh r (by omega) (by omega) hrh hr hzl hhk2 (by omega) (by omega) hn).toQ
              generalize ids1.getD h 0 = idh at *
              generalize ids1.getD k 0 = idk at *
              ((repeat (first | (first | refine DO.nilC (by kernel_rfl) ?_ | refine DO.nil (by kernel_rfl) ?_) | (with_reducible refine SC.condB (by simp (disch := omega) only [go_sem, ↓reduceIte]; rfl) ?_; first | with_reducible refine pickT ?_ | with_reducible refine pickF ?_) | (with_reducible first | apply oz1 | apply oz2 | apply oz3 | apply oz4 | apply oz5 | apply oz6 | apply oz7 | apply oz8 | apply oz9 | apply ozb | apply ozc | apply oze | apply ozf | apply ozg | apply ozh | apply ozi | apply ozj | apply ozk | refine ozd (by decide) ?_) | ((with_reducible apply SC.region); (focus (simp (disch := omega) only [go_sem, ↓reduceIte, Nat.reduceEqDiff, if_pos, if_neg, q5, gh, ← hh]; rfl))) | (with_reducible refine SC.draw Tab.mixed rfl ?_; (repeat (refine DO.run (by simp (disch := omega) only [go_sem, ↓reduceIte, Nat.reduceEqDiff, Nat.reduceLT, Nat.reduceLeDiff, Nat.reduceAdd, Nat.reduceMul, Nat.reduceSub, reduceCtorEq, Nat.reduceBEq, Int.reduceToNat, Int.reducePow, if_pos, if_neg, q5, gh, gk, gRh, glh, gxh, hrhl, slR_len, hid1, hkl3, ← hh, List.getElem?_drop]; rfl) ?_)); (first | refine DO.nilC (by kernel_rfl) ?_ | refine DO.nil (by kernel_rfl) ?_)))); (first | refine SC.ops ?_ | refine SC.draw Tab.mixed (by first | rfl | simp (disch := omega) only [go_sem, if_pos, hkl3]) ?_ | skip); (repeat (first | refine SO.run (by simp (disch := omega) only [go_sem, ↓reduceIte, Nat.reduceEqDiff, Nat.reduceLT, Nat.reduceLeDiff, Nat.reduceAdd, Nat.reduceMul, Nat.reduceSub, reduceCtorEq, Nat.reduceBEq, Int.reduceToNat, Int.reducePow, if_pos, if_neg, q5, gh, gk, gRh, glh, gxh, hrhl, slR_len, hid1, hkl3, ← hh, List.getElem?_drop]; rfl) ?_ | refine DO.run (by simp (disch := omega) only [go_sem, ↓reduceIte, Nat.reduceEqDiff, reduceCtorEq, if_pos, if_neg, gRh, gxh]; rfl) ?_)); (first | (refine DO.call Tab.go56 (by simp (disch := omega) only [go_sem, ↓reduceIte, Nat.reduceEqDiff]; rfl) (by simp (disch := omega) only [go_sem] <;> rfl) ?_; refine DCall.of (c4) (by simp (disch := omega) only [go_sem]; rfl) ?_) | (refine SO.call Tab.go56 (by simp (disch := omega) only [go_sem, ↓reduceIte, Nat.reduceEqDiff, Nat.reduceLT, Nat.reduceLeDiff, Nat.reduceAdd, Nat.reduceMul, Nat.reduceSub, reduceCtorEq, Nat.reduceBEq, Int.reduceToNat, Int.reducePow, if_pos, if_neg, q5, gh, gk, gRh, glh, gxh, hrhl, slR_len, hid1, hkl3, ← hh, List.getElem?_drop]; rfl) (by simp (disch := omega) only [go_sem, ↓reduceIte, Nat.reduceEqDiff, Nat.reduceLT, Nat.reduceLeDiff, Nat.reduceAdd, Nat.reduceMul, Nat.reduceSub, reduceCtorEq, Nat.reduceBEq, Int.reduceToNat, Int.reducePow, if_pos, if_neg, q5, gh, gk, gRh, glh, gxh, hrhl, slR_len, hid1, hkl3, ← hh, List.getElem?_drop] <;> rfl) ?_; first | refine SCall.of (c4) (by simp (disch := omega) only [go_sem, ↓reduceIte, Nat.reduceEqDiff, Nat.reduceLT, Nat.reduceLeDiff, Nat.reduceAdd, Nat.reduceMul, Nat.reduceSub, reduceCtorEq, Nat.reduceBEq, Int.reduceToNat, Int.reducePow, if_pos, if_neg, q5, gh, gk, gRh, glh, gxh, hrhl, slR_len, hid1, hkl3, ← hh, List.getElem?_drop]; rfl) ?_ | refine SCall.ofF (c4) (by simp (disch := omega) only [go_sem, ↓reduceIte, Nat.reduceEqDiff, Nat.reduceLT, Nat.reduceLeDiff, Nat.reduceAdd, Nat.reduceMul, Nat.reduceSub, reduceCtorEq, Nat.reduceBEq, Int.reduceToNat, Int.reducePow, if_pos, if_neg, q5, gh, gk, gRh, glh, gxh, hrhl, slR_len, hid1, hkl3, ← hh, List.getElem?_drop]; rfl) ?_)); (repeat (first | refine SO.run (by simp (disch := omega) only [go_sem, ↓reduceIte, Nat.reduceEqDiff, Nat.reduceLT, Nat.reduceLeDiff, Nat.reduceAdd, Nat.reduceMul, Nat.reduceSub, reduceCtorEq, Nat.reduceBEq, Int.reduceToNat, Int.reducePow, if_pos, if_neg, q5, gh, gk, gRh, glh, gxh, hrhl, slR_len, hid1, hkl3, ← hh, List.getElem?_drop]; rfl) ?_ | refine DO.run (by simp (disch := omega) only [go_sem, ↓reduceIte]; rfl) ?_)))
              (repeat (first | (first | refine DO.nilC (by kernel_rfl) ?_ | refine DO.nil (by kernel_rfl) ?_) | (with_reducible refine SC.condB (by simp (disch := omega) only [go_sem, ↓reduceIte, Nat.reduceEqDiff, Nat.reduceLT, Nat.reduceLeDiff, Nat.reduceAdd, Nat.reduceMul, Nat.reduceSub, reduceCtorEq, Nat.reduceBEq, Int.reduceToNat, Int.reducePow, if_pos, if_neg, q5, gh, gk, gRh, glh, gxh, hrhl, slR_len, hid1, hkl3, ← hh, List.getElem?_drop]; rfl) ?_; first | with_reducible refine pickT ?_ | with_reducible refine pickF ?_) | (with_reducible first | apply oz1 | apply oz2 | apply oz3 | apply oz4 | apply oz5 | apply oz6 | apply oz7 | apply oz8 | apply oz9 | apply ozb | apply ozc | apply oze | apply ozf | apply ozg | apply ozh | apply ozi | apply ozj | apply ozk | refine ozd (by decide) ?_) | ((with_reducible apply SC.region); (focus (simp (disch := omega) only [go_sem, ↓reduceIte, Nat.reduceEqDiff, Nat.reduceLT, Nat.reduceLeDiff, Nat.reduceAdd, Nat.reduceMul, Nat.reduceSub, reduceCtorEq, Nat.reduceBEq, Int.reduceToNat, Int.reducePow, if_pos, if_neg, q5, gh, gk, gRh, glh, gxh, hrhl, slR_len, hid1, hkl3, ← hh, List.getElem?_drop]; rfl))) | (with_reducible refine SC.draw Tab.mixed rfl ?_; (repeat (refine DO.run (by simp (disch := omega) only [go_sem, ↓reduceIte, Nat.reduceEqDiff, Nat.reduceLT, Nat.reduceLeDiff, Nat.reduceAdd, Nat.reduceMul, Nat.reduceSub, reduceCtorEq, Nat.reduceBEq, Int.reduceToNat, Int.reducePow, if_pos, if_neg, q5, gh, gk, gRh, glh, gxh, hrhl, slR_len, hid1, hkl3, ← hh, List.getElem?_drop]; rfl) ?_)); (first | refine DO.nilC (by kernel_rfl) ?_ | refine DO.nil (by kernel_rfl) ?_))))
              refine SC.drawT 11 (by simp only [List.take_succ_cons, List.take_zero]; rfl) (by simp only [List.drop_succ_cons, List.drop_zero]; rfl) Tab.mixed ?_ (by kernel_rfl) ?_
              · exact klc (show 0 < nx by omega) (klc (show o < nx by omega) hkl4)
              (repeat (first | (first | refine DO.nilC (by kernel_rfl) ?_ | refine DO.nil (by kernel_rfl) ?_) | (with_reducible first | apply oz1 | apply oz2 | apply oz3 | apply oz4 | apply oz5 | apply oz6 | apply oz7 | apply oz8 | apply oz9 | apply ozb | apply ozc | apply oze | apply ozf | apply ozg | apply ozh | apply ozi | apply ozj | apply ozk | refine ozd (by decide) ?_) | ((first | apply SO.call | apply DO.call); (iterate 3 (focus (simp (disch := omega) only [go_sem, ↓reduceIte, Nat.reduceEqDiff, if_pos, if_neg, gRh, glh, hrhl] <;> rfl))); (first | apply SCall.ofX | apply DCall.ofX); (focus (first | assumption)); (focus (simp (disch := omega) only [go_sem] <;> rfl))) | ((with_reducible first | apply SC.condB | apply SC.region | apply SO.run | apply DO.run); (focus (simp (disch := omega) only [go_sem, ↓reduceIte, Nat.reduceEqDiff, reduceCtorEq, if_pos, if_neg, gk] <;> rfl)); (first | refine pickT ?_ | refine pickF ?_ | fail_if_success with_reducible refine pickA ?_)) | ((with_reducible refine SC.draw Tab.mixed ?_ ?_); (focus (first | rfl | simp (disch := omega) only [go_sem, ↓reduceIte, Nat.reduceEqDiff, Nat.reduceLT, Nat.reduceLeDiff, Nat.reduceAdd, Nat.reduceMul, Nat.reduceSub, reduceCtorEq, Nat.reduceBEq, Int.reduceToNat, Int.reducePow, if_pos, if_neg, gk, gRk, gRh, gxh, glh, hrhl, slR_len, hid1, List.getElem?_drop]))) | (with_reducible apply SC.ops)))
              have hsub : ∀ id q, hget [(idh, (⟨26, nv rh, false⟩ : Blk)), (idk, ⟨26, nv r, false⟩)] id = some q → hget ((0, (⟨29, [.sc (.int .u64 p), .sc (.int .i64 n), .im (imR n (nR M0)) n], false⟩ : Blk)) :: (o, ⟨44, slR 1 n ids1, false⟩) :: H) id = some q := by
                intro id b hb
                simp only [hget] at hb ⊢
                by_cases e1 : id = idh
                · rw [if_pos e1] at hb
                  rw [if_neg (by omega), if_neg (by omega), e1, gRh]; exact hb
                · rw [if_neg e1] at hb
                  by_cases e2 : id = idk
                  · rw [if_pos e2] at hb
                    rw [if_neg (by omega), if_neg (by omega), e2, gRk]; exact hb
                  · rw [if_neg e2] at hb; cases hb
              have hnew : hsets ((0, (⟨29, [.sc (.int .u64 p), .sc (.int .i64 n), .im (imR n (nR M0)) n], false⟩ : Blk)) :: (o, ⟨44, slR 1 n ids1, false⟩) :: H) [(idh, ⟨26, nv (addRw p rh r zz), false⟩), (idk, ⟨26, nv r, false⟩)] = (0, ⟨29, [.sc (.int .u64 p), .sc (.int .i64 n), .im (imR n (nR M0)) n], false⟩) :: (o, ⟨44, slR 1 n ids1, false⟩) :: H1 := by
                simp only [hsets_cons, hsets_nil, hset_cons]
                rw [if_neg (by omega), if_neg (by omega), hset2]
                simp only [hset_cons]
                rw [if_neg (by omega), if_neg (by omega), hset1]
              have hupd := hget_upd (new := []) (upd := [(idh, (⟨26, nv (addRw p rh r zz), false⟩ : Blk)), (idk, ⟨26, nv r, false⟩)]) hsub (fun i => rfl)
              rw [hnew] at hupd
              show SO _ _ _ _ _ _ _
              refine SO.inlQ (by simp (disch := omega) only [go_sem] <;> rfl) Tab.go58 (by simp (disch := omega) only [go_sem, ↓reduceIte, Nat.reduceEqDiff] <;> rfl) (by simp (disch := omega) only [go_sem] <;> rfl) (SInlQ.of hadd hsub ?_)
              rintro x' hp' nx' ⟨rfl, rfl, rfl⟩
              refine ⟨.tu (fun _ h => by cases h), ⟨fun y hy => Only.clo (List.all_eq_true.1 (nv_clo _) y hy), fun y hy => Only.clo (List.all_eq_true.1 (nv_clo _) y hy), trivial⟩, _, hupd, ?_⟩
              (repeat (first | (first | refine DO.nilC (by kernel_rfl) ?_ | refine DO.nil (by kernel_rfl) ?_) | (with_reducible first | apply oz1 | apply oz2 | apply oz3 | apply oz4 | apply oz5 | apply oz6 | apply oz7 | apply oz8 | apply oz9 | apply ozb | apply ozc | apply oze | apply ozf | apply ozg | apply ozh | apply ozi | apply ozj | apply ozk | refine ozd (by decide) ?_) | ((first | apply SO.call | apply DO.call); (iterate 3 (focus (simp (disch := omega) only [go_sem, ↓reduceIte, Nat.reduceEqDiff, Nat.reduceLT, Nat.reduceLeDiff, Nat.reduceAdd, Nat.reduceMul, Nat.reduceSub, reduceCtorEq, Nat.reduceBEq, Int.reduceToNat, Int.reducePow, if_pos, if_neg] <;> rfl))); (first | apply SCall.ofX | apply DCall.ofX); (focus (first | assumption)); (focus (simp (disch := omega) only [go_sem, ↓reduceIte, Nat.reduceEqDiff, Nat.reduceLT, Nat.reduceLeDiff, Nat.reduceAdd, Nat.reduceMul, Nat.reduceSub, reduceCtorEq, Nat.reduceBEq, Int.reduceToNat, Int.reducePow, if_pos, if_neg] <;> rfl))) | ((with_reducible first | apply SC.condB | apply SC.region | apply SO.run | apply DO.run); (focus (simp (disch := omega) only [go_sem, ↓reduceIte, Nat.reduceEqDiff] <;> rfl)); (first | refine pickT ?_ | refine pickF ?_ | fail_if_success with_reducible refine pickA ?_)) | ((with_reducible refine SC.draw Tab.mixed ?_ ?_); (focus (first | rfl | simp (disch := omega) only [go_sem, ↓reduceIte, Nat.reduceEqDiff, Nat.reduceLT, Nat.reduceLeDiff, Nat.reduceAdd, Nat.reduceMul, Nat.reduceSub, reduceCtorEq, Nat.reduceBEq, Int.reduceToNat, Int.reducePow, if_pos, if_neg]))) | (with_reducible apply SC.ops)))
              refine hK3 _ (t + 1) ?_ (by omega) (by omega)
              rw [hH1]
              (refine Le.slots ?_ ?_ ?_ <;> (repeat' (first | (exact fun _ _ h => h) | exact Nat.le_refl _ | exact leSl_nil | refine leSl_cons (by simp (disch := omega) only [go_sem, ↓reduceIte, Nat.reduceEqDiff] <;> rfl) ?_ ?_ | exact VLe.junk _ | exact VLe.refl rfl | exact VLe.nil_sl _ _ _ | exact VLe.int (by first | rfl | omega | (dsimp only; omega)) | exact VLe.bool rfl | exact VLe.sl rfl (by first | rfl | omega) | exact VLe.cap rfl (by first | rfl | omega) | exact VLe.im rfl rfl | omega | (refine fun id k h => ?_; simp only [hget] at h ⊢; (repeat' (split at h)) <;> first | (cases h; done) | (simp (disch := omega) only [if_pos, if_neg]; exact h)))))
            · have q5 := decide_eq_false (p := (t : Int) < (m : Int)) (by omega)
              have htm' : k + 1 + t = n := by omega
              rw [htm'] at hM3 hl3 ⊢
              (repeat (first | (first | refine DO.nilC (by kernel_rfl) ?_ | refine DO.nil (by kernel_rfl) ?_) | (with_reducible first | apply oz1 | apply oz2 | apply oz3 | apply oz4 | apply oz5 | apply oz6 | apply oz7 | apply oz8 | apply oz9 | apply ozb | apply ozc | apply oze | apply ozf | apply ozg | apply ozh | apply ozi | apply ozj | apply ozk | refine ozd (by decide) ?_) | ((first | apply SO.call | apply DO.call); (iterate 3 (focus (simp (disch := omega) only [go_sem, ↓reduceIte, Nat.reduceEqDiff, Nat.reduceLT, Nat.reduceLeDiff, Nat.reduceAdd, Nat.reduceMul, Nat.reduceSub, reduceCtorEq, Nat.reduceBEq, Int.reduceToNat, Int.reducePow, if_pos, if_neg, q5] <;> rfl))); (first | apply SCall.ofX | apply DCall.ofX); (focus (first | assumption)); (focus (simp (disch := omega) only [go_sem, ↓reduceIte, Nat.reduceEqDiff, Nat.reduceLT, Nat.reduceLeDiff, Nat.reduceAdd, Nat.reduceMul, Nat.reduceSub, reduceCtorEq, Nat.reduceBEq, Int.reduceToNat, Int.reducePow, if_pos, if_neg, q5] <;> rfl))) | ((with_reducible first | apply SC.condB | apply SC.region | apply SO.run | apply DO.run); (focus (simp (disch := omega) only [go_sem, ↓reduceIte, Nat.reduceEqDiff, q5] <;> rfl)); (first | refine pickT ?_ | refine pickF ?_ | fail_if_success with_reducible refine pickA ?_)) | ((with_reducible refine SC.draw Tab.mixed ?_ ?_); (focus (first | rfl | simp (disch := omega) only [go_sem, ↓reduceIte, Nat.reduceEqDiff, Nat.reduceLT, Nat.reduceLeDiff, Nat.reduceAdd, Nat.reduceMul, Nat.reduceSub, reduceCtorEq, Nat.reduceBEq, Int.reduceToNat, Int.reducePow, if_pos, if_neg, q5]))) | (with_reducible apply SC.ops)))
              refine hK _ (k + 1, downTo p k n b r M1, ids1, d2) ?_ ⟨by simp only; omega, hM3, hI1, hd2, hE⟩ (by simp only; omega)
              (refine Le.slots ?_ ?_ ?_ <;> (repeat' (first | (exact fun _ _ h => h) | exact Nat.le_refl _ | exact leSl_nil | refine leSl_cons (by simp (disch := omega) only [go_sem, ↓reduceIte, Nat.reduceEqDiff] <;> rfl) ?_ ?_ | exact VLe.junk _ | exact VLe.refl rfl | exact VLe.nil_sl _ _ _ | exact VLe.int (by first | rfl | omega | (dsimp only; omega)) | exact VLe.bool rfl | exact VLe.sl rfl (by first | rfl | omega) | exact VLe.cap rfl (by first | rfl | omega) | exact VLe.im rfl rfl | omega | (refine fun id k h => ?_; simp only [hget] at h ⊢; (repeat' (split at h)) <;> first | (cases h; done) | (simp (disch := omega) only [if_pos, if_neg]; exact h)))))
        · have hkn2 : n = k + 1 := by omega
          have q4 : n - (k + 1) = 0 := by omega
          have q6 : decide ((0 : Int) < ((0 : Nat) : Int)) = false := by decide
          (repeat (first | (first | refine DO.nilC (by kernel_rfl) ?_ | refine DO.nil (by kernel_rfl) ?_) | (with_reducible first | apply oz1 | apply oz2 | apply oz3 | apply oz4 | apply oz5 | apply oz6 | apply oz7 | apply oz8 | apply oz9 | apply ozb | apply ozc | apply oze | apply ozf | apply ozg | apply ozh | apply ozi | apply ozj | apply ozk | refine ozd (by decide) ?_) | ((first | apply SO.call | apply DO.call); (iterate 3 (focus (simp (disch := omega) only [go_sem, ↓reduceIte, Nat.reduceEqDiff, Nat.reduceLT, Nat.reduceLeDiff, Nat.reduceAdd, Nat.reduceMul, Nat.reduceSub, reduceCtorEq, Nat.reduceBEq, Int.reduceToNat, Int.reducePow, if_pos, if_neg, t1, q4] <;> rfl))); (first | apply SCall.ofX | apply DCall.ofX); (focus (first | assumption)); (focus (simp (disch := omega) only [go_sem, ↓reduceIte, Nat.reduceEqDiff, Nat.reduceLT, Nat.reduceLeDiff, Nat.reduceAdd, Nat.reduceMul, Nat.reduceSub, reduceCtorEq, Nat.reduceBEq, Int.reduceToNat, Int.reducePow, if_pos, if_neg, t1, q4] <;> rfl))) | ((with_reducible first | apply SC.condB | apply SC.region | apply SO.run | apply DO.run); (focus (simp (disch := omega) only [go_sem, ↓reduceIte, Nat.reduceEqDiff, reduceCtorEq, if_pos, if_neg, t1, q4] <;> rfl)); (first | refine pickT ?_ | refine pickF ?_ | fail_if_success with_reducible refine pickA ?_)) | ((with_reducible refine SC.draw Tab.mixed ?_ ?_); (focus (first | rfl | simp (disch := omega) only [go_sem, ↓reduceIte, Nat.reduceEqDiff, Nat.reduceLT, Nat.reduceLeDiff, Nat.reduceAdd, Nat.reduceMul, Nat.reduceSub, reduceCtorEq, Nat.reduceBEq, Int.reduceToNat, Int.reducePow, if_pos, if_neg, t1, q4]))) | (with_reducible apply SC.ops)))
          refine SC.loop (fun _ : Unit => ⟨[(1, .pt 0 0), (4, .sl o 0 n 1 none), (5, .sc (.int .u64 d2)), (28, .sc (.int .i64 n)), (29, .sc (.int .i64 k)), (87, .sc (.int .i64 (0 : Nat))), (88, .sc (.int .i64 0))], (0, ⟨29, [.sc (.int .u64 p), .sc (.int .i64 n), .im (imR n (nR M0)) n], false⟩) :: (o, ⟨44, slR 1 n ids1, false⟩) :: rowsH 26 ids1 (nR M1), nx, 115⟩) (fun _ => True) (fun _ => 0) () ?_ trivial ?_
          · (refine Le.slots ?_ ?_ ?_ <;> (repeat' (first | (exact fun _ _ h => h) | exact Nat.le_refl _ | exact leSl_nil | refine leSl_cons (by simp (disch := omega) only [go_sem, ↓reduceIte, Nat.reduceEqDiff] <;> rfl) ?_ ?_ | exact VLe.junk _ | exact VLe.refl rfl | exact VLe.nil_sl _ _ _ | exact VLe.int (by first | rfl | omega | (dsimp only; omega)) | exact VLe.bool rfl | exact VLe.sl rfl (by first | rfl | omega) | exact VLe.cap rfl (by first | rfl | omega) | exact VLe.im rfl rfl | omega | (refine fun id k h => ?_; simp only [hget] at h ⊢; (repeat' (split at h)) <;> first | (cases h; done) | (simp (disch := omega) only [if_pos, if_neg]; exact h)))))
          · intro _ _ K3 hK3
            (repeat (first | (first | refine DO.nilC (by kernel_rfl) ?_ | refine DO.nil (by kernel_rfl) ?_) | (with_reducible first | apply oz1 | apply oz2 | apply oz3 | apply oz4 | apply oz5 | apply oz6 | apply oz7 | apply oz8 | apply oz9 | apply ozb | apply ozc | apply oze | apply ozf | apply ozg | apply ozh | apply ozi | apply ozj | apply ozk | refine ozd (by decide) ?_) | ((first | apply SO.call | apply DO.call); (iterate 3 (focus (simp (disch := omega) only [go_sem, ↓reduceIte, Nat.reduceEqDiff, Nat.reduceLT, Nat.reduceLeDiff, Nat.reduceAdd, Nat.reduceMul, Nat.reduceSub, reduceCtorEq, Nat.reduceBEq, Int.reduceToNat, Int.reducePow, if_pos, if_neg, q6] <;> rfl))); (first | apply SCall.ofX | apply DCall.ofX); (focus (first | assumption)); (focus (simp (disch := omega) only [go_sem, ↓reduceIte, Nat.reduceEqDiff, Nat.reduceLT, Nat.reduceLeDiff, Nat.reduceAdd, Nat.reduceMul, Nat.reduceSub, reduceCtorEq, Nat.reduceBEq, Int.reduceToNat, Int.reducePow, if_pos, if_neg, q6] <;> rfl))) | ((with_reducible first | apply SC.condB | apply SC.region | apply SO.run | apply DO.run); (focus (simp (disch := omega) only [go_sem, ↓reduceIte, Nat.reduceEqDiff, q6] <;> rfl)); (first | refine pickT ?_ | refine pickF ?_ | fail_if_success with_reducible refine pickA ?_)) | ((with_reducible refine SC.draw Tab.mixed ?_ ?_); (focus (first | rfl | simp (disch := omega) only [go_sem, ↓reduceIte, Nat.reduceEqDiff, Nat.reduceLT, Nat.reduceLeDiff, Nat.reduceAdd, Nat.reduceMul, Nat.reduceSub, reduceCtorEq, Nat.reduceBEq, Int.reduceToNat, Int.reducePow, if_pos, if_neg, q6]))) | (with_reducible apply SC.ops)))
            refine hK _ (k + 1, M1, ids1, d2) ?_ ⟨by simp only; omega, hM1, hI1, hd2, ?_⟩ (by simp only; omega)
            · (refine Le.slots ?_ ?_ ?_ <;> (repeat' (first | (exact fun _ _ h => h) | exact Nat.le_refl _ | exact leSl_nil | refine leSl_cons (by simp (disch := omega) only [go_sem, ↓reduceIte, Nat.reduceEqDiff] <;> rfl) ?_ ?_ | exact VLe.junk _ | exact VLe.refl rfl | exact VLe.nil_sl _ _ _ | exact VLe.int (by first | rfl | omega | (dsimp only; omega)) | exact VLe.bool rfl | exact VLe.sl rfl (by first | rfl | omega) | exact VLe.cap rfl (by first | rfl | omega) | exact VLe.im rfl rfl | omega | (refine fun id k h => ?_; simp only [hget] at h ⊢; (repeat' (split at h)) <;> first | (cases h; done) | (simp (disch := omega) only [if_pos, if_neg]; exact h)))))
            · rw [← hE, hkn2, downTo_zero]
    · have q1 := decide_eq_false (p := (k : Int) < (n : Int)) (by omega)
      have : k = n := by omega
      subst this
      rw [Nat.sub_self, detGo] at hE
      (repeat (first | (first | refine DO.nilC (by kernel_rfl) ?_ | refine DO.nil (by kernel_rfl) ?_) | (with_reducible first | apply oz1 | apply oz2 | apply oz3 | apply oz4 | apply oz5 | apply oz6 | apply oz7 | apply oz8 | apply oz9 | apply ozb | apply ozc | apply oze | apply ozf | apply ozg | apply ozh | apply ozi | apply ozj | apply ozk | refine ozd (by decide) ?_) | ((first | apply SO.call | apply DO.call); (iterate 3 (focus (simp (disch := omega) only [go_sem, ↓reduceIte, Nat.reduceEqDiff, Nat.reduceLT, Nat.reduceLeDiff, Nat.reduceAdd, Nat.reduceMul, Nat.reduceSub, reduceCtorEq, Nat.reduceBEq, Int.reduceToNat, Int.reducePow, if_pos, if_neg, q1] <;> rfl))); (first | apply SCall.ofX | apply DCall.ofX); (focus (first | assumption)); (focus (simp (disch := omega) only [go_sem, ↓reduceIte, Nat.reduceEqDiff, Nat.reduceLT, Nat.reduceLeDiff, Nat.reduceAdd, Nat.reduceMul, Nat.reduceSub, reduceCtorEq, Nat.reduceBEq, Int.reduceToNat, Int.reducePow, if_pos, if_neg, q1] <;> rfl))) | ((with_reducible first | apply SC.condB | apply SC.region | apply SO.run | apply DO.run); (focus (simp (disch := omega) only [go_sem, ↓reduceIte, Nat.reduceEqDiff, Nat.reduceLT, q1] <;> rfl)); (first | refine pickT ?_ | refine pickF ?_ | fail_if_success with_reducible refine pickA ?_)) | ((with_reducible refine SC.draw Tab.mixed ?_ ?_); (focus (first | rfl | simp (disch := omega) only [go_sem, ↓reduceIte, Nat.reduceEqDiff, Nat.reduceLT, Nat.reduceLeDiff, Nat.reduceAdd, Nat.reduceMul, Nat.reduceSub, reduceCtorEq, Nat.reduceBEq, Int.reduceToNat, Int.reducePow, if_pos, if_neg, q1]))) | (with_reducible apply SC.ops)))
      exact retQ_ret Try.results16 (by simp (disch := omega) only [go_sem, ↓reduceIte, Nat.reduceEqDiff] <;> rfl) (by simp (disch := omega) only [go_sem, ↓reduceIte] <;> rfl) (by rw [hE])
end Go.Proofs.Ytpbomhmflllemaa

/- sanity of the law's package. -/
namespace Go.Proofs.Ytpbomhmflllemaa
open Go.RowKit

def sanK2 (f : Nat) (ys : List V) : Option V :=
  match ys with
  | [x] => if f = 16 then (unMd x).bind fun q => if q.2.length = 2 then some (.tu [.sc (.int .u64 (detL 5 q.2)), .sc (.int .i64 0)]) else none else sanK f [x]
  | ys => sanK f ys
theorem sanK2_s (h5 : Pr 5) : KSound Try.prog sanK2 := by
  intro f ys x h
  unfold sanK2 at h
  split at h
  · rename_i x'
    split at h
    · rename_i e
      subst e
      cases hx : unMd x' with
      | none => rw [hx] at h; cases h
      | some q =>
        obtain ⟨w, M⟩ := q
        obtain ⟨rfl, rfl, hM, hl⟩ := unMd_s hx
        rw [hx] at h
        simp only [Option.bind_some] at h
        split at h
        · rename_i hl2
          cases h
          rw [hl2] at hM
          exact det_s prime5 h5 (by omega) hM (by omega)
        · cases h
    · exact sanK_s h5 _ _ _ h
  · exact sanK_s h5 _ _ _ h
theorem sanity_s (h5 : Pr 5) : Spec Try.prog 11 [] (.sc (.bool true)) := Spec.eval (sanK2_s h5) 200 (fun f => f == 13) (by kernel_rfl)
end Go.Proofs.Ytpbomhmflllemaa

/- The reference: Rref. -/
namespace Go.Proofs.Ytpbomhmflllemaa
open Go.RowKit

theorem imR_set {w k : Nat} {M : List (List Nat)} {r : List Nat} : (imR w (nR M)).set k (V.im (nv r) w) = imR w (nR (M.set k r)) := by simp [imR, nR, List.map_set]
theorem elimGo_full {p : Nat} : ∀ (t c : Nat) (M : List (List Nat)) (pv : List Nat), M.length ≤ pv.length → elimGo p t c M pv = (M, pv)
  | 0, _, _, _, _ => rfl
  | t + 1, c, M, pv, h => by rw [elimGo, if_neg (by omega)]

set_option maxHeartbeats 8000000 in
set_option maxRecDepth 8000 in
theorem rrref_s {p n w : Nat} {M0 : List (List Nat)} (hp : Pr p) (hp2 : p ≤ 2147483647) (hM0 : MV p n w M0) (hn : n ≤ 1000000) (hw : w ≤ 1000000) :
    Spec Try.prog 15 [md p w M0] (.tu [md p w (rrefL p w M0).1, .im (wv (rrefL p w M0).2) (rrefL p w M0).2.length]) := by
  have hp1 := hp.1
  have cq := rcopied_q hM0 hn hw
  have hl0 := hM0.1
  unfold md mv at *
  rw [hl0] at cq ⊢
  refine Spec.run Try.func15 rfl Try.ntmps15 (by simp) (by simp (disch := omega) only [go_sem]; rfl) fun B hB => ?_
  (repeat (first | refine DO.nil (by kernel_rfl) ?_ | (with_reducible first | apply oz1 | apply oz2 | apply oz3 | apply oz4 | apply oz5 | apply oz6 | apply oz7 | apply oz8 | apply oz9 | apply ozb | apply ozc | apply oze | apply ozf | apply ozg | apply ozh | apply ozi | apply ozj | apply ozk | refine ozd (by decide) ?_) | ((first | apply SO.call | apply DO.call); (iterate 3 (focus (simp (disch := omega) only [go_sem, ↓reduceIte] <;> rfl))); (first | apply SCall.ofX | apply DCall.ofX); (focus (first | assumption)); (focus (simp (disch := omega) only [go_sem, ↓reduceIte, Nat.reduceEqDiff, Nat.reduceLT, Nat.reduceLeDiff, Nat.reduceAdd, Nat.reduceMul, Nat.reduceSub, reduceCtorEq, Nat.reduceBEq, Int.reduceToNat, Int.reducePow, if_pos, if_neg] <;> rfl))) | ((with_reducible first | apply SC.condB | apply SC.region | apply SO.run | apply DO.run); (focus (simp (disch := omega) only [go_sem, ↓reduceIte, Nat.reduceEqDiff, Nat.reduceLeDiff, Nat.reduceAdd, reduceCtorEq] <;> rfl)); (first | refine pickT ?_ | refine pickF ?_ | fail_if_success with_reducible refine pickA ?_)) | ((with_reducible refine SC.draw Tab.mixed ?_ ?_); (focus (first | rfl | simp (disch := omega) only [go_sem, ↓reduceIte, Nat.reduceEqDiff, Nat.reduceLT, Nat.reduceLeDiff, Nat.reduceAdd, Nat.reduceMul, Nat.reduceSub, reduceCtorEq, Nat.reduceBEq, Int.reduceToNat, Int.reducePow, if_pos, if_neg]))) | (with_reducible apply SC.ops)))
  refine SO.inlQ (by simp (disch := omega) only [go_sem] <;> rfl) Tab.go13 (by simp (disch := omega) only [go_sem, ↓reduceIte] <;> rfl) (by simp (disch := omega) only [go_sem] <;> rfl) (SInlQ.new cq.toQ ?_ ?_ ?_)
  · exact klc (by omega) (klc (by omega) kln)
  · rintro x hp' nx' ⟨rfl, rfl, rfl⟩
    exact ⟨modOnly (by omega), ⟨fun y hy => Only.clo (List.all_eq_true.1 (imR_clo w _) y hy), trivial⟩⟩
  · rintro x hp' nx' ⟨rfl, rfl, rfl⟩
    (repeat (first | refine DO.nil (by kernel_rfl) ?_ | (with_reducible first | apply oz1 | apply oz2 | apply oz3 | apply oz4 | apply oz5 | apply oz6 | apply oz7 | apply oz8 | apply oz9 | apply ozb | apply ozc | apply oze | apply ozf | apply ozg | apply ozh | apply ozi | apply ozj | apply ozk | refine ozd (by decide) ?_) | ((first | apply SO.call | apply DO.call); (iterate 3 (focus (simp (disch := omega) only [go_sem, ↓reduceIte, Nat.reduceEqDiff, Nat.reduceLT, Nat.reduceLeDiff, Nat.reduceAdd, Nat.reduceMul, Nat.reduceSub, reduceCtorEq, Nat.reduceBEq, Int.reduceToNat, Int.reducePow, if_pos, if_neg] <;> rfl))); (first | apply SCall.ofX | apply DCall.ofX); (focus (first | assumption)); (focus (simp (disch := omega) only [go_sem, ↓reduceIte, Nat.reduceEqDiff, Nat.reduceLT, Nat.reduceLeDiff, Nat.reduceAdd, Nat.reduceMul, Nat.reduceSub, reduceCtorEq, Nat.reduceBEq, Int.reduceToNat, Int.reducePow, if_pos, if_neg] <;> rfl))) | ((with_reducible first | apply SC.condB | apply SC.region | apply SO.run | apply DO.run); (focus (simp (disch := omega) only [go_sem, ↓reduceIte, Nat.reduceEqDiff, Nat.reduceLeDiff, Nat.reduceAdd] <;> rfl)); (first | refine pickT ?_ | refine pickF ?_ | fail_if_success with_reducible refine pickA ?_)) | ((with_reducible refine SC.draw Tab.mixed ?_ ?_); (focus (first | rfl | simp (disch := omega) only [go_sem, ↓reduceIte, Nat.reduceEqDiff, Nat.reduceLT, Nat.reduceLeDiff, Nat.reduceAdd, Nat.reduceMul, Nat.reduceSub, reduceCtorEq, Nat.reduceBEq, Int.reduceToNat, Int.reducePow, if_pos, if_neg]))) | (with_reducible apply SC.ops)))
    refine SC.loop (fun x : Nat × List (List Nat) × List Nat => ⟨[(1, .pt 0 0), (2, .pt 1 0), (4, .pt 7 0), (5, .sl 6 0 x.2.2.length 1 none), (6, .sc (.int .i64 x.1))], [(6, ⟨3, wv x.2.2, false⟩), (7, ⟨29, [.sc (.int .u64 p), .sc (.int .i64 w), .sl 5 0 n 1 none], false⟩), (5, ⟨44, imR w (nR x.2.1), false⟩), (1, ⟨29, [.sc (.int .u64 0), .sc (.int .i64 0), .sc (.slice none 0 0)], false⟩), (0, ⟨29, [.sc (.int .u64 p), .sc (.int .i64 w), .im (imR w (nR M0)) n], false⟩)], 8, 141⟩)
      (fun x => x.1 ≤ w ∧ MV p n w x.2.1 ∧ x.2.2.length ≤ n ∧ elimGo p (w - x.1) x.1 x.2.1 x.2.2 = elimL p w M0) (fun x => w - x.1) (0, M0, []) ?_ ?_ ?_
    · (refine Le.slots ?_ ?_ ?_ <;> (repeat' (first | (exact fun _ _ h => h) | exact Nat.le_refl _ | exact leSl_nil | refine leSl_cons (by simp (disch := omega) only [go_sem, ↓reduceIte, Nat.reduceEqDiff] <;> rfl) ?_ ?_ | exact VLe.junk _ | exact VLe.refl rfl | exact VLe.nil_sl _ _ _ | exact VLe.int (by first | rfl | omega | (dsimp only; omega)) | exact VLe.bool rfl | exact VLe.sl rfl (by first | rfl | omega) | exact VLe.cap rfl (by first | rfl | omega) | exact VLe.im rfl rfl | omega | (refine fun id k h => ?_; simp only [hget] at h ⊢; (repeat' (split at h)) <;> first | (cases h; done) | (simp (disch := omega) only [if_pos, if_neg]; exact h)))))
    · exact ⟨Nat.zero_le _, hM0, Nat.zero_le _, rfl⟩
    · rintro ⟨c, M, pv⟩ ⟨hcc, hM, hk, hE⟩ K hK
      simp only at hcc hM hk hE ⊢
      have hl := hM.1
      have gl := imR_len w M
      by_cases hcw : c < w
      · have q1 := decide_eq_true (p := (c : Int) < (w : Int)) (by omega)
        (repeat (first | refine DO.nil (by kernel_rfl) ?_ | (with_reducible first | apply oz1 | apply oz2 | apply oz3 | apply oz4 | apply oz5 | apply oz6 | apply oz7 | apply oz8 | apply oz9 | apply ozb | apply ozc | apply oze | apply ozf | apply ozg | apply ozh | apply ozi | apply ozj | apply ozk | refine ozd (by decide) ?_) | ((first | apply SO.call | apply DO.call); (iterate 3 (focus (simp (disch := omega) only [go_sem, ↓reduceIte, Nat.reduceEqDiff, Nat.reduceLT, Nat.reduceLeDiff, Nat.reduceAdd, Nat.reduceMul, Nat.reduceSub, reduceCtorEq, Nat.reduceBEq, Int.reduceToNat, Int.reducePow, if_pos, if_neg, q1] <;> rfl))); (first | apply SCall.ofX | apply DCall.ofX); (focus (first | assumption)); (focus (simp (disch := omega) only [go_sem, ↓reduceIte, Nat.reduceEqDiff, Nat.reduceLT, Nat.reduceLeDiff, Nat.reduceAdd, Nat.reduceMul, Nat.reduceSub, reduceCtorEq, Nat.reduceBEq, Int.reduceToNat, Int.reducePow, if_pos, if_neg, q1] <;> rfl))) | ((with_reducible first | apply SC.condB | apply SC.region | apply SO.run | apply DO.run); (focus (simp (disch := omega) only [go_sem, ↓reduceIte, Nat.reduceEqDiff, reduceCtorEq, q1] <;> rfl)); (first | refine pickT ?_ | refine pickF ?_ | fail_if_success with_reducible refine pickA ?_)) | ((with_reducible refine SC.draw Tab.mixed ?_ ?_); (focus (first | rfl | simp (disch := omega) only [go_sem, ↓reduceIte, Nat.reduceEqDiff, Nat.reduceLT, Nat.reduceLeDiff, Nat.reduceAdd, Nat.reduceMul, Nat.reduceSub, reduceCtorEq, Nat.reduceBEq, Int.reduceToNat, Int.reducePow, if_pos, if_neg, q1]))) | (with_reducible apply SC.ops)))
        refine SC.loop (fun t : Nat => ⟨[(1, .pt 0 0), (2, .pt 1 0), (4, .pt 7 0), (5, .sl 6 0 pv.length 1 none), (6, .sc (.int .i64 c)), (7, .sc (.int .i64 pv.length)), (8, .sc (.int .i64 t))], [(6, ⟨3, wv pv, false⟩), (7, ⟨29, [.sc (.int .u64 p), .sc (.int .i64 w), .sl 5 0 n 1 none], false⟩), (5, ⟨44, imR w (nR M), false⟩), (1, ⟨29, [.sc (.int .u64 0), .sc (.int .i64 0), .sc (.slice none 0 0)], false⟩), (0, ⟨29, [.sc (.int .u64 p), .sc (.int .i64 w), .im (imR w (nR M0)) n], false⟩)], 8, 141⟩)
          (fun t => pv.length ≤ t ∧ t ≤ n ∧ ∀ j, pv.length ≤ j → j < t → ent M j c = 0) (fun t => n - t) pv.length ?_ ?_ ?_
        · (refine Le.slots ?_ ?_ ?_ <;> (repeat' (first | (exact fun _ _ h => h) | exact Nat.le_refl _ | exact leSl_nil | refine leSl_cons (by simp (disch := omega) only [go_sem, ↓reduceIte, Nat.reduceEqDiff] <;> rfl) ?_ ?_ | exact VLe.junk _ | exact VLe.refl rfl | exact VLe.nil_sl _ _ _ | exact VLe.int (by first | rfl | omega | (dsimp only; omega)) | exact VLe.bool rfl | exact VLe.sl rfl (by first | rfl | omega) | exact VLe.cap rfl (by first | rfl | omega) | exact VLe.im rfl rfl | omega | (refine fun id k h => ?_; simp only [hget] at h ⊢; (repeat' (split at h)) <;> first | (cases h; done) | (simp (disch := omega) only [if_pos, if_neg]; exact h)))))
        · exact ⟨Nat.le_refl _, hk, fun j h1 h2 => by omega⟩
        · rintro t ⟨ht1, ht2, hz⟩ K2 hK2
          by_cases htn : t < n
          · have q2 := decide_eq_true (p := (t : Int) < (n : Int)) (by omega)
            have gt := imR_get (w := w) (M := M) (i := t) (by omega)
            have hr := hM.get htn
            have g2 := nv_get (r := M.getD t []) (j := c) (by rw [hr.1]; exact hcw)
            have g3 := nv_len (M.getD t [])
            rw [hr.1] at g3
            have he : (M.getD t []).getD c 0 = ent M t c := rfl
            rw [he] at g2
            have hlt := hM.lt htn hcw
            by_cases h0 : ent M t c = 0
            · have q3 : (((ent M t c : Nat) : Int) == 0) = true := by rw [h0]; rfl
              (repeat (first | refine DO.nil (by kernel_rfl) ?_ | (with_reducible first | apply oz1 | apply oz2 | apply oz3 | apply oz4 | apply oz5 | apply oz6 | apply oz7 | apply oz8 | apply oz9 | apply ozb | apply ozc | apply oze | apply ozf | apply ozg | apply ozh | apply ozi | apply ozj | apply ozk | refine ozd (by decide) ?_) | ((first | apply SO.call | apply DO.call); (iterate 3 (focus (simp (disch := omega) only [go_sem, ↓reduceIte, Nat.reduceEqDiff, Nat.reduceLT, Nat.reduceLeDiff, Nat.reduceAdd, Nat.reduceMul, Nat.reduceSub, reduceCtorEq, Nat.reduceBEq, Int.reduceToNat, Int.reducePow, if_pos, if_neg, q2, q3, gt, g2, g3, gl, hl, List.getElem?_drop] <;> rfl))); (first | apply SCall.ofX | apply DCall.ofX); (focus (first | assumption)); (focus (simp (disch := omega) only [go_sem, ↓reduceIte, Nat.reduceEqDiff, Nat.reduceLT, Nat.reduceLeDiff, Nat.reduceAdd, Nat.reduceMul, Nat.reduceSub, reduceCtorEq, Nat.reduceBEq, Int.reduceToNat, Int.reducePow, if_pos, if_neg, q2, q3, gt, g2, g3, gl, hl, List.getElem?_drop] <;> rfl))) | ((with_reducible first | apply SC.condB | apply SC.region | apply SO.run | apply DO.run); (focus (simp (disch := omega) only [go_sem, ↓reduceIte, Nat.reduceEqDiff, reduceCtorEq, if_pos, q2, q3, gt, g2, g3, List.getElem?_drop] <;> rfl)); (first | refine pickT ?_ | refine pickF ?_ | fail_if_success with_reducible refine pickA ?_)) | ((with_reducible refine SC.draw Tab.mixed ?_ ?_); (focus (first | rfl | simp (disch := omega) only [go_sem, ↓reduceIte, Nat.reduceEqDiff, Nat.reduceLT, Nat.reduceLeDiff, Nat.reduceAdd, Nat.reduceMul, Nat.reduceSub, reduceCtorEq, Nat.reduceBEq, Int.reduceToNat, Int.reducePow, if_pos, if_neg, q2, q3, gt, g2, g3, gl, hl, List.getElem?_drop]))) | (with_reducible apply SC.ops)))
              refine hK2 _ (t + 1) ?_ ⟨by omega, by omega, fun j h1 h2 => ?_⟩ (by omega)
              · (refine Le.slots ?_ ?_ ?_ <;> (repeat' (first | (exact fun _ _ h => h) | exact Nat.le_refl _ | exact leSl_nil | refine leSl_cons (by simp (disch := omega) only [go_sem, ↓reduceIte, Nat.reduceEqDiff] <;> rfl) ?_ ?_ | exact VLe.junk _ | exact VLe.refl rfl | exact VLe.nil_sl _ _ _ | exact VLe.int (by first | rfl | omega | (dsimp only; omega)) | exact VLe.bool rfl | exact VLe.sl rfl (by first | rfl | omega) | exact VLe.cap rfl (by first | rfl | omega) | exact VLe.im rfl rfl | omega | (refine fun id k h => ?_; simp only [hget] at h ⊢; (repeat' (split at h)) <;> first | (cases h; done) | (simp (disch := omega) only [if_pos, if_neg]; exact h)))))
              · rcases Nat.lt_or_ge j t with g | g
                · exact hz j h1 g
                · rw [show j = t by omega]; exact h0
            · have q3 : (((ent M t c : Nat) : Int) == 0) = false := by rw [beq_eq_false_iff_ne]; omega
              have hs : searchL M c (n - pv.length) pv.length = some t := searchL_eq ht1 (by omega) h0 hz
              rw [show w - c = (w - (c + 1)) + 1 by omega, elimGo, if_pos (by omega), hl, hs] at hE
              simp only at hE
              have q4 : ((t : Int) == (n : Int)) = false := by rw [beq_eq_false_iff_ne]; omega
              have hkn : pv.length < n := by omega
              have gk := imR_get (w := w) (M := M) (i := pv.length) (by omega)
              have hM1 := swapL_mv hM hkn htn
              have eM1 : (swapL M pv.length t).getD pv.length [] = M.getD t [] := by
                rw [swapL_get (by omega) (by omega)]
                by_cases e : pv.length = t
                · rw [if_pos e, e]
                · rw [if_neg e, if_pos rfl]
              have hsw : (M.set pv.length (M.getD t [])).set t (M.getD pv.length []) = swapL M pv.length t := rfl
              have gl1 := imR_len w (M.set pv.length (M.getD t []))
              rw [List.length_set] at gl1
              have gk1 := imR_get (w := w) (M := swapL M pv.length t) (i := pv.length) (by rw [hM1.1]; exact hkn)
              rw [eM1] at gk1
              have gl2 := imR_len w (swapL M pv.length t)
              rw [hM1.1] at gl2
              have c2 := rOver_s p (ent M t c) (by omega) (by omega) hlt h0
              have hb := Nat.mod_lt (ent M t c ^ (p - 2)) (y := p) (by omega)
              have c3 := times_s (p := p) (c := ent M t c ^ (p - 2) % p) (by omega) (by omega) hb hr hw
              have hpr : pivRow p c (M.getD t []) = scaleL p (ent M t c ^ (p - 2) % p) (M.getD t []) := rfl
              have hrw := pivRow_rw (p := p) (c := c) (by omega) hr.1
              have hst : stepL p M pv.length t c = clearTo p pv.length c n (pivRow p c (M.getD t [])) ((swapL M pv.length t).set pv.length (pivRow p c (M.getD t []))) := by unfold stepL; rw [hl]
              rw [hst] at hE
              rw [hpr] at hE hrw
              (repeat (first | refine DO.nil (by kernel_rfl) ?_ | (with_reducible first | apply oz1 | apply oz2 | apply oz3 | apply oz4 | apply oz5 | apply oz6 | apply oz7 | apply oz8 | apply oz9 | apply ozb | apply ozc | apply oze | apply ozf | apply ozg | apply ozh | apply ozi | apply ozj | apply ozk | refine ozd (by decide) ?_) | ((first | apply SO.call | apply DO.call); (iterate 3 (focus (simp (disch := omega) only [go_sem, ↓reduceIte, Nat.reduceEqDiff] <;> rfl))); (first | apply SCall.ofX | apply DCall.ofX); (focus (first | assumption)); (focus (simp (disch := omega) only [go_sem] <;> rfl))) | ((with_reducible first | apply SC.condB | apply SC.region | apply SO.run | apply DO.run); (focus (simp (disch := omega) only [go_sem, ↓reduceIte, Nat.reduceEqDiff, reduceCtorEq, if_pos, q2, q3, q4, gt, gk, g2, g3, gl, gl1, hl, imR_set, hsw, gk1, gl2, List.getElem?_drop] <;> rfl)); (first | refine pickT ?_ | refine pickF ?_ | fail_if_success with_reducible refine pickA ?_)) | ((with_reducible refine SC.draw Tab.mixed ?_ ?_); (focus (first | rfl | simp (disch := omega) only [go_sem, ↓reduceIte, Nat.reduceEqDiff, Nat.reduceLT, Nat.reduceLeDiff, Nat.reduceAdd, Nat.reduceMul, Nat.reduceSub, reduceCtorEq, Nat.reduceBEq, Int.reduceToNat, Int.reducePow, if_pos, if_neg, q2, q3, q4, gt, gk, g2, g3, gl, gl1, hl, imR_set, hsw, gk1, gl2, List.getElem?_drop]))) | (with_reducible apply SC.ops)))
              have hM2 := hM1.set (i := pv.length) hrw
              have eM2 : ((swapL M pv.length t).set pv.length (scaleL p (ent M t c ^ (p - 2) % p) (M.getD t []))).getD pv.length [] = scaleL p (ent M t c ^ (p - 2) % p) (M.getD t []) := by rw [getD_set (by rw [hM1.1]; exact hkn), if_pos rfl]
              clear gk1 gt gk gl2 g2 g3 he hz c2 c3 hpr q3
              generalize hM2e : (swapL M pv.length t).set pv.length (scaleL p (ent M t c ^ (p - 2) % p) (M.getD t [])) = M2 at *
              generalize scaleL p (ent M t c ^ (p - 2) % p) (M.getD t []) = rk at *
              have hl2 := hM2.1
              refine SC.loop (fun h : Nat => ⟨[(1, .pt 0 0), (2, .pt 1 0), (4, .pt 7 0), (5, .sl 6 0 pv.length 1 none), (6, .sc (.int .i64 c)), (7, .sc (.int .i64 pv.length)), (9, .sc (.int .i64 h))], [(6, ⟨3, wv pv, false⟩), (7, ⟨29, [.sc (.int .u64 p), .sc (.int .i64 w), .sl 5 0 n 1 none], false⟩), (5, ⟨44, imR w (nR (clearTo p pv.length c h rk M2)), false⟩), (1, ⟨29, [.sc (.int .u64 0), .sc (.int .i64 0), .sc (.slice none 0 0)], false⟩), (0, ⟨29, [.sc (.int .u64 p), .sc (.int .i64 w), .im (imR w (nR M0)) n], false⟩)], 8, 141⟩)
                (fun h => h ≤ n) (fun h => n - h) 0 ?_ ?_ ?_
              · rw [clearTo_zero]
                (refine Le.slots ?_ ?_ ?_ <;> (repeat' (first | (exact fun _ _ h => h) | exact Nat.le_refl _ | exact leSl_nil | refine leSl_cons (by simp (disch := omega) only [go_sem, ↓reduceIte, Nat.reduceEqDiff] <;> rfl) ?_ ?_ | exact VLe.junk _ | exact VLe.refl rfl | exact VLe.nil_sl _ _ _ | exact VLe.int (by first | rfl | omega | (dsimp only; omega)) | exact VLe.bool rfl | exact VLe.sl rfl (by first | rfl | omega) | exact VLe.cap rfl (by first | rfl | omega) | exact VLe.im rfl rfl | omega | (refine fun id k h => ?_; simp only [hget] at h ⊢; (repeat' (split at h)) <;> first | (cases h; done) | (simp (disch := omega) only [if_pos, if_neg]; exact h)))))
              · exact Nat.zero_le _
              · intro h hh K3 hK3
                have hM3 := clearTo_mv (k := pv.length) (c := c) (h := h) (by omega) hM2 hrw.1
                have hl3 := hM3.1
                have gl3 := imR_len w (clearTo p pv.length c h rk M2)
                by_cases hhn : h < n
                · have q5 := decide_eq_true (p := (h : Int) < (n : Int)) (by omega)
                  by_cases hhk : h = pv.length
                  · have q6 : ((h : Int) != (pv.length : Int)) = false := by rw [hhk]; simp
                    (repeat (first | refine DO.nil (by kernel_rfl) ?_ | (with_reducible first | apply oz1 | apply oz2 | apply oz3 | apply oz4 | apply oz5 | apply oz6 | apply oz7 | apply oz8 | apply oz9 | apply ozb | apply ozc | apply oze | apply ozf | apply ozg | apply ozh | apply ozi | apply ozj | apply ozk | refine ozd (by decide) ?_) | ((first | apply SO.call | apply DO.call); (iterate 3 (focus (simp (disch := omega) only [go_sem, ↓reduceIte, Nat.reduceEqDiff, Nat.reduceLT, Nat.reduceLeDiff, Nat.reduceAdd, Nat.reduceMul, Nat.reduceSub, reduceCtorEq, Nat.reduceBEq, Int.reduceToNat, Int.reducePow, if_pos, if_neg, q5, q6] <;> rfl))); (first | apply SCall.ofX | apply DCall.ofX); (focus (first | assumption)); (focus (simp (disch := omega) only [go_sem, ↓reduceIte, Nat.reduceEqDiff, Nat.reduceLT, Nat.reduceLeDiff, Nat.reduceAdd, Nat.reduceMul, Nat.reduceSub, reduceCtorEq, Nat.reduceBEq, Int.reduceToNat, Int.reducePow, if_pos, if_neg, q5, q6] <;> rfl))) | ((with_reducible first | apply SC.condB | apply SC.region | apply SO.run | apply DO.run); (focus (simp (disch := omega) only [go_sem, ↓reduceIte, Nat.reduceEqDiff, reduceCtorEq, q5, q6] <;> rfl)); (first | refine pickT ?_ | refine pickF ?_ | fail_if_success with_reducible refine pickA ?_)) | ((with_reducible refine SC.draw Tab.mixed ?_ ?_); (focus (first | rfl | simp (disch := omega) only [go_sem, ↓reduceIte, Nat.reduceEqDiff, Nat.reduceLT, Nat.reduceLeDiff, Nat.reduceAdd, Nat.reduceMul, Nat.reduceSub, reduceCtorEq, Nat.reduceBEq, Int.reduceToNat, Int.reducePow, if_pos, if_neg, q5, q6]))) | (with_reducible apply SC.ops)))
                    refine hK3 _ (h + 1) ?_ (by omega) (by omega)
                    rw [clearTo_same hhk]
                    (refine Le.slots ?_ ?_ ?_ <;> (repeat' (first | (exact fun _ _ h => h) | exact Nat.le_refl _ | exact leSl_nil | refine leSl_cons (by simp (disch := omega) only [go_sem, ↓reduceIte, Nat.reduceEqDiff] <;> rfl) ?_ ?_ | exact VLe.junk _ | exact VLe.refl rfl | exact VLe.nil_sl _ _ _ | exact VLe.int (by first | rfl | omega | (dsimp only; omega)) | exact VLe.bool rfl | exact VLe.sl rfl (by first | rfl | omega) | exact VLe.cap rfl (by first | rfl | omega) | exact VLe.im rfl rfl | omega | (refine fun id k h => ?_; simp only [hget] at h ⊢; (repeat' (split at h)) <;> first | (cases h; done) | (simp (disch := omega) only [if_pos, if_neg]; exact h)))))
                  · have q6 : ((h : Int) != (pv.length : Int)) = true := by rw [bne_iff_ne]; omega
                    have gh := imR_get (w := w) (M := clearTo p pv.length c h rk M2) (i := h) (by omega)
                    have gk := imR_get (w := w) (M := clearTo p pv.length c h rk M2) (i := pv.length) (by omega)
                    rw [clearTo_get (by omega), if_pos (.inr (Nat.le_refl _))] at gh
                    rw [clearTo_get (by omega), if_pos (.inl rfl), eM2] at gk
                    have hrh := hM2.get hhn
                    have hset := clearTo_set (p := p) (k := pv.length) (c := c) (rk := rk) (M := M2) hhk (by omega)
                    have glh := nv_len (M2.getD h [])
                    rw [hrh.1] at glh
                    have gxh := nv_get (r := M2.getD h []) (j := c) (by rw [hrh.1]; omega)
                    have xhl := hrh.lt (j := c) (by omega)
                    have c4 := rSub0_s p ((M2.getD h []).getD c 0) (by omega) (by omega) xhl
                    have hzl := Nat.mod_lt (0 + p - (M2.getD h []).getD c 0) (y := p) (by omega)
                    have c5 := plus_s (p := p) (by omega) (by omega) hzl hrh hrw hw
                    rw [hl3] at gl3
                    generalize hM3e : clearTo p pv.length c h rk M2 = M3 at *
                    generalize (0 + p - (M2.getD h []).getD c 0) % p = zz at *
                    generalize (M2.getD h []).getD c 0 = xh at *
                    generalize M2.getD h [] = rh at *
                    generalize addRw p rh rk zz = ra at *
                    (repeat (first | refine DO.nil (by kernel_rfl) ?_ | (with_reducible first | apply oz1 | apply oz2 | apply oz3 | apply oz4 | apply oz5 | apply oz6 | apply oz7 | apply oz8 | apply oz9 | apply ozb | apply ozc | apply oze | apply ozf | apply ozg | apply ozh | apply ozi | apply ozj | apply ozk | refine ozd (by decide) ?_) | ((first | apply SO.call | apply DO.call); (iterate 3 (focus (simp (disch := omega) only [go_sem, ↓reduceIte, Nat.reduceEqDiff] <;> rfl))); (first | apply SCall.ofX | apply DCall.ofX); (focus (first | assumption)); (focus (simp (disch := omega) only [go_sem] <;> rfl))) | ((with_reducible first | apply SC.condB | apply SC.region | apply SO.run | apply DO.run); (focus (simp (disch := omega) only [go_sem, ↓reduceIte, Nat.reduceEqDiff, Nat.reduceLeDiff, Nat.reduceAdd, reduceCtorEq, if_pos, q5, q6, gh, gk, gl3, glh, gxh, imR_set, hset, List.getElem?_drop] <;> rfl)); (first | refine pickT ?_ | refine pickF ?_ | fail_if_success with_reducible refine pickA ?_)) | ((with_reducible refine SC.draw Tab.mixed ?_ ?_); (focus (first | rfl | simp (disch := omega) only [go_sem, ↓reduceIte, Nat.reduceEqDiff, Nat.reduceLT, Nat.reduceLeDiff, Nat.reduceAdd, Nat.reduceMul, Nat.reduceSub, reduceCtorEq, Nat.reduceBEq, Int.reduceToNat, Int.reducePow, if_pos, if_neg, q5, q6, gh, gk, gl3, glh, gxh, imR_set, hset, List.getElem?_drop]))) | (with_reducible apply SC.ops)))
                    refine hK3 _ (h + 1) ?_ (by omega) (by omega)
                    (refine Le.slots ?_ ?_ ?_ <;> (repeat' (first | (exact fun _ _ h => h) | exact Nat.le_refl _ | exact leSl_nil | refine leSl_cons (by simp (disch := omega) only [go_sem, ↓reduceIte, Nat.reduceEqDiff] <;> rfl) ?_ ?_ | exact VLe.junk _ | exact VLe.refl rfl | exact VLe.nil_sl _ _ _ | exact VLe.int (by first | rfl | omega | (dsimp only; omega)) | exact VLe.bool rfl | exact VLe.sl rfl (by first | rfl | omega) | exact VLe.cap rfl (by first | rfl | omega) | exact VLe.im rfl rfl | omega | (refine fun id k h => ?_; simp only [hget] at h ⊢; (repeat' (split at h)) <;> first | (cases h; done) | (simp (disch := omega) only [if_pos, if_neg]; exact h)))))
                · have q5 := decide_eq_false (p := (h : Int) < (n : Int)) (by omega)
                  have hhn' : h = n := by omega
                  rw [hhn'] at hM3 q5 ⊢
                  have t1 := wv_len pv
                  have t2 := wv_one pv
                  have t3 : (wv pv).take pv.length = wv pv := List.take_of_length_le (by rw [t1]; exact Nat.le_refl _)
                  have t4 := wv_snoc pv c
                  generalize hMM : clearTo p pv.length c n rk M2 = M3 at *
                  (repeat (first | refine DO.nil (by kernel_rfl) ?_ | (with_reducible first | apply oz1 | apply oz2 | apply oz3 | apply oz4 | apply oz5 | apply oz6 | apply oz7 | apply oz8 | apply oz9 | apply ozb | apply ozc | apply oze | apply ozf | apply ozg | apply ozh | apply ozi | apply ozj | apply ozk | refine ozd (by decide) ?_) | ((first | apply SO.call | apply DO.call); (iterate 3 (focus (simp (disch := omega) only [go_sem, ↓reduceIte, Nat.reduceEqDiff, Nat.reduceLT, Nat.reduceLeDiff, Nat.reduceAdd, Nat.reduceMul, Nat.reduceSub, reduceCtorEq, Nat.reduceBEq, Int.reduceToNat, Int.reducePow, if_pos, if_neg, q5, t1, t2, t3, t4] <;> rfl))); (first | apply SCall.ofX | apply DCall.ofX); (focus (first | assumption)); (focus (simp (disch := omega) only [go_sem, ↓reduceIte, Nat.reduceEqDiff, Nat.reduceLT, Nat.reduceLeDiff, Nat.reduceAdd, Nat.reduceMul, Nat.reduceSub, reduceCtorEq, Nat.reduceBEq, Int.reduceToNat, Int.reducePow, if_pos, if_neg, q5, t1, t2, t3, t4] <;> rfl))) | ((with_reducible first | apply SC.condB | apply SC.region | apply SO.run | apply DO.run); (focus (simp (disch := omega) only [go_sem, ↓reduceIte, Nat.reduceEqDiff, Nat.reduceLeDiff, Nat.reduceAdd, reduceCtorEq, if_pos, q5, t1, t3, t4] <;> rfl)); (first | refine pickT ?_ | refine pickF ?_ | fail_if_success with_reducible refine pickA ?_)) | ((with_reducible refine SC.draw Tab.mixed ?_ ?_); (focus (first | rfl | simp (disch := omega) only [go_sem, ↓reduceIte, Nat.reduceEqDiff, Nat.reduceLT, Nat.reduceLeDiff, Nat.reduceAdd, Nat.reduceMul, Nat.reduceSub, reduceCtorEq, Nat.reduceBEq, Int.reduceToNat, Int.reducePow, if_pos, if_neg, q5, t1, t2, t3, t4]))) | (with_reducible apply SC.ops)))
                  refine hK _ (c + 1, M3, pv ++ [c]) ?_ ⟨by simp only; omega, hM3, by simp; omega, hE⟩ (by simp only; omega)
                  simp only [List.length_append, List.length_singleton]
                  refine Le.ren 6 9 hB (by omega) (by omega) (by omega) ?_ ?_
                  · (repeat' (first | exact trivial | refine mapSl_cons (by simp (disch := omega) only [go_sem, ↓reduceIte, Nat.reduceEqDiff] <;> rfl) ?_ ?_ | exact VMap.junk _ | exact VMap.sc _ | exact VMap.clo rfl | exact VMap.sl rfl (by omega) | exact VMap.cap rfl (by omega) | exact VMap.pt rfl (by omega) | exact VMap.nil_sl _ _ _ | exact VMap.int (by first | rfl | omega | (dsimp only; omega))))
                  · (repeat' (first | exact mapHp_nil | refine mapHp_cons (by simp (disch := omega) only [go_sem, ↓reduceIte, Nat.reduceEqDiff, reduceCtorEq] <;> rfl) ?_ ?_ | exact BMap.clo (by first | rfl | assumption | exact wv_clo _ | exact imR_clo _ _ | exact nv_clo _) | refine BMap.list ?_ | exact mapL_nil | refine mapL_cons ?_ ?_ | exact VMap.junk _ | exact VMap.sc _ | exact VMap.clo rfl | exact VMap.sl rfl (by omega) | exact VMap.cap rfl (by omega) | exact VMap.pt rfl (by omega) | exact VMap.nil_sl _ _ _ | exact VMap.int (by first | rfl | omega | (dsimp only; omega))))
          · have q2 := decide_eq_false (p := (t : Int) < (n : Int)) (by omega)
            have htn' : t = n := by omega
            have q4 : ((t : Int) == (n : Int)) = true := by rw [htn']; simp
            have hE' : elimGo p (w - (c + 1)) (c + 1) M pv = elimL p w M0 := by
              rw [show w - c = (w - (c + 1)) + 1 by omega, elimGo, hl] at hE
              by_cases hkn : pv.length < n
              · rw [if_pos hkn, searchL_none fun j h1 h2 => hz j h1 (by omega)] at hE
                exact hE
              · rw [if_neg hkn] at hE
                rw [elimGo_full _ _ _ _ (by omega), hE]
            (repeat (first | refine DO.nil (by kernel_rfl) ?_ | (with_reducible first | apply oz1 | apply oz2 | apply oz3 | apply oz4 | apply oz5 | apply oz6 | apply oz7 | apply oz8 | apply oz9 | apply ozb | apply ozc | apply oze | apply ozf | apply ozg | apply ozh | apply ozi | apply ozj | apply ozk | refine ozd (by decide) ?_) | ((first | apply SO.call | apply DO.call); (iterate 3 (focus (simp (disch := omega) only [go_sem, ↓reduceIte, Nat.reduceEqDiff, Nat.reduceLT, Nat.reduceLeDiff, Nat.reduceAdd, Nat.reduceMul, Nat.reduceSub, reduceCtorEq, Nat.reduceBEq, Int.reduceToNat, Int.reducePow, if_pos, if_neg, q2, q4] <;> rfl))); (first | apply SCall.ofX | apply DCall.ofX); (focus (first | assumption)); (focus (simp (disch := omega) only [go_sem, ↓reduceIte, Nat.reduceEqDiff, Nat.reduceLT, Nat.reduceLeDiff, Nat.reduceAdd, Nat.reduceMul, Nat.reduceSub, reduceCtorEq, Nat.reduceBEq, Int.reduceToNat, Int.reducePow, if_pos, if_neg, q2, q4] <;> rfl))) | ((with_reducible first | apply SC.condB | apply SC.region | apply SO.run | apply DO.run); (focus (simp (disch := omega) only [go_sem, ↓reduceIte, Nat.reduceEqDiff, reduceCtorEq, q2, q4] <;> rfl)); (first | refine pickT ?_ | refine pickF ?_ | fail_if_success with_reducible refine pickA ?_)) | ((with_reducible refine SC.draw Tab.mixed ?_ ?_); (focus (first | rfl | simp (disch := omega) only [go_sem, ↓reduceIte, Nat.reduceEqDiff, Nat.reduceLT, Nat.reduceLeDiff, Nat.reduceAdd, Nat.reduceMul, Nat.reduceSub, reduceCtorEq, Nat.reduceBEq, Int.reduceToNat, Int.reducePow, if_pos, if_neg, q2, q4]))) | (with_reducible apply SC.ops)))
            refine hK _ (c + 1, M, pv) ?_ ⟨by simp only; omega, hM, hk, hE'⟩ (by simp only; omega)
            (refine Le.slots ?_ ?_ ?_ <;> (repeat' (first | (exact fun _ _ h => h) | exact Nat.le_refl _ | exact leSl_nil | refine leSl_cons (by simp (disch := omega) only [go_sem, ↓reduceIte, Nat.reduceEqDiff] <;> rfl) ?_ ?_ | exact VLe.junk _ | exact VLe.refl rfl | exact VLe.nil_sl _ _ _ | exact VLe.int (by first | rfl | omega | (dsimp only; omega)) | exact VLe.bool rfl | exact VLe.sl rfl (by first | rfl | omega) | exact VLe.cap rfl (by first | rfl | omega) | exact VLe.im rfl rfl | omega | (refine fun id k h => ?_; simp only [hget] at h ⊢; (repeat' (split at h)) <;> first | (cases h; done) | (simp (disch := omega) only [if_pos, if_neg]; exact h)))))
      · have q1 := decide_eq_false (p := (c : Int) < (w : Int)) (by omega)
        have hcw' : w - c = 0 := by omega
        rw [hcw', elimGo] at hE
        have hR : rrefL p w M0 = (M.take pv.length, pv) := by unfold rrefL; rw [← hE]
        have hkl : (M.take pv.length).length = pv.length := by rw [List.length_take]; omega
        have g6 : (imR w (nR M)).take pv.length = imR w (nR (M.take pv.length)) := by simp [imR, nR, List.map_take]
        have g7 := imR_clo w (nR (M.take pv.length))
        have t1 := wv_len pv
        have t3 : (wv pv).take pv.length = wv pv := List.take_of_length_le (by rw [t1]; exact Nat.le_refl _)
        have t5 := wv_clo pv
        rw [hR]
        simp only
        rw [hkl]
        (repeat (first | refine DO.nil (by kernel_rfl) ?_ | (with_reducible first | apply oz1 | apply oz2 | apply oz3 | apply oz4 | apply oz5 | apply oz6 | apply oz7 | apply oz8 | apply oz9 | apply ozb | apply ozc | apply oze | apply ozf | apply ozg | apply ozh | apply ozi | apply ozj | apply ozk | refine ozd (by decide) ?_) | ((first | apply SO.call | apply DO.call); (iterate 3 (focus (simp (disch := omega) only [go_sem, ↓reduceIte, Nat.reduceEqDiff, Nat.reduceLT, Nat.reduceLeDiff, Nat.reduceAdd, Nat.reduceMul, Nat.reduceSub, reduceCtorEq, Nat.reduceBEq, Int.reduceToNat, Int.reducePow, if_pos, if_neg, q1] <;> rfl))); (first | apply SCall.ofX | apply DCall.ofX); (focus (first | assumption)); (focus (simp (disch := omega) only [go_sem, ↓reduceIte, Nat.reduceEqDiff, Nat.reduceLT, Nat.reduceLeDiff, Nat.reduceAdd, Nat.reduceMul, Nat.reduceSub, reduceCtorEq, Nat.reduceBEq, Int.reduceToNat, Int.reducePow, if_pos, if_neg, q1] <;> rfl))) | ((with_reducible first | apply SC.condB | apply SC.region | apply SO.run | apply DO.run); (focus (simp (disch := omega) only [go_sem, ↓reduceIte, Nat.reduceEqDiff, Nat.reduceLT, Nat.reduceLeDiff, Nat.reduceAdd, reduceCtorEq, if_pos, q1] <;> rfl)); (first | refine pickT ?_ | refine pickF ?_ | fail_if_success with_reducible refine pickA ?_)) | ((with_reducible refine SC.draw Tab.mixed ?_ ?_); (focus (first | rfl | simp (disch := omega) only [go_sem, ↓reduceIte, Nat.reduceEqDiff, Nat.reduceLT, Nat.reduceLeDiff, Nat.reduceAdd, Nat.reduceMul, Nat.reduceSub, reduceCtorEq, Nat.reduceBEq, Int.reduceToNat, Int.reducePow, if_pos, if_neg, q1]))) | (with_reducible apply SC.ops)))
        exact retQ_ret Try.results15 (by simp (disch := omega) only [go_sem, ↓reduceIte, Nat.reduceEqDiff, Nat.reduceLeDiff, Nat.reduceAdd] <;> rfl) (by simp (disch := omega) only [go_sem, ↓reduceIte, Nat.reduceEqDiff, if_pos, g6, g7, gl, hl, t1, t3, t5] <;> rfl) rfl
end Go.Proofs.Ytpbomhmflllemaa

/- The reference: Rank, Solvable, Left. -/
namespace Go.Proofs.Ytpbomhmflllemaa
open Go.RowKit

theorem rrank_s {p n w : Nat} {M : List (List Nat)} (hp : Pr p) (hp2 : p ≤ 2147483647) (hM : MV p n w M) (hn : n ≤ 1000000) (hw : w ≤ 1000000) :
    Spec Try.prog 66 [md p w M] (.sc (.int .i64 (rrefL p w M).2.length)) := by
  have c1 := rrref_s hp hp2 hM hn hw
  unfold md mv at *
  refine Spec.run Try.func66 rfl Try.ntmps66 (by simp) (by simp (disch := omega) only [go_sem]; rfl) fun B hB => ?_
  (repeat (first | refine DO.nil (by kernel_rfl) ?_ | (with_reducible first | apply oz1 | apply oz2 | apply oz3 | apply oz4 | apply oz5 | apply oz6 | apply oz7 | apply oz8 | apply oz9 | apply ozb | apply ozc | apply oze | apply ozf | apply ozg | apply ozh | apply ozi | apply ozj | apply ozk | refine ozd (by decide) ?_) | ((first | apply SO.call | apply DO.call); (iterate 3 (focus (simp (disch := omega) only [go_sem, ↓reduceIte] <;> rfl))); (first | apply SCall.ofX | apply DCall.ofX); (focus (first | assumption)); (focus (simp (disch := omega) only [go_sem] <;> rfl))) | ((with_reducible first | apply SC.condB | apply SC.region | apply SO.run | apply DO.run); (focus (simp (disch := omega) only [go_sem, ↓reduceIte, Nat.reduceEqDiff, Nat.reduceLT, Nat.reduceLeDiff, Nat.reduceAdd] <;> rfl)); (first | refine pickT ?_ | refine pickF ?_ | fail_if_success with_reducible refine pickA ?_)) | ((with_reducible refine SC.draw Tab.mixed ?_ ?_); (focus (first | rfl | simp (disch := omega) only [go_sem, ↓reduceIte, Nat.reduceEqDiff, Nat.reduceLT, Nat.reduceLeDiff, Nat.reduceAdd, Nat.reduceMul, Nat.reduceSub, reduceCtorEq, Nat.reduceBEq, Int.reduceToNat, Int.reducePow, if_pos, if_neg]))) | (with_reducible apply SC.ops)))
  exact retQ_ret Try.results66 (by simp (disch := omega) only [go_sem, ↓reduceIte] <;> rfl) (by simp (disch := omega) only [go_sem] <;> rfl) rfl

theorem rsolvable_s {p n w : Nat} {M : List (List Nat)} {b : List Nat} (hp : Pr p) (hp2 : p ≤ 2147483647) (hM : MV p n w M) (hb : Rw p w b) (hn : n ≤ 900000) (hw : w ≤ 1000000) :
    Spec Try.prog 31 [md p w M, .im (nv b) w] (.sc (.bool (((rrefL p w (M ++ [b])).2.length : Int) == ((rrefL p w M).2.length : Int)))) := by
  have c1 := rwith_s hM hb (by omega) hw
  have c2 := rrank_s hp hp2 hM (by omega) hw
  have c3 := rrank_s hp hp2 (with_mv hM hb) (by omega) hw
  unfold md mv at *
  refine Spec.run Try.func31 rfl Try.ntmps31 (by simp) (by simp (disch := omega) only [go_sem, Nat.reduceAdd]; rfl) fun B hB => ?_
  (repeat (first | refine DO.nil (by kernel_rfl) ?_ | (with_reducible first | apply oz1 | apply oz2 | apply oz3 | apply oz4 | apply oz5 | apply oz6 | apply oz7 | apply oz8 | apply oz9 | apply ozb | apply ozc | apply oze | apply ozf | apply ozg | apply ozh | apply ozi | apply ozj | apply ozk | refine ozd (by decide) ?_) | ((first | apply SO.call | apply DO.call); (iterate 3 (focus (simp (disch := omega) only [go_sem, ↓reduceIte, Nat.reduceEqDiff] <;> rfl))); (first | apply SCall.ofX | apply DCall.ofX); (focus (first | assumption)); (focus (simp (disch := omega) only [go_sem] <;> rfl))) | ((with_reducible first | apply SC.condB | apply SC.region | apply SO.run | apply DO.run); (focus (simp (disch := omega) only [go_sem, ↓reduceIte, Nat.reduceEqDiff, Nat.reduceLT, Nat.reduceLeDiff, Nat.reduceAdd, reduceCtorEq] <;> rfl)); (first | refine pickT ?_ | refine pickF ?_ | fail_if_success with_reducible refine pickA ?_)) | ((with_reducible refine SC.draw Tab.mixed ?_ ?_); (focus (first | rfl | simp (disch := omega) only [go_sem, ↓reduceIte, Nat.reduceEqDiff, Nat.reduceLT, Nat.reduceLeDiff, Nat.reduceAdd, Nat.reduceMul, Nat.reduceSub, reduceCtorEq, Nat.reduceBEq, Int.reduceToNat, Int.reducePow, if_pos, if_neg]))) | (with_reducible apply SC.ops)))
  exact retQ_ret Try.results31 (by simp (disch := omega) only [go_sem, ↓reduceIte] <;> rfl) (by simp (disch := omega) only [go_sem] <;> rfl) rfl

theorem widenL_snoc {n w i : Nat} {M : List (List Nat)} (h : i < M.length) : imR w (nR ((widenL M n).take i)) ++ [V.im (nv (M.getD i [] ++ unitL n i)) w] = imR w (nR ((widenL M n).take (i + 1))) := by
  rw [← widenL_get h]
  exact imR_take (by simp [widenL]; exact h)
theorem behindL_take {w : Nat} : ∀ {rs : List (List Nat)} {cs : List Nat} {i : Nat}, i < cs.length → rs.length = cs.length → behindL w (rs.take (i + 1)) (cs.take (i + 1)) = behindL w (rs.take i) (cs.take i) ++ (if w ≤ cs.getD i 0 then [(rs.getD i []).drop w] else [])
  | r :: rs, c :: cs, 0, _, _ => by
    simp only [List.take_succ_cons, List.take_zero, List.getD_cons_zero, behindL]
    split <;> rfl
  | r :: rs, c :: cs, i + 1, h, hl => by
    have ih := behindL_take (w := w) (rs := rs) (cs := cs) (i := i) (by simpa using h) (by simpa using hl)
    simp only [List.take_succ_cons, List.getD_cons_succ] at ih ⊢
    rw [behindL, behindL]
    by_cases g : w ≤ c
    · rw [if_pos g, if_pos g, ih]; rfl
    · rw [if_neg g, if_neg g, ih]
  | [], _ :: _, _, _, h => by simp at h
  | _, [], _, h, _ => by simp at h

set_option maxHeartbeats 8000000 in
set_option maxRecDepth 8000 in
theorem rleft_s {p n w : Nat} {M : List (List Nat)} (hp : Pr p) (hp2 : p ≤ 2147483647) (hM : MV p n w M) (hn : n ≤ 400000) (hw : w ≤ 400000) :
    Spec Try.prog 23 [md p w M] (md p n (refLeftL p w M)) := by
  have hp1 := hp.1
  have hl := hM.1
  have gl := imR_len w M
  have cr := rrref_s hp hp2 (widenL_mv hp1 hM) (by omega) (by omega)
  have hwl : (widenL M n).length = n := by simp [widenL]; exact hl
  have hne : NeZero p := ⟨by omega⟩
  have hF := (rrefL_form hp (widenL_mv hp1 hM)).1.mv
  have hRk := (rank_le hp (widenL_mv hp1 hM)).2
  have hdef : refLeftL p w M = behindL w (rrefL p (w + n) (widenL M n)).1 (rrefL p (w + n) (widenL M n)).2 := by unfold refLeftL; rw [hl]
  rw [hdef]
  unfold md mv at *
  rw [hwl] at cr
  clear hdef
  generalize rrefL p (w + n) (widenL M n) = E at *
  obtain ⟨E1, E2⟩ := E
  simp only at hF hRk cr ⊢
  rw [hl]
  have hwn : ((w : Int) + (n : Int)) = ((w + n : Nat) : Int) := by simp
  refine Spec.run Try.func23 rfl Try.ntmps23 (by simp) (by simp (disch := omega) only [go_sem]; rfl) fun B hB => ?_
  (repeat (first | refine DO.nil (by kernel_rfl) ?_ | (with_reducible first | apply oz1 | apply oz2 | apply oz3 | apply oz4 | apply oz5 | apply oz6 | apply oz7 | apply oz8 | apply oz9 | apply ozb | apply ozc | apply oze | apply ozf | apply ozg | apply ozh | apply ozi | apply ozj | apply ozk | refine ozd (by decide) ?_) | ((first | apply SO.call | apply DO.call); (iterate 3 (focus (simp (disch := omega) only [go_sem, ↓reduceIte, Nat.reduceEqDiff, Nat.reduceLT, Nat.reduceLeDiff, Nat.reduceAdd, Nat.reduceMul, Nat.reduceSub, reduceCtorEq, Nat.reduceBEq, Int.reduceToNat, Int.reducePow, if_pos, if_neg, hwn] <;> rfl))); (first | apply SCall.ofX | apply DCall.ofX); (focus (first | assumption)); (focus (simp (disch := omega) only [go_sem, ↓reduceIte, Nat.reduceEqDiff, Nat.reduceLT, Nat.reduceLeDiff, Nat.reduceAdd, Nat.reduceMul, Nat.reduceSub, reduceCtorEq, Nat.reduceBEq, Int.reduceToNat, Int.reducePow, if_pos, if_neg, hwn] <;> rfl))) | ((with_reducible first | apply SC.condB | apply SC.region | apply SO.run | apply DO.run); (focus (simp (disch := omega) only [go_sem, ↓reduceIte, Nat.reduceEqDiff, Nat.reduceLeDiff, Nat.reduceAdd, reduceCtorEq, hwn] <;> rfl)); (first | refine pickT ?_ | refine pickF ?_ | fail_if_success with_reducible refine pickA ?_)) | ((with_reducible refine SC.draw Tab.mixed ?_ ?_); (focus (first | rfl | simp (disch := omega) only [go_sem, ↓reduceIte, Nat.reduceEqDiff, Nat.reduceLT, Nat.reduceLeDiff, Nat.reduceAdd, Nat.reduceMul, Nat.reduceSub, reduceCtorEq, Nat.reduceBEq, Int.reduceToNat, Int.reducePow, if_pos, if_neg, hwn]))) | (with_reducible apply SC.ops)))
  refine SC.loop (fun i : Nat => ⟨[(1, .pt 0 0), (2, .pt 1 0), (3, .sc (.int .i64 n)), (4, .pt 2 0), (5, .sc (.int .i64 i))], [(2, ⟨29, [.sc (.int .u64 p), .sc (.int .i64 (w + n : Nat)), .sl 3 0 i 1 none], false⟩), (3, ⟨44, imR (w + n) (nR ((widenL M n).take i)), false⟩), (1, ⟨29, [.sc (.int .u64 0), .sc (.int .i64 0), .sc (.slice none 0 0)], false⟩), (0, ⟨29, [.sc (.int .u64 p), .sc (.int .i64 w), .im (imR w (nR M)) n], false⟩)], 4, 81⟩)
    (fun i => i ≤ n) (fun i => n - i) 0 ?_ ?_ ?_
  · refine nilRow (pre := [.sc (.int .u64 p), .sc (.int .i64 (w + n : Nat))]) 2 3 hB (by simp (disch := omega) only [go_sem, ↓reduceIte] <;> rfl) rfl (by omega) ?_ (by omega) ?_
    · exact ⟨⟨by omega, by omega, by omega, by simp, by simp (disch := omega) only [go_sem, ↓reduceIte, Nat.reduceEqDiff] <;> rfl, rfl⟩, ⟨by omega, by omega, by omega, by simp, by simp (disch := omega) only [go_sem, ↓reduceIte, reduceCtorEq] <;> rfl, rfl⟩, trivial⟩
    · (repeat' (first | exact trivial | refine mapSl_cons (by simp (disch := omega) only [go_sem, ↓reduceIte, Nat.reduceEqDiff] <;> rfl) ?_ ?_ | exact VMap.junk _ | exact VMap.sc _ | exact VMap.clo rfl | exact VMap.sl rfl (by omega) | exact VMap.cap rfl (by omega) | exact VMap.pt rfl (by omega) | exact VMap.nil_sl _ _ _ | exact VMap.int (by first | rfl | omega | (dsimp only; omega))))
  · exact Nat.zero_le _
  · intro i hi K hK
    by_cases hc : i < n
    · have q1 := decide_eq_true (p := (i : Int) < (n : Int)) (by omega)
      have g1 := imR_get (w := w) (M := M) (i := i) (by omega)
      have hr := hM.get hc
      have g3 := nv_len (M.getD i [])
      rw [hr.1] at g3
      have g4 := widenL_snoc (n := n) (w := w + n) (M := M) (i := i) (by omega)
      have g5 := imR_len (w + n) ((widenL M n).take i)
      rw [List.length_take, hwl, Nat.min_eq_left hi] at g5
      have g6 : (imR (w + n) (nR ((widenL M n).take i))).take i = imR (w + n) (nR ((widenL M n).take i)) := List.take_of_length_le (by omega)
      have t6 : (nv (M.getD i [])).take w = nv (M.getD i []) := List.take_of_length_le (by rw [g3]; exact Nat.le_refl _)
      have t7 := nv_one (M.getD i [])
      have cu := runit_s hc (by omega)
      have ul := nv_len (unitL n i)
      rw [unitL_len] at ul
      have u6 : (nv (unitL n i)).take n = nv (unitL n i) := List.take_of_length_le (by rw [ul]; exact Nat.le_refl _)
      have u7 := nv_one (unitL n i)
      have ap := nv_app (M.getD i []) (unitL n i)
      generalize M.getD i [] = r at *
      generalize unitL n i = u at *
      (repeat (first | refine DO.nil (by kernel_rfl) ?_ | (with_reducible first | apply oz1 | apply oz2 | apply oz3 | apply oz4 | apply oz5 | apply oz6 | apply oz7 | apply oz8 | apply oz9 | apply ozb | apply ozc | apply oze | apply ozf | apply ozg | apply ozh | apply ozi | apply ozj | apply ozk | refine ozd (by decide) ?_) | ((first | apply SO.call | apply DO.call); (iterate 3 (focus (simp (disch := omega) only [go_sem, ↓reduceIte, Nat.reduceEqDiff] <;> rfl))); (first | apply SCall.ofX | apply DCall.ofX); (focus (first | assumption)); (focus (simp (disch := omega) only [go_sem] <;> rfl))) | ((with_reducible first | apply SC.condB | apply SC.region | apply SO.run | apply DO.run); (focus (simp (disch := omega) only [go_sem, ↓reduceIte, Nat.reduceEqDiff, Nat.reduceLeDiff, Nat.reduceAdd, reduceCtorEq, if_pos, q1, gl, hl, g1, g3, g5, g6, t6, t7, ul, u7, ap, List.getElem?_drop] <;> rfl)); (first | refine pickT ?_ | refine pickF ?_ | fail_if_success with_reducible refine pickA ?_)) | ((with_reducible refine SC.draw Tab.mixed ?_ ?_); (focus (first | rfl | simp (disch := omega) only [go_sem, ↓reduceIte, Nat.reduceEqDiff, Nat.reduceLT, Nat.reduceLeDiff, Nat.reduceAdd, Nat.reduceMul, Nat.reduceSub, reduceCtorEq, Nat.reduceBEq, Int.reduceToNat, Int.reducePow, if_pos, if_neg, q1, gl, hl, g1, g3, g5, g6, t6, t7, ul, u6, u7, ap, List.getElem?_drop]))) | (with_reducible apply SC.ops)))
      have t8 := nv_clo (r ++ u)
      have t9 : (nv (r ++ u)).length = w + n := by rw [← ap, List.length_append, g3, ul]
      have t10 : (nv (r ++ u)).take (w + n) = nv (r ++ u) := List.take_of_length_le (by omega)
      refine hK _ (i + 1) ?_ (by omega) (by omega)
      rw [← g4]
      refine appRow (pre := [.sc (.int .u64 p), .sc (.int .i64 (w + n : Nat))]) (y := .im (nv (r ++ u)) (w + n)) (ids := [6]) 2 3 8 hB (by simp (disch := omega) only [go_sem, ↓reduceIte, Nat.reduceEqDiff] <;> rfl) (by simp (disch := omega) only [go_sem, ↓reduceIte] <;> rfl) (by simp (disch := omega) only [go_sem, ↓reduceIte, Nat.reduceEqDiff, if_pos, t8, t9, t10] <;> rfl) rfl (imR_clo _ _) rfl (by omega) (by omega) (by simp) (by simp) ?_ (by omega) ?_
      · exact ⟨⟨by omega, by omega, by omega, by simp, by simp (disch := omega) only [go_sem, ↓reduceIte, Nat.reduceEqDiff] <;> rfl, rfl⟩, ⟨by omega, by omega, by omega, by simp, by simp (disch := omega) only [go_sem, ↓reduceIte, reduceCtorEq] <;> rfl, rfl⟩, trivial⟩
      · (repeat' (first | exact trivial | refine mapSl_cons (by simp (disch := omega) only [go_sem, ↓reduceIte, Nat.reduceEqDiff] <;> rfl) ?_ ?_ | exact VMap.junk _ | exact VMap.sc _ | exact VMap.clo rfl | exact VMap.sl rfl (by omega) | exact VMap.cap rfl (by omega) | exact VMap.pt rfl (by omega) | exact VMap.nil_sl _ _ _ | exact VMap.int (by first | rfl | omega | (dsimp only; omega))))
    · have q1 := decide_eq_false (p := (i : Int) < (n : Int)) (by omega)
      have hin : i = n := by omega
      rw [hin] at q1
      rw [hin, List.take_of_length_le (by rw [hwl]; exact Nat.le_refl _)]
      have g5 := imR_len (w + n) (widenL M n)
      rw [hwl] at g5
      have g6 : (imR (w + n) (nR (widenL M n))).take n = imR (w + n) (nR (widenL M n)) := List.take_of_length_le (by omega)
      have g7 := imR_clo (w + n) (nR (widenL M n))
      have f1 := hF.1
      have f2 := imR_clo (w + n) (nR E1)
      have f3 := wv_clo E2
      (repeat (first | refine DO.nil (by kernel_rfl) ?_ | (with_reducible first | apply oz1 | apply oz2 | apply oz3 | apply oz4 | apply oz5 | apply oz6 | apply oz7 | apply oz8 | apply oz9 | apply ozb | apply ozc | apply oze | apply ozf | apply ozg | apply ozh | apply ozi | apply ozj | apply ozk | refine ozd (by decide) ?_) | ((first | apply SO.call | apply DO.call); (iterate 3 (focus (simp (disch := omega) only [go_sem, ↓reduceIte, Nat.reduceEqDiff, if_pos, g5, g6, g7] <;> rfl))); (first | apply SCall.ofX | apply DCall.ofX); (focus (first | assumption)); (focus (simp (disch := omega) only [go_sem, ↓reduceIte, Nat.reduceBEq] <;> rfl))) | ((with_reducible first | apply SC.condB | apply SC.region | apply SO.run | apply DO.run); (focus (simp (disch := omega) only [go_sem, ↓reduceIte, Nat.reduceEqDiff, Nat.reduceLeDiff, Nat.reduceAdd, reduceCtorEq, q1] <;> rfl)); (first | refine pickT ?_ | refine pickF ?_ | fail_if_success with_reducible refine pickA ?_)) | ((with_reducible refine SC.draw Tab.mixed ?_ ?_); (focus (first | rfl | simp (disch := omega) only [go_sem, ↓reduceIte, Nat.reduceEqDiff, Nat.reduceLT, Nat.reduceLeDiff, Nat.reduceAdd, Nat.reduceMul, Nat.reduceSub, reduceCtorEq, Nat.reduceBEq, Int.reduceToNat, Int.reducePow, if_pos, if_neg, q1, g5, g6, g7]))) | (with_reducible apply SC.ops)))
      refine SC.loop (fun i : Nat => ⟨[(1, .pt 0 0), (2, .pt 1 0), (7, .pt 4 0), (8, .im (wv E2) E2.length), (9, .pt 5 0), (10, .sc (.int .i64 i))], [(5, ⟨29, [.sc (.int .u64 p), .sc (.int .i64 n), .sl 6 0 (behindL w (E1.take i) (E2.take i)).length 1 none], false⟩), (6, ⟨44, imR n (nR (behindL w (E1.take i) (E2.take i))), false⟩), (4, ⟨29, [.sc (.int .u64 p), .sc (.int .i64 (w + n : Nat)), .im (imR (w + n) (nR E1)) E1.length], false⟩), (1, ⟨29, [.sc (.int .u64 0), .sc (.int .i64 0), .sc (.slice none 0 0)], false⟩), (0, ⟨29, [.sc (.int .u64 p), .sc (.int .i64 w), .im (imR w (nR M)) n], false⟩)], 7, 81⟩)
        (fun i => i ≤ E2.length ∧ (behindL w (E1.take i) (E2.take i)).length ≤ i) (fun i => E2.length - i) 0 ?_ ?_ ?_
      · refine nilRow (pre := [.sc (.int .u64 p), .sc (.int .i64 n)]) 5 6 hB (by simp (disch := omega) only [go_sem, ↓reduceIte] <;> rfl) rfl (by omega) ?_ (by omega) ?_
        · exact ⟨⟨by omega, by omega, by omega, by simp, by simp (disch := omega) only [go_sem, ↓reduceIte, Nat.reduceEqDiff] <;> rfl, rfl⟩, ⟨by omega, by omega, by omega, by simp, by simp (disch := omega) only [go_sem, ↓reduceIte, Nat.reduceEqDiff] <;> rfl, rfl⟩, ⟨by omega, by omega, by omega, by simp, by simp (disch := omega) only [go_sem, ↓reduceIte, reduceCtorEq] <;> rfl, rfl⟩, trivial⟩
        · (repeat' (first | exact trivial | refine mapSl_cons (by simp (disch := omega) only [go_sem, ↓reduceIte, Nat.reduceEqDiff] <;> rfl) ?_ ?_ | exact VMap.junk _ | exact VMap.sc _ | exact VMap.clo rfl | exact VMap.sl rfl (by omega) | exact VMap.cap rfl (by omega) | exact VMap.pt rfl (by omega) | exact VMap.nil_sl _ _ _ | exact VMap.int (by first | rfl | omega | (dsimp only; omega))))
      · exact ⟨Nat.zero_le _, Nat.le_refl _⟩
      · rintro i ⟨hi, hbl⟩ K2 hK2
        by_cases hc : i < E2.length
        · have q2 := decide_eq_true (p := (i : Int) < (E2.length : Int)) (by omega)
          have hb := behindL_take (w := w) hc f1
          have e1 := wv_get (r := E2) hc
          have e2 := wv_len E2
          have e3 := imR_get (w := w + n) (M := E1) (i := i) (by omega)
          have e4 := imR_len (w + n) E1
          have hr := hF.get hc
          have e5 := nv_len (E1.getD i [])
          rw [hr.1] at e5
          generalize E1.getD i [] = r at *
          generalize E2.getD i 0 = c at *
          by_cases hcw : w ≤ c
          · have q3 : decide ((c : Int) ≥ (w : Int)) = true := decide_eq_true (by omega)
            rw [if_pos hcw] at hb
            have d1 : w + n - w = n := by omega
            have d2 : (nv (r.drop w)).length = n := by rw [nv_len, List.length_drop, hr.1]; omega
            have d3 : List.take n (List.drop w (nv r)) = nv (r.drop w) := by
              rw [nv_drop]; exact List.take_of_length_le (by omega)
            have d4 := nv_one (r.drop w)
            have d5 := nv_clo (r.drop w)
            have d6 : (nv (r.drop w)).take n = nv (r.drop w) := List.take_of_length_le (by omega)
            have d7 := imR_len n (behindL w (E1.take i) (E2.take i))
            have d8 : (imR n (nR (behindL w (E1.take i) (E2.take i)))).take (behindL w (E1.take i) (E2.take i)).length = imR n (nR (behindL w (E1.take i) (E2.take i))) := List.take_of_length_le (by omega)
            have d9 := imR_snoc n (behindL w (E1.take i) (E2.take i)) (r.drop w)
            have hbl2 : (behindL w (E1.take (i + 1)) (E2.take (i + 1))).length = (behindL w (E1.take i) (E2.take i)).length + 1 := by rw [hb]; simp
            rw [← hb] at d9
            (repeat (first | refine DO.nil (by kernel_rfl) ?_ | (with_reducible first | apply oz1 | apply oz2 | apply oz3 | apply oz4 | apply oz5 | apply oz6 | apply oz7 | apply oz8 | apply oz9 | apply ozb | apply ozc | apply oze | apply ozf | apply ozg | apply ozh | apply ozi | apply ozj | apply ozk | refine ozd (by decide) ?_) | ((first | apply SO.call | apply DO.call); (iterate 3 (focus (simp (disch := omega) only [go_sem, ↓reduceIte, Nat.reduceEqDiff, Nat.reduceLT, Nat.reduceLeDiff, Nat.reduceAdd, Nat.reduceMul, Nat.reduceSub, reduceCtorEq, Nat.reduceBEq, Int.reduceToNat, Int.reducePow, if_pos, if_neg, q2, q3, e1, e2, e3, e4, e5, d1, d2, d3, d4, d6, d7, d8, List.getElem?_drop] <;> rfl))); (first | apply SCall.ofX | apply DCall.ofX); (focus (first | assumption)); (focus (simp (disch := omega) only [go_sem, ↓reduceIte, Nat.reduceEqDiff, Nat.reduceLT, Nat.reduceLeDiff, Nat.reduceAdd, Nat.reduceMul, Nat.reduceSub, reduceCtorEq, Nat.reduceBEq, Int.reduceToNat, Int.reducePow, if_pos, if_neg, q2, q3, e1, e2, e3, e4, e5, d1, d2, d3, d4, d6, d7, d8, List.getElem?_drop] <;> rfl))) | ((with_reducible first | apply SC.condB | apply SC.region | apply SO.run | apply DO.run); (focus (simp (disch := omega) only [go_sem, ↓reduceIte, Nat.reduceEqDiff, Nat.reduceLeDiff, Nat.reduceAdd, reduceCtorEq, if_pos, q2, q3, e1, e2, e3, e4, d1, d2, d3, d4, d7, d8, List.getElem?_drop] <;> rfl)); (first | refine pickT ?_ | refine pickF ?_ | fail_if_success with_reducible refine pickA ?_)) | ((with_reducible refine SC.draw Tab.mixed ?_ ?_); (focus (first | rfl | simp (disch := omega) only [go_sem, ↓reduceIte, Nat.reduceEqDiff, Nat.reduceLT, Nat.reduceLeDiff, Nat.reduceAdd, Nat.reduceMul, Nat.reduceSub, reduceCtorEq, Nat.reduceBEq, Int.reduceToNat, Int.reducePow, if_pos, if_neg, q2, q3, e1, e2, e3, e4, e5, d1, d2, d3, d4, d6, d7, d8, List.getElem?_drop]))) | (with_reducible apply SC.ops)))
            refine hK2 _ (i + 1) ?_ ⟨by omega, by omega⟩ (by omega)
            rw [hbl2, ← d9]
            refine appRow (pre := [.sc (.int .u64 p), .sc (.int .i64 n)]) (y := .im (nv (r.drop w)) n) (ids := [8]) 5 6 10 hB (by simp (disch := omega) only [go_sem, ↓reduceIte, Nat.reduceEqDiff] <;> rfl) (by simp (disch := omega) only [go_sem, ↓reduceIte] <;> rfl) (by simp (disch := omega) only [go_sem, ↓reduceIte, Nat.reduceEqDiff, if_pos, d2, d5, d6] <;> rfl) rfl (imR_clo _ _) rfl (by omega) (by omega) (by simp) (by simp) ?_ (by omega) ?_
            · exact ⟨⟨by omega, by omega, by omega, by simp, by simp (disch := omega) only [go_sem, ↓reduceIte, Nat.reduceEqDiff] <;> rfl, rfl⟩, ⟨by omega, by omega, by omega, by simp, by simp (disch := omega) only [go_sem, ↓reduceIte, Nat.reduceEqDiff] <;> rfl, rfl⟩, ⟨by omega, by omega, by omega, by simp, by simp (disch := omega) only [go_sem, ↓reduceIte, reduceCtorEq] <;> rfl, rfl⟩, trivial⟩
            · (repeat' (first | exact trivial | refine mapSl_cons (by simp (disch := omega) only [go_sem, ↓reduceIte, Nat.reduceEqDiff] <;> rfl) ?_ ?_ | exact VMap.junk _ | exact VMap.sc _ | exact VMap.clo rfl | exact VMap.sl rfl (by omega) | exact VMap.cap rfl (by omega) | exact VMap.pt rfl (by omega) | exact VMap.nil_sl _ _ _ | exact VMap.int (by first | rfl | omega | (dsimp only; omega))))
          · have q3 : decide ((c : Int) ≥ (w : Int)) = false := decide_eq_false (by omega)
            rw [if_neg hcw, List.append_nil] at hb
            (repeat (first | refine DO.nil (by kernel_rfl) ?_ | (with_reducible first | apply oz1 | apply oz2 | apply oz3 | apply oz4 | apply oz5 | apply oz6 | apply oz7 | apply oz8 | apply oz9 | apply ozb | apply ozc | apply oze | apply ozf | apply ozg | apply ozh | apply ozi | apply ozj | apply ozk | refine ozd (by decide) ?_) | ((first | apply SO.call | apply DO.call); (iterate 3 (focus (simp (disch := omega) only [go_sem, ↓reduceIte, Nat.reduceEqDiff, Nat.reduceLT, Nat.reduceLeDiff, Nat.reduceAdd, Nat.reduceMul, Nat.reduceSub, reduceCtorEq, Nat.reduceBEq, Int.reduceToNat, Int.reducePow, if_pos, if_neg, q2, q3, e1, e2, e3, e4, e5, List.getElem?_drop] <;> rfl))); (first | apply SCall.ofX | apply DCall.ofX); (focus (first | assumption)); (focus (simp (disch := omega) only [go_sem, ↓reduceIte, Nat.reduceEqDiff, Nat.reduceLT, Nat.reduceLeDiff, Nat.reduceAdd, Nat.reduceMul, Nat.reduceSub, reduceCtorEq, Nat.reduceBEq, Int.reduceToNat, Int.reducePow, if_pos, if_neg, q2, q3, e1, e2, e3, e4, e5, List.getElem?_drop] <;> rfl))) | ((with_reducible first | apply SC.condB | apply SC.region | apply SO.run | apply DO.run); (focus (simp (disch := omega) only [go_sem, ↓reduceIte, Nat.reduceEqDiff, reduceCtorEq, if_pos, q2, q3, e1, e2, List.getElem?_drop] <;> rfl)); (first | refine pickT ?_ | refine pickF ?_ | fail_if_success with_reducible refine pickA ?_)) | ((with_reducible refine SC.draw Tab.mixed ?_ ?_); (focus (first | rfl | simp (disch := omega) only [go_sem, ↓reduceIte, Nat.reduceEqDiff, Nat.reduceLT, Nat.reduceLeDiff, Nat.reduceAdd, Nat.reduceMul, Nat.reduceSub, reduceCtorEq, Nat.reduceBEq, Int.reduceToNat, Int.reducePow, if_pos, if_neg, q2, q3, e1, e2, e3, e4, e5, List.getElem?_drop]))) | (with_reducible apply SC.ops)))
            refine hK2 _ (i + 1) ?_ ⟨by omega, by rw [hb]; omega⟩ (by omega)
            rw [hb]
            (refine Le.slots ?_ ?_ ?_ <;> (repeat' (first | (exact fun _ _ h => h) | exact Nat.le_refl _ | exact leSl_nil | refine leSl_cons (by simp (disch := omega) only [go_sem, ↓reduceIte, Nat.reduceEqDiff] <;> rfl) ?_ ?_ | exact VLe.junk _ | exact VLe.refl rfl | exact VLe.nil_sl _ _ _ | exact VLe.int (by first | rfl | omega | (dsimp only; omega)) | exact VLe.bool rfl | exact VLe.sl rfl (by first | rfl | omega) | exact VLe.cap rfl (by first | rfl | omega) | exact VLe.im rfl rfl | omega | (refine fun id k h => ?_; simp only [hget] at h ⊢; (repeat' (split at h)) <;> first | (cases h; done) | (simp (disch := omega) only [if_pos, if_neg]; exact h)))))
        · have q2 := decide_eq_false (p := (i : Int) < (E2.length : Int)) (by omega)
          have hie : i = E2.length := by omega
          rw [hie] at q2
          rw [hie, List.take_of_length_le (Nat.le_refl _), List.take_of_length_le (by rw [f1]; exact Nat.le_refl _)] at hbl ⊢
          generalize behindL w E1 E2 = D at *
          have e1 := imR_len n D
          have e2 : (imR n (nR D)).take D.length = imR n (nR D) := List.take_of_length_le (by omega)
          have e3 := imR_clo n (nR D)
          (repeat (first | refine DO.nil (by kernel_rfl) ?_ | (with_reducible first | apply oz1 | apply oz2 | apply oz3 | apply oz4 | apply oz5 | apply oz6 | apply oz7 | apply oz8 | apply oz9 | apply ozb | apply ozc | apply oze | apply ozf | apply ozg | apply ozh | apply ozi | apply ozj | apply ozk | refine ozd (by decide) ?_) | ((first | apply SO.call | apply DO.call); (iterate 3 (focus (simp (disch := omega) only [go_sem, ↓reduceIte, Nat.reduceEqDiff, Nat.reduceLT, Nat.reduceLeDiff, Nat.reduceAdd, Nat.reduceMul, Nat.reduceSub, reduceCtorEq, Nat.reduceBEq, Int.reduceToNat, Int.reducePow, if_pos, if_neg, q2] <;> rfl))); (first | apply SCall.ofX | apply DCall.ofX); (focus (first | assumption)); (focus (simp (disch := omega) only [go_sem, ↓reduceIte, Nat.reduceEqDiff, Nat.reduceLT, Nat.reduceLeDiff, Nat.reduceAdd, Nat.reduceMul, Nat.reduceSub, reduceCtorEq, Nat.reduceBEq, Int.reduceToNat, Int.reducePow, if_pos, if_neg, q2] <;> rfl))) | ((with_reducible first | apply SC.condB | apply SC.region | apply SO.run | apply DO.run); (focus (simp (disch := omega) only [go_sem, ↓reduceIte, Nat.reduceEqDiff, Nat.reduceLT, Nat.reduceLeDiff, Nat.reduceAdd, q2] <;> rfl)); (first | refine pickT ?_ | refine pickF ?_ | fail_if_success with_reducible refine pickA ?_)) | ((with_reducible refine SC.draw Tab.mixed ?_ ?_); (focus (first | rfl | simp (disch := omega) only [go_sem, ↓reduceIte, Nat.reduceEqDiff, Nat.reduceLT, Nat.reduceLeDiff, Nat.reduceAdd, Nat.reduceMul, Nat.reduceSub, reduceCtorEq, Nat.reduceBEq, Int.reduceToNat, Int.reducePow, if_pos, if_neg, q2]))) | (with_reducible apply SC.ops)))
          exact retQ_ret Try.results23 (by simp (disch := omega) only [go_sem, ↓reduceIte, Nat.reduceEqDiff, Nat.reduceLeDiff, Nat.reduceAdd] <;> rfl) (by simp (disch := omega) only [go_sem, ↓reduceIte, Nat.reduceEqDiff, if_pos, e1, e2, e3] <;> rfl) rfl
end Go.Proofs.Ytpbomhmflllemaa
