/- Texts joined: Ka Kb Kc Qy Kd Ke To. -/
import Derived.OrdersIn
import Derived.RangeFuncIn
import Derived.RangeFuncRecord
import Derived.RangeFuncLeaves
import Derived.Test.YtdcbmdmlhjemmaaVi
import Derived.Test.YtdcbmdmlhjemmaaVl
import Derived.Test.YtdcbmdmlhjemmaaVm
import Derived.Test.YtdcbmdmlhjemmaaVn
import Derived.Test.YtdcbmdmlhjemmaaVp
set_option linter.all false
open Nat renaming reduceEqDiff → zn1, reduceLT → zn2, reduceLeDiff → zn3, reduceAdd → zn4, reduceMul → zn5, reduceSub → zn6, reduceBEq → zn7, mul_one → zn8, zero_add → zn9, one_mul → zna, le_refl → znb, zero_le → znc, add_sub_cancel_left → znd, sub_eq_zero_of_le → zne, add_assoc → znf
open Int renaming reduceToNat → zi1, reducePow → zi2
open List renaming length_append → zl1, drop_zero → zl2, take_succ_cons → zl3, take_zero → zl4, getElem?_drop → zl5, append_assoc → zl6, nil_append → zl7, cons_append → zl8, drop_succ_cons → zl9, take_of_length_le → zla, getElem?_eq_getElem → zlb, getElem?_eq_some_iff → zlc, map_cons → zld, map_nil → zle, all_eq_true → zlf
namespace Go.Proofs.Ytdcbmdmlhjemmaa
open Go.RowKit
structure Sh (h w : Nat) (M : List (List Int)) : Prop where
 len : M.length = h
 row : ∀ r, r < h → (M.getD r []).length = w
structure OkI (h : Nat) (o : OpL) : Prop where
 i : o.i < h
 c : (o.kd = 1 ∧ o.j < h ∧ o.i ≠ o.j ∧ o.k = 0) ∨ (o.kd = 2 ∧ o.j = 0 ∧ o.k = 0) ∨ (o.kd = 3 ∧ o.j < h ∧ o.i ≠ o.j)
section
variable {h w r c : Nat} {M M' : List (List Int)} {o : OpL}
theorem sh_ent (hM : Sh h w M) (ho : OkI h o) {q t : Nat} (hq : q < h) :
  ent2 (actO M o) q t = if o.kd = 1 then (if q = o.j then ent2 M o.i t else if q = o.i then ent2 M o.j t else ent2 M q t) else if o.kd = 2 then (if q = o.i then -(ent2 M q t) else ent2 M q t) else (if q = o.i then ent2 M q t + o.k * ent2 M o.j t else ent2 M q t) := by
 have hl := hM.len
 have hi := ho.i
 unfold actO
 by_cases h1 : o.kd = 1
 ·have hj : o.j < h := by rcases ho.c with ⟨_, hj, _⟩ | ⟨e, _⟩ | ⟨e, _⟩ <;> omega
  rw [if_pos h1, if_pos h1]
  unfold ent2
  rw [swapI_get (by omega) (by omega)]
  by_cases a : q = o.j
  ·rw [if_pos a, if_pos a]
  ·rw [if_neg a, if_neg a]
   by_cases b : q = o.i
   ·rw [if_pos b, if_pos b]
   ·rw [if_neg b, if_neg b]
 ·rw [if_neg h1, if_neg h1]
  by_cases h2 : o.kd = 2
  ·rw [if_pos h2, if_pos h2]
   unfold ent2
   rw [getD_set (by omega)]
   by_cases b : q = o.i
   ·rw [if_pos b, if_pos b, negI_getD, b]
   ·rw [if_neg b, if_neg b]
  ·have hj : o.j < h := by rcases ho.c with ⟨_, hj, _⟩ | ⟨e, _⟩ | ⟨e, hj, _⟩ <;> omega
   rw [if_neg h2, if_neg h2]
   unfold ent2
   rw [getD_set (by omega)]
   by_cases b : q = o.i
   ·rw [if_pos b, if_pos b, addI_getD (by rw [hM.row _ hi, hM.row _ hj]), b]
   ·rw [if_neg b, if_neg b]
theorem sh_act (hM : Sh h w M) (ho : OkI h o) : Sh h w (actO M o) := by
 have hl := hM.len
 have hi := ho.i
 refine ⟨by rw [actO_len, hl], fun q hq => ?_⟩
 unfold actO
 by_cases h1 : o.kd = 1
 ·have hj : o.j < h := by rcases ho.c with ⟨_, hj, _⟩ | ⟨e, _⟩ | ⟨e, _⟩ <;> omega
  rw [if_pos h1, swapI_get (by omega) (by omega)]
  repeat' split
  ·exact hM.row _ hi
  ·exact hM.row _ hj
  ·exact hM.row _ hq
 ·rw [if_neg h1]
  by_cases h2 : o.kd = 2
  ·rw [if_pos h2, getD_set (by omega)]
   split
   ·rw [negI_len]; exact hM.row _ hi
   ·exact hM.row _ hq
  ·rw [if_neg h2, getD_set (by omega)]
   split
   ·rw [addI_len]; exact hM.row _ hi
   ·exact hM.row _ hq
def Bd (h N : Nat) (M : List (List Int)) : Prop := ∀ q t, q < h → (ent2 M q t).natAbs ≤ N
theorem bd_act {N : Nat} (hM : Sh h w M) (ho : OkI h o) (hB : Bd h N M) : Bd h (N * (1 + o.k.natAbs)) (actO M o) := by
 intro q t hq
 have hi := ho.i
 have hN : N ≤ N * (1 + o.k.natAbs) := Nat.le_mul_of_pos_right _ (by omega)
 rw [sh_ent hM ho hq]
 by_cases h1 : o.kd = 1
 ·have hj : o.j < h := by rcases ho.c with ⟨_, hj, _⟩ | ⟨e, _⟩ | ⟨e, _⟩ <;> omega
  rw [if_pos h1]
  repeat' split
  ·exact Nat.le_trans (hB _ t hi) hN
  ·exact Nat.le_trans (hB _ t hj) hN
  ·exact Nat.le_trans (hB _ t hq) hN
 ·rw [if_neg h1]
  by_cases h2 : o.kd = 2
  ·rw [if_pos h2]
   split
   ·rw [Int.natAbs_neg]; exact Nat.le_trans (hB _ t hq) hN
   ·exact Nat.le_trans (hB _ t hq) hN
  ·have hj : o.j < h := by rcases ho.c with ⟨_, hj, _⟩ | ⟨e, _⟩ | ⟨e, hj, _⟩ <;> omega
   rw [if_neg h2]
   split
   ·have := abs_addmul (hB q t hq) (hB o.j t hj) (znb o.k.natAbs)
    rw [Nat.mul_add, zn8, Nat.mul_comm N]; exact this
   ·exact Nat.le_trans (hB _ t hq) hN
def prd : List OpL → Nat
 | [] => 1
 | o :: l => (1 + o.k.natAbs) * prd l
theorem prd_pos : ∀ l : List OpL, 1 ≤ prd l
 | [] => znb _
 | o :: l => Nat.mul_le_mul (show 1 ≤ 1 + o.k.natAbs by omega) (prd_pos l)
theorem prd_app : ∀ l m : List OpL, prd (l ++ m) = prd l * prd m
 | [], m => by rw [zl7, prd, zna]
 | o :: l, m => by rw [zl8, prd, prd, prd_app l m, Nat.mul_assoc]
theorem prd_take (l : List OpL) (i : Nat) : prd (l.take i) ≤ prd l := by
 have h := prd_app (l.take i) (l.drop i)
 rw [List.take_append_drop] at h
 rw [h]; exact Nat.le_mul_of_pos_right _ (prd_pos _)
def leastT (M : List (List Int)) (c r : Nat) : Nat → Option Nat
 | 0 => none
 | t + 1 => match leastT M c r t with
  | none => if ent2 M (r + t) c = 0 then none else some (r + t)
  | some a => if ent2 M (r + t) c ≠ 0 ∧ (ent2 M (r + t) c).natAbs < (ent2 M a c).natAbs then some (r + t) else some a
theorem least_none : ∀ {t : Nat}, leastT M c r t = none → ∀ k, r ≤ k → k < r + t → ent2 M k c = 0
 | 0, _, k, h1, h2 => by omega
 | t + 1, h, k, h1, h2 => by
  unfold leastT at h
  split at h
  ·rename_i hn
   split at h
   ·rename_i h0
    by_cases e : k = r + t
    ·rw [e]; exact h0
    ·exact least_none hn k h1 (by omega)
   ·cases h
  ·split at h <;> cases h
theorem least_some : ∀ {t a : Nat}, leastT M c r t = some a → r ≤ a ∧ a < r + t ∧ ent2 M a c ≠ 0 ∧ ∀ k, r ≤ k → k < r + t → ent2 M k c = 0 ∨ (ent2 M a c).natAbs ≤ (ent2 M k c).natAbs
 | 0, a, h => by cases h
 | t + 1, a, h => by
  unfold leastT at h
  split at h
  ·rename_i hn
   split at h
   ·cases h
   ·rename_i h0
    cases h
    refine ⟨by omega, by omega, h0, fun k h1 h2 => ?_⟩
    by_cases e : k = r + t
    ·rw [e]; exact .inr (znb _)
    ·exact .inl (least_none hn k h1 (by omega))
  ·rename_i b hs
   obtain ⟨b1, b2, b3, b4⟩ := least_some hs
   split at h
   ·rename_i hc
    cases h
    refine ⟨by omega, by omega, hc.1, fun k h1 h2 => ?_⟩
    by_cases e : k = r + t
    ·rw [e]; exact .inr (znb _)
    ·rcases b4 k h1 (by omega) with e2 | e2
     ·exact .inl e2
     ·exact .inr (by omega)
   ·rename_i hc
    cases h
    refine ⟨b1, by omega, b3, fun k h1 h2 => ?_⟩
    by_cases e : k = r + t
    ·rw [e]
     by_cases h0 : ent2 M (r + t) c = 0
     ·exact .inl h0
     ·exact .inr (Nat.le_of_not_lt fun hl => hc ⟨h0, hl⟩)
    ·exact b4 k h1 (by omega)
theorem least_uniq {t a : Nat} (h1 : r ≤ a) (h2 : a < r + t) (h3 : ent2 M a c ≠ 0) (h4 : ∀ k, r ≤ k → k < r + t → k ≠ a → ent2 M k c = 0 ∨ (ent2 M a c).natAbs < (ent2 M k c).natAbs) : leastT M c r t = some a := by
 cases hl : leastT M c r t with
 | none => exact absurd (least_none hl a h1 h2) h3
 | some b =>
  obtain ⟨b1, b2, b3, b4⟩ := least_some hl
  by_cases e : b = a
  ·rw [e]
  ·rcases h4 b b1 b2 e with h | h
   ·exact absurd h b3
   ·rcases b4 a h1 h2 with h' | h'
    ·exact absurd h' h3
    ·omega
theorem least_first : ∀ {t : Nat}, 0 < t → ent2 M r c ≠ 0 → (∀ k, r < k → k < r + t → ent2 M k c = 0 ∨ (ent2 M r c).natAbs ≤ (ent2 M k c).natAbs) → leastT M c r t = some r
 | 0, h, _, _ => by omega
 | 1, _, h0, _ => by
  unfold leastT leastT
  simp only [Nat.add_zero]
  rw [if_neg h0]
 | t + 2, _, h0, h4 => by
  rw [leastT, least_first (t := t + 1) (by omega) h0 fun k h1 h2 => h4 k h1 (by omega)]
  simp only
  rw [if_neg]
  rintro ⟨a, b⟩
  rcases h4 (r + (t + 1)) (by omega) (by omega) with h | h
  ·exact a h
  ·omega
def nearI (x p : Int) : Int := (x + x + p) / (p + p)
theorem near_spec {x p : Int} (hp : 0 < p) : 2 * (x - nearI x p * p).natAbs ≤ p.natAbs ∧ 2 * ((nearI x p).natAbs * p.natAbs) ≤ 2 * x.natAbs + p.natAbs := by
 have h1 := Int.emod_nonneg (x + x + p) (show p + p ≠ 0 by omega)
 have h2 := Int.emod_lt_of_pos (x + x + p) (show 0 < p + p by omega)
 have h3 := Int.mul_ediv_add_emod (x + x + p) (p + p)
 unfold nearI
 generalize (x + x + p) / (p + p) = q at *
 generalize (x + x + p) % (p + p) = s at *
 have h4 : (p + p) * q = 2 * (q * p) := by rw [Int.add_mul, Int.mul_comm p q]; omega
 rw [h4] at h3
 have h5 : q.natAbs * p.natAbs = (q * p).natAbs := (Int.natAbs_mul q p).symm
 rw [h5]
 generalize q * p = z at *
 omega
inductive Nx (h r c : Nat) (M : List (List Int)) : OpL → Prop
 | swap {i : Nat} : leastT M c r (h - r) = some i → i ≠ r → Nx h r c M ⟨1, r, i, 0⟩
 | neg : leastT M c r (h - r) = some r → ent2 M r c < 0 → Nx h r c M ⟨2, r, 0, 0⟩
 | low {k : Nat} : leastT M c r (h - r) = some r → 0 < ent2 M r c → r < k → k < h → ent2 M k c ≠ 0 → (∀ j, r < j → j < k → ent2 M j c = 0) → Nx h r c M ⟨3, k, r, -(nearI (ent2 M k c) (ent2 M r c))⟩
 | up {k : Nat} : leastT M c r (h - r) = some r → 0 < ent2 M r c → (∀ j, r < j → j < h → ent2 M j c = 0) → k < r → ent2 M k c / ent2 M r c ≠ 0 → (∀ j, j < k → ent2 M j c / ent2 M r c = 0) → Nx h r c M ⟨3, k, r, -(ent2 M k c / ent2 M r c)⟩
def NxNo (h r c : Nat) (M : List (List Int)) : Prop :=
 leastT M c r (h - r) = none ∨ (leastT M c r (h - r) = some r ∧ 0 < ent2 M r c ∧ (∀ j, r < j → j < h → ent2 M j c = 0) ∧ ∀ j, j < r → ent2 M j c / ent2 M r c = 0)
theorem Nx.ok (hx : Nx h r c M o) (hr : r < h) : OkI h o := by
 cases hx with
 | swap h1 h2 => obtain ⟨a, b, _, _⟩ := least_some h1; exact ⟨hr, .inl ⟨rfl, by simp only; omega, fun e => h2 e.symm, rfl⟩⟩
 | neg => exact ⟨hr, .inr (.inl ⟨rfl, rfl, rfl⟩)⟩
 | low _ _ h1 h2 => exact ⟨h2, .inr (.inr ⟨rfl, hr, by simp only; omega⟩)⟩
 | up _ _ _ h1 => exact ⟨by simp only; omega, .inr (.inr ⟨rfl, hr, by simp only; omega⟩)⟩
inductive Path (h r c : Nat) : List (List Int) → List OpL → List (List Int) → Prop
 | nil {M : List (List Int)} : Path h r c M [] M
 | cons {M M' : List (List Int)} {o : OpL} {l : List OpL} : Nx h r c M o → Path h r c (actO M o) l M' → Path h r c M (o :: l) M'
theorem Path.app {M M1 M2 : List (List Int)} {l m : List OpL} (hp : Path h r c M l M1) : Path h r c M1 m M2 → Path h r c M (l ++ m) M2 := by
 induction hp with
 | nil => exact id
 | cons hx _ ih => exact fun hq => .cons hx (ih hq)
theorem Path.acts {l : List OpL} (hp : Path h r c M l M') : M' = actsO M l := by
 induction hp with
 | nil => rfl
 | cons _ _ ih => exact ih
theorem Path.ok {l : List OpL} (hp : Path h r c M l M') (hr : r < h) : ∀ o ∈ l, OkI h o := by
 induction hp with
 | nil => intro o ho; cases ho
 | cons hx _ ih =>
  intro o ho
  rcases List.mem_cons.1 ho with rfl | ho
  ·exact hx.ok hr
  ·exact ih o ho
theorem acts_sh {l : List OpL} : ∀ {M : List (List Int)}, Sh h w M → (∀ o ∈ l, OkI h o) → Sh h w (actsO M l) := by
 induction l with
 | nil => exact fun hM _ => hM
 | cons o l ih => exact fun hM ho => ih (sh_act hM (ho o (by simp))) fun p hp => ho p (by simp [hp])
theorem acts_bd {l : List OpL} : ∀ {M : List (List Int)} {N : Nat}, Sh h w M → (∀ o ∈ l, OkI h o) → Bd h N M → Bd h (N * prd l) (actsO M l) := by
 induction l with
 | nil => exact fun _ _ hB => by rw [prd, zn8]; exact hB
 | cons o l ih =>
  intro M N hM ho hB
  have := ih (sh_act hM (ho o (by simp))) (fun p hp => ho p (by simp [hp])) (bd_act hM (ho o (by simp)) hB)
  rw [Nat.mul_assoc] at this
  exact this
theorem Nx.left (hx : Nx h r c M o) (hr : r < h) (hM : Sh h w M) {t : Nat} (hz : ∀ q, r ≤ q → q < h → ent2 M q t = 0) {q : Nat} (hq : q < h) : ent2 (actO M o) q t = ent2 M q t := by
 rw [sh_ent hM (hx.ok hr) hq]
 cases hx with
 | @swap i h1 h2 =>
  obtain ⟨a, b, _, _⟩ := least_some h1
  rw [if_pos rfl]
  have hi : i < h := by omega
  simp only
  by_cases e1 : q = i
  ·rw [if_pos e1, hz r (znb _) hr, e1, hz i a hi]
  ·rw [if_neg e1]
   by_cases e2 : q = r
   ·rw [if_pos e2, hz i a hi, e2, hz r (znb _) hr]
   ·rw [if_neg e2]
 | neg h1 h2 =>
  rw [if_neg (by simp), if_pos rfl]
  simp only
  split
  ·rename_i e; rw [e, hz r (znb _) hr]; rfl
  ·rfl
 | low =>
  rw [if_neg (by simp), if_neg (by simp)]
  simp only
  rw [hz r (znb _) hr, Int.mul_zero, Int.add_zero]; split <;> rfl
 | up =>
  rw [if_neg (by simp), if_neg (by simp)]
  simp only
  rw [hz r (znb _) hr, Int.mul_zero, Int.add_zero]; split <;> rfl
theorem Path.left {l : List OpL} (hp : Path h r c M l M') (hr : r < h) {t : Nat} : Sh h w M → (∀ q, r ≤ q → q < h → ent2 M q t = 0) → ∀ q, q < h → ent2 M' q t = ent2 M q t := by
 induction hp with
 | nil => exact fun _ _ _ _ => rfl
 | cons hx _ ih =>
  intro hM hz q hq
  rw [ih (sh_act hM (hx.ok hr)) (fun q h1 h2 => by rw [hx.left hr hM hz h2]; exact hz q h1 h2) q hq, hx.left hr hM hz hq]
end
end Go.Proofs.Ytdcbmdmlhjemmaa
namespace Go.Proofs.Ytdcbmdmlhjemmaa
def fac (x : Int) : Nat := if x = 0 then 1 else 4 * x.natAbs
theorem fac_pos (x : Int) : 1 ≤ fac x := by unfold fac; split <;> omega
def psi (M : List (List Int)) (c a : Nat) : Nat → Nat
 | 0 => 1
 | n + 1 => fac (ent2 M (a + n) c) * psi M c a n
def nzc (M : List (List Int)) (c a : Nat) : Nat → Nat
 | 0 => 0
 | n + 1 => (if ent2 M (a + n) c = 0 then 0 else 1) + nzc M c a n
section
variable {h w r c a k N : Nat} {M M' : List (List Int)} {o : OpL}
theorem psi_pos : ∀ n : Nat, 1 ≤ psi M c a n
 | 0 => znb _
 | n + 1 => Nat.mul_le_mul (fac_pos _) (psi_pos n)
theorem psi_congr : ∀ {n : Nat}, (∀ j, a ≤ j → j < a + n → ent2 M' j c = ent2 M j c) → psi M' c a n = psi M c a n
 | 0, _ => rfl
 | n + 1, he => by rw [psi, psi, he (a + n) (by omega) (by omega), psi_congr fun j h1 h2 => he j h1 (by omega)]
theorem psi_chg : ∀ {n : Nat}, (∀ j, a ≤ j → j < a + n → j ≠ k → ent2 M' j c = ent2 M j c) → a ≤ k → k < a + n → psi M' c a n * fac (ent2 M k c) = psi M c a n * fac (ent2 M' k c)
 | 0, _, h1, h2 => by omega
 | n + 1, he, h1, h2 => by
  rw [psi, psi]
  by_cases e : k = a + n
  ·rw [psi_congr fun j h3 h4 => he j h3 (by omega) (by omega), ← e]
   generalize fac (ent2 M k c) = x; generalize fac (ent2 M' k c) = y; generalize psi M c a n = z; grind
  ·rw [he (a + n) (by omega) (by omega) (fun x => e x.symm), Nat.mul_assoc, Nat.mul_assoc, psi_chg (n := n) (fun j h3 h4 => he j h3 (by omega)) h1 (by omega)]
theorem nzc_congr : ∀ {n : Nat}, (∀ j, a ≤ j → j < a + n → ent2 M' j c = ent2 M j c) → nzc M' c a n = nzc M c a n
 | 0, _ => rfl
 | n + 1, he => by rw [nzc, nzc, he (a + n) (by omega) (by omega), nzc_congr fun j h1 h2 => he j h1 (by omega)]
theorem nzc_chg : ∀ {n : Nat}, (∀ j, a ≤ j → j < a + n → j ≠ k → ent2 M' j c = ent2 M j c) → a ≤ k → k < a + n → nzc M' c a n + (if ent2 M k c = 0 then 0 else 1) = nzc M c a n + (if ent2 M' k c = 0 then 0 else 1)
 | 0, _, h1, h2 => by omega
 | n + 1, he, h1, h2 => by
  rw [nzc, nzc]
  by_cases e : k = a + n
  ·rw [nzc_congr fun j h3 h4 => he j h3 (by omega) (by omega), ← e]; omega
  ·rw [he (a + n) (by omega) (by omega) (fun x => e x.symm)]
   have := nzc_chg (n := n) (fun j h3 h4 => he j h3 (by omega)) h1 (by omega)
   omega
theorem nzc_le : ∀ n : Nat, nzc M c a n ≤ n
 | 0 => znb _
 | n + 1 => by have := nzc_le n; rw [nzc]; split <;> omega
theorem nzc_zero : ∀ {n : Nat}, nzc M c a n = 0 → ∀ j, a ≤ j → j < a + n → ent2 M j c = 0
 | 0, _, j, h1, h2 => by omega
 | n + 1, h, j, h1, h2 => by
  rw [nzc] at h
  by_cases e : j = a + n
  ·rw [e]; apply Classical.byContradiction; intro hn; rw [if_neg hn] at h; omega
  ·exact nzc_zero (n := n) (by omega) j h1 (by omega)
theorem nzc_of : ∀ {n : Nat}, (∀ j, a ≤ j → j < a + n → ent2 M j c = 0) → nzc M c a n = 0
 | 0, _ => rfl
 | n + 1, h => by rw [nzc, h (a + n) (by omega) (by omega), if_pos rfl, nzc_of fun j h1 h2 => h j h1 (by omega)]
theorem psi_le (hN : 1 ≤ N) : ∀ {n : Nat}, (∀ j, a ≤ j → j < a + n → (ent2 M j c).natAbs ≤ N) → psi M c a n ≤ (4 * N) ^ n
 | 0, _ => znb _
 | n + 1, h => by
  rw [psi, Nat.pow_succ, Nat.mul_comm]
  refine Nat.mul_le_mul (psi_le hN fun j h1 h2 => h j h1 (by omega)) ?_
  have := h (a + n) (by omega) (by omega)
  unfold fac; split <;> omega
def Nm (h r c : Nat) (M : List (List Int)) : Prop := 0 < ent2 M r c ∧ ∀ k, r < k → k < h → ent2 M k c = 0 ∨ (ent2 M r c).natAbs ≤ (ent2 M k c).natAbs
theorem Nm.least (hn : Nm h r c M) (hr : r < h) : leastT M c r (h - r) = some r :=
 least_first (by omega) (by have := hn.1; omega) fun k h1 h2 => hn.2 k h1 (by omega)
theorem fixsign (hr : r < h) (hM : Sh h w M) (h0 : ent2 M r c ≠ 0) (hl : ∀ k, r < k → k < h → ent2 M k c = 0 ∨ (ent2 M r c).natAbs ≤ (ent2 M k c).natAbs) :
  ∃ l M', Path h r c M l M' ∧ Nm h r c M' ∧ Sh h w M' ∧ (ent2 M' r c).natAbs = (ent2 M r c).natAbs ∧ l.length ≤ 1 ∧ prd l = 1 ∧ ∀ q, q < h → q ≠ r → ∀ s, ent2 M' q s = ent2 M q s := by
 by_cases hs : ent2 M r c < 0
 ·have hx : Nx h r c M ⟨2, r, 0, 0⟩ := .neg (least_first (by omega) h0 fun k h1 h2 => hl k h1 (by omega)) hs
  have he : ∀ q, q < h → ∀ s, ent2 (actO M ⟨2, r, 0, 0⟩) q s = if q = r then -(ent2 M q s) else ent2 M q s := fun q hq s => by
   rw [sh_ent hM (hx.ok hr) hq, if_neg (by simp), if_pos rfl]
  refine ⟨[_], _, .cons hx .nil, ⟨?_, fun k h1 h2 => ?_⟩, sh_act hM (hx.ok hr), ?_, znb _, rfl, fun q hq h1 s => ?_⟩
  ·rw [he r hr, if_pos rfl]; omega
  ·rw [he r hr, if_pos rfl, he k h2, if_neg (by omega), Int.natAbs_neg]; exact hl k h1 h2
  ·rw [he r hr, if_pos rfl, Int.natAbs_neg]
  ·rw [he q hq, if_neg h1]
 ·exact ⟨[], M, .nil, ⟨by omega, hl⟩, hM, rfl, by simp, rfl, fun _ _ _ _ => rfl⟩
theorem start (hr : r < h) (hM : Sh h w M) {i : Nat} (hi : leastT M c r (h - r) = some i) :
  ∃ l M', Path h r c M l M' ∧ Nm h r c M' ∧ Sh h w M' ∧ l.length ≤ 2 ∧ prd l = 1 ∧ ∀ q, q < r → ∀ s, ent2 M' q s = ent2 M q s := by
 obtain ⟨i1, i2, i3, i4⟩ := least_some hi
 by_cases e : i = r
 ·subst e
  obtain ⟨l, M', p1, p2, p3, _, p5, p6, p7⟩ := fixsign hr hM i3 fun k h1 h2 => i4 k (by omega) (by omega)
  exact ⟨l, M', p1, p2, p3, by omega, p6, fun q hq s => p7 q (by omega) (by omega) s⟩
 ·have hx : Nx h r c M ⟨1, r, i, 0⟩ := .swap hi e
  have he : ∀ q, q < h → ∀ s, ent2 (actO M ⟨1, r, i, 0⟩) q s = if q = i then ent2 M r s else if q = r then ent2 M i s else ent2 M q s := fun q hq s => by
   rw [sh_ent hM (hx.ok hr) hq, if_pos rfl]
  have her : ent2 (actO M ⟨1, r, i, 0⟩) r c = ent2 M i c := by rw [he r hr, if_neg (fun x => e x.symm), if_pos rfl]
  obtain ⟨l, M', p1, p2, p3, _, p5, p6, p7⟩ := fixsign (c := c) hr (sh_act hM (hx.ok hr)) (by rw [her]; exact i3) fun k h1 h2 => by
   rw [her, he k h2]
   by_cases e1 : k = i
   ·rw [if_pos e1]; exact i4 r (znb _) (by omega)
   ·rw [if_neg e1, if_neg (by omega)]; exact i4 k (by omega) (by omega)
  refine ⟨_ :: l, M', .cons hx p1, p2, p3, by simp; omega, by rw [prd, p6]; rfl, fun q hq s => ?_⟩
  rw [p7 q (by omega) (by omega) s, he q (by omega), if_neg (by omega), if_neg (by omega)]
theorem grow0 {Q X P A B : Nat} (hP : 1 ≤ P) (h1 : 2 * (Q * P) ≤ 2 * X + P) (h2 : P ≤ X) (he : A * (4 * X) = B * 1) : (1 + Q) * (P * P * A) ≤ P * P * B := by
 have h3 : Q ≤ Q * P := Nat.le_mul_of_pos_right _ hP
 have h4 : 1 + Q ≤ 4 * X := by omega
 calc (1 + Q) * (P * P * A) ≤ (4 * X) * (P * P * A) := Nat.mul_le_mul_right _ h4
  _ = P * P * (A * (4 * X)) := by rw [Nat.mul_comm, Nat.mul_assoc]
  _ = P * P * B := by rw [he, zn8]
theorem grow1 {Q X P Y A B : Nat} (h0 : 2 * Y ≤ P) (h1 : 2 * (Q * P) ≤ 2 * X + P) (h2 : P ≤ X) (he : A * (4 * X) = B * (4 * P)) : (1 + Q) * (Y * Y * A) ≤ P * P * B := by
 have a1 : 2 * Y * (2 * Y) ≤ P * P := Nat.mul_le_mul h0 h0
 have a2 : 2 * Y * (2 * Y) = 4 * (Y * Y) := by rw [Nat.mul_assoc, Nat.mul_left_comm Y, ← Nat.mul_assoc]
 have a3 : (1 + Q) * (4 * (Y * Y)) ≤ (1 + Q) * (P * P) := Nat.mul_le_mul_left _ (by omega)
 have a4 : (1 + Q) * (P * P) = (P + Q * P) * P := by rw [← Nat.mul_assoc, Nat.add_mul, zna]
 have a5 : 2 * ((P + Q * P) * P) ≤ 5 * X * P := by
  rw [← Nat.mul_assoc]; exact Nat.mul_le_mul_right _ (by omega)
 have a6 : (1 + Q) * (4 * (Y * Y)) = 4 * ((1 + Q) * (Y * Y)) := by rw [Nat.mul_left_comm]
 have a7 : 5 * X * P = 5 * (X * P) := Nat.mul_assoc _ _ _
 have a8 : (1 + Q) * (Y * Y) ≤ X * P := by omega
 have a9 : X * A = B * P := by
  have b1 : A * (4 * X) = 4 * (X * A) := by rw [Nat.mul_left_comm, Nat.mul_comm A]
  have b2 : B * (4 * P) = 4 * (B * P) := Nat.mul_left_comm _ _ _
  omega
 calc (1 + Q) * (Y * Y * A) = (1 + Q) * (Y * Y) * A := (Nat.mul_assoc _ _ _).symm
  _ ≤ X * P * A := Nat.mul_le_mul_right _ a8
  _ = P * (X * A) := by rw [Nat.mul_comm X, Nat.mul_assoc]
  _ = P * P * B := by rw [a9, Nat.mul_comm B, Nat.mul_assoc]
theorem below (hr : r < h) : ∀ (n : Nat) {M : List (List Int)} {t : Nat}, Sh h w M → Nm h r c M → (ent2 M r c).natAbs < 2 ^ t → t + nzc M c (r + 1) (h - (r + 1)) ≤ n →
  ∃ l M', Path h r c M l M' ∧ Nm h r c M' ∧ Sh h w M' ∧ (∀ j, r < j → j < h → ent2 M' j c = 0) ∧ prd l ≤ (ent2 M r c).natAbs * (ent2 M r c).natAbs * psi M c (r + 1) (h - (r + 1)) ∧ l.length ≤ 3 * n ∧ (nzc M c (r + 1) (h - (r + 1)) = 0 → l = []) ∧ ∀ q, q < r → ∀ s, ent2 M' q s = ent2 M q s := by
 intro n
 induction n with
 | zero =>
  intro M t hM hn ht hle
  have hp := hn.1
  have : t = 0 := by omega
  subst this
  simp at ht; omega
 | succ n ih =>
  intro M t hM hn ht hle
  have hp := hn.1
  by_cases hz : nzc M c (r + 1) (h - (r + 1)) = 0
  ·refine ⟨[], M, .nil, hn, hM, fun j h1 h2 => nzc_zero hz j (by omega) (by omega), ?_, by simp, fun _ => rfl, fun _ _ _ => rfl⟩
   exact Nat.mul_le_mul (Nat.mul_le_mul (show 1 ≤ _ by omega) (show 1 ≤ _ by omega)) (psi_pos _)
  ·obtain ⟨k0, hk0⟩ : ∃ k, r + 1 ≤ k ∧ k < h ∧ ent2 M k c ≠ 0 := by
    apply Classical.byContradiction
    intro hno
    exact hz (nzc_of fun j h1 h2 => Classical.byContradiction fun h3 => hno ⟨j, h1, by omega, h3⟩)
   obtain ⟨k, ⟨hk1, hk2, hk3⟩, hkl⟩ := least_of (P := fun k => r + 1 ≤ k ∧ k < h ∧ ent2 M k c ≠ 0) hk0
   have hfirst : ∀ j, r < j → j < k → ent2 M j c = 0 := fun j h1 h2 => Classical.byContradiction fun h3 => hkl j h2 ⟨by omega, by omega, h3⟩
   have hx : Nx h r c M ⟨3, k, r, -(nearI (ent2 M k c) (ent2 M r c))⟩ := .low (hn.least hr) hp (by omega) hk2 hk3 hfirst
   obtain ⟨n1, n2⟩ := near_spec (x := ent2 M k c) hp
   have hge : (ent2 M r c).natAbs ≤ (ent2 M k c).natAbs := (hn.2 k (by omega) hk2).resolve_left hk3
   have he : ∀ q, q < h → ∀ s, ent2 (actO M ⟨3, k, r, -(nearI (ent2 M k c) (ent2 M r c))⟩) q s = if q = k then ent2 M q s + -(nearI (ent2 M k c) (ent2 M r c)) * ent2 M r s else ent2 M q s := fun q hq s => by
    rw [sh_ent hM (hx.ok hr) hq, if_neg (by simp), if_neg (by simp)]
   have hxk : ent2 (actO M ⟨3, k, r, -(nearI (ent2 M k c) (ent2 M r c))⟩) k c = ent2 M k c - nearI (ent2 M k c) (ent2 M r c) * ent2 M r c := by
    rw [he k hk2, if_pos rfl, Int.neg_mul, Int.sub_eq_add_neg]
   rw [← hxk] at n1
   have hS1 := sh_act hM (hx.ok hr)
   have hpr : prd [⟨3, k, r, -(nearI (ent2 M k c) (ent2 M r c))⟩] = 1 + (nearI (ent2 M k c) (ent2 M r c)).natAbs := by
    rw [prd, prd, zn8]; simp only [Int.natAbs_neg]
   generalize hq : nearI (ent2 M k c) (ent2 M r c) = Q at *
   generalize hM1 : actO M ⟨3, k, r, -Q⟩ = M1 at *
   have hoth : ∀ q, q < h → q ≠ k → ∀ s, ent2 M1 q s = ent2 M q s := fun q hq h1 s => by rw [he q hq, if_neg h1]
   have her := hoth r hr (by omega) c
   by_cases hx0 : ent2 M1 k c = 0
   ·have hn1 : Nm h r c M1 := ⟨by rw [her]; exact hp, fun j h1 h2 => by
     by_cases e : j = k
     ·rw [e]; exact .inl hx0
     ·rw [her, hoth j h2 e]; exact hn.2 j h1 h2⟩
    have hc1 := nzc_chg (M := M) (M' := M1) (c := c) (a := r + 1) (k := k) (n := h - (r + 1)) (fun j h1 h2 h3 => hoth j (by omega) h3 c) hk1 (by omega)
    have hp1 := psi_chg (M := M) (M' := M1) (c := c) (a := r + 1) (k := k) (n := h - (r + 1)) (fun j h1 h2 h3 => hoth j (by omega) h3 c) hk1 (by omega)
    rw [if_neg hk3, if_pos hx0] at hc1
    rw [show fac (ent2 M k c) = 4 * (ent2 M k c).natAbs from if_neg hk3, show fac (ent2 M1 k c) = 1 by rw [hx0]; rfl] at hp1
    obtain ⟨l, M', p1, p2, p3, p4, p5, p6, p7, p8⟩ := ih (M := M1) (t := t) hS1 hn1 (by rw [her]; exact ht) (by omega)
    refine ⟨_ :: l, M', .cons hx (by rw [hM1]; exact p1), p2, p3, p4, ?_, by rw [List.length_cons]; omega, fun e => absurd e hz, fun q h1 s => by rw [p8 q h1, hoth q (by omega) (by omega)]⟩
    rw [her] at p5
    have := prd_app [⟨3, k, r, -Q⟩] l
    rw [hpr] at this
    show prd ([_] ++ l) ≤ _
    rw [this]
    exact Nat.le_trans (Nat.mul_le_mul_left _ p5) (grow0 (by omega) n2 hge hp1)
   ·have hlt : (ent2 M1 k c).natAbs < (ent2 M r c).natAbs := by omega
    have hl1 : leastT M1 c r (h - r) = some k := least_uniq (by omega) (by omega) hx0 fun j h1 h2 h3 => by
     by_cases e : j = r
     ·rw [e, her]; exact .inr hlt
     ·rw [hoth j (by omega) h3]
      rcases hn.2 j (by omega) (by omega) with h4 | h4
      ·exact .inl h4
      ·exact .inr (by omega)
    have hx2 : Nx h r c M1 ⟨1, r, k, 0⟩ := .swap hl1 (by omega)
    have he2 : ∀ q, q < h → ∀ s, ent2 (actO M1 ⟨1, r, k, 0⟩) q s = if q = k then ent2 M1 r s else if q = r then ent2 M1 k s else ent2 M1 q s := fun q hq s => by
     rw [sh_ent hS1 (hx2.ok hr) hq, if_pos rfl]
    have hS2 := sh_act hS1 (hx2.ok hr)
    generalize hM2 : actO M1 ⟨1, r, k, 0⟩ = M2 at *
    have h2r : ent2 M2 r c = ent2 M1 k c := by rw [he2 r hr, if_neg (by omega), if_pos rfl]
    have h2k : ent2 M2 k c = ent2 M r c := by rw [he2 k hk2, if_pos rfl, her]
    have h2o : ∀ q, q < h → q ≠ k → q ≠ r → ∀ s, ent2 M2 q s = ent2 M q s := fun q hq a b s => by rw [he2 q hq, if_neg a, if_neg b, hoth q hq a]
    obtain ⟨l3, M3, f1, f2, f3, f4, f5, f6, f7⟩ := fixsign (c := c) hr hS2 (by rw [h2r]; exact hx0) fun j h1 h2 => by
     by_cases e : j = k
     ·rw [e, h2k, h2r]; exact .inr (by omega)
     ·rw [h2r, h2o j h2 e (by omega)]
      rcases hn.2 j h1 h2 with h4 | h4
      ·exact .inl h4
      ·exact .inr (by omega)
    rw [h2r] at f4
    have h3k : ent2 M3 k c = ent2 M r c := by rw [f7 k hk2 (by omega), h2k]
    have h3o : ∀ q, q < h → q ≠ k → q ≠ r → ∀ s, ent2 M3 q s = ent2 M q s := fun q hq a b s => by rw [f7 q hq b, h2o q hq a b]
    have hc1 := nzc_chg (M := M) (M' := M3) (c := c) (a := r + 1) (k := k) (n := h - (r + 1)) (fun j h1 h2 h3 => h3o j (by omega) h3 (by omega) c) hk1 (by omega)
    have hp1 := psi_chg (M := M) (M' := M3) (c := c) (a := r + 1) (k := k) (n := h - (r + 1)) (fun j h1 h2 h3 => h3o j (by omega) h3 (by omega) c) hk1 (by omega)
    rw [if_neg hk3, h3k, if_neg (by omega)] at hc1
    rw [h3k, show fac (ent2 M k c) = 4 * (ent2 M k c).natAbs from if_neg hk3, show fac (ent2 M r c) = 4 * (ent2 M r c).natAbs from if_neg (by omega)] at hp1
    obtain ⟨s, rfl⟩ : ∃ s, t = s + 1 := by
     cases t with
     | zero => simp at ht; omega
     | succ s => exact ⟨s, rfl⟩
    rw [Nat.pow_succ] at ht
    obtain ⟨l, M', p1, p2, p3, p4, p5, p6, p7, p8⟩ := ih (M := M3) (t := s) f3 f2 (by rw [f4]; omega) (by omega)
    refine ⟨_ :: _ :: (l3 ++ l), M', .cons hx (by rw [hM1]; exact .cons hx2 (by rw [hM2]; exact f1.app p1)), p2, p3, p4, ?_, by simp; omega, fun e => absurd e hz, fun q h1 s => by rw [p8 q h1, h3o q (by omega) (by omega) (by omega)]⟩
    rw [f4] at p5
    have := prd_app [⟨3, k, r, -Q⟩] (⟨1, r, k, 0⟩ :: (l3 ++ l))
    rw [hpr] at this
    show prd ([_] ++ (⟨1, r, k, 0⟩ :: (l3 ++ l))) ≤ _
    rw [this, prd, prd_app, f6, zna]
    simp only [Int.natAbs_zero, Nat.add_zero, zna]
    exact Nat.le_trans (Nat.mul_le_mul_left _ p5) (grow1 n1 n2 hge hp1)
theorem up (hr : r < h) : ∀ (d : Nat) {M : List (List Int)} {j : Nat}, r - j ≤ d → Sh h w M → Nm h r c M → (∀ q, r < q → q < h → ent2 M q c = 0) → (∀ i, i < j → i < r → ent2 M i c / ent2 M r c = 0) → (∀ i, j ≤ i → i < r → (ent2 M i c).natAbs ≤ N) →
  ∃ l M', Path h r c M l M' ∧ Nm h r c M' ∧ Sh h w M' ∧ (∀ i, i < r → ent2 M' i c / ent2 M' r c = 0) ∧ prd l ≤ (1 + N) ^ (r - j) ∧ l.length ≤ r - j ∧ ∀ q, r ≤ q → q < h → ∀ s, ent2 M' q s = ent2 M q s := by
 intro d
 induction d with
 | zero =>
  intro M j hd hM hn _ hlo _
  exact ⟨[], M, .nil, hn, hM, fun i hi => hlo i (by omega) hi, Nat.pow_pos (by omega), by simp, fun _ _ _ _ => rfl⟩
 | succ d ih =>
  intro M j hd hM hn hz hlo hB
  have hp := hn.1
  by_cases hj : j < r
  ·have hpow : (1 + N) ^ (r - j) = (1 + N) ^ (r - (j + 1)) * (1 + N) := by rw [← Nat.pow_succ]; congr 1; omega
   by_cases h0 : ent2 M j c / ent2 M r c = 0
   ·obtain ⟨l, M', p1, p2, p3, p4, p5, p6, p7⟩ := ih (M := M) (j := j + 1) (by omega) hM hn hz (fun i h1 h2 => by
     by_cases e : i = j
     ·rw [e]; exact h0
     ·exact hlo i (by omega) h2) (fun i h1 h2 => hB i (by omega) h2)
    exact ⟨l, M', p1, p2, p3, p4, Nat.le_trans p5 (by rw [hpow]; exact Nat.le_mul_of_pos_right _ (by omega)), by omega, p7⟩
   ·have hx : Nx h r c M ⟨3, j, r, -(ent2 M j c / ent2 M r c)⟩ := .up (hn.least hr) hp hz hj h0 fun i hi => hlo i hi (by omega)
    have he : ∀ q, q < h → ∀ s, ent2 (actO M ⟨3, j, r, -(ent2 M j c / ent2 M r c)⟩) q s = if q = j then ent2 M q s + -(ent2 M j c / ent2 M r c) * ent2 M r s else ent2 M q s := fun q hq s => by
     rw [sh_ent hM (hx.ok hr) hq, if_neg (by simp), if_neg (by simp)]
    have hS1 := sh_act hM (hx.ok hr)
    have hQ : (ent2 M j c / ent2 M r c).natAbs ≤ N := Nat.le_trans (Int.natAbs_ediv_le_natAbs _ _) (hB j (znb _) hj)
    have hmod : ent2 M j c + -(ent2 M j c / ent2 M r c) * ent2 M r c = ent2 M j c % ent2 M r c := by
     rw [Int.emod_def, Int.neg_mul, Int.mul_comm (ent2 M r c), Int.sub_eq_add_neg]
    generalize hM1 : actO M ⟨3, j, r, -(ent2 M j c / ent2 M r c)⟩ = M1 at *
    have hoth : ∀ q, q < h → q ≠ j → ∀ s, ent2 M1 q s = ent2 M q s := fun q hq h1 s => by rw [he q hq, if_neg h1]
    have her := hoth r hr (by omega) c
    have hjj : ent2 M1 j c = ent2 M j c % ent2 M r c := by rw [he j (by omega), if_pos rfl, hmod]
    obtain ⟨l, M', p1, p2, p3, p4, p5, p6, p7⟩ := ih (M := M1) (j := j + 1) (by omega) hS1 ⟨by rw [her]; exact hp, fun k h1 h2 => by rw [her, hoth k h2 (by omega)]; exact hn.2 k h1 h2⟩ (fun q h1 h2 => by rw [hoth q h2 (by omega)]; exact hz q h1 h2) (fun i h1 h2 => by
     by_cases e : i = j
     ·rw [e, her, hjj]
      exact Int.ediv_eq_zero_of_lt (Int.emod_nonneg _ (by omega)) (Int.emod_lt_of_pos _ hp)
     ·rw [her, hoth i (by omega) e]; exact hlo i (by omega) h2) (fun i h1 h2 => by rw [hoth i (by omega) (by omega)]; exact hB i (by omega) h2)
    refine ⟨_ :: l, M', .cons hx (by rw [hM1]; exact p1), p2, p3, p4, ?_, by simp; omega, fun q h1 h2 s => by rw [p7 q h1 h2, hoth q h2 (by omega)]⟩
    rw [prd, hpow, Nat.mul_comm]
    refine Nat.mul_le_mul p5 ?_
    simp only [Int.natAbs_neg]; omega
  ·exact ⟨[], M, .nil, hn, hM, fun i hi => hlo i (by omega) hi, Nat.pow_pos (by omega), by simp, fun _ _ _ _ => rfl⟩
theorem ediv_zero {x p : Int} (hp : 0 < p) (h : x / p = 0) : 0 ≤ x ∧ x < p := by
 have h1 := Int.emod_nonneg x (show p ≠ 0 by omega)
 have h2 := Int.emod_lt_of_pos x hp
 have h3 := Int.mul_ediv_add_emod x p
 rw [h, Int.mul_zero, Int.zero_add] at h3
 omega
theorem col_ex (hr : r < h) (hM : Sh h w M) (hB : Bd h N M) (hN : 1 ≤ N) {t : Nat} (ht : N < 2 ^ t) :
  ∃ l M', Path h r c M l M' ∧ NxNo h r c M' ∧ Sh h w M' ∧ ((l = [] ∧ M' = M ∧ ∀ q, r ≤ q → q < h → ent2 M q c = 0) ∨ (0 < ent2 M' r c ∧ (∀ j, r < j → j < h → ent2 M' j c = 0) ∧ ∀ j, j < r → 0 ≤ ent2 M' j c ∧ ent2 M' j c < ent2 M' r c)) ∧
   prd l ≤ N * N * (4 * N) ^ (h - (r + 1)) * (1 + N) ^ r ∧ l.length ≤ 2 + (if h - (r + 1) = 0 then 0 else 3 * (t + (h - (r + 1)))) + r := by
 cases hl : leastT M c r (h - r) with
 | none =>
  refine ⟨[], M, .nil, .inl hl, hM, .inl ⟨rfl, rfl, fun q h1 h2 => least_none hl q h1 (by omega)⟩, ?_, by simp⟩
  exact Nat.mul_le_mul (Nat.mul_le_mul (Nat.mul_le_mul hN hN) (Nat.pow_pos (by omega))) (Nat.pow_pos (by omega))
 | some i =>
  obtain ⟨l1, M1, a1, a2, a3, a4, a5, a6⟩ := start hr hM hl
  have hB1 : Bd h N M1 := by
   have := acts_bd hM (a1.ok hr) hB
   rwa [← a1.acts, a5, zn8] at this
  have hz1 := nzc_le (M := M1) (c := c) (a := r + 1) (h - (r + 1))
  obtain ⟨l2, M2, b1, b2, b3, b4, b5, b6, b7, b8⟩ := below (c := c) hr (t + nzc M1 c (r + 1) (h - (r + 1))) a3 a2 (Nat.lt_of_le_of_lt (hB1 r c hr) ht) (znb _)
  obtain ⟨l3, M3, d1, d2, d3, d4, d5, d6, d7⟩ := up (c := c) (N := N) hr r (M := M2) (j := 0) (by omega) b3 b2 b4 (fun i h1 => by omega) fun i _ h1 => by
   rw [b8 i h1, a6 i h1]; exact hB i c (by omega)
  have hz3 : ∀ j, r < j → j < h → ent2 M3 j c = 0 := fun j h1 h2 => by rw [d7 j (by omega) h2]; exact b4 j h1 h2
  refine ⟨l1 ++ (l2 ++ l3), M3, a1.app (b1.app d1), .inr ⟨d2.least hr, d2.1, hz3, d4⟩, d3, .inr ⟨d2.1, hz3, fun j h1 => ediv_zero d2.1 (d4 j h1)⟩, ?_, ?_⟩
  ·rw [prd_app, prd_app, a5, zna]
   refine Nat.mul_le_mul (Nat.le_trans b5 ?_) d5
   refine Nat.mul_le_mul (Nat.mul_le_mul (hB1 r c hr) (hB1 r c hr)) (psi_le hN fun j h1 h2 => hB1 j c (by omega))
  ·rw [zl1, zl1]
   by_cases e : h - (r + 1) = 0
   ·rw [if_pos e]
    have := b7 (by omega)
    rw [this]; simp; omega
   ·rw [if_neg e]; omega
end
end Go.Proofs.Ytdcbmdmlhjemmaa
namespace Go.Proofs.Ytdcbmdmlhjemmaa
inductive Cols (h w : Nat) : Nat → Nat → List (List Int) → List OpL → List (List Int) → Prop
 | done {r c : Nat} {M : List (List Int)} : ¬ (c < w ∧ r < h) → Cols h w r c M [] M
 | col {r c : Nat} {M M1 M2 : List (List Int)} {l m : List OpL} : c < w → r < h → Path h r c M l M1 → NxNo h r c M1 → Cols h w (if ent2 M1 r c ≠ 0 then r + 1 else r) (c + 1) M1 m M2 → Cols h w r c M (l ++ m) M2
section
variable {h w r c N : Nat} {M M' : List (List Int)}
theorem Cols.acts {l : List OpL} (hp : Cols h w r c M l M') : M' = actsO M l := by
 induction hp with
 | done => rfl
 | col _ _ p1 _ _ ih => rw [ih, p1.acts, actsO_app]
theorem Cols.ok {l : List OpL} (hp : Cols h w r c M l M') : ∀ o ∈ l, OkI h o := by
 induction hp with
 | done => intro o ho; cases ho
 | col _ h1 p1 _ _ ih => intro o ho; exact (List.mem_append.1 ho).elim (p1.ok h1 o) (ih o)
def btF (h : Nat) : Nat → Nat → Nat → Nat
 | 0, _, b => b
 | k + 1, r, b => if r < h then btF h k (r + 1) (b + (2 * b + (h - (r + 1)) * (b + 2) + r * (b + 1))) else b
def cnF (h : Nat) : Nat → Nat → Nat → Nat
 | 0, _, _ => 0
 | k + 1, r, b => if r < h then 2 + (if h - (r + 1) = 0 then 0 else 3 * (b + (h - (r + 1)))) + r + cnF h k (r + 1) (b + (2 * b + (h - (r + 1)) * (b + 2) + r * (b + 1))) else 0
theorem bt_mono : ∀ k r b : Nat, btF h k r b ≤ btF h (k + 1) r b
 | 0, r, b => by unfold btF; split <;> (try unfold btF) <;> omega
 | k + 1, r, b => by
  rw [btF, btF]
  split
  ·exact bt_mono k _ _
  ·exact znb _
theorem cn_mono : ∀ k r b : Nat, cnF h k r b ≤ cnF h (k + 1) r b
 | 0, r, b => by unfold cnF; omega
 | k + 1, r, b => by
  rw [cnF, cnF]
  split
  ·exact Nat.add_le_add_left (cn_mono k _ _) _
  ·exact znb _
theorem bt_ge : ∀ k r b : Nat, b ≤ btF h k r b
 | 0, _, _ => znb _
 | k + 1, r, b => by
  rw [btF]; split
  ·exact Nat.le_trans (by omega) (bt_ge k _ _)
  ·exact znb _
theorem pow_grow {N b n r : Nat} (hb : N < 2 ^ b) : N * (N * N * (4 * N) ^ n * (1 + N) ^ r) < 2 ^ (b + (2 * b + n * (b + 2) + r * (b + 1))) := by
 have h1 : N ≤ 2 ^ b := Nat.le_of_lt hb
 have h2 : 4 * N ≤ 2 ^ (b + 2) := by rw [Nat.pow_add, Nat.mul_comm]; exact Nat.mul_le_mul_right _ h1
 have h3 : 1 + N ≤ 2 ^ (b + 1) := by rw [Nat.pow_succ]; omega
 have h4 : (4 * N) ^ n ≤ 2 ^ (n * (b + 2)) := by rw [Nat.mul_comm n, Nat.pow_mul]; exact Nat.pow_le_pow_left h2 n
 have h5 : (1 + N) ^ r ≤ 2 ^ (r * (b + 1)) := by rw [Nat.mul_comm r, Nat.pow_mul]; exact Nat.pow_le_pow_left h3 r
 have h6 : N * N ≤ 2 ^ (2 * b) := by rw [Nat.two_mul, Nat.pow_add]; exact Nat.mul_le_mul h1 h1
 have h7 : N * N * (4 * N) ^ n * (1 + N) ^ r ≤ 2 ^ (2 * b + n * (b + 2) + r * (b + 1)) := by
  rw [Nat.pow_add, Nat.pow_add]; exact Nat.mul_le_mul (Nat.mul_le_mul h6 h4) h5
 rw [Nat.pow_add]
 exact Nat.lt_of_le_of_lt (Nat.mul_le_mul_left _ h7) (Nat.mul_lt_mul_of_pos_right hb (Nat.pow_pos (by omega)))
theorem cols_ex : ∀ (k : Nat) {r c N b : Nat} {p : Nat → Nat} {M : List (List Int)}, w - c ≤ k → Sh h w M → HS h w c r p M → Bd h N M → 1 ≤ N → N < 2 ^ b →
  ∃ l M' c' r' p', Cols h w r c M l M' ∧ Sh h w M' ∧ ¬ (c' < w ∧ r' < h) ∧ HS h w c' r' p' M' ∧ N * prd l < 2 ^ btF h k r b ∧ l.length ≤ cnF h k r b := by
 intro k
 induction k with
 | zero =>
  intro r c N b p M hk hM hS _ _ hb
  exact ⟨[], M, c, r, p, .done (by omega), hM, by omega, hS, by rw [prd, zn8]; exact hb, by simp⟩
 | succ k ih =>
  intro r c N b p M hk hM hS hB hN hb
  by_cases hd : c < w ∧ r < h
  ·obtain ⟨hc, hr⟩ := hd
   obtain ⟨l, M1, p1, p2, p3, p4, p5, p6⟩ := col_ex (c := c) hr hM hB hN hb
   rcases p4 with ⟨rfl, rfl, hz⟩ | ⟨q1, q2, q3⟩
   ·have hS1 : HS h w (c + 1) r p M1 := ⟨hS.th, hc, fun i hi => Nat.lt_succ_of_lt (hS.pc i hi), hS.pos, hS.lead, hS.inc, hS.red, fun q h1 h2 t ht => by
     by_cases e : t = c
     ·rw [e]; exact hz q h1 h2
     ·exact hS.zero q h1 h2 t (by omega)⟩
    obtain ⟨m, M2, c', r', p', a1, a2, a3, a4, a5, a6⟩ := ih (by omega) hM hS1 hB hN hb
    have h0 : (if ent2 M1 r c ≠ 0 then r + 1 else r) = r := if_neg fun hh => hh (hz r (znb _) hr)
    exact ⟨[] ++ m, M2, c', r', p', .col hc hr p1 p2 (by rw [h0]; exact a1), a2, a3, a4, Nat.lt_of_lt_of_le a5 (Nat.pow_le_pow_right (by omega) (bt_mono _ _ _)), Nat.le_trans a6 (cn_mono _ _ _)⟩
   ·have hl : ∀ q, q < h → ∀ t, t < c → ent2 M1 q t = ent2 M q t := fun q hq t ht => p1.left hr hM (fun q' h1 h2 => hS.zero q' h1 h2 t ht) q hq
    have hpr : ∀ i, i < r → (fun i => if i = r then c else p i) i = p i := fun i hi => if_neg (by omega)
    have hprr : (fun i => if i = r then c else p i) r = c := if_pos rfl
    have hth := hS.th
    have hS1 : HS h w (c + 1) (r + 1) (fun i => if i = r then c else p i) M1 := by
     generalize (fun i => if i = r then c else p i) = p2 at *
     refine ⟨by omega, hc, fun i hi => ?_, fun i hi => ?_, fun i hi j hj => ?_, fun i k h1 h2 => ?_, fun i k h1 h2 => ?_, fun q h1 h2 t ht => ?_⟩
     ·by_cases e : i = r
      ·rw [e, hprr]; omega
      ·rw [hpr i (by omega)]; have := hS.pc i (by omega); omega
     ·by_cases e : i = r
      ·rw [e, hprr]; exact q1
      ·rw [hpr i (by omega), hl i (by omega) _ (hS.pc i (by omega))]; exact hS.pos i (by omega)
     ·by_cases e : i = r
      ·rw [e, hprr] at hj
       rw [e, hl r hr j hj]; exact hS.zero r (znb _) hr j hj
      ·rw [hpr i (by omega)] at hj
       have := hS.pc i (by omega)
       rw [hl i (by omega) j (by omega)]; exact hS.lead i (by omega) j hj
     ·by_cases e : k = r
      ·rw [e, hprr, hpr i (by omega)]; exact hS.pc i (by omega)
      ·rw [hpr k (by omega), hpr i (by omega)]; exact hS.inc i k h1 (by omega)
     ·by_cases e : k = r
      ·rw [e, hprr]; exact q3 i (by omega)
      ·have := hS.pc k (by omega)
       rw [hpr k (by omega), hl i (by omega) _ this, hl k (by omega) _ this]; exact hS.red i k h1 (by omega)
     ·by_cases e : t = c
      ·rw [e]; exact q2 q (by omega) h2
      ·rw [hl q h2 t (by omega)]; exact hS.zero q (by omega) h2 t (by omega)
    have hB1 := acts_bd hM (p1.ok hr) hB
    rw [← p1.acts] at hB1
    have hN1 : N * prd l < 2 ^ (b + (2 * b + (h - (r + 1)) * (b + 2) + r * (b + 1))) := Nat.lt_of_le_of_lt (Nat.mul_le_mul_left _ p5) (pow_grow hb)
    obtain ⟨m, M2, c', r', p', a1, a2, a3, a4, a5, a6⟩ := ih (by omega) p3 hS1 hB1 (Nat.mul_le_mul hN (prd_pos l)) hN1
    have h0 : (if ent2 M1 r c ≠ 0 then r + 1 else r) = r + 1 := if_pos (by omega)
    refine ⟨l ++ m, M2, c', r', p', .col hc hr p1 p2 (by rw [h0]; exact a1), a2, a3, a4, ?_, ?_⟩
    ·rw [prd_app, ← Nat.mul_assoc, btF, if_pos hr]; exact a5
    ·rw [zl1, cnF, if_pos hr]; omega
  ·exact ⟨[], M, c, r, p, .done hd, hM, hd, hS, by rw [prd, zn8]; exact Nat.lt_of_lt_of_le hb (Nat.pow_le_pow_right (by omega) (bt_ge _ _ _)), by simp⟩
theorem red_ex {N b : Nat} (hM : Sh h w M) (hB : Bd h N M) (hN : 1 ≤ N) (hb : N < 2 ^ b) :
  ∃ l M' r p, Cols h w 0 0 M l M' ∧ Sh h w M' ∧ IsH h w (ent2 M') r p ∧ N * prd l < 2 ^ btF h w 0 b ∧ l.length ≤ cnF h w 0 b := by
 obtain ⟨l, M', c', r', p', a1, a2, a3, a4, a5, a6⟩ := cols_ex (h := h) (w := w) w (r := 0) (c := 0) (p := fun _ => 0) (M := M) (by omega) hM
  ⟨znc _, znc _, fun _ hi => by omega, fun _ hi => by omega, fun _ hi => by omega, fun _ _ _ hk => by omega, fun _ _ _ hk => by omega, fun _ _ _ t ht => by omega⟩ hB hN hb
 exact ⟨l, M', r', p', a1, a2, a4.isH a3, a5, a6⟩
theorem Bd.mi {K : Nat} (hM : Sh h w M) (hB : Bd h N M) (hK : N < 4294967296 ^ K) : MI h w K M := by
 refine ⟨hM.len, fun r hr => ?_⟩
 obtain ⟨i, hi, rfl⟩ := List.getElem_of_mem hr
 have hl := hM.len
 have e : M.getD i [] = M[i] := by rw [List.getD_eq_getElem?_getD, zlb hi]; rfl
 rw [← e]
 refine ⟨hM.row i (by omega), fun x hx => ?_⟩
 obtain ⟨j, hj, rfl⟩ := List.getElem_of_mem hx
 have := hB i j (by omega)
 unfold ent2 at this
 rw [List.getD_eq_getElem?_getD (l := M.getD i []), zlb hj] at this
 exact Nat.lt_of_le_of_lt this hK
theorem pow_limbs {x b K : Nat} (h : x < 2 ^ b) (hb : b ≤ 32 * K) : x < 4294967296 ^ K := by
 rw [show (4294967296 : Nat) = 2 ^ 32 from rfl, ← Nat.pow_mul]
 exact Nat.lt_of_lt_of_le h (Nat.pow_le_pow_right (by omega) hb)
theorem states_mi {l : List OpL} {K b : Nat} (hM : Sh h w M) (hB : Bd h N M) (ho : ∀ o ∈ l, OkI h o) (hp : N * prd l < 2 ^ b) (hb : b ≤ 32 * K) (i : Nat) : MI h w K (actsO M (l.take i)) := by
 have ho' : ∀ o ∈ l.take i, OkI h o := fun o h => ho o (List.mem_of_mem_take h)
 exact Bd.mi (acts_sh hM ho') (acts_bd hM ho' hB) (pow_limbs (Nat.lt_of_le_of_lt (Nat.mul_le_mul_left _ (prd_take l i)) hp) hb)
theorem prd_mem {l : List OpL} {o : OpL} (h : o ∈ l) : o.k.natAbs < prd l + 1 := by
 induction l with
 | nil => cases h
 | cons p l ih =>
  have h1 := prd_pos l
  have h2 : prd l ≤ (1 + p.k.natAbs) * prd l := Nat.le_mul_of_pos_left _ (by omega)
  rcases List.mem_cons.1 h with rfl | h
  ·have : 1 + o.k.natAbs ≤ (1 + o.k.natAbs) * prd l := Nat.le_mul_of_pos_right _ h1
   rw [prd]; omega
  ·have := ih h; rw [prd]; omega
theorem okI_ok {l : List OpL} {b : Nat} (ho : ∀ o ∈ l, OkI h o) (hp : prd l < 2 ^ b) (hb : b ≤ 32000000000) : ∀ o ∈ l, OkOp h o := fun o h => by
 have h1 := ho o h
 refine ⟨h1.i, ?_, h1.c⟩
 unfold Fits
 have e := OL_eq
 generalize OL = L at *
 refine pow_limbs (b := b) ?_ (by omega)
 have := prd_mem h; omega
end
theorem pabs_i (x : Int) (K : Nat) (hx : Fits K x) (hK : K ≤ 1000000000000) : Spec Try.prog 87 [iv x] (iv (x.natAbs : Int)) := by
 have lx := fits_len hx
 have c1 := clone_l (limbsOf x.natAbs) (by omega)
 have c2 := pvalue_n x.natAbs false (x.natAbs : Int) rfl (by omega)
 unfold iv sv at *
 refine Spec.run Try.func87 rfl Try.ntmps87 (by simp) sF fun B hB => ?_
 (repeat (first | (with_reducible refine oA ?_) | ((apply SO.call); (iterate 3 (focus (simp (disch := omega) only [go_sem, ↓reduceIte, zn2] <;> rfl))); (apply SCall.ofX); (focus (assumption)); (focus (simp (disch := omega) only [go_sem] <;> rfl))) | ((with_reducible first | apply SC.region | apply SO.run); (focus (simp (disch := omega) only [go_sem, ↓reduceIte, zn1, zn3, zn4, reduceCtorEq] <;> rfl)); (fail_if_success with_reducible refine pickA ?_)) | (with_reducible apply SC.ops)))
 exact retQ_ret Try.results87 sF sF rfl
theorem near_s (x p : Int) (K : Nat) (hx : Fits K x) (hp : Fits K p) (hK : K ≤ 100000000000) (h0 : 0 < p) : Spec Try.prog 75 [iv x, iv p] (iv (nearI x p)) := by
 have c1 := padd_i x x K hx hx (by omega)
 have c2 := padd_i (x + x) p (K + 1) (hx.add hx) (hp.mono (by omega)) (by omega)
 have c3 := padd_i p p K hp hp (by omega)
 have c4 := pdivmod_i (x + x + p) (p + p) (K + 2) (((hx.add hx).add (hp.mono (by omega))).mono (by omega)) ((hp.add hp).mono (by omega)) (by omega) (by omega)
 unfold nearI
 generalize (x + x + p) / (p + p) = q at *
 generalize (x + x + p) % (p + p) = m at *
 generalize hs1 : x + x + p = s1 at *
 generalize x + x = s2 at *
 generalize p + p = s3 at *
 clear hx hp h0
 unfold iv sv at *
 refine Spec.run Try.func75 rfl Try.ntmps75 (by simp) sF fun B hB => ?_
 (repeat (first | refine DO.nil (by kernel_rfl) ?_ | (with_reducible refine oA ?_) | ((apply DO.call); (iterate 3 (focus (simp (disch := omega) only [go_sem, ↓reduceIte, zn1] <;> rfl))); (apply DCall.ofX); (focus (assumption)); (focus (simp (disch := omega) only [go_sem] <;> rfl))) | ((with_reducible first | apply SC.region | apply DO.run); (focus (simp (disch := omega) only [go_sem, ↓reduceIte, zn1, zn2, zn3, zn4, reduceCtorEq] <;> rfl)); (fail_if_success with_reducible refine pickA ?_)) | ((with_reducible refine SC.draw Tab.mixed ?_ ?_); rfl)))
 exact retQ_ret Try.results75 sF sF rfl
def atI : Option Nat → Int
 | some a => a
 | none => -1
theorem least_s {h w K r c : Nat} {M : List (List Int)} (hM : MI h w K M) (hK : K ≤ 100000000000) (hr : r ≤ h) (hc : c < w) (hn : h ≤ 1000000) (hw : w ≤ 1000000) :
  Spec Try.prog 74 [.im (imR w (rI M)) h, .sc (.int .i64 r), .sc (.int .i64 c)] (.tu [.sc (.int .i64 (atI (leastT M c r (h - r)))), .sc (.bool (decide (atI (leastT M c r (h - r)) ≥ 0)))]) := by
 have hl := hM.len
 have himl := imI_len w M
 refine Spec.run Try.func74 rfl Try.ntmps74 (by simp) sF fun B hB => ?_
 (repeat (first | (with_reducible refine oA ?_) | ((with_reducible apply SC.region); (focus (simp (disch := omega) only [go_sem, ↓reduceIte, zn1, reduceCtorEq] <;> rfl)); (fail_if_success with_reducible refine pickA ?_))))
 refine SC.loop (fun t : Nat => ⟨[(0, .im (imR w (rI M)) h), (1, .sc (.int .i64 r)), (2, .sc (.int .i64 c)), (8, .sc (.int .i64 (atI (leastT M c r t)))), (9, .sc (.int .i64 (r + t : Nat)))], [], 0, 48⟩) (fun t => t ≤ h - r) (fun t => h - r - t) 0 ?_ ?_ ?_
 ·(refine Le.of [] hB (by exact ⟨znc _, fun _ _ => znc _⟩) ?_ ?_ <;> (repeat' (first | exact leSl_nil | exact leHp_nil | refine leSl_cons sF ?_ ?_ | exact VLe.refl rfl)))
 ·exact znc _
 ·intro t ht K2 hK2
  by_cases hlt : r + t < h
  ·have q1 := decide_eq_true (p := ((r + t : Nat) : Int) < (h : Int)) (by omega)
   have gi := imI_get (w := w) (M := M) (i := r + t) (by omega)
   have hrow := (hM.get hlt).1
   have gl := ivR_len (M.getD (r + t) [])
   have gd := ivR_drop (l := M.getD (r + t) []) (i := c) (by omega)
   have hf : Fits K (ent2 M (r + t) c) := hM.fit hlt hc
   have hx0 : (M.getD (r + t) []).getD c 0 = ent2 M (r + t) c := rfl
   have hst : leastT M c r (t + 1) = match leastT M c r t with | none => if ent2 M (r + t) c = 0 then none else some (r + t) | some a => if ent2 M (r + t) c ≠ 0 ∧ (ent2 M (r + t) c).natAbs < (ent2 M a c).natAbs then some (r + t) else some a := rfl
   rw [hx0] at gd
   have cS := psign_i (ent2 M (r + t) c) K hf (by omega)
   have cA := pabs_i (ent2 M (r + t) c) K hf (by omega)
   generalize hx : ent2 M (r + t) c = x at *
   generalize (ivR (M.getD (r + t) [])).drop ((c + 1) * 2) = Z at *
   unfold ivC sv at gd
   simp only [zl8, zl7] at gd
   generalize ivR (M.getD (r + t) []) = row at *
   by_cases h0 : x = 0
   ·have hs : leastT M c r (t + 1) = leastT M c r t := by
     rw [hst]; cases leastT M c r t with
     | none => simp only; rw [if_pos h0]
     | some a => simp only; rw [if_neg (by rintro ⟨a, _⟩; exact a h0)]
    subst h0
    rw [show (0 : Int).sign = 0 from rfl] at cS
    clear cA
    unfold iv sv at cS
    (repeat (first | (with_reducible refine oA ?_) | ((apply SO.call); (iterate 3 (focus (simp (disch := omega) only [go_sem, ↓reduceIte] <;> rfl))); (apply SCall.ofX); (focus (assumption)); (focus (simp (disch := omega) only [go_sem] <;> rfl))) | ((with_reducible first | apply SC.condB | apply SC.region | apply SO.run); (focus (simp (disch := omega) only [go_sem, ↓reduceIte, zn1, zn3, zn4, reduceCtorEq, if_pos, q1, gi, gd, gl, hrow, himl, zl5, Nat.add_zero] <;> rfl)); (first | refine pickT ?_ | fail_if_success with_reducible refine pickA ?_)) | (with_reducible apply SC.ops)))
    refine hK2 _ (t + 1) ?_ (by omega) (by omega)
    rw [hs]
    (refine Le.of [] hB (by exact ⟨znc _, fun _ _ => znc _⟩) ?_ ?_ <;> (repeat' (first | exact leSl_nil | exact leHp_nil | refine leSl_cons sF ?_ ?_ | exact VLe.refl rfl)))
   ·have hsn : (x.sign == 0) = false := by rw [beq_eq_false_iff_ne]; exact fun h => h0 (Int.sign_eq_zero_iff_zero.1 h)
    generalize x.sign = sx at *
    cases hla : leastT M c r t with
    | none =>
     have hs : leastT M c r (t + 1) = some (r + t) := by rw [hst, hla]; simp only; rw [if_neg h0]
     have q2 : decide (atI none < 0) = true := by decide
     clear cA
     unfold iv sv at cS
     (repeat (first | refine DO.nil (by kernel_rfl) ?_ | (with_reducible refine oA ?_) | ((first | apply SO.call | apply DO.call); (iterate 3 (focus (simp (disch := omega) only [go_sem, ↓reduceIte, zn1] <;> rfl))); (apply SCall.ofX); (focus (assumption)); (focus (simp (disch := omega) only [go_sem] <;> rfl))) | ((with_reducible first | apply wa | apply wb | apply wc | apply wd); (focus (simp (disch := omega) only [go_sem, ↓reduceIte, zn1, zn3, zn4, reduceCtorEq, if_pos, q1, gi, gd, gl, hrow, himl, hsn, q2, zl5, Nat.add_zero] <;> rfl)); (first | refine pT ?_ | refine pF ?_ | fail_if_success with_reducible refine pA ?_)) | ((with_reducible refine SC.draw Tab.mixed ?_ ?_); rfl) | (with_reducible apply SC.ops)))
     refine hK2 _ (t + 1) ?_ (by omega) (by omega)
     rw [hs]
     have ea : atI (some (r + t)) = ((r + t : Nat) : Int) := rfl
     rw [ea]
     (refine Le.of [] hB (by exact ⟨znc _, fun _ _ => znc _⟩) ?_ ?_ <;> (repeat' (first | exact leSl_nil | exact leHp_nil | refine leSl_cons sF ?_ ?_ | exact VLe.refl rfl)))
    | some a =>
     obtain ⟨a1, a2, a3, a4⟩ := least_some hla
     have ha : a < h := by omega
     have gia := imI_get (w := w) (M := M) (i := a) (by omega)
     have hrowa := (hM.get ha).1
     have gla := ivR_len (M.getD a [])
     have gda := ivR_drop (l := M.getD a []) (i := c) (by omega)
     have hfa : Fits K (ent2 M a c) := hM.fit ha hc
     have hxa : (M.getD a []).getD c 0 = ent2 M a c := rfl
     rw [hxa] at gda
     have cB := pabs_i (ent2 M a c) K hfa (by omega)
     have cC := pcmp_i (x.natAbs : Int) ((ent2 M a c).natAbs : Int) K (by unfold Fits at *; rwa [Int.natAbs_natCast]) (by unfold Fits at *; rwa [Int.natAbs_natCast]) (by omega)
     have eA : atI (some a) = (a : Int) := rfl
     have q2 : decide ((a : Int) < 0) = false := decide_eq_false (by omega)
     have q3 : decide (((x.natAbs : Int) - ((ent2 M a c).natAbs : Int)).sign < 0) = decide (x.natAbs < (ent2 M a c).natAbs) := by
      rcases Nat.lt_trichotomy x.natAbs (ent2 M a c).natAbs with e | e | e
      ·rw [Int.sign_eq_neg_one_of_neg (by omega), decide_eq_true e]; rfl
      ·rw [decide_eq_false (show ¬ x.natAbs < (ent2 M a c).natAbs by omega), e, Int.sub_self]; rfl
      ·rw [decide_eq_false (show ¬ x.natAbs < (ent2 M a c).natAbs by omega), Int.sign_eq_one_of_pos (by omega)]; rfl
     rw [hla] at hst
     simp only at hst
     generalize (ivR (M.getD a [])).drop ((c + 1) * 2) = Za at *
     generalize ((x.natAbs : Int) - ((ent2 M a c).natAbs : Int)).sign = sc at *
     unfold ivC sv at gda
     simp only [zl8, zl7] at gda
     generalize ivR (M.getD a []) = rowa at *
     by_cases hlt2 : x.natAbs < (ent2 M a c).natAbs
     ·have hs : leastT M c r (t + 1) = some (r + t) := by rw [hst, if_pos ⟨h0, hlt2⟩]
      rw [decide_eq_true hlt2] at q3
      generalize ent2 M a c = y at *
      unfold iv sv at cS cA cB cC
      (repeat (first | refine DO.nil (by kernel_rfl) ?_ | (with_reducible refine oA ?_) | ((first | apply SO.call | apply DO.call); (iterate 3 (focus (simp (disch := omega) only [go_sem, ↓reduceIte, zn1] <;> rfl))); (first | apply SCall.ofX | apply DCall.ofX); (focus (assumption)); (focus (simp (disch := omega) only [go_sem] <;> rfl))) | ((with_reducible first | apply wa | apply wb | apply wc | apply wd); (focus (simp (disch := omega) only [go_sem, ↓reduceIte, zn1, zn3, zn4, reduceCtorEq, if_pos, q1, gi, gd, gl, hrow, himl, hsn, eA, q2, gia, gda, gla, hrowa, q3, zl5, Nat.add_zero] <;> rfl)); (first | refine pT ?_ | refine pF ?_ | fail_if_success with_reducible refine pA ?_)) | ((with_reducible refine SC.draw Tab.mixed ?_ ?_); rfl) | (with_reducible apply SC.ops)))
      refine hK2 _ (t + 1) ?_ (by omega) (by omega)
      rw [hs]
      have ea : atI (some (r + t)) = ((r + t : Nat) : Int) := rfl
      rw [ea]
      (refine Le.of [] hB (by exact ⟨znc _, fun _ _ => znc _⟩) ?_ ?_ <;> (repeat' (first | exact leSl_nil | exact leHp_nil | refine leSl_cons sF ?_ ?_ | exact VLe.refl rfl)))
     ·have hs : leastT M c r (t + 1) = some a := by rw [hst, if_neg (by rintro ⟨_, h⟩; exact hlt2 h)]
      rw [decide_eq_false hlt2] at q3
      generalize ent2 M a c = y at *
      unfold iv sv at cS cA cB cC
      (repeat (first | refine DO.nil (by kernel_rfl) ?_ | (with_reducible refine oA ?_) | ((first | apply SO.call | apply DO.call); (iterate 3 (focus (simp (disch := omega) only [go_sem, ↓reduceIte, zn1] <;> rfl))); (first | apply SCall.ofX | apply DCall.ofX); (focus (assumption)); (focus (simp (disch := omega) only [go_sem] <;> rfl))) | ((with_reducible first | apply wa | apply wb | apply wc | apply wd); (focus (simp (disch := omega) only [go_sem, ↓reduceIte, zn1, zn3, zn4, reduceCtorEq, if_pos, q1, gi, gd, gl, hrow, himl, hsn, eA, q2, gia, gda, gla, hrowa, q3, zl5, Nat.add_zero] <;> rfl)); (first | refine pT ?_ | refine pF ?_ | fail_if_success with_reducible refine pA ?_)) | ((with_reducible refine SC.draw Tab.mixed ?_ ?_); rfl) | (with_reducible apply SC.ops)))
      refine hK2 _ (t + 1) ?_ (by omega) (by omega)
      rw [hs, eA]
      (refine Le.of [] hB (by exact ⟨znc _, fun _ _ => znc _⟩) ?_ ?_ <;> (repeat' (first | exact leSl_nil | exact leHp_nil | refine leSl_cons sF ?_ ?_ | exact VLe.refl rfl)))
  ·have q1 := decide_eq_false (p := ((r + t : Nat) : Int) < (h : Int)) (by omega)
   have hte : t = h - r := by omega
   subst hte
   (repeat (first | (with_reducible refine oA ?_) | ((with_reducible first | apply SC.condB | apply SC.region); (focus (simp (disch := omega) only [go_sem, ↓reduceIte, zn1, zn2, reduceCtorEq, q1] <;> rfl)); (first | refine pickF ?_ | fail_if_success with_reducible refine pickA ?_))))
   exact retQ_ret Try.results74 sF sF rfl
section
variable {h r c : Nat} {M : List (List Int)} {o o' : OpL}
theorem Nx.uniq (a : Nx h r c M o) (b : Nx h r c M o') : o = o' := by
 cases a with
 | swap a1 a2 =>
  cases b with
  | swap b1 b2 => rw [a1] at b1; cases b1; rfl
  | neg b1 _ | low b1 _ _ _ _ _ | up b1 _ _ _ _ _ => rw [a1] at b1; cases b1; exact absurd rfl a2
 | neg a1 a2 =>
  cases b with
  | swap b1 b2 => rw [a1] at b1; cases b1; exact absurd rfl b2
  | neg => rfl
  | low _ b2 _ _ _ _ | up _ b2 _ _ _ _ => omega
 | @low k a1 a2 a3 a4 a5 a6 =>
  cases b with
  | swap b1 b2 => rw [a1] at b1; cases b1; exact absurd rfl b2
  | neg _ b2 => omega
  | @low j _ _ b3 b4 b5 b6 =>
   have : k = j := by
    rcases Nat.lt_trichotomy k j with e | e | e
    ·exact absurd (b6 k a3 e) a5
    ·exact e
    ·exact absurd (a6 j b3 e) b5
   subst this; rfl
  | up _ _ b3 _ _ _ => exact absurd (b3 k a3 a4) a5
 | @up k a1 a2 a3 a4 a5 a6 =>
  cases b with
  | swap b1 b2 => rw [a1] at b1; cases b1; exact absurd rfl b2
  | neg _ b2 => omega
  | @low j _ _ b3 b4 b5 b6 => exact absurd (a3 j b3 b4) b5
  | @up j _ _ b3 b4 b5 b6 =>
   have : k = j := by
    rcases Nat.lt_trichotomy k j with e | e | e
    ·exact absurd (b6 k e) a5
    ·exact e
    ·exact absurd (a6 j e) b5
   subst this; rfl
theorem Nx.no (a : Nx h r c M o) (b : NxNo h r c M) : False := by
 rcases b with b | ⟨b1, b2, b3, b4⟩
 ·cases a with
  | swap a1 _ | neg a1 _ | low a1 _ _ _ _ _ | up a1 _ _ _ _ _ => rw [b] at a1; cases a1
 ·cases a with
  | swap a1 a2 => rw [a1] at b1; cases b1; exact absurd rfl a2
  | neg _ a2 => omega
  | low _ _ a3 a4 a5 _ => exact a5 (b3 _ a3 a4)
  | up _ _ _ a4 a5 _ => exact a5 (b4 _ a4)
def NxAll (h r c : Nat) (M : List (List Int)) (x : OpL × Bool) : Prop := (Nx h r c M x.1 ∧ x.2 = true) ∨ (NxNo h r c M ∧ x = (⟨0, 0, 0, 0⟩, false))
theorem NxAll.uniq {x y : OpL × Bool} (a : NxAll h r c M x) (b : NxAll h r c M y) : x = y := by
 obtain ⟨x1, x2⟩ := x; obtain ⟨y1, y2⟩ := y
 rcases a with ⟨a1, a2⟩ | ⟨a1, a2⟩ <;> rcases b with ⟨b1, b2⟩ | ⟨b1, b2⟩
 ·simp only at a1 a2 b1 b2; rw [a1.uniq b1, a2, b2]
 ·exact (a1.no b1).elim
 ·exact (b1.no a1).elim
 ·rw [a2, b2]
end
def nxV (y : OpL × Bool) : V := .tu [.ag (opC y.1), .sc (.bool y.2)]
theorem near_fits {K : Nat} {x p : Int} (hx : Fits K x) (hp : Fits K p) (h0 : 0 < p) : Fits (K + 2) (nearI x p) := by
 have h1 := (near_spec (x := x) h0).2
 have h2 : (nearI x p).natAbs ≤ (nearI x p).natAbs * p.natAbs := Nat.le_mul_of_pos_right _ (by omega)
 have h3 : (nearI x p).natAbs ≤ x.natAbs + p.natAbs := by omega
 refine Nat.lt_of_le_of_lt h3 ?_
 unfold Fits at hx hp
 have e1 : 4294967296 ^ K * 2 ≤ 4294967296 ^ (K + 2) := by
  rw [Nat.pow_add]; exact Nat.mul_le_mul_left _ (by decide)
 generalize 4294967296 ^ (K + 2) = A at *
 omega
theorem VMap.tu {f : Nat → Nat} {D : Nat → Prop} {cs ds : List V} (hl : cs.length = ds.length) (h : ∀ (i : Nat) (x y : V), cs[i]? = some x → ds[i]? = some y → VMap f D x y) : VMap f D (.tu cs) (.tu ds) := by
 intro S rho A w v hx
 cases hx with
 | tu h1 h2 =>
  refine .tu (hl.symm.trans h1) fun i y u hy hu => ?_
  have hlt : i < cs.length := by rw [hl]; exact (List.getElem?_eq_some_iff.1 hy).1
  exact h i _ y (zlb hlt) hy _ _ _ _ _ (h2 i _ u (zlb hlt) hu)
theorem VMap.op {f : Nat → Nat} {D : Nat → Prop} (o : OpL) (b : Bool) : VMap f D (.tu [.ag (opC o), .sc (.bool b)]) (.tu [.ag (opC o), .sc (.bool b)]) := by
 refine VMap.tu rfl fun i x y hx hy => ?_
 rw [hx] at hy; cases hy
 match i, hx with
 | 0, hx =>
  cases hx
  refine VMap.ag rfl fun i x y hx hy => ?_
  rw [hx] at hy; cases hy
  unfold opC at hx
  match i, hx with
  | 0, hx | 1, hx | 2, hx | 3, hx => cases hx; exact VMap.sc _
  | 4, hx => cases hx; exact VMap.clo rfl
  | n + 5, hx => simp at hx
 | 1, hx => cases hx; exact VMap.sc _
 | n + 2, hx => simp at hx
theorem VMap.op0 {f : Nat → Nat} {D : Nat → Prop} (kd i j : Nat) (b : Bool) : VMap f D (.tu [.ag [.sc (.int .i64 kd), .sc (.int .i64 i), .sc (.int .i64 j), .sc (.bool false), .sc (.slice none 0 0)], .sc (.bool b)]) (.tu [.ag (opC ⟨kd, i, j, 0⟩), .sc (.bool b)]) := by
 have e0 : limbsOf (Int.natAbs 0) = [] := limbsOf_nil.2 rfl
 refine VMap.tu rfl fun q x y hx hy => ?_
 match q, hx, hy with
 | 0, hx, hy =>
  cases hx; cases hy
  refine VMap.ag rfl fun q x y hx hy => ?_
  unfold opC sv at hy
  simp only [e0] at hy
  match q, hx, hy with
  | 0, hx, hy | 1, hx, hy | 2, hx, hy | 3, hx, hy => cases hx; cases hy; exact VMap.sc _
  | 4, hx, hy => cases hx; cases hy; exact VMap.nil_im
  | n + 5, hx, _ => simp at hx
 | 1, hx, hy => cases hx; cases hy; exact VMap.sc _
 | n + 2, hx, _ => simp at hx
def NextQ (w o : Nat) (ids : List Nat) (M : List (List Int)) (nx : Nat) (y : OpL × Bool) (x : V) (hp' : List (Nat × Blk)) (nx' : Nat) : Prop :=
 x = nxV y ∧ hp' = (o, ⟨73, slR 2 w ids, false⟩) :: rowsH 43 ids (rI M) ∧ nx' = nx
set_option maxHeartbeats 16000000 in
set_option maxRecDepth 8000 in
theorem next_q {h w K o nx r c : Nat} {M : List (List Int)} {ids0 ids : List Nat} {y : OpL × Bool} (hM : MI h w K M) (hK : K ≤ 50000000000) (hI : Ids o ids0 ids h nx) (hr : r < h) (hc : c < w) (hn : h ≤ 1000000) (hw : w ≤ 1000000) (hN : NxAll h r c M y) :
  InlQ Try.prog 55 [.sl o 0 h 1 none, .sc (.int .i64 r), .sc (.int .i64 c)] ((o, ⟨73, slR 2 w ids, false⟩) :: rowsH 43 ids (rI M)) nx (NextQ w o ids M nx y) := by
 have hl := hM.len
 have hidl := hI.len
 have ho := hI.o1
 have g1 := slR_len 2 w ids
 rw [hidl] at g1
 have c1 := least_s hM (by omega) (Nat.le_of_lt hr) hc hn hw
 have hrows : ∀ C : List V, ∀ k, k < ids.length → hget ((nx, (⟨45, C, false⟩ : Blk)) :: (o, ⟨73, slR 2 w ids, false⟩) :: rowsH 43 ids (rI M)) (ids.getD k 0) = some ⟨43, (rI M).getD k [], false⟩ := by
  intro C k hk
  have hm := getD_mem' hk
  have := hI.lt _ hm
  simp only [hget]
  rw [if_neg (by omega), if_neg (fun e => hI.o2 (by rw [← e]; exact hm))]
  exact rows_get hI.nod hk (by rw [rI_len]; omega)
 have hfz := fun C : List V => frz_rowsA (n := 6) (z := 2) (m := w) (ty := 43) (ids := ids) (rs := rI M) (by omega) (by rw [rI_len]; omega) (hrows C) (rI_rows hM)
 have hsl := slR_some (z := 2) (m := w) (ids := ids) (by omega)
 have ht : (slR 2 w ids).take h = slR 2 w ids := zla (by omega)
 have hrow : ∀ k, k < h → ∃ idk, idk < nx ∧ idk ≠ o ∧ (slR 2 w ids)[k]? = some (.sl idk 0 w 2 none) ∧ hget (rowsH 43 ids (rI M)) idk = some ⟨43, ivR (M.getD k []), false⟩ := fun k hk => by
  have hm := getD_mem' (ids := ids) (k := k) (by omega)
  have gR := rows_get (ty := 43) (rs := rI M) (k := k) hI.nod (by omega) (by rw [rI_len]; omega)
  rw [rI_getD] at gR
  exact ⟨_, hI.lt _ hm, fun e => hI.o2 (by rw [← e]; exact hm), slR_get (by omega), gR⟩
 have fin : ∀ (B : Base), B.Old nx → ∀ (pre : List (Nat × Blk)), (∀ id k, hget pre id = some k → nx ≤ id) → ∀ (x y' : V) (nx1 : Nat), VMap (fun i => i) (fun i => i < nx) y' x → Le B (vst y' (pre ++ (o, ⟨73, slR 2 w ids, false⟩) :: rowsH 43 ids (rI M)) nx1) (vst x ((o, ⟨73, slR 2 w ids, false⟩) :: rowsH 43 ids (rI M)) nx) := by
  intro B hB pre hpre x y' nx1 hv
  refine Le.rowsDown [] pre0 ⟨nx, hB, znb _⟩ ho hI.lt (rI_clo _) (fun id k hk => ?_) (mapSl_cons rfl hv trivial)
  rw [hget_app]
  cases hp : hget pre id with
  | none => exact hk
  | some q =>
   have h1 := hpre id q hp
   have h2 := rows_lt ho hI.lt id k hk
   omega
 have stp : ∀ (B : Base), B.Old nx → ∀ (p1 q1 : Blk) (pre : List (Nat × Blk)) (sl sl' : List (Nat × V)) (nx1 nt : Nat), p1.cs.all clS = true → q1.cs.all clS = true → (∀ id k, hget pre id = some k → nx + 2 ≤ id) → mapSl (fun i => i) (fun i => i < nx + 2) sl sl' →
   Le B ⟨sl, pre ++ (nx + 1, p1) :: (nx, q1) :: (o, ⟨73, slR 2 w ids, false⟩) :: rowsH 43 ids (rI M), nx1, nt⟩ ⟨sl', (nx + 1, p1) :: (nx, q1) :: (o, ⟨73, slR 2 w ids, false⟩) :: rowsH 43 ids (rI M), nx + 2, nt⟩ := by
  intro B hB p1 q1 pre sl sl' nx1 nt hp hq hpre hs
  refine Le.rowsDown [(nx + 1, p1), (nx, q1)] (pre2 hp hq) ⟨nx, hB, by omega⟩ (by omega) (fun c hc => by have := hI.lt c hc; omega) (rI_clo _) (fun id k hk => ?_) hs
  rw [hget_app]
  cases hp : hget pre id with
  | none => exact hk
  | some q =>
   have h1 := hpre id q hp
   have h2 := klc (show nx + 1 < nx + 2 by omega) (klc (show nx < nx + 2 by omega) (rows_lt (show o < nx + 2 by omega) fun c hc => by have := hI.lt c hc; omega)) id k hk
   omega
 have hgp0 : ∀ (C : Blk) (id : Nat) (k : Blk), hget [(nx, C)] id = some k → nx ≤ id := fun C id k hk => by
  simp only [hget] at hk; repeat' (first | (split at hk; omega) | (cases hk; done))
 have hgp1 : ∀ (C D : Blk) (id : Nat) (k : Blk), hget [(nx + 1, D), (nx, C)] id = some k → nx ≤ id := fun C D id k hk => by
  simp only [hget] at hk; repeat' (first | (split at hk; omega) | (cases hk; done))
 have hgp2 : ∀ (C D E : Blk) (id : Nat) (k : Blk), hget [(nx + 2, E), (nx + 1, D), (nx, C)] id = some k → nx ≤ id := fun C D E id k hk => by
  simp only [hget] at hk; repeat' (first | (split at hk; omega) | (cases hk; done))
 have hgp3 : ∀ (C D E F : Blk) (id : Nat) (k : Blk), hget [(nx + 3, F), (nx + 2, E), (nx + 1, D), (nx, C)] id = some k → nx ≤ id := fun C D E F id k hk => by
  simp only [hget] at hk; repeat' (first | (split at hk; omega) | (cases hk; done))
 have hgs1 : ∀ (E : Blk) (id : Nat) (k : Blk), hget [(nx + 2, E)] id = some k → nx + 2 ≤ id := fun E id k hk => by
  simp only [hget] at hk; repeat' (first | (split at hk; omega) | (cases hk; done))
 have hgs2 : ∀ (E F : Blk) (id : Nat) (k : Blk), hget [(nx + 3, F), (nx + 2, E)] id = some k → nx + 2 ≤ id := fun E F id k hk => by
  simp only [hget] at hk; repeat' (first | (split at hk; omega) | (cases hk; done))
 refine InlQ.run Try.func55 rfl Try.ntmps55 (by simp) sF fun B hB => ?_
 have fin := fin B hB
 have stp := stp B hB
 cases hla : leastT M c r (h - r) with
 | none =>
  rw [hla] at c1
  have e1 : atI none = -1 := rfl
  have e2 : decide ((-1 : Int) ≥ 0) = false := by decide
  rw [e1, e2] at c1
  have hy : y = (⟨0, 0, 0, 0⟩, false) := hN.uniq (.inr ⟨.inl hla, rfl⟩)
  subst hy
  (repeat (first | (with_reducible refine oA ?_) | ((apply SO.call); (iterate 3 (focus (simp (disch := omega) only [go_sem, ↓reduceIte, zn1, if_pos, if_neg, hfz, hsl, ht, g1] <;> rfl))); (apply SCall.ofX); (focus (assumption)); (focus (simp (disch := omega) only [go_sem] <;> rfl))) | ((with_reducible first | apply SC.condB | apply SC.region | apply SO.run); (focus (simp (disch := omega) only [go_sem, ↓reduceIte, zn1, zn3, zn4, reduceCtorEq, Bool.not_false] <;> rfl)); (first | refine pickT ?_ | fail_if_success with_reducible refine pickA ?_)) | (with_reducible apply SC.ops)))
  exact retIQ_ret _ _ nx Try.results55 sF ⟨rfl, rfl, rfl⟩ (fin [(nx, _)] (hgp0 _) _ _ _ (VMap.op0 0 0 0 false))
 | some i =>
  obtain ⟨i1, i2, i3, i4⟩ := least_some hla
  rw [hla] at c1
  have e1 : atI (some i) = (i : Int) := rfl
  have e2 : decide ((i : Int) ≥ 0) = true := decide_eq_true (by omega)
  rw [e1, e2] at c1
  by_cases hir : i = r
  ·subst hir
   have q1 : ((i : Int) != (i : Int)) = false := by simp
   obtain ⟨idi, hidi, hidio, gi, gR⟩ := hrow i hr
   have gl := ivR_len (M.getD i [])
   rw [(hM.get hr).1] at gl
   have gd := ivR_drop (l := M.getD i []) (i := c) (by rw [(hM.get hr).1]; exact hc)
   have hf : Fits K (ent2 M i c) := hM.fit hr hc
   have hx0 : (M.getD i []).getD c 0 = ent2 M i c := rfl
   rw [hx0] at gd
   have cS := psign_i (ent2 M i c) K hf (by omega)
   generalize hp : ent2 M i c = p at *
   generalize (ivR (M.getD i [])).drop ((c + 1) * 2) = Z at *
   unfold ivC sv at gd
   simp only [zl8, zl7] at gd
   generalize ivR (M.getD i []) = row at *
   have g2 : c * 2 < row.length := by omega
   by_cases hneg : p < 0
   ·have q2 : decide (p.sign < 0) = true := decide_eq_true (by rw [Int.sign_eq_neg_one_of_neg hneg]; decide)
    have hy : y = (⟨2, i, 0, 0⟩, true) := hN.uniq (.inl ⟨.neg hla (by rw [hp]; exact hneg), rfl⟩)
    subst hy
    generalize p.sign = sp at *
    unfold iv sv at cS
    generalize hH : rowsH 43 ids (rI M) = H at *
    (repeat (first | (with_reducible refine oA ?_) | ((apply SO.call); (iterate 3 (focus (simp (disch := omega) only [go_sem, ↓reduceIte, zn1, if_pos, if_neg, hfz, hsl, ht, g1] <;> rfl))); (apply SCall.ofX); (focus (assumption)); (focus (simp (disch := omega) only [go_sem] <;> rfl))) | ((with_reducible first | apply SC.condB | apply SC.region | apply SO.run); (focus (simp (disch := omega) only [go_sem, ↓reduceIte, zn1, zn3, zn4, reduceCtorEq, if_pos, if_neg, Bool.not_true, q1, gi, gR, gd, gl, q2] <;> rfl)); (first | refine pT ?_ | refine pF ?_ | fail_if_success with_reducible refine pA ?_)) | (with_reducible apply SC.ops)))
    subst hH
    exact retIQ_ret _ _ nx Try.results55 sF ⟨rfl, rfl, rfl⟩ (fin [(nx + 1, _), (nx, _)] (hgp1 _ _) _ _ _ (VMap.op0 2 i 0 true))
   ·have q2 : decide (p.sign < 0) = false := decide_eq_false (by rw [Int.sign_eq_one_of_pos (by omega)]; decide)
    generalize hsp : p.sign = sp at *
    unfold iv sv at cS
    have hp0 : 0 < p := by omega
    generalize hH : rowsH 43 ids (rI M) = H at *
    (repeat (first | (with_reducible refine oA ?_) | ((apply SO.call); (iterate 3 (focus (simp (disch := omega) only [go_sem, ↓reduceIte, zn1, if_pos, if_neg, hfz, hsl, ht, g1] <;> rfl))); (apply SCall.ofX); (focus (assumption)); (focus (simp (disch := omega) only [go_sem] <;> rfl))) | ((with_reducible first | apply SC.condB | apply SC.region | apply SO.run); (focus (simp (disch := omega) only [go_sem, ↓reduceIte, zn1, zn3, zn4, reduceCtorEq, if_pos, if_neg, Bool.not_true, q1, gi, gR, gd, gl, q2] <;> rfl)); (first | refine pickF ?_ | fail_if_success with_reducible refine pickA ?_)) | (with_reducible apply SC.ops)))
    clear gi gR gl gd g2 cS c1 q1 q2 hfz hrows
    have eP : ((nx + 1 + 1 : Nat)) = nx + 2 := rfl
    refine SC.loop (fun t : Nat => ⟨[(0, .sl o 0 h 1 none), (1, .sc (.int .i64 i)), (2, .sc (.int .i64 c)), (6, .pt nx 0), (10, .pt (nx + 1) 0), (11, .sc (.int .i64 (i + 1 + t : Nat)))], (nx + 1, ⟨43, [.sc (.bool (decide (p < 0))), .im (lv (limbsOf p.natAbs)) (limbsOf p.natAbs).length], false⟩) :: (nx, ⟨45, [.sc (.int .i64 0), .sc (.int .i64 0), .sc (.int .i64 0), .sc (.bool false), .sc (.slice none 0 0)], false⟩) :: (o, ⟨73, slR 2 w ids, false⟩) :: H, nx + 2, 97⟩)
     (fun t => t ≤ h - (i + 1) ∧ ∀ j, i < j → j < i + 1 + t → ent2 M j c = 0) (fun t => h - (i + 1) - t) 0 ?_ ?_ ?_
    ·refine stp _ _ [] _ _ _ _ rfl rfl (fun id k hk => by cases hk) ?_
     (repeat' (first | exact trivial | refine mapSl_cons sG ?_ ?_ | exact VMap.sc _ | exact VMap.sl rfl (by omega) | exact VMap.pt rfl (by omega)))
    ·exact ⟨znc _, fun j h1 h2 => by omega⟩
    ·rintro t ⟨ht', hz⟩ K2 hK2
     by_cases hlt : i + 1 + t < h
     ·have q1 := decide_eq_true (p := ((i + 1 + t : Nat) : Int) < (h : Int)) (by omega)
      obtain ⟨idk, hidk, hidko, gi, gR⟩ := hrow (i + 1 + t) hlt
      have gl := ivR_len (M.getD (i + 1 + t) [])
      rw [(hM.get hlt).1] at gl
      have gd := ivR_drop (l := M.getD (i + 1 + t) []) (i := c) (by rw [(hM.get hlt).1]; exact hc)
      have hfx : Fits K (ent2 M (i + 1 + t) c) := hM.fit hlt hc
      have hxx : (M.getD (i + 1 + t) []).getD c 0 = ent2 M (i + 1 + t) c := rfl
      rw [hxx] at gd
      have cS := psign_i (ent2 M (i + 1 + t) c) K hfx (by omega)
      generalize hx : ent2 M (i + 1 + t) c = x at *
      generalize (ivR (M.getD (i + 1 + t) [])).drop ((c + 1) * 2) = Z at *
      unfold ivC sv at gd
      simp only [zl8, zl7] at gd
      generalize ivR (M.getD (i + 1 + t) []) = row at *
      have g2 : c * 2 < row.length := by omega
      by_cases h0 : x = 0
      ·have q2 : (x.sign != 0) = false := by rw [h0]; decide
       generalize x.sign = sx at *
       unfold iv sv at cS
       (repeat (first | (with_reducible refine oA ?_) | ((apply SO.call); (iterate 3 (focus (simp (disch := omega) only [go_sem, ↓reduceIte] <;> rfl))); (apply SCall.ofX); (focus (assumption)); (focus (simp (disch := omega) only [go_sem] <;> rfl))) | ((with_reducible first | apply SC.condB | apply SC.region | apply SO.run); (focus (simp (disch := omega) only [go_sem, ↓reduceIte, zn1, zn3, zn4, reduceCtorEq, if_pos, if_neg, q1, gi, gR, gd, gl, q2] <;> rfl)); (first | refine pT ?_ | refine pF ?_ | fail_if_success with_reducible refine pA ?_)) | (with_reducible apply SC.ops)))
       refine hK2 _ (t + 1) ?_ ⟨by omega, fun j h1 h2 => ?_⟩ (by omega)
       ·refine stp _ _ [(nx + 2, _)] _ _ _ _ rfl rfl (hgs1 _) ?_
        (repeat' (first | exact trivial | refine mapSl_cons sG ?_ ?_ | exact VMap.sc _ | exact VMap.sl rfl (by omega) | exact VMap.pt rfl (by omega)))
       ·by_cases e : j = i + 1 + t
        ·rw [e, hx, h0]
        ·exact hz j h1 (by omega)
      ·have q2 : (x.sign != 0) = true := by rw [bne_iff_ne]; exact fun h => h0 (Int.sign_eq_zero_iff_zero.1 h)
       have hy : y = (⟨3, i + 1 + t, i, -(nearI (ent2 M (i + 1 + t) c) (ent2 M i c))⟩, true) := hN.uniq (.inl ⟨.low hla (by rw [hp]; exact hp0) (by omega) hlt (by rw [hx]; exact h0) (fun j h1 h2 => hz j h1 h2), rfl⟩)
       have cN := near_s x p K hfx hf (by omega) hp0
       have fN : Fits (K + 2) (nearI x p) := near_fits hfx hf hp0
       have cG := pneg_i (nearI x p) (K + 2) fN (by omega)
       subst hy
       rw [hx, hp]
       generalize nearI x p = q at *
       generalize x.sign = sx at *
       unfold iv sv at cS cN cG
       (repeat (first | (with_reducible refine oA ?_) | ((apply SO.call); (iterate 3 (focus (simp (disch := omega) only [go_sem, ↓reduceIte, zn1] <;> rfl))); (apply SCall.ofX); (focus (assumption)); (focus (simp (disch := omega) only [go_sem] <;> rfl))) | ((with_reducible first | apply SC.condB | apply SC.region | apply SO.run); (focus (simp (disch := omega) only [go_sem, ↓reduceIte, zn1, zn3, zn4, reduceCtorEq, if_pos, if_neg, q1, gi, gR, gd, gl, q2] <;> rfl)); (first | refine pickT ?_ | fail_if_success with_reducible refine pickA ?_)) | (with_reducible apply SC.ops)))
       subst hH
       exact retIQ_ret _ _ nx Try.results55 sF ⟨rfl, rfl, rfl⟩ (fin [(nx + 2, _), (nx + 1, _), (nx, _)] (hgp2 _ _ _) _ _ _ (VMap.op ⟨3, i + 1 + t, i, -q⟩ true))
     ·have q1 := decide_eq_false (p := ((i + 1 + t : Nat) : Int) < (h : Int)) (by omega)
      have hz2 : ∀ j, i < j → j < h → ent2 M j c = 0 := fun j h1 h2 => hz j h1 (by omega)
      clear hK2 hz
      (repeat (first | (with_reducible refine oA ?_) | ((with_reducible first | apply SC.condB | apply SC.region); (focus (simp (disch := omega) only [go_sem, ↓reduceIte, zn1, reduceCtorEq, q1] <;> rfl)); (first | refine pickF ?_ | fail_if_success with_reducible refine pickA ?_))))
      refine SC.loop (fun t : Nat => ⟨[(0, .sl o 0 h 1 none), (1, .sc (.int .i64 i)), (2, .sc (.int .i64 c)), (6, .pt nx 0), (10, .pt (nx + 1) 0), (70, .sc (.int .i64 i)), (71, .sc (.int .i64 t))], (nx + 1, ⟨43, [.sc (.bool (decide (p < 0))), .im (lv (limbsOf p.natAbs)) (limbsOf p.natAbs).length], false⟩) :: (nx, ⟨45, [.sc (.int .i64 0), .sc (.int .i64 0), .sc (.int .i64 0), .sc (.bool false), .sc (.slice none 0 0)], false⟩) :: (o, ⟨73, slR 2 w ids, false⟩) :: H, nx + 2, 97⟩)
       (fun t => t ≤ i ∧ ∀ j, j < t → ent2 M j c / ent2 M i c = 0) (fun t => i - t) 0 ?_ ?_ ?_
      ·refine stp _ _ [] _ _ _ _ rfl rfl (fun id k hk => by cases hk) ?_
       (repeat' (first | exact trivial | refine mapSl_cons sG ?_ ?_ | exact VMap.sc _ | exact VMap.sl rfl (by omega) | exact VMap.pt rfl (by omega)))
      ·exact ⟨znc _, fun j h1 => by omega⟩
      ·clear ht' hlt q1 t K2
       rintro t ⟨ht', hz⟩ K2 hK2
       by_cases hlt : t < i
       ·have q1 := decide_eq_true (p := (t : Int) < (i : Int)) (by omega)
        obtain ⟨idk, hidk, hidko, gi, gR⟩ := hrow t (by omega)
        have gl := ivR_len (M.getD t [])
        rw [(hM.get (show t < h by omega)).1] at gl
        have gd := ivR_drop (l := M.getD t []) (i := c) (by rw [(hM.get (show t < h by omega)).1]; exact hc)
        have hfx : Fits K (ent2 M t c) := hM.fit (by omega) hc
        have hxx : (M.getD t []).getD c 0 = ent2 M t c := rfl
        rw [hxx] at gd
        have cD := pdivmod_i (ent2 M t c) p K hfx hf (by omega) (by omega)
        have fQ : Fits (K + 2) (ent2 M t c / p) := hfx.mono (by omega) |>.ediv
        have cS := psign_i (ent2 M t c / p) (K + 2) fQ (by omega)
        have cG := pneg_i (ent2 M t c / p) (K + 2) fQ (by omega)
        have hq : ent2 M t c / ent2 M i c = ent2 M t c / p := by rw [hp]
        generalize ent2 M t c % p = m at *
        generalize ent2 M t c / p = q at *
        generalize hx : ent2 M t c = x at *
        generalize (ivR (M.getD t [])).drop ((c + 1) * 2) = Z at *
        unfold ivC sv at gd
        simp only [zl8, zl7] at gd
        generalize ivR (M.getD t []) = row at *
        have g2 : c * 2 < row.length := by omega
        have hkl2 : ∀ n, nx ≤ n → klB H n = true := fun n hn => by
         rw [← hH]; exact klB_rows (ty := 43) (rs := rI M) (n := n) (fun j hj => by have := hI.lt j hj; omega)
        have hkl := hkl2 (nx + 2) (by omega)
        by_cases h0 : q = 0
        ·have q2 : (q.sign != 0) = false := by rw [h0]; decide
         generalize q.sign = sx at *
         unfold iv sv at cS cD
         (repeat (first | refine DO.nilF (fun i => i + 1 - nx) (by simp (disch := omega) only [go_sem, zn4, zld, zle, Option.map_some, Option.map_none, znd, zne, znf, zn4] <;> rfl) (by kernel_rfl) ?_ | (with_reducible refine oA ?_) | ((first | apply SO.call | apply DO.call); (iterate 3 (focus (simp (disch := omega) only [go_sem, ↓reduceIte, zn1] <;> rfl))); (first | apply SCall.ofX | apply DCall.ofX); (focus (assumption)); (focus (simp (disch := omega) only [go_sem] <;> rfl))) | ((with_reducible first | apply wa | apply wb | apply wc | apply wd); (focus (simp (disch := omega) only [go_sem, ↓reduceIte, zn1, zn3, zn4, reduceCtorEq, if_pos, if_neg, q1, gi, gR, gd, gl, q2] <;> rfl)); (first | refine pT ?_ | refine pF ?_ | fail_if_success with_reducible refine pA ?_)) | ((with_reducible refine SC.draw Tab.mixed ?_ ?_); (focus (simp (disch := omega) only [go_sem, ↓reduceIte, if_pos, hkl]))) | (with_reducible apply SC.ops)))
         refine hK2 _ (t + 1) ?_ ⟨by omega, fun j h1 => ?_⟩ (by omega)
         ·refine stp _ _ [(nx + 3, _), (nx + 2, _)] _ _ _ _ rfl rfl (hgs2 _ _) ?_
          (repeat' (first | exact trivial | refine mapSl_cons sG ?_ ?_ | exact VMap.sc _ | exact VMap.sl rfl (by omega) | exact VMap.pt rfl (by omega)))
         ·by_cases e : j = t
          ·rw [e, hx, hq, h0]
          ·exact hz j (by omega)
        ·have q2 : (q.sign != 0) = true := by rw [bne_iff_ne]; exact fun h => h0 (Int.sign_eq_zero_iff_zero.1 h)
         have hy : y = (⟨3, t, i, -(ent2 M t c / ent2 M i c)⟩, true) := hN.uniq (.inl ⟨.up hla (by rw [hp]; exact hp0) hz2 hlt (by rw [hx, hq]; exact h0) (fun j h1 => hz j h1), rfl⟩)
         subst hy
         rw [hx, hq]
         generalize q.sign = sx at *
         unfold iv sv at cS cD cG
         (repeat (first | refine DO.nilF (fun i => i + 1 - nx) (by simp (disch := omega) only [go_sem, zn4, zld, zle, Option.map_some, Option.map_none, znd, zne, znf, zn4] <;> rfl) (by kernel_rfl) ?_ | (with_reducible refine oA ?_) | ((first | apply SO.call | apply DO.call); (iterate 3 (focus (simp (disch := omega) only [go_sem, ↓reduceIte, zn1] <;> rfl))); (first | apply SCall.ofX | apply DCall.ofX); (focus (assumption)); (focus (simp (disch := omega) only [go_sem] <;> rfl))) | ((with_reducible first | apply wa | apply wb | apply wc | apply wd); (focus (simp (disch := omega) only [go_sem, ↓reduceIte, zn1, zn3, zn4, reduceCtorEq, if_pos, if_neg, q1, gi, gR, gd, gl, q2] <;> rfl)); (first | refine pickT ?_ | fail_if_success with_reducible refine pickA ?_)) | ((with_reducible refine SC.draw Tab.mixed ?_ ?_); (focus (simp (disch := omega) only [go_sem, ↓reduceIte, if_pos, hkl]))) | (with_reducible apply SC.ops)))
         subst hH
         exact retIQ_ret _ _ nx Try.results55 sF ⟨rfl, rfl, rfl⟩ (fin [(nx + 3, _), (nx + 2, _), (nx + 1, _), (nx, _)] (hgp3 _ _ _ _) _ _ _ (VMap.op ⟨3, t, i, -q⟩ true))
       ·have q1 := decide_eq_false (p := (t : Int) < (i : Int)) (by omega)
        have hti : t = i := by omega
        have hy : y = (⟨0, 0, 0, 0⟩, false) := hN.uniq (.inr ⟨.inr ⟨hla, by rw [hp]; exact hp0, hz2, fun j hj => hz j (by omega)⟩, rfl⟩)
        subst hy
        (repeat (first | (with_reducible refine oA ?_) | ((with_reducible first | apply SC.condB | apply SC.region); (focus (simp (disch := omega) only [go_sem, ↓reduceIte, zn1, zn2, zn3, zn4, reduceCtorEq, if_neg, q1] <;> rfl)); (first | refine pickF ?_ | fail_if_success with_reducible refine pickA ?_))))
        subst hH
        exact retIQ_ret _ _ nx Try.results55 sF ⟨rfl, rfl, rfl⟩ (fin [(nx + 1, _), (nx, _)] (hgp1 _ _) _ _ _ (VMap.op0 0 0 0 false))
  ·have q1 : ((i : Int) != (r : Int)) = true := by simp only [bne_iff_ne, ne_eq]; omega
   have hy : y = (⟨1, r, i, 0⟩, true) := hN.uniq (.inl ⟨.swap hla hir, rfl⟩)
   subst hy
   (repeat (first | (with_reducible refine oA ?_) | ((apply SO.call); (iterate 3 (focus (simp (disch := omega) only [go_sem, ↓reduceIte, zn1, if_pos, if_neg, hfz, hsl, ht, g1] <;> rfl))); (apply SCall.ofX); (focus (assumption)); (focus (simp (disch := omega) only [go_sem] <;> rfl))) | ((with_reducible first | apply SC.condB | apply SC.region | apply SO.run); (focus (simp (disch := omega) only [go_sem, ↓reduceIte, zn1, zn3, zn4, reduceCtorEq, Bool.not_true, q1] <;> rfl)); (first | refine pT ?_ | refine pF ?_ | fail_if_success with_reducible refine pA ?_)) | (with_reducible apply SC.ops)))
   exact retIQ_ret _ _ nx Try.results55 sF ⟨rfl, rfl, rfl⟩ (fin [(nx, _)] (hgp0 _) _ _ _ (VMap.op0 1 r i true))
def WF (ro : Option Nat) : Fence := { Fence.wide with round := ro }
section
variable {P : Program} {ro : Option Nat} {n : Nat}
theorem callsIn_W {f : Nat} {args : Array Value} {w : World} {R : Ending → World → Prop} (h : Calls P f args w R) : CallsIn (WF ro) n P f args w R :=
 (callsIn_wide (n := n)).2 h
theorem rowsIn_W {row : String} {args : Array Value} {w : World} {R : Value → World → Prop} (h : Rows P row args w R) : RowsIn (WF ro) n P row args w R :=
 fun c cs _ => let ⟨v, w', r, s⟩ := h c cs; ⟨v, w', r, stepsIn_wide.2 s⟩
theorem upon_W {o : Oper} {a : Act} {next : Act → World → Prop} {Q : Exit → Act → World → Prop} {r : Result Next} (h : o.upon P a next Q r) : o.uponIn (WF ro) n P a next Q r := by
 cases r with
 | ok x w' =>
  cases x <;> simp only [Oper.upon] at h <;> simp only [Oper.uponIn]
  all_goals first
   | exact h
   | exact ⟨fun h => by simp [WF, Fence.wide] at h, callsIn_W (h.mono fun e w'' he => by cases e <;> exact he)⟩
   | exact ⟨fun h => by simp [WF, Fence.wide] at h, rowsIn_W h⟩
 | halt x w' => cases x <;> simp only [Oper.upon] at h <;> simp only [Oper.uponIn] <;> exact h
def nodef (o : Oper) : Bool := match o.op with | .defer _ => false | _ => true
theorem nodef_ne {o : Oper} (h : nodef o = true) : ∀ c, o.op ≠ .defer c := by
 intro c e; unfold nodef at h; rw [e] at h; cases h
theorem oper_W {o : Oper} {a : Act} {w : World} {next : Act → World → Prop} {Q : Exit → Act → World → Prop} (ho : nodef o = true) (h : o.wp P a w next Q) : o.wpIn (WF ro) n P a w next Q :=
 ⟨fun _ _ => trivial, by rw [Oper.semAt_eq _ _ _ (nodef_ne ho)]; exact upon_W h⟩
theorem wpList_W {ops : Array Oper} {Q : Exit → Act → World → Prop} (hq : ¬ LetsOut Q) : ∀ {l : List Oper}, l.all nodef = true → ∀ {a : Act} {w : World}, wpList P ops Q l a w → wpListIn (WF ro) n P ops Q l a w
 | [], _, _, _, h => h
 | o :: l, hd, a, w, h => by
  simp only [List.all_cons, Bool.and_eq_true] at hd
  simp only [wpList] at h
  simp only [wpListIn]
  split
  ·rename_i hw
   rw [if_pos hw] at h
   rcases h with h | h
   ·exact oper_W hd.1 (Oper.wp_mono (fun a w h => wpList_W hq hd.2 h) h)
   ·exact absurd h.2 hq
  ·rename_i hw
   rw [if_neg hw] at h
   exact ⟨fun _ _ => trivial, wpList_W hq hd.2 h⟩
theorem wpOp_W {ops : Array Oper} {Q : Exit → Act → World → Prop} (hq : ¬ LetsOut Q) {i : Nat} {K K' : Act → World → Prop} (hK : ∀ a w, K a w → K' a w) (hd : ∀ o, ops[i]? = some o → nodef o = true) {a : Act} {w : World} (h : wpOp P ops Q i K a w) : wpOpIn (WF ro) n P ops Q i K' a w := by
 unfold wpOp at h
 unfold wpOpIn
 cases ho : ops[i]? with
 | none =>
  rw [ho] at h
  simp only at h ⊢
  first | exact hK _ _ h | exact h | exact h.elim
 | some o =>
  rw [ho] at h
  simp only at h ⊢
  split
  ·rename_i hw
   rw [if_pos hw] at h
   rcases h with h | h
   ·exact oper_W (hd o ho) (Oper.wp_mono hK h)
   ·exact absurd h.2 hq
  ·rename_i hw
   rw [if_neg hw] at h
   exact ⟨fun _ _ => trivial, hK _ _ h⟩
theorem wpAny_W {md : Region.Mode} {ops : Array Oper} {Q : Exit → Act → World → Prop} (hq : ¬ LetsOut Q) (hd : ∀ (i : Nat) (o : Oper), ops[i]? = some o → nodef o = true) : ∀ (fuel : Nat) (listed : Array Bool) (a : Act) (w : World), wpAny P md ops Q fuel listed a w → wpAnyIn (WF ro) n P md ops Q fuel listed a w
 | 0, _, _, _, h => h
 | fuel + 1, listed, a, w, h => ⟨h.1, fun i hi => wpOp_W hq (fun a w h => wpAny_W hq hd fuel _ a w h) (hd i) (h.2 i hi)⟩
end
section
variable {P : Program} {B : Base} {s : SS} {ro : Option Nat}
def SWpR (P : Program) (ro : Option Nat) (B : Base) (c : Code) (Q : Exit → SS → Prop) (s : SS) : Prop := ∀ S rho A a w, Rel B S rho A s a w → c.wpIn (WF ro) 0 P (Post B Q) a w
theorem noLet {Q : Exit → SS → Prop} (hq : ∀ s, ¬ Q .outgrown s) : ¬ LetsOut (Post B Q) := by
 rintro ⟨a, w, S, rho, A, s, h, _⟩
 exact hq s h
theorem SWpR.region {id : Nat} {l : List Oper} {Q : Exit → SS → Prop} (hq : ∀ s, ¬ Q .outgrown s) (hd : l.all nodef = true) (h : SO P B l.toArray l [] Q s) : SWpR P ro B (.region id l.toArray false) Q s := by
 intro S rho A a w hr
 refine wpIn_region_lit (wpList_W (noLet hq) hd ?_)
 have e : thenQ (SC P B [] Q) Q = Q := by funext e s; cases e <;> rfl
 have := h S rho A a w hr
 rw [e] at this
 exact this
theorem SWpR.drawT {id : Nat} {l l1 tl : List Oper} {Q : Exit → SS → Prop} (n : Nat) (h1 : l.take n = l1) (h2 : l.drop n = tl) (hq : ∀ s, ¬ Q .outgrown s) (hd : l.all nodef = true) (hm : P.follows .mixedOrders = true) (hk : ∀ id k, hget s.hp id = some k → id < s.nx) (hT : lastOk l1 tl = true)
  (h : DO P B l1 l1 [] (lastQ P B l.toArray tl [] Q) [] s) : SWpR P ro B (.region id l.toArray true) Q s := by
 have e : l = l1 ++ tl := by rw [← h1, ← h2, List.take_append_drop]
 subst e
 obtain ⟨es, s', h3, h4, h5⟩ := h
 obtain ⟨st, en, h6, h7, h8⟩ := chk_run hk h3 (by simpa using h4)
 have e : thenQ (SC P B [] Q) Q = Q := by funext e s; cases e <;> rfl
 intro S rho A a w hr
 have h9 : SOps P B (l1 ++ tl).toArray tl Q (st l1.length) := by
  rw [h8]
  have h10 : SO P B (l1 ++ tl).toArray tl [] Q s' := h5
  unfold SO at h10
  rwa [e] at h10
 refine wpIn_region_any hm (wpAny_W (noLet hq) (fun i o ho => ?_) _ _ _ _ (any_drawT h6 h7 hT h9 S rho A a w hr))
 exact List.all_eq_true.1 hd o (List.mem_of_getElem? (by simpa using ho))
theorem SWpR.seq {x y : Code} {Q : Exit → SS → Prop} {K : SS → Prop} (h : SWpR P ro B x (thenQ K Q) s) (k : ∀ s, K s → SWpR P ro B y Q s) : SWpR P ro B (.seq x y) Q s := by
 intro S rho A a w hr
 refine wpIn_seq (wpIn_mono (h S rho A a w hr) ?_)
 rintro e a w ⟨S, rho, A, s, hq, hr⟩
 cases e <;> first | exact k s hq S rho A a w hr | exact ⟨S, rho, A, s, hq, hr⟩
theorem SWpR.block {id : Nat} {c : Code} {Q : Exit → SS → Prop} (h : SWpR P ro B c (blockQ id Q) s) : SWpR P ro B (.block id c) Q s := by
 intro S rho A a w hr
 refine wpIn_block (wpIn_mono (h S rho A a w hr) ?_)
 rintro e a w ⟨S, rho, A, s, hq, hr⟩
 cases e <;> first | exact ⟨S, rho, A, s, hq, hr⟩ | skip
 rename_i id'
 simp only [blockQ] at hq
 simp only [Exit.inBlock]
 split at hq
 ·rename_i h; rw [if_pos h]; exact ⟨S, rho, A, s, hq, hr⟩
 ·rename_i h; rw [if_neg h]; exact ⟨S, rho, A, s, hq, hr⟩
end
end Go.Proofs.Ytdcbmdmlhjemmaa
