/- Texts joined: Yd Ya Rt Hi Ye Yf Ru Hj Hk Yg Yh Yi Yj Ap Aq. -/
import Derived.Test.YtdkkgndibagihaaVg
import Derived.Test.YtdkkgndibagihaaVi
import Derived.Test.YtdkkgndibagihaaVj
set_option linter.all false
open Nat renaming reduceEqDiff → zn1, reduceLT → zn2, reduceLeDiff → zn3, reduceAdd → zn4, reduceMul → zn5, reduceSub → zn6, reduceBEq → zn7, mul_one → zn8, zero_add → zn9, one_mul → zna, le_refl → znb, zero_le → znc, add_sub_cancel_left → znd, sub_eq_zero_of_le → zne, add_assoc → znf
open Int renaming reduceToNat → zi1, reducePow → zi2
open List renaming length_append → zl1, drop_zero → zl2, take_succ_cons → zl3, take_zero → zl4, getElem?_drop → zl5, append_assoc → zl6, nil_append → zl7, cons_append → zl8, drop_succ_cons → zl9, take_of_length_le → zla, getElem?_eq_getElem → zlb, getElem?_eq_some_iff → zlc, map_cons → zld, map_nil → zle, all_eq_true → zlf
namespace Go.Proofs.Ytdkkgndibagihaa
inductive RowsE (h c top : Nat) : Nat → List (List Int) → List (List Int) → Prop
 | done {i : Nat} {W : List (List Int)} : h ≤ i → RowsE h c top i W W
 | next {i : Nat} {W W1 W' : List (List Int)} : i < h → Euc h c top i W W1 → RowsE h c top (i + 1) W1 W' → RowsE h c top i W W'
structure RowI (h w c top N B0 B i : Nat) (W : List (List Int)) : Prop where
 ws : WS h w W
 bd : Gb h W (gB top B0 (B * (12 * N) ^ (i - (top + 1)))) (gB top B0 (B * (12 * N) ^ (i - (top + 1))))
 col : ∀ q, top ≤ q → q < h → (ent2 W q c).natAbs ≤ N
 zer : ∀ q, top < q → q < i → q < h → ent2 W q c = 0
section
variable {h w c top i N B0 B : Nat} {A W W' : List (List Int)}
theorem gB_bp {D : Nat} (hti : top < i) : bp top i B B (gB top B0 B) = gB top B0 B := by
 funext q
 unfold bp gB
 by_cases e1 : q = top
 ·rw [if_pos e1, if_neg (by omega)]
 ·by_cases e2 : q = i
  ·rw [if_neg e1, if_pos e2, if_neg (by omega)]
  ·rw [if_neg e1, if_neg e2]
theorem RowI.pair (hR : RowI h w c top N B0 B i W) (hti : top < i) (hN : 1 ≤ N) : PairI h w c top i N B0 (B * (12 * N) ^ (i - (top + 1))) (B * (12 * N) ^ (i + 1 - (top + 1))) W := by
 have e : B * (12 * N) ^ (i + 1 - (top + 1)) = 12 * (N * (B * (12 * N) ^ (i - (top + 1)))) := by
  rw [show i + 1 - (top + 1) = i - (top + 1) + 1 by omega, Nat.pow_succ, ← Nat.mul_assoc, Nat.mul_comm (B * _) (12 * N), Nat.mul_assoc 12]
 have hB : ∀ X : Nat, X ≤ 12 * (N * X) := fun X => by
  have := Nat.le_mul_of_pos_left X (show 0 < N by omega)
  omega
 refine ⟨hR.ws, ⟨_, _, ?_, ?_, ?_, .inl ⟨znb _, znb _, ?_⟩⟩, hR.col⟩
 ·have := hR.bd
  rw [gB_bp (D := 0) hti]
  exact this
 ·rw [e]; exact hB _
 ·rw [e]; exact hB _
 ·rw [e]; exact znb _
theorem PairI.row {W0 : List (List Int)} (hR : RowI h w c top N B0 B i W0) (hE : Euc h c top i W0 W) (hti : top < i) (hi : i < h) (hN : 1 ≤ N) : RowI h w c top N B0 B (i + 1) W := by
 obtain ⟨ws, ⟨a, b, hG, ha, hb, _⟩, hc⟩ := hE.pair hti hi (hR.pair hti hN)
 have hle : B * (12 * N) ^ (i - (top + 1)) ≤ B * (12 * N) ^ (i + 1 - (top + 1)) := Nat.mul_le_mul_left B (Nat.pow_le_pow_right (by omega) (by omega))
 have hb' : ∀ x y, x ≤ B * (12 * N) ^ (i + 1 - (top + 1)) → y ≤ B * (12 * N) ^ (i + 1 - (top + 1)) → ∀ q, q < h → bp top i x y (gB top B0 (B * (12 * N) ^ (i - (top + 1)))) q ≤ gB top B0 (B * (12 * N) ^ (i + 1 - (top + 1))) q := fun x y hx hy q hq => by
  unfold bp gB
  by_cases e1 : q = top
  ·rw [if_pos e1, if_neg (by omega)]; exact hx
  ·rw [if_neg e1]
   by_cases e2 : q = i
   ·rw [if_pos e2, if_neg (by omega)]; exact hy
   ·rw [if_neg e2]
    by_cases e3 : q < top
    ·rw [if_pos e3, if_pos e3]; exact znb _
    ·rw [if_neg e3, if_neg e3]; exact hle
 refine ⟨ws, hG.mono (hb' a b ha hb) (hb' b a hb ha), hc, fun q h1 h2 h3 => ?_⟩
 by_cases e : q = i
 ·rw [e]; exact hE.zero
 ·rw [hE.rest hti hi hR.ws q h3 (by omega) e]
  exact hR.zer q h1 (by omega) h3
theorem RowsE.ex (hN : 1 ≤ N) : ∀ (n : Nat) {i : Nat} {W : List (List Int)}, h - i ≤ n → top < i → RowI h w c top N B0 B i W → ∃ W', RowsE h c top i W W'
 | 0, i, W, hn, _, _ => ⟨W, .done (by omega)⟩
 | n + 1, i, W, hn, hti, hR => by
  by_cases hi : i < h
  ·obtain ⟨W1, hE⟩ := Euc.ex hti hi _ (znb _) (hR.pair hti hN)
   obtain ⟨W', hW'⟩ := RowsE.ex hN n (by omega) (by omega) (PairI.row hR hE hti hi hN)
   exact ⟨W', .next hi hE hW'⟩
  ·exact ⟨W, .done (by omega)⟩
theorem RowsE.row (hE : RowsE h c top i W W') (hN : 1 ≤ N) : top < i → i ≤ h → RowI h w c top N B0 B i W → RowI h w c top N B0 B h W' := by
 induction hE with
 | done h0 => exact fun _ h1 hR => by rwa [show _ = h from Nat.le_antisymm h1 h0] at hR
 | next h0 hE _ ih => exact fun hti _ hR => ih (by omega) (by omega) (PairI.row hR hE hti h0 hN)
theorem Euc.ws (hE : Euc h c top i W W') (hti : top < i) (hi : i < h) : WS h w W → WS h w W' := by
 induction hE with
 | stop h0 => exact fun h => h
 | step h0 _ ih => exact fun h => ih (stepE_ws h (by omega) hi)
theorem RowsE.above (hE : RowsE h c top i W W') : top < i → WS h w W → ∀ q, q < top → ∀ t, ent2 W' q t = ent2 W q t := by
 induction hE with
 | done h0 => exact fun _ _ _ _ _ => rfl
 | next h0 hE _ ih => exact fun hti hW q hq t => by rw [ih (by omega) (hE.ws hti h0 hW) q hq t, hE.rest hti h0 hW q (by omega) (by omega) (by omega)]
theorem RowsE.left {t : Nat} (hE : RowsE h c top i W W') : top < i → WS h w W → (∀ q, top ≤ q → q < h → ent2 W q t = 0) → ∀ q, top ≤ q → q < h → ent2 W' q t = 0 := by
 induction hE with
 | done h0 => exact fun _ _ hz => hz
 | @next i W W1 W' h0 hE _ ih =>
  intro hti hW hz
  refine ih (by omega) (hE.ws hti h0 hW) fun q h1 h2 => ?_
  have hl := hE.left hti h0 hW (hz top (znb _) (by omega)) (hz _ (by omega) h0)
  by_cases e1 : q = top
  ·rw [e1]; exact hl.1
  ·by_cases e2 : q = i
   ·rw [e2]; exact hl.2
   ·rw [hE.rest hti h0 hW q h2 e1 e2]; exact hz q h1 h2
theorem RowsE.lin (hE : RowsE h c top i W W') : top < i → WS h w W → LinI h w A W → LinI h w A W' := by
 induction hE with
 | done h0 => exact fun _ _ h => h
 | next h0 hE _ ih => exact fun hti hW hL => ih (by omega) (hE.ws hti h0 hW) (hE.lin hti h0 hW hL)
end
def redW (h c top : Nat) : Nat → Nat → List (List Int) → List (List Int)
 | 0, _, W => W
 | n + 1, i, W => redW h c top n (i + 1) (addW h i top (-(ent2 W i c / ent2 W top c)) W)
structure RedI (h w c top B0 B1 i : Nat) (Z W : List (List Int)) : Prop where
 ws : WS h w W
 bd : Gb h W (fun q => if q < i then B0 + B0 * B1 else if q < top then B0 else B1) (fun t => if t < top then B0 else if t = top then B1 + i * (B0 * B0) else B1)
 row : ∀ q, q < h → i ≤ q → ∀ t, ent2 W q t = ent2 Z q t
 left : ∀ q, q < h → ∀ t, t < c → ent2 W q t = ent2 Z q t
 red : ∀ q, q < i → 0 ≤ ent2 W q c ∧ ent2 W q c < ent2 Z top c
section
variable {h w c top i B0 B1 : Nat} {A Z W W' : List (List Int)}
theorem RedI.next (hR : RedI h w c top B0 B1 i Z W) (hi : i < top) (ht : top < h) (hp : 0 < ent2 Z top c) (hz : ∀ t, t < c → ent2 Z top t = 0) : RedI h w c top B0 B1 (i + 1) Z (addW h i top (-(ent2 W i c / ent2 W top c)) W) := by
 have hih : i < h := by omega
 obtain ⟨ws, bd, row, left, red⟩ := hR
 have eP : ∀ t, ent2 W top t = ent2 Z top t := row top ht (by omega)
 have eA : ∀ q, q < h → ∀ t, ent2 (addW h i top (-(ent2 W i c / ent2 W top c)) W) q t = if q = i then ent2 W i t - ent2 W i c / ent2 W top c * ent2 W top t else ent2 W q t := fun q hq t => by
  rw [addW_ent ws hih ht (by omega)]
  by_cases e : q = i
  ·rw [if_pos e, if_pos e, Int.neg_mul, Int.sub_eq_add_neg]
  ·rw [if_neg e, if_neg e, if_neg (by omega), if_neg (by omega)]
 have hx : (ent2 W i c).natAbs ≤ B0 := by
  have := bd.m i c hih
  rwa [if_neg (by omega), if_pos hi] at this
 have hk : (-(ent2 W i c / ent2 W top c)).natAbs ≤ B0 := by
  rw [Int.natAbs_neg]
  exact Nat.le_trans (Int.natAbs_ediv_le_natAbs _ _) hx
 refine ⟨addW_ws ws hih ht, (bd.add ws hih ht hk).mono (fun q hq => ?_) (fun q hq => ?_), fun q hq h1 t => ?_, fun q hq t h1 => ?_, fun q h1 => ?_⟩
 ·show (if q = i then (if i < i then B0 + B0 * B1 else if i < top then B0 else B1) + B0 * (if top < i then B0 + B0 * B1 else if top < top then B0 else B1) else (if q < i then B0 + B0 * B1 else if q < top then B0 else B1)) ≤ (if q < i + 1 then B0 + B0 * B1 else if q < top then B0 else B1)
  by_cases e : q = i
  ·rw [if_pos e, if_neg (show ¬ i < i by omega), if_pos hi, if_neg (show ¬ top < i by omega), if_neg (show ¬ top < top by omega), if_pos (show q < i + 1 by omega)]
   exact znb _
  ·rw [if_neg e]
   by_cases e2 : q < i
   ·rw [if_pos e2, if_pos (by omega)]; exact znb _
   ·rw [if_neg e2, if_neg (show ¬ q < i + 1 by omega)]; exact znb _
 ·show (if q = top then (if top < top then B0 else if top = top then B1 + i * (B0 * B0) else B1) + B0 * (if i < top then B0 else if i = top then B1 + i * (B0 * B0) else B1) else (if q < top then B0 else if q = top then B1 + i * (B0 * B0) else B1)) ≤ (if q < top then B0 else if q = top then B1 + (i + 1) * (B0 * B0) else B1)
  by_cases e : q = top
  ·rw [if_pos e, if_neg (show ¬ top < top by omega), if_pos rfl, if_pos hi, if_neg (show ¬ q < top by omega), if_pos e, Nat.add_mul, zna]; omega
  ·rw [if_neg e, if_neg e, if_neg e]
   exact znb _
 ·rw [eA q hq, if_neg (by omega)]; exact row q hq (by omega) t
 ·rw [eA q hq]
  by_cases e : q = i
  ·rw [if_pos e, eP t, hz t h1, Int.mul_zero, Int.sub_zero, e]; exact left i hih t h1
  ·rw [if_neg e]; exact left q hq t h1
 ·rw [eA q (by omega)]
  by_cases e : q = i
  ·rw [if_pos e, eP c]
   have h1 := Int.mul_ediv_add_emod (ent2 W i c) (ent2 Z top c)
   have h2 := Int.emod_nonneg (ent2 W i c) (show ent2 Z top c ≠ 0 by omega)
   have h3 := Int.emod_lt_of_pos (ent2 W i c) hp
   rw [Int.mul_comm] at h1
   omega
  ·rw [if_neg e]; exact red q (by omega)
theorem redW_inv (ht : top < h) (hp : 0 < ent2 Z top c) (hz : ∀ t, t < c → ent2 Z top t = 0) : ∀ (n : Nat) {i : Nat} {W : List (List Int)}, n + i = top → RedI h w c top B0 B1 i Z W → RedI h w c top B0 B1 top Z (redW h c top n i W)
 | 0, i, W, hn, hR => by rw [zn9] at hn; subst hn; exact hR
 | n + 1, i, W, hn, hR => redW_inv ht hp hz n (by omega) (hR.next (by omega) ht hp hz)
theorem redW_lin (ht : top < h) : ∀ (n : Nat) {i : Nat} {W : List (List Int)}, n + i = top → WS h w W → LinI h w A W → LinI h w A (redW h c top n i W)
 | 0, _, _, _, _, hL => hL
 | n + 1, i, W, hn, hW, hL => redW_lin ht n (by omega) (addW_ws hW (by omega) ht) (hL.add hW (by omega) ht (by omega))
end
end Go.Proofs.Ytdkkgndibagihaa
namespace Go.Proofs.Ytdkkgndibagihaa
structure IsH (h w : Nat) (M : Nat → Nat → Int) (r : Nat) (p : Nat → Nat) : Prop where
 rh : r ≤ h
 pw : ∀ i, i < r → p i < w
 pos : ∀ i, i < r → 0 < M i (p i)
 lead : ∀ i, i < r → ∀ j, j < p i → M i j = 0
 inc : ∀ i k, i < k → k < r → p i < p k
 red : ∀ i k, i < k → k < r → 0 ≤ M i (p k) ∧ M i (p k) < M k (p k)
 zero : ∀ i, r ≤ i → i < h → ∀ j, j < w → M i j = 0
theorem dot_zero {c g : Nat → Int} : ∀ {n : Nat}, (∀ t, t < n → c t * g t = 0) → dotI c g n = 0
 | 0, _ => rfl
 | n + 1, h => by
  show dotI c g n + c n * g n = 0
  rw [dot_zero fun t ht => h t (by omega), h n (by omega)]; rfl
theorem dot_one {c g : Nat → Int} {i : Nat} : ∀ {n : Nat}, i < n → (∀ t, t < n → t ≠ i → c t * g t = 0) → dotI c g n = c i * g i
 | 0, h, _ => by omega
 | n + 1, hi, h => by
  show dotI c g n + c n * g n = _
  by_cases e : n = i
  ·subst e
   rw [dot_zero fun t ht => h t (by omega) (by omega), Int.zero_add]
  ·rw [dot_one (i := i) (by omega) fun t ht => h t (by omega), h n (by omega) e, Int.add_zero]
theorem least_of {P : Nat → Prop} {n : Nat} (h : P n) : ∃ k, P k ∧ ∀ j, j < k → ¬ P j := by
 induction n using Nat.strongRecOn with
 | ind n ih =>
  by_cases hx : ∃ j, j < n ∧ P j
  ·obtain ⟨j, hj, hp⟩ := hx
   exact ih j hj hp
  ·exact ⟨n, h, fun j hj hp => hx ⟨j, hj, hp⟩⟩
section
variable {h w r s : Nat} {M N : Nat → Nat → Int} {p q : Nat → Nat}
theorem IsH.leadL (H : IsH h w M r p) {c : Nat → Int} {k : Nat} (hk : k < w) (h0 : ∀ j, j < k → dotI c (fun t => M t j) h = 0) (hne : dotI c (fun t => M t k) h ≠ 0) : ∃ i, i < r ∧ p i = k ∧ M i k ∣ dotI c (fun t => M t k) h := by
 have hrh := H.rh
 have hex : ∃ i, i < r ∧ c i ≠ 0 := by
  apply Classical.byContradiction
  intro hn
  apply hne
  refine dot_zero fun t ht => ?_
  by_cases htr : t < r
  ·have : c t = 0 := Classical.byContradiction fun hc => hn ⟨t, htr, hc⟩
   rw [this, Int.zero_mul]
  ·rw [H.zero t (by omega) ht k hk, Int.mul_zero]
 obtain ⟨i0, hi0⟩ := hex
 obtain ⟨i, ⟨hi, hc⟩, hl⟩ := least_of (P := fun i => i < r ∧ c i ≠ 0) hi0
 have hc0 : ∀ t, t < i → c t = 0 := fun t ht => Classical.byContradiction fun hcc => (hl t ht) ⟨by omega, hcc⟩
 have key : ∀ j, j < w → j ≤ p i → dotI c (fun t => M t j) h = c i * M i j := fun j hj hji => by
  refine dot_one (by omega) fun t ht hti => ?_
  by_cases h1 : t < i
  ·rw [hc0 t h1, Int.zero_mul]
  ·by_cases h2 : t < r
   ·have := H.inc i t (by omega) h2
    rw [H.lead t h2 j (by omega), Int.mul_zero]
   ·rw [H.zero t (by omega) ht j hj, Int.mul_zero]
 have hpi : p i = k := by
  have hpw := H.pw i hi
  rcases Nat.lt_trichotomy (p i) k with h | h | h
  ·have e := h0 (p i) h
   rw [key (p i) hpw (znb _)] at e
   have := H.pos i hi
   rcases Int.mul_eq_zero.1 e with e | e
   ·exact absurd e hc
   ·omega
  ·exact h
  ·rw [key k hk (by omega), H.lead i hi k h, Int.mul_zero] at hne
   exact absurd rfl hne
 refine ⟨i, hi, hpi, ?_⟩
 rw [key k hk (by omega)]
 exact Int.dvd_mul_left _ _
def SubL (h w : Nat) (M N : Nat → Nat → Int) : Prop := ∀ i, i < h → ∃ c : Nat → Int, ∀ j, j < w → N i j = dotI c (fun t => M t j) h
theorem IsH.piv (HM : IsH h w M r p) (HN : IsH h w N s q) (hs : SubL h w M N) {i : Nat} (hi : i < s) : ∃ k, k < r ∧ p k = q i ∧ M k (q i) ∣ N i (q i) := by
 have hsh := HN.rh
 obtain ⟨c, hc⟩ := hs i (by omega)
 have hw := HN.pw i hi
 have hp := HN.pos i hi
 obtain ⟨k, h1, h2, h3⟩ := HM.leadL (c := c) hw (fun j hj => by rw [← hc j (by omega)]; exact HN.lead i hi j hj) (by rw [← hc _ hw]; omega)
 exact ⟨k, h1, h2, by rw [hc _ hw]; exact h3⟩
theorem IsH.same_piv (HM : IsH h w M r p) (HN : IsH h w N s q) (h1 : SubL h w M N) (h2 : SubL h w N M) : ∀ i, (i < r ↔ i < s) ∧ (i < r → p i = q i) := by
 intro i
 induction i using Nat.strongRecOn with
 | ind i ih =>
  have a : i < r → ∃ k, k < s ∧ i ≤ k ∧ q k = p i := fun hi => by
   obtain ⟨k, k1, k2, _⟩ := HN.piv HM h2 hi
   refine ⟨k, k1, Nat.le_of_not_lt fun hki => ?_, k2⟩
   have e := (ih k hki).2 (by omega)
   have := HM.inc k i hki hi
   omega
  have b : i < s → ∃ k, k < r ∧ i ≤ k ∧ p k = q i := fun hi => by
   obtain ⟨k, k1, k2, _⟩ := HM.piv HN h1 hi
   refine ⟨k, k1, Nat.le_of_not_lt fun hki => ?_, k2⟩
   have e := (ih k hki).2 k1
   have := HN.inc k i hki hi
   omega
  refine ⟨⟨fun hi => by obtain ⟨k, k1, k2, _⟩ := a hi; omega, fun hi => by obtain ⟨k, k1, k2, _⟩ := b hi; omega⟩, fun hi => ?_⟩
  obtain ⟨k, k1, k2, k3⟩ := a hi
  obtain ⟨l, l1, l2, l3⟩ := b (by omega)
  have m1 : q i ≤ q k := by
   rcases Nat.eq_or_lt_of_le k2 with e | e
   ·rw [e]; exact znb _
   ·exact Nat.le_of_lt (HN.inc i k e k1)
  have m2 : p i ≤ p l := by
   rcases Nat.eq_or_lt_of_le l2 with e | e
   ·rw [e]; exact znb _
   ·exact Nat.le_of_lt (HM.inc i l e l1)
  omega
theorem IsH.inj (H : IsH h w M r p) {i k : Nat} (hi : i < r) (hk : k < r) (e : p i = p k) : i = k := by
 rcases Nat.lt_trichotomy i k with h | h | h
 ·have := H.inc i k h hk; omega
 ·exact h
 ·have := H.inc k i h hi; omega
theorem IsH.uniq (HM : IsH h w M r p) (HN : IsH h w N s q) (h1 : SubL h w M N) (h2 : SubL h w N M) {i j : Nat} (hi : i < h) (hj : j < w) : M i j = N i j := by
 have sp := HM.same_piv HN h1 h2
 have rs : r = s := by
  rcases Nat.lt_trichotomy r s with e | e | e
  ·have := (sp r).1; omega
  ·exact e
  ·have := (sp s).1; omega
 subst rs
 have pq : ∀ i, i < r → p i = q i := fun i hi => (sp i).2 hi
 have val : ∀ i, i < r → M i (p i) = N i (p i) := fun i hi => by
  obtain ⟨k, k1, k2, k3⟩ := HM.piv HN h1 hi
  rw [← pq i hi] at k2 k3
  have := HM.inj k1 hi k2
  subst this
  obtain ⟨l, l1, l2, l3⟩ := HN.piv HM h2 hi
  rw [← pq l l1] at l2
  have := HM.inj l1 hi l2
  subst this
  have a1 := HM.pos l hi
  have a2 := HN.pos l hi
  rw [← pq l hi] at a2
  have b1 := Int.le_of_dvd a2 k3
  have b2 := Int.le_of_dvd a1 l3
  omega
 by_cases hir : i < r
 ·by_cases he : M i j = N i j
  ·exact he
  ·exfalso
   obtain ⟨k, ⟨hk, hne⟩, hl⟩ := least_of (P := fun k => k < w ∧ M i k ≠ N i k) ⟨hj, he⟩
   obtain ⟨c, hc⟩ := h1 i hi
   have hD : ∀ j, j < w → dotI (fun t => (if i = t then 1 else 0) + (-1) * c t) (fun t => M t j) h = M i j - N i j := fun j hj => by
    rw [dot_add, dot_unit, if_pos hi, ← hc j hj]; omega
   obtain ⟨t, t1, t2, t3⟩ := HM.leadL (c := fun t => (if i = t then 1 else 0) + (-1) * c t) hk
    (fun j hj => by
     rw [hD j (by omega)]
     have : ¬ (M i j ≠ N i j) := fun h => hl j hj ⟨by omega, h⟩
     omega) (by rw [hD k hk]; omega)
   rw [hD k hk] at t3
   rcases Nat.lt_trichotomy t i with h | h | h
   ·have a := HM.inc t i h hir
    have e1 := HM.lead i hir k (by omega)
    have e2 := HN.lead i hir k (by rw [← pq i hir]; omega)
    omega
   ·subst h
    have := val t hir
    rw [t2] at this
    omega
   ·obtain ⟨a1, a2⟩ := HM.red i t h t1
    obtain ⟨b1, b2⟩ := HN.red i t h t1
    have v := val t t1
    rw [← pq t t1] at b1 b2
    rw [t2] at a1 a2 b1 b2 v
    have := Int.eq_zero_of_dvd_of_natAbs_lt_natAbs t3 (by omega)
    omega
 ·rw [HM.zero i (by omega) hi j hj, HN.zero i (by omega) hi j hj]
end
end Go.Proofs.Ytdkkgndibagihaa
namespace Go.Proofs.Ytdkkgndibagihaa
open Go.RowKit
end Go.Proofs.Ytdkkgndibagihaa
namespace Go.Proofs.Ytdkkgndibagihaa
open Go.RowKit
theorem take_get {M : List (List Int)} {h q : Nat} (hq : q < h) : (M.take h).getD q [] = M.getD q [] := by
 rw [List.getD_eq_getElem?_getD, List.getElem?_take_of_lt hq, List.getD_eq_getElem?_getD]
theorem WI.take {h w K : Nat} {W : List (List Int)} (hW : WI h w K W) : MI h w K (W.take h) := by
 have hl := hW.len
 have htl : (W.take h).length = h := by rw [List.length_take]; omega
 refine ⟨htl, fun r hr => ?_⟩
 obtain ⟨q, hq, rfl⟩ := List.mem_iff_getElem.1 hr
 have e : (W.take h)[q] = W.getD q [] := by
  rw [← take_get (M := W) (h := h) (by omega), List.getD_eq_getElem?_getD, zlb hq]; rfl
 rw [e]
 refine ⟨hW.rowM q (by omega), fun x hx => ?_⟩
 obtain ⟨t, ht, rfl⟩ := List.mem_iff_getElem.1 hx
 have := hW.fit q t
 rwa [List.getD_eq_getElem?_getD, zlb ht] at this
end Go.Proofs.Ytdkkgndibagihaa
namespace Go.Proofs.Ytdkkgndibagihaa
inductive ColsE (h w : Nat) : Nat → Nat → List (List Int) → List (List Int) → Prop
 | done {c top : Nat} {W : List (List Int)} : ¬ (c < w ∧ top < h) → ColsE h w c top W W
 | skip {c top : Nat} {W W1 W' : List (List Int)} : c < w → top < h → RowsE h c top (top + 1) W W1 → ent2 W1 top c = 0 → ColsE h w (c + 1) top W1 W' → ColsE h w c top W W'
 | piv {c top : Nat} {W W1 W' : List (List Int)} : c < w → top < h → RowsE h c top (top + 1) W W1 → ent2 W1 top c ≠ 0 → ColsE h w (c + 1) (top + 1) (redW h c top top 0 (if ent2 W1 top c < 0 then negW h top W1 else W1)) W' → ColsE h w c top W W'
def fact : Nat → Nat
 | 0 => 1
 | n + 1 => (n + 1) * fact n
theorem fact_pos : ∀ n, 0 < fact n
 | 0 => Nat.one_pos
 | n + 1 => Nat.mul_pos (Nat.succ_pos n) (fact_pos n)
structure HS (h w c top : Nat) (p : Nat → Nat) (W : List (List Int)) : Prop where
 th : top ≤ h
 cw : c ≤ w
 pc : ∀ i, i < top → p i < c
 pos : ∀ i, i < top → 0 < ent2 W i (p i)
 lead : ∀ i, i < top → ∀ j, j < p i → ent2 W i j = 0
 inc : ∀ i k, i < k → k < top → p i < p k
 red : ∀ i k, i < k → k < top → 0 ≤ ent2 W i (p k) ∧ ent2 W i (p k) < ent2 W k (p k)
 zero : ∀ q, top ≤ q → q < h → ∀ t, t < c → ent2 W q t = 0
section
variable {h w c top G : Nat} {p : Nat → Nat} {A W W1 W' : List (List Int)}
theorem HS.isH (hS : HS h w c top p W) (he : ¬ (c < w ∧ top < h)) : IsH h w (ent2 W) top p := by
 have := hS.th
 have := hS.cw
 refine ⟨hS.th, fun i hi => ?_, hS.pos, hS.lead, hS.inc, hS.red, fun i h1 h2 j hj => hS.zero i h1 h2 j (by omega)⟩
 have := hS.pc i hi; omega
theorem Euc.keep {i : Nat} (hE : Euc h c top i W W') (hti : top < i) (hi : i < h) : WS h w W → ent2 W' top c = 0 → W' = W ∧ ent2 W i c = 0 := by
 induction hE with
 | stop h0 => exact fun _ _ => ⟨rfl, h0⟩
 | @step W W' h0 _ ih =>
  intro hW hz
  exfalso
  obtain ⟨e1, e2⟩ := ih (stepE_ws hW (by omega) hi) hz
  rw [e1, stepE_ent hW hti hi (by omega), if_pos rfl] at hz
  exact h0 hz
theorem RowsE.keep {i : Nat} (hE : RowsE h c top i W W') : top < i → WS h w W → ent2 W' top c = 0 → W' = W ∧ ∀ q, i ≤ q → q < h → ent2 W q c = 0 := by
 induction hE with
 | done h0 => exact fun _ _ _ => ⟨rfl, fun q h1 h2 => by omega⟩
 | @next i W W1 W' h0 hE _ ih =>
  intro hti hW hz
  obtain ⟨e1, e2⟩ := ih (by omega) (hE.ws hti h0 hW) hz
  obtain ⟨e3, e4⟩ := hE.keep hti h0 hW (by rw [← e1]; exact hz)
  refine ⟨by rw [e1, e3], fun q h1 h2 => ?_⟩
  by_cases e : q = i
  ·rw [e]; exact e4
  ·rw [← e3]; exact e2 q (by omega) h2
structure ColI (h w c top G : Nat) (p : Nat → Nat) (A W : List (List Int)) : Prop where
 ws : WS h w W
 hs : HS h w c top p W
 lin : LinI h w A W
 bd : ∃ K, Gb h W (fun _ => 4294967296 ^ K) (fun _ => 4294967296 ^ K) ∧ (K + 1) * fact (h - top + 1) ≤ G
theorem gB_const {B n : Nat} : gB top B (B * (12 * B) ^ (n - n)) = fun _ => B := by
 funext q
 unfold gB
 rw [Nat.sub_self, Nat.pow_zero, zn8]
 split <;> rfl
theorem ColI.row0 {K : Nat} (hI : ColI h w c top G p A W) (hG : Gb h W (fun _ => 4294967296 ^ K) (fun _ => 4294967296 ^ K)) : RowI h w c top (4294967296 ^ K) (4294967296 ^ K) (4294967296 ^ K) (top + 1) W :=
 ⟨hI.ws, by rw [gB_const]; exact hG, fun q _ h2 => hG.m q c h2, fun q h1 h2 _ => by omega⟩
theorem ColI.skip (hI : ColI h w c top G p A W) (hc : c < w) (hE : RowsE h c top (top + 1) W W1) (h0 : ent2 W1 top c = 0) : W1 = W ∧ ColI h w (c + 1) top G p A W := by
 obtain ⟨e1, e2⟩ := hE.keep (by omega) hI.ws h0
 refine ⟨e1, hI.ws, ⟨hI.hs.th, hc, fun i hi => Nat.lt_succ_of_lt (hI.hs.pc i hi), hI.hs.pos, hI.hs.lead, hI.hs.inc, hI.hs.red, fun q h1 h2 t ht => ?_⟩, hI.lin, hI.bd⟩
 by_cases e : t = c
 ·rw [e]
  by_cases e3 : q = top
  ·rw [e3, ← e1]; exact h0
  ·exact e2 q (by omega) h2
 ·exact hI.hs.zero q h1 h2 t (by omega)
theorem pow12 (K : Nat) : 12 * 4294967296 ^ K ≤ 4294967296 ^ (K + 1) := by
 rw [Nat.pow_succ]
 generalize 4294967296 ^ K = T
 omega
theorem bd_rows (K n : Nat) : 4294967296 ^ K * (12 * 4294967296 ^ K) ^ n ≤ 4294967296 ^ (K + (K + 1) * n) := by
 rw [Nat.pow_add, Nat.pow_mul]
 exact Nat.mul_le_mul_left _ (Nat.pow_le_pow_left (pow12 K) n)
theorem pow_ge1 (K : Nat) : 1 ≤ 4294967296 ^ K := Nat.pow_pos (by omega)
theorem bd_col {K n B1 : Nat} (hh : top + n + 1 ≤ 1000000) (h1 : B1 = 4294967296 ^ K * (12 * 4294967296 ^ K) ^ n) :
  4294967296 ^ K ≤ B1 ∧ B1 ≤ 4294967296 ^ (1 + 2 * K + (K + 1) * n) ∧ 4294967296 ^ K + 4294967296 ^ K * B1 ≤ 4294967296 ^ (1 + 2 * K + (K + 1) * n) ∧ ∀ t, t ≤ top → B1 + t * (4294967296 ^ K * 4294967296 ^ K) ≤ 4294967296 ^ (1 + 2 * K + (K + 1) * n) := by
 have e1 := bd_rows K n
 have e2 : 4294967296 ^ (1 + 2 * K + (K + 1) * n) = 4294967296 * (4294967296 ^ K * 4294967296 ^ (K + (K + 1) * n)) := by
  rw [← Nat.pow_add, show 1 + 2 * K + (K + 1) * n = (K + (K + (K + 1) * n)) + 1 by omega, Nat.pow_succ, Nat.mul_comm]
 have hT := pow_ge1 K
 have hP : 1 ≤ (12 * 4294967296 ^ K) ^ n := Nat.pow_pos (by omega)
 have e3 : 4294967296 ^ K ≤ B1 := by rw [h1]; exact Nat.le_mul_of_pos_right _ hP
 rw [← h1] at e1
 rw [e2]
 generalize 4294967296 ^ (K + (K + 1) * n) = Y at *
 generalize 4294967296 ^ K = T at *
 clear h1 e2 hP
 have k1 : T * B1 ≤ T * Y := Nat.mul_le_mul_left T e1
 have k2 : T * T ≤ T * Y := Nat.mul_le_mul_left T (by omega)
 have k3 : B1 ≤ T * B1 := Nat.le_mul_of_pos_left _ (by omega)
 have k4 : T ≤ T * B1 := Nat.le_mul_of_pos_right _ (by omega)
 refine ⟨e3, by omega, by omega, fun t ht => ?_⟩
 have k5 : t * (T * T) ≤ 1000000 * (T * T) := Nat.mul_le_mul_right _ (by omega)
 omega
theorem neg_fix (hW : WS h w W1) (ht : top < h) (h0 : ent2 W1 top c ≠ 0) (hz : ∀ t, t < c → ent2 W1 top t = 0) (hL : LinI h w A W1) {bM bV : Nat → Nat} (hG : Gb h W1 bM bV) :
  WS h w (if ent2 W1 top c < 0 then negW h top W1 else W1) ∧ LinI h w A (if ent2 W1 top c < 0 then negW h top W1 else W1) ∧ Gb h (if ent2 W1 top c < 0 then negW h top W1 else W1) bM bV ∧ 0 < ent2 (if ent2 W1 top c < 0 then negW h top W1 else W1) top c ∧ (∀ t, t < c → ent2 (if ent2 W1 top c < 0 then negW h top W1 else W1) top t = 0) ∧ ∀ q, q < h → q ≠ top → ∀ t, ent2 (if ent2 W1 top c < 0 then negW h top W1 else W1) q t = ent2 W1 q t := by
 by_cases hs : ent2 W1 top c < 0
 ·rw [if_pos hs]
  refine ⟨negW_ws hW ht, hL.neg hW ht, hG.neg hW ht, ?_, fun t h1 => ?_, fun q hq h1 t => ?_⟩
  ·rw [negW_ent hW ht (by omega), if_pos (.inl rfl)]; omega
  ·rw [negW_ent hW ht (by omega), if_pos (.inl rfl), hz t h1]; rfl
  ·rw [negW_ent hW ht (by omega), if_neg (by omega)]
 ·rw [if_neg hs]
  exact ⟨hW, hL, hG, by omega, hz, fun q _ _ t => rfl⟩
theorem ColI.red0 {K : Nat} (hI : ColI h w c top G p A W) (hG : Gb h W (fun _ => 4294967296 ^ K) (fun _ => 4294967296 ^ K)) (ht : top < h) (hE : RowsE h c top (top + 1) W W1) (h0 : ent2 W1 top c ≠ 0) (hh : h ≤ 1000000) :
  (∀ t, t < c → ent2 W1 top t = 0) ∧ 0 < ent2 (if ent2 W1 top c < 0 then negW h top W1 else W1) top c ∧ (∀ t, t < c → ent2 (if ent2 W1 top c < 0 then negW h top W1 else W1) top t = 0) ∧
  RedI h w c top (4294967296 ^ K) (4294967296 ^ K * (12 * 4294967296 ^ K) ^ (h - (top + 1))) 0 (if ent2 W1 top c < 0 then negW h top W1 else W1) (if ent2 W1 top c < 0 then negW h top W1 else W1) ∧ LinI h w A (if ent2 W1 top c < 0 then negW h top W1 else W1) := by
 have hR := hE.row (pow_ge1 K) (by omega) (by omega) (hI.row0 hG)
 have hz : ∀ t, t < c → ent2 W1 top t = 0 := fun t h1 => hE.left (by omega) hI.ws (fun q h2 h3 => hI.hs.zero q h2 h3 t h1) top (znb _) ht
 obtain ⟨f1, f2, f3, f4, f5, f6⟩ := neg_fix hR.ws ht h0 hz (hE.lin (by omega) hI.ws hI.lin) hR.bd
 obtain ⟨b1, _⟩ := bd_col (top := top) (K := K) (n := h - (top + 1)) (by omega) rfl
 refine ⟨hz, f4, f5, ⟨f1, f3.mono (fun q hq => ?_) (fun q hq => ?_), fun _ _ _ _ => rfl, fun _ _ _ _ => rfl, fun q h1 => by omega⟩, f2⟩
 ·show (if q < top then 4294967296 ^ K else (4294967296 ^ K * (12 * 4294967296 ^ K) ^ (h - (top + 1)))) ≤ (if q < 0 then 4294967296 ^ K + 4294967296 ^ K * (4294967296 ^ K * (12 * 4294967296 ^ K) ^ (h - (top + 1))) else if q < top then 4294967296 ^ K else (4294967296 ^ K * (12 * 4294967296 ^ K) ^ (h - (top + 1))))
  rw [if_neg (show ¬ q < 0 by omega)]
  exact znb _
 ·show (if q < top then 4294967296 ^ K else (4294967296 ^ K * (12 * 4294967296 ^ K) ^ (h - (top + 1)))) ≤ (if q < top then 4294967296 ^ K else if q = top then (4294967296 ^ K * (12 * 4294967296 ^ K) ^ (h - (top + 1))) + 0 * (4294967296 ^ K * 4294967296 ^ K) else (4294967296 ^ K * (12 * 4294967296 ^ K) ^ (h - (top + 1))))
  rw [Nat.zero_mul, Nat.add_zero]
  by_cases e : q < top
  ·rw [if_pos e, if_pos e]; exact znb _
  ·rw [if_neg e, if_neg e]
   split <;> exact znb _
theorem RedI.bd1 {K n : Nat} {Z : List (List Int)} {i : Nat} (hn : n = h - (top + 1)) (ht : top < h) (hh : h ≤ 1000000) (hi : i ≤ top) (hR : RedI h w c top (4294967296 ^ K) (4294967296 ^ K * (12 * 4294967296 ^ K) ^ n) i Z W) :
  Gb h W (fun _ => 4294967296 ^ (1 + 2 * K + (K + 1) * n)) (fun _ => 4294967296 ^ (1 + 2 * K + (K + 1) * n)) := by
 obtain ⟨b1, b2, b3, b4⟩ := bd_col (top := top) (K := K) (n := n) (by omega) rfl
 refine hR.bd.mono (fun q hq => ?_) (fun q hq => ?_)
 ·split
  ·exact b3
  ·split
   ·exact Nat.le_trans b1 b2
   ·exact b2
 ·split
  ·exact Nat.le_trans b1 b2
  ·split
   ·exact b4 i hi
   ·exact b2
theorem ColI.piv (hI : ColI h w c top G p A W) (hc : c < w) (ht : top < h) (hE : RowsE h c top (top + 1) W W1) (h0 : ent2 W1 top c ≠ 0) (hh : h ≤ 1000000) :
  ColI h w (c + 1) (top + 1) G (upd p top c) A (redW h c top top 0 (if ent2 W1 top c < 0 then negW h top W1 else W1)) := by
 obtain ⟨K, hG, hK⟩ := hI.bd
 obtain ⟨r1, r2, r3, r4, r5⟩ := hI.red0 hG ht hE h0 hh
 have hab : ∀ q, q < top → ∀ t, ent2 W1 q t = ent2 W q t := fun q hq t => hE.above (by omega) hI.ws q hq t
 have hR := hE.row (pow_ge1 K) (by omega) (by omega) (hI.row0 hG)
 obtain ⟨f1, f2, f3, f4, f5, f6⟩ := neg_fix hR.ws ht h0 r1 (hE.lin (by omega) hI.ws hI.lin) hR.bd
 generalize (if ent2 W1 top c < 0 then negW h top W1 else W1) = Z at *
 have hF := redW_inv ht r2 r3 top (by omega) r4
 have hL := redW_lin (c := c) ht top (i := 0) (by omega) f1 r5
 have hlow : ∀ q, top ≤ q → q < h → ∀ t, t < c → ent2 Z q t = 0 := fun q h1 h2 t h3 => by
  by_cases e : q = top
  ·rw [e]; exact r3 t h3
  ·rw [f6 q h2 e]; exact hE.left (by omega) hI.ws (fun q h4 h5 => hI.hs.zero q h4 h5 t h3) q h1 h2
 have hcol : ∀ q, top < q → q < h → ent2 Z q c = 0 := fun q h1 h2 => by rw [f6 q h2 (by omega)]; exact hR.zer q h1 h2 h2
 have hB := hF.bd1 rfl ht hh (znb _)
 generalize redW h c top top 0 Z = Y at *
 have eY : ∀ q, q < top → ∀ t, t < c → ent2 Y q t = ent2 W q t := fun q h1 t h2 => by rw [hF.left q (by omega) t h2, f6 q (by omega) (by omega), hab q h1]
 have eT : ∀ q, top ≤ q → q < h → ∀ t, ent2 Y q t = ent2 Z q t := fun q h1 h2 t => hF.row q h2 h1 t
 have hu : ∀ i, i < top → upd p top c i = p i := fun i hi => if_neg (by omega)
 have hut : upd p top c top = c := if_pos rfl
 refine ⟨hF.ws, ⟨by omega, hc, fun i hi => ?_, fun i hi => ?_, fun i hi j hj => ?_, fun i k h1 h2 => ?_, fun i k h1 h2 => ?_, fun q h1 h2 t h3 => ?_⟩, hL, ⟨_, hB, ?_⟩⟩
 ·by_cases e : i = top
  ·rw [e, hut]; omega
  ·rw [hu i (by omega)]; have := hI.hs.pc i (by omega); omega
 ·by_cases e : i = top
  ·rw [e, hut, eT top (znb _) ht]; exact r2
  ·rw [hu i (by omega), eY i (by omega) _ (hI.hs.pc i (by omega))]; exact hI.hs.pos i (by omega)
 ·by_cases e : i = top
  ·rw [e, hut] at hj
   rw [e, eT top (znb _) ht]; exact r3 j hj
  ·rw [hu i (by omega)] at hj
   have := hI.hs.pc i (by omega)
   rw [eY i (by omega) j (by omega)]; exact hI.hs.lead i (by omega) j hj
 ·by_cases e : k = top
  ·rw [e, hut, hu i (by omega)]; exact hI.hs.pc i (by omega)
  ·rw [hu k (by omega), hu i (by omega)]; exact hI.hs.inc i k h1 (by omega)
 ·by_cases e : k = top
  ·rw [e, hut, eT top (znb _) ht]; exact hF.red i (by omega)
  ·have := hI.hs.pc k (by omega)
   rw [hu k (by omega), eY i (by omega) _ this, eY k (by omega) _ this]; exact hI.hs.red i k h1 (by omega)
 ·rw [eT q (by omega) h2]
  by_cases e : t = c
  ·rw [e]; exact hcol q (by omega) h2
  ·exact hlow q (by omega) h2 t (by omega)
 ·have e1 : 1 + 2 * K + (K + 1) * (h - (top + 1)) + 1 = (K + 1) * (h - top + 1) := by
   obtain ⟨n, hn⟩ : ∃ n, h = top + 1 + n := ⟨h - (top + 1), by omega⟩
   subst hn
   rw [show top + 1 + n - (top + 1) = n by omega, show top + 1 + n - top + 1 = n + 2 by omega, Nat.mul_add (K + 1) n 2]; omega
  rw [e1, show h - (top + 1) + 1 = h - top by omega, Nat.mul_assoc]
  have e2 : fact (h - top + 1) = (h - top + 1) * fact (h - top) := rfl
  rw [← e2]; exact hK
theorem ColsE.ex (hh : h ≤ 1000000) : ∀ (n : Nat) {c top : Nat} {p : Nat → Nat} {W : List (List Int)}, w - c ≤ n → ColI h w c top G p A W → ∃ W', ColsE h w c top W W'
 | 0, c, top, p, W, hn, _ => ⟨W, .done (by omega)⟩
 | n + 1, c, top, p, W, hn, hI => by
  by_cases hd : c < w ∧ top < h
  ·obtain ⟨K, hG, hK⟩ := hI.bd
   obtain ⟨W1, hE⟩ := RowsE.ex (pow_ge1 K) h (by omega) (by omega) (hI.row0 hG)
   by_cases h0 : ent2 W1 top c = 0
   ·obtain ⟨e, hI2⟩ := hI.skip hd.1 hE h0
    obtain ⟨W', hW'⟩ := ColsE.ex hh n (by omega) (e ▸ hI2)
    exact ⟨W', .skip hd.1 hd.2 hE h0 hW'⟩
   ·obtain ⟨W', hW'⟩ := ColsE.ex hh n (by omega) (hI.piv hd.1 hd.2 hE h0 hh)
    exact ⟨W', .piv hd.1 hd.2 hE h0 hW'⟩
  ·exact ⟨W, .done hd⟩
theorem ColsE.inv (hh : h ≤ 1000000) (hE : ColsE h w c top W W') : ∀ {p : Nat → Nat}, ColI h w c top G p A W → ∃ c' top' p', ¬ (c' < w ∧ top' < h) ∧ ColI h w c' top' G p' A W' := by
 induction hE with
 | done h0 => exact fun hI => ⟨_, _, _, h0, hI⟩
 | skip hc ht hE h0 _ ih =>
  intro p hI
  obtain ⟨e, hI2⟩ := hI.skip hc hE h0
  exact ih (e ▸ hI2)
 | piv hc ht hE h0 _ ih => exact fun hI => ih (hI.piv hc ht hE h0 hh)
end
end Go.Proofs.Ytdkkgndibagihaa
namespace Go.Proofs.Ytdkkgndibagihaa
section
variable {h w K q t : Nat} {A : List (List Int)}
theorem w0_row1 (hA : MI h w K A) (hq : q < h) : (A ++ idL h ++ idL h).getD q [] = A.getD q [] := by
 have hAl := hA.len
 rw [List.getD_eq_getElem?_getD, zl6, List.getElem?_append_left (by omega), List.getD_eq_getElem?_getD]
theorem w0_row2 (hA : MI h w K A) (hq : q < h) : (A ++ idL h ++ idL h).getD (h + q) [] = (idL h).getD q [] := by
 have hAl := hA.len
 have hil : (idL h).length = h := mkM_len
 rw [List.getD_eq_getElem?_getD, zl6, List.getElem?_append_right (by omega), List.getElem?_append_left (by omega), hAl, znd, List.getD_eq_getElem?_getD]
theorem w0_row3 (hA : MI h w K A) : (A ++ idL h ++ idL h).getD (2 * h + q) [] = (idL h).getD q [] := by
 have hAl := hA.len
 have hil : (idL h).length = h := mkM_len
 rw [List.getD_eq_getElem?_getD, List.getElem?_append_right (by rw [zl1]; omega), zl1, hAl, hil, ← Nat.two_mul, znd, List.getD_eq_getElem?_getD]
theorem idL_row (hq : q < h) : ((idL h).getD q []).length = h := by
 have hI := mk_mi (h := h) (w := h) (K := 1) (f := fun r c => if r = c then (1 : Int) else 0) fun _ _ _ _ => fits01
 exact (hI.get hq).1
theorem idL_ent (hq : q < h) (ht : t < h) : ent2 (idL h) q t = if q = t then 1 else 0 := ent_mk hq ht
theorem idL_abs (hq : q < h) : (ent2 (idL h) q t).natAbs ≤ 1 := by
 by_cases ht : t < h
 ·rw [idL_ent hq ht]; split <;> decide
 ·have := idL_row (h := h) hq
  unfold ent2
  rw [List.getD_eq_getElem?_getD, List.getElem?_eq_none (by omega)]; decide
theorem w0_ws (hA : MI h w K A) : WS h w (A ++ idL h ++ idL h) := by
 have hAl := hA.len
 have hil : (idL h).length = h := mkM_len
 refine ⟨by rw [zl1, zl1]; omega, fun q hq => by rw [w0_row1 hA hq]; exact (hA.get hq).1, fun q h1 h2 => ?_⟩
 by_cases h3 : q < 2 * h
 ·obtain ⟨r, rfl⟩ : ∃ r, q = h + r := ⟨q - h, by omega⟩
  rw [w0_row2 hA (by omega)]; exact idL_row (by omega)
 ·obtain ⟨r, rfl⟩ : ∃ r, q = 2 * h + r := ⟨q - 2 * h, by omega⟩
  rw [w0_row3 hA]; exact idL_row (by omega)
theorem form_start (hA : MI h w K A) : ColI h w 0 0 ((K + 1) * fact (h + 1)) (fun _ => 0) A (A ++ idL h ++ idL h) := by
 have hAl := hA.len
 have e1 : ∀ q t, q < h → ent2 (A ++ idL h ++ idL h) q t = ent2 A q t := fun q t hq => by unfold ent2; rw [w0_row1 hA hq]
 have e2 : ∀ q t, q < h → ent2 (A ++ idL h ++ idL h) (h + q) t = ent2 (idL h) q t := fun q t hq => by unfold ent2; rw [w0_row2 hA hq]
 have e3 : ∀ q t, ent2 (A ++ idL h ++ idL h) (2 * h + q) t = ent2 (idL h) q t := fun q t => by unfold ent2; rw [w0_row3 hA]
 have hg := pow_ge1 K
 refine ⟨w0_ws hA, ⟨znc _, znc _, fun i hi => by omega, fun i hi => by omega, fun i hi => by omega, fun i k _ h2 => by omega, fun i k _ h2 => by omega, fun q _ _ t h3 => by omega⟩, ⟨fun q t hq ht => ?_, fun s t hs ht => ?_⟩, ⟨K, ⟨fun q t hq => ?_, fun q t hq => ?_, fun q t hq _ => ?_⟩, by rw [Nat.sub_zero]; exact znb _⟩⟩
 ·rw [e1 q t hq]
  have := dot_congr (n := h) (f := fun s => ent2 (A ++ idL h ++ idL h) (h + q) s) (f' := fun s => if q = s then 1 else 0) (g := fun s => ent2 A s t) (g' := fun s => ent2 A s t) fun s hs => ⟨by rw [e2 q s hq, idL_ent hq hs], rfl⟩
  rw [this, dot_unit, if_pos hq]
 ·have := dot_congr (n := h) (f := fun q => ent2 (A ++ idL h ++ idL h) (2 * h + s) q) (f' := fun q => if s = q then 1 else 0) (g := fun q => ent2 (A ++ idL h ++ idL h) q t) (g' := fun q => ent2 A q t) fun q hq => ⟨by rw [e3, idL_ent hs hq], e1 q t hq⟩
  rw [this, dot_unit, if_pos hs]
 ·rw [e1 q t hq]
  by_cases ht : t < w
  ·exact Nat.le_of_lt (hA.fit hq ht)
  ·have := (hA.get hq).1
   unfold ent2
   rw [List.getD_eq_getElem?_getD, List.getElem?_eq_none (by omega)]
   exact znc _
 ·rw [e2 q t hq]
  have := idL_abs (h := h) (t := t) hq
  omega
 ·rw [e3 q t]
  have := idL_abs (h := h) (t := t) hq
  omega
theorem Gb.fits {G L : Nat} {W : List (List Int)} {bM bV : Nat → Nat} (hW : WS h w W) (hG : Gb h W bM bV) (h1 : ∀ q, q < h → bM q ≤ 4294967296 ^ L) (h2 : ∀ q, q < h → bV q ≤ 4294967296 ^ L) (hL : L < G) : WI h w G W := by
 have hp : 4294967296 ^ L < 4294967296 ^ G := Nat.pow_lt_pow_right (by omega) hL
 exact hG.wi hW (fun q hq => Nat.lt_of_le_of_lt (h1 q hq) hp) (fun q hq => Nat.lt_of_le_of_lt (h2 q hq) hp)
theorem fact_le {G n : Nat} (hK : (K + 1) * fact n ≤ G) : K < G := by
 have := Nat.le_mul_of_pos_right (K + 1) (fact_pos n)
 omega
end
section
variable {h w c top G : Nat} {p : Nat → Nat} {A W W1 : List (List Int)}
theorem ColI.wi (hI : ColI h w c top G p A W) : WI h w G W := by
 obtain ⟨K, hG, hK⟩ := hI.bd
 exact hG.fits hI.ws (fun _ _ => znb _) (fun _ _ => znb _) (fact_le hK)
theorem ColI.piv_lt {K : Nat} (hK : (K + 1) * fact (h - top + 1) ≤ G) (ht : top < h) : 1 + 2 * K + (K + 1) * (h - (top + 1)) < G := by
 have e1 : 1 + 2 * K + (K + 1) * (h - (top + 1)) + 1 = (K + 1) * (h - top + 1) := by
  obtain ⟨n, hn⟩ : ∃ n, h = top + 1 + n := ⟨h - (top + 1), by omega⟩
  subst hn
  rw [show top + 1 + n - (top + 1) = n by omega, show top + 1 + n - top + 1 = n + 2 by omega, Nat.mul_add (K + 1) n 2]; omega
 have e2 : fact (h - top + 1) = (h - top + 1) * fact (h - top) := rfl
 rw [e2, ← Nat.mul_assoc, ← e1] at hK
 have := Nat.le_mul_of_pos_right (1 + 2 * K + (K + 1) * (h - (top + 1)) + 1) (fact_pos (h - top))
 omega
theorem bd_mid {K i : Nat} (hi : i ≤ h) : 4294967296 ^ K * (12 * 4294967296 ^ K) ^ (i - (top + 1)) ≤ 4294967296 ^ (1 + 2 * K + (K + 1) * (h - (top + 1))) := by
 refine Nat.le_trans (bd_rows K (i - (top + 1))) (Nat.pow_le_pow_right (by omega) ?_)
 have := Nat.mul_le_mul_left (K + 1) (show i - (top + 1) ≤ h - (top + 1) by omega)
 omega
theorem RowI.wi {K i : Nat} (hR : RowI h w c top (4294967296 ^ K) (4294967296 ^ K) (4294967296 ^ K) i W) (hi : i ≤ h) (ht : top < h) (hK : (K + 1) * fact (h - top + 1) ≤ G) : WI h w G W := by
 have h1 : 4294967296 ^ K ≤ 4294967296 ^ (1 + 2 * K + (K + 1) * (h - (top + 1))) := Nat.pow_le_pow_right (by omega) (by omega)
 have hb : ∀ q, q < h → gB top (4294967296 ^ K) (4294967296 ^ K * (12 * 4294967296 ^ K) ^ (i - (top + 1))) q ≤ 4294967296 ^ (1 + 2 * K + (K + 1) * (h - (top + 1))) := fun q hq => by
  unfold gB
  split
  ·exact h1
  ·exact bd_mid hi
 exact hR.bd.fits hR.ws hb hb (ColI.piv_lt hK ht)
theorem PairI.wi {K i : Nat} (hP : PairI h w c top i (4294967296 ^ K) (4294967296 ^ K) (4294967296 ^ K * (12 * 4294967296 ^ K) ^ (i - (top + 1))) (4294967296 ^ K * (12 * 4294967296 ^ K) ^ (i + 1 - (top + 1))) W) (hi : i < h) (ht : top < h) (hK : (K + 1) * fact (h - top + 1) ≤ G) : WI h w G W := by
 obtain ⟨ws, ⟨a, b, hG, ha, hb, _⟩, _⟩ := hP
 have h1 : 4294967296 ^ K ≤ 4294967296 ^ (1 + 2 * K + (K + 1) * (h - (top + 1))) := Nat.pow_le_pow_right (by omega) (by omega)
 have h2 := bd_mid (K := K) (top := top) (h := h) (i := i) (by omega)
 have h3 := bd_mid (K := K) (top := top) (h := h) (i := i + 1) (by omega)
 have hb : ∀ x y, x ≤ 4294967296 ^ K * (12 * 4294967296 ^ K) ^ (i + 1 - (top + 1)) → y ≤ 4294967296 ^ K * (12 * 4294967296 ^ K) ^ (i + 1 - (top + 1)) → ∀ q, q < h → bp top i x y (gB top (4294967296 ^ K) (4294967296 ^ K * (12 * 4294967296 ^ K) ^ (i - (top + 1)))) q ≤ 4294967296 ^ (1 + 2 * K + (K + 1) * (h - (top + 1))) := fun x y hx hy q hq => by
  unfold bp gB
  split
  ·exact Nat.le_trans hx h3
  ·split
   ·exact Nat.le_trans hy h3
   ·split
    ·exact h1
    ·exact h2
 exact hG.fits ws (hb a b ha (by assumption)) (hb b a (by assumption) ha) (ColI.piv_lt hK ht)
theorem RedI.wi {K i : Nat} {Z : List (List Int)} (hR : RedI h w c top (4294967296 ^ K) (4294967296 ^ K * (12 * 4294967296 ^ K) ^ (h - (top + 1))) i Z W) (hi : i ≤ top) (ht : top < h) (hh : h ≤ 1000000) (hK : (K + 1) * fact (h - top + 1) ≤ G) : WI h w G W :=
 (hR.bd1 rfl ht hh hi).fits hR.ws (fun _ _ => znb _) (fun _ _ => znb _) (ColI.piv_lt hK ht)
end
end Go.Proofs.Ytdkkgndibagihaa
namespace Go.Proofs.Ytdkkgndibagihaa
open Go.RowKit
end Go.Proofs.Ytdkkgndibagihaa
namespace Go.Proofs.Ytdkkgndibagihaa
open Go.RowKit
end Go.Proofs.Ytdkkgndibagihaa
namespace Go.Proofs.Ytdkkgndibagihaa
open Go.RowKit
theorem wk_only {p oM oU oV h w nx : Nat} {a b c : List Nat} {W : List (List Int)} {P : Nat → Prop} (hP : ∀ i ∈ p :: oM :: oU :: oV :: (a ++ b ++ c), P i) : OnlyH P (wkH p oM oU oV h w a b c W) := by
 have l2 : P oM := hP _ (by simp)
 have l3 : P oU := hP _ (by simp)
 have l4 : P oV := hP _ (by simp)
 have lr : ∀ i ∈ a ++ b ++ c, P i := fun i hi => hP i (by simp only [List.mem_cons]; exact .inr (.inr (.inr (.inr hi))))
 refine ⟨fun y hy => ?_, fun y hy => ?_, fun y hy => ?_, fun y hy => ?_, OnlyH.rows (rI_clo W)⟩
 ·simp only [workC, List.mem_cons, List.not_mem_nil, or_false] at hy
  rcases hy with rfl | rfl | rfl | rfl | rfl | rfl | rfl | rfl | rfl <;> first | exact .sc _ | exact .sl l2 | exact .sl l3 | exact .sl l4
 ·obtain ⟨q, hq, rfl⟩ := List.mem_map.1 hy
  exact .sl (lr q (List.mem_append_left _ (List.mem_append_left _ hq)))
 ·obtain ⟨q, hq, rfl⟩ := List.mem_map.1 hy
  exact .sl (lr q (List.mem_append_left _ (List.mem_append_right _ hq)))
 ·obtain ⟨q, hq, rfl⟩ := List.mem_map.1 hy
  exact .sl (lr q (List.mem_append_right _ hq))
theorem wk_in {p oM oU oV h w nx : Nat} {a b c : List Nat} {W : List (List Int)} {P : Nat → Prop} (hP : ∀ i ∈ p :: oM :: oU :: oV :: (a ++ b ++ c), P i) : ∀ id k, hget (wkH p oM oU oV h w a b c W) id = some k → P id := by
 intro id k hk
 unfold wkH at hk
 simp only [hget] at hk
 split at hk
 ·rename_i e; exact hP _ (by simp [e])
 split at hk
 ·rename_i e; exact hP _ (by simp [e])
 split at hk
 ·rename_i e; exact hP _ (by simp [e])
 split at hk
 ·rename_i e; exact hP _ (by simp [e])
 ·obtain ⟨q, q1, _, q3, _⟩ := rows_inv hk
  rw [← q3]; exact hP _ (by simp only [List.mem_cons]; exact .inr (.inr (.inr (.inr (getD_mem' q1)))))
theorem workQ_new {h w nx : Nat} {W : List (List Int)} {x : V} {hp' : List (Nat × Blk)} {nx' : Nat} (hq : WorkQ h w W nx x hp' nx') : Only (fun i => nx ≤ i) x ∧ OnlyH (fun i => nx ≤ i) hp' ∧ ∀ id k, hget hp' id = some k → nx ≤ id := by
 obtain ⟨p, oM, oU, oV, a, b, c, hw, rfl, rfl⟩ := hq
 have hP : ∀ i ∈ p :: oM :: oU :: oV :: (a ++ b ++ c), nx ≤ i := fun i hi => (hw.rng i hi).1
 exact ⟨.pt (hP _ (by simp)), wk_only (nx := 0) hP, wk_in (nx := 0) hP⟩
theorem swapSub {p oM oU oV h nx i j : Nat} {a b c : List Nat} (hI : WIds p oM oU oV a b c h nx) (hi : i < h) (hj : j < h) : ∀ x ∈ swapN a i j ++ swapN b i j ++ c, x ∈ a ++ b ++ c := by
 have la := hI.la; have lb := hI.lb; have lc := hI.lc
 obtain ⟨_, _, _, _, _, _, _, _, _, _, n5⟩ := nodup_four hI.nod
 have hll : (a ++ b ++ c).length = 3 * h := by rw [zl1, zl1]; omega
 have lr : ∀ x ∈ a ++ b ++ c, x < nx := fun x hx => hI.rng x (by simp only [List.mem_cons]; exact .inr (.inr (.inr (.inr hx))))
 have s1 := nodup_swap (i := i) (j := j) lr n5 (by omega) (by omega)
 have s2 := nodup_swap (i := h + i) (j := h + j) (fun x hx => lr x (s1.2 x hx)) s1.1 (by rw [swapN_len]; omega) (by rw [swapN_len]; omega)
 rw [hI.swapL hi hj] at s2
 exact fun x hx => s1.2 x (s2.2 x hx)
theorem not2 {b0 b1 : Blk} : ∀ id k, hget [(1, b1), (0, b0)] id = some k → ¬ 2 ≤ id := by
 intro id k hk
 simp only [hget] at hk
 split at hk
 ·omega
 split at hk
 ·omega
 ·cases hk
end Go.Proofs.Ytdkkgndibagihaa
namespace Go.Proofs.Ytdkkgndibagihaa
open Go.RowKit
theorem WIds.cell {p oM oU oV h w nx : Nat} {a b c : List Nat} {W : List (List Int)} (hI : WIds p oM oU oV a b c h nx) (hW : WS h w W) {i t : Nat} (hi : i < h) (ht : t < w) :
  (slR 2 w a)[i]? = some (.sl (a.getD i 0) 0 w 2 none) ∧ hget (rowsH 84 (a ++ b ++ c) (rI W)) (a.getD i 0) = some ⟨84, ivR (W.getD i []), false⟩ ∧ a.getD i 0 < nx ∧ (a.getD i 0 = p) = False ∧ (a.getD i 0 = oM) = False ∧ (a.getD i 0 = oU) = False ∧ (a.getD i 0 = oV) = False ∧ (ivR (W.getD i [])).drop (t * 2) = ivC (ent2 W i t) ++ (ivR (W.getD i [])).drop ((t + 1) * 2) ∧ t * 2 < (ivR (W.getD i [])).length ∧ (ivR (W.getD i [])).length = 2 * w := by
 have hl := hW.len
 have hr := hW.rowM i hi
 have la := hI.la
 obtain ⟨gR, y1, y2, y3, y4, y5⟩ := hI.rowF hl (q := i) (by omega)
 rw [hI.iM hi] at gR y1 y2 y3 y4 y5
 have gl := ivR_len (W.getD i [])
 rw [hr] at gl
 exact ⟨slR_get (by omega), gR, y1, y2, y3, y4, y5, ivR_drop (by omega), by omega, gl⟩
theorem WIds.up {p oM oU oV h nx m : Nat} {a b c : List Nat} (hI : WIds p oM oU oV a b c h nx) (hm : nx ≤ m) : WIds p oM oU oV a b c h m := ⟨hI.la, hI.lb, hI.lc, hI.nod, fun i hi => by have := hI.rng i hi; omega⟩
def HZ : List V := [.sc (.int .i64 0), .sc (.int .i64 0), .sc (.slice none 0 0), .sc (.int .i64 0), .sc (.int .i64 0), .sc (.slice none 0 0), .sc (.int .i64 0), .sc (.int .i64 0), .sc (.slice none 0 0)]
def hermC (h w : Nat) (W : List (List Int)) : List V := [.sc (.int .i64 h), .sc (.int .i64 w), .im (imR w (rI (W.take h))) h, .sc (.int .i64 h), .sc (.int .i64 h), .im (imR h (rI ((W.drop h).take h))) h, .sc (.int .i64 h), .sc (.int .i64 h), .im (imR h (rI (W.drop (2 * h)))) h]
theorem ColsE.split {h w t tp : Nat} {W W' : List (List Int)} (hE : ColsE h w t tp W W') (ht : t < w) (htp : tp < h) : ∃ W1, RowsE h t tp (tp + 1) W W1 ∧ ((ent2 W1 tp t = 0 ∧ ColsE h w (t + 1) tp W1 W') ∨ (ent2 W1 tp t ≠ 0 ∧ ColsE h w (t + 1) (tp + 1) (redW h t tp tp 0 (if ent2 W1 tp t < 0 then negW h tp W1 else W1)) W')) := by
 cases hE with
 | done h0 => exact absurd ⟨ht, htp⟩ h0
 | skip _ _ hR h0 hE => exact ⟨_, hR, .inl ⟨h0, hE⟩⟩
 | piv _ _ hR h0 hE => exact ⟨_, hR, .inr ⟨h0, hE⟩⟩
theorem RowsE.split {h t tp i : Nat} {W W' : List (List Int)} (hE : RowsE h t tp i W W') (hi : i < h) : ∃ W1, Euc h t tp i W W1 ∧ RowsE h t tp (i + 1) W1 W' := by
 cases hE with
 | done h0 => omega
 | next _ h1 h2 => exact ⟨_, h1, h2⟩
theorem RowsE.fin {h t tp i : Nat} {W W' : List (List Int)} (hE : RowsE h t tp i W W') (hi : h ≤ i) : W' = W := by
 cases hE with
 | done h0 => rfl
 | next h0 _ _ => omega
theorem Euc.fin {h t tp i : Nat} {W W' : List (List Int)} (hE : Euc h t tp i W W') (h0 : ent2 W i t = 0) : W' = W := by
 cases hE with
 | stop _ => rfl
 | step h1 _ => exact absurd h0 h1
theorem Euc.go {h t tp i : Nat} {W W' : List (List Int)} (hE : Euc h t tp i W W') (h0 : ent2 W i t ≠ 0) : Euc h t tp i (stepE h t tp i W) W' := by
 cases hE with
 | stop h1 => exact absurd h1 h0
 | step _ h2 => exact h2
theorem not4 {n m : Nat} (hm : n ≤ m) {b0 b1 b2 b3 : Blk} : ∀ id k, hget [(m + 1, b3), (m, b2), (1, b1), (0, b0)] id = some k → ¬ (2 ≤ id ∧ id < n) := by
 intro id k hk
 simp only [hget] at hk
 split at hk
 ·omega
 split at hk
 ·omega
 split at hk
 ·omega
 split at hk
 ·omega
 ·cases hk
theorem not2' {n : Nat} {b0 b1 : Blk} : ∀ id k, hget [(1, b1), (0, b0)] id = some k → ¬ (2 ≤ id ∧ id < n) := fun id k hk h => not2 id k hk h.1
theorem floor_i (x y : Int) (K : Nat) (hx : Fits K x) (hy : Fits K y) (hK : K ≤ 100000000000) (h0 : y ≠ 0) : Spec Try.prog 104 [iv x, iv y] (iv (x / y)) := by
 have c1 := divmod_i x y K hx hy (by omega) h0
 unfold iv sv at *
 refine qF Try.func104 Try.ntmps104 fun B hB => ?_
 refine qWD ?_
 exact qE Try.results104
theorem fits_quo {K : Nat} {x y : Int} (h : Fits K x) : Fits K (x / y) := by
 unfold Fits at *
 exact Nat.lt_of_le_of_lt (Int.natAbs_ediv_le_natAbs x y) h
theorem getD_drop2 {W : List (List Int)} {n k : Nat} : (W.drop n).getD k [] = W.getD (n + k) [] := by
 rw [List.getD_eq_getElem?_getD, zl5, List.getD_eq_getElem?_getD]
theorem work_part {h w K n : Nat} {W : List (List Int)} (hW : WI h w K W) (hn : n = h ∨ n = 2 * h) : MI h h K ((W.drop n).take h) := by
 have hl := hW.len
 have htl : ((W.drop n).take h).length = h := by rw [List.length_take, List.length_drop]; omega
 refine ⟨htl, fun r hr => ?_⟩
 obtain ⟨q, hq, rfl⟩ := List.mem_iff_getElem.1 hr
 have e : ((W.drop n).take h)[q] = W.getD (n + q) [] := by
  rw [← getD_drop2, ← take_get (M := W.drop n) (h := h) (by omega), List.getD_eq_getElem?_getD, zlb hq]; rfl
 rw [e]
 refine ⟨hW.rowU _ (by omega) (by omega), fun x hx => ?_⟩
 obtain ⟨t, ht, rfl⟩ := List.mem_iff_getElem.1 hx
 have := hW.fit (n + q) t
 rwa [List.getD_eq_getElem?_getD, zlb ht] at this
theorem work_u {h w K : Nat} {W : List (List Int)} (hW : WI h w K W) : MI h h K ((W.drop h).take h) := work_part hW (.inl rfl)
theorem work_v {h w K : Nat} {W : List (List Int)} (hW : WI h w K W) : MI h h K (W.drop (2 * h)) := by
 have := work_part hW (n := 2 * h) (.inr rfl)
 have hl := hW.len
 rwa [zla (by rw [List.length_drop]; omega)] at this
end Go.Proofs.Ytdkkgndibagihaa
namespace Go.Proofs.Ytdkkgndibagihaa
open Go.RowKit
theorem swapIds {p oM oU oV h nx i j n1 : Nat} {a b c : List Nat} (hI : WIds p oM oU oV a b c h nx) (hi : i < h) (hj : j < h) (hge : ∀ x ∈ p :: oM :: oU :: oV :: (a ++ b ++ c), 2 ≤ x ∧ x < n1) : ∀ x ∈ p :: oM :: oU :: oV :: (swapN a i j ++ swapN b i j ++ c), 2 ≤ x ∧ x < n1 := by
 intro x hx
 simp only [List.mem_cons] at hx
 rcases hx with rfl | rfl | rfl | rfl | hx
 ·exact hge _ (by simp)
 ·exact hge _ (by simp)
 ·exact hge _ (by simp)
 ·exact hge _ (by simp)
 ·exact hge _ (by simp only [List.mem_cons]; exact .inr (.inr (.inr (.inr (swapSub hI hi hj x hx)))))
theorem hget_old {m : Nat} {b2 b3 : Blk} {l : List (Nat × Blk)} (hl : ∀ id k, hget l id = some k → id < m) : ∀ id k, hget l id = some k → hget ((m + 1, b3) :: (m, b2) :: l) id = some k := by
 intro id k h
 have := hl id k h
 simp only [hget]
 rw [if_neg (by omega), if_neg (by omega)]
 exact h
theorem hget_two {m : Nat} {b0 b1 : Blk} {l : List (Nat × Blk)} (hm : 1 < m) (hl : ∀ id k, hget l id = some k → id < m) : ∀ id k, hget ((1, b1) :: (0, b0) :: l) id = some k → id < m := by
 intro id k h
 simp only [hget] at h
 split at h
 ·omega
 split at h
 ·omega
 ·exact hl id k h
set_option maxHeartbeats 64000000 in
set_option maxRecDepth 8000 in
theorem rform_s {h w K G : Nat} {A W' : List (List Int)} (hA : MI h w K A) (hG : (K + 1) * fact (h + 1) ≤ G) (hGl : G ≤ 50000000000) (hn : h ≤ 1000000) (hw : w ≤ 1000000) (hE : ColsE h w 0 0 (A ++ idL h ++ idL h) W') :
  Spec Try.prog 90 [mat w A] (.ag (hermC h w W')) := by
 have hml := hA.len
 have hKG := fact_le hG
 have c2 := hstart_q 2 hA (by omega) hn hw
 have hI0 := form_start hA
 have hI0 : ∃ pv, ColI h w 0 0 G pv A (A ++ idL h ++ idL h) := ⟨_, hI0.ws, hI0.hs, hI0.lin, by obtain ⟨K2, h1, h2⟩ := hI0.bd; exact ⟨K2, h1, Nat.le_trans h2 hG⟩⟩
 generalize A ++ idL h ++ idL h = W0 at *
 unfold mat at *
 rw [hml] at c2 ⊢
 refine qF Try.func90 Try.ntmps90 fun B hB => ?_
 refine qWD ?_
 refine SO.inlQ qS Tab.go98 qS qS (SInlQ.newR c2 ?_ ?_ ?_)
 ·exact klc (by omega) (klc (by omega) kln)
 ·exact fun x hp' nx' h => workQ_new h
 rintro x hp' n1 ⟨p, oM, oU, oV, a0, b0, c0, hWk, rfl, rfl⟩
 clear c2
 refine qWD ?_
 refine SC.meet (fun z : Nat × Nat × List (List Int) × List Nat × List Nat × Nat => ⟨[(2, .pt 1 0), (3, .pt p 0)], (1, ⟨132, HZ, false⟩) :: (0, ⟨34, [.sc (.int .i64 h), .sc (.int .i64 w), .im (imR w (rI A)) h], false⟩) :: wkH p oM oU oV h w z.2.2.2.1 z.2.2.2.2.1 c0 W', z.2.2.2.2.2, 173⟩) (fun z => WS h w W' ∧ WI h w G W' ∧ WIds p oM oU oV z.2.2.2.1 z.2.2.2.2.1 c0 h n1 ∧ (∀ y ∈ p :: oM :: oU :: oV :: (z.2.2.2.1 ++ z.2.2.2.2.1 ++ c0), 2 ≤ y ∧ y < n1) ∧ n1 ≤ z.2.2.2.2.2) ?_ ?_
 intro K0 hK0
 refine SC.loop (fun x : Nat × Nat × List (List Int) × List Nat × List Nat × Nat => ⟨[(1, .pt 0 0), (2, .pt 1 0), (3, .pt p 0), (4, .sc (.int .i64 x.2.1)), (5, .sc (.int .i64 x.1))], (1, ⟨132, HZ, false⟩) :: (0, ⟨34, [.sc (.int .i64 h), .sc (.int .i64 w), .im (imR w (rI A)) h], false⟩) :: wkH p oM oU oV h w x.2.2.2.1 x.2.2.2.2.1 c0 x.2.2.1, x.2.2.2.2.2, 173⟩)
  (fun x => (∃ pv, ColI h w x.1 x.2.1 G pv A x.2.2.1) ∧ ColsE h w x.1 x.2.1 x.2.2.1 W' ∧ WIds p oM oU oV x.2.2.2.1 x.2.2.2.2.1 c0 h n1 ∧ (∀ y ∈ p :: oM :: oU :: oV :: (x.2.2.2.1 ++ x.2.2.2.2.1 ++ c0), 2 ≤ y ∧ y < n1) ∧ n1 ≤ x.2.2.2.2.2) (fun x => w - x.1) (0, 0, W0, a0, b0, n1) ?_ ?_ ?_
 ·exact qM
 ·exact ⟨hI0, hE, ⟨hWk.la, hWk.lb, hWk.lc, hWk.nod, fun i hi => (hWk.rng i hi).2⟩, hWk.rng, znb _⟩
 ·rintro ⟨t, tp, W, a, b, nx⟩ ⟨⟨pv, hCI⟩, hCE, hI, hge, hnx⟩ K1 hK1
  simp only at hCI hCE hI hge hnx ⊢
  clear hI0 hWk hE hG
  by_cases hc : t < w
  ·have q1 := decide_eq_true (p := (t : Int) < (w : Int)) (by omega)
   by_cases htp : tp < h
   ·have q2 := decide_eq_true (p := (tp : Int) < (h : Int)) (by omega)
    obtain ⟨W1, hRE, hrest⟩ := hCE.split hc htp
    obtain ⟨Kc, hGb, hKc⟩ := hCI.bd
    have hR0 := hCI.row0 hGb
    have hRW := hRE.row (pow_ge1 Kc) (by omega) (by omega) hR0
    have hWI1 := hRW.wi (znb _) htp hKc
    refine qWDf (Q2 @q1 @q2) ?_
    refine SC.meet (fun z : List Nat × List Nat × Nat => ⟨[(1, .pt 0 0), (2, .pt 1 0), (3, .pt p 0), (4, .sc (.int .i64 tp)), (5, .sc (.int .i64 t))], (1, ⟨132, HZ, false⟩) :: (0, ⟨34, [.sc (.int .i64 h), .sc (.int .i64 w), .im (imR w (rI A)) h], false⟩) :: wkH p oM oU oV h w z.1 z.2.1 c0 W1, z.2.2, 173⟩) (fun z => WIds p oM oU oV z.1 z.2.1 c0 h n1 ∧ (∀ y ∈ p :: oM :: oU :: oV :: (z.1 ++ z.2.1 ++ c0), 2 ≤ y ∧ y < n1) ∧ n1 ≤ z.2.2) ?_ ?_
    ·as_aux_lemma =>
      intro K2 hK2
      refine SC.loop (fun x : Nat × List (List Int) × List Nat × List Nat × Nat => ⟨[(1, .pt 0 0), (2, .pt 1 0), (3, .pt p 0), (4, .sc (.int .i64 tp)), (5, .sc (.int .i64 t)), (6, .sc (.int .i64 x.1))], (1, ⟨132, HZ, false⟩) :: (0, ⟨34, [.sc (.int .i64 h), .sc (.int .i64 w), .im (imR w (rI A)) h], false⟩) :: wkH p oM oU oV h w x.2.2.1 x.2.2.2.1 c0 x.2.1, x.2.2.2.2, 173⟩)
       (fun x => tp < x.1 ∧ x.1 ≤ h ∧ RowI h w t tp (4294967296 ^ Kc) (4294967296 ^ Kc) (4294967296 ^ Kc) x.1 x.2.1 ∧ RowsE h t tp x.1 x.2.1 W1 ∧ WIds p oM oU oV x.2.2.1 x.2.2.2.1 c0 h n1 ∧ (∀ y ∈ p :: oM :: oU :: oV :: (x.2.2.1 ++ x.2.2.2.1 ++ c0), 2 ≤ y ∧ y < n1) ∧ n1 ≤ x.2.2.2.2) (fun x => h - x.1) (tp + 1, W, a, b, nx) ?_ ?_ ?_
      ·exact qM
      ·exact ⟨by simp only; omega, by simp only; omega, hR0, hRE, hI, hge, hnx⟩
      ·clear hRE hR0 hI hge hnx hK1 hrest hCE hCI hGb hRW hWI1
       rintro ⟨i, W, a, b, nx⟩ ⟨hti, hih, hR, hRE, hI, hge, hnx⟩ K3 hK3
       simp only at hti hih hR hRE hI hge hnx ⊢
       by_cases hi : i < h
       ·have q3 := decide_eq_true (p := (i : Int) < (h : Int)) (by omega)
        obtain ⟨W2, hEu, hRE2⟩ := hRE.split hi
        have hP0 := hR.pair hti (pow_ge1 Kc)
        have hR2 := PairI.row hR hEu hti hi (pow_ge1 Kc)
        refine qWDf @q3 ?_
        refine SC.loop (fun x : List (List Int) × List Nat × List Nat × Nat => ⟨[(1, .pt 0 0), (2, .pt 1 0), (3, .pt p 0), (4, .sc (.int .i64 tp)), (5, .sc (.int .i64 t)), (6, .sc (.int .i64 i))], (1, ⟨132, HZ, false⟩) :: (0, ⟨34, [.sc (.int .i64 h), .sc (.int .i64 w), .im (imR w (rI A)) h], false⟩) :: wkH p oM oU oV h w x.2.1 x.2.2.1 c0 x.1, x.2.2.2, 173⟩)
         (fun x => PairI h w t tp i (4294967296 ^ Kc) (4294967296 ^ Kc) (4294967296 ^ Kc * (12 * 4294967296 ^ Kc) ^ (i - (tp + 1))) (4294967296 ^ Kc * (12 * 4294967296 ^ Kc) ^ (i + 1 - (tp + 1))) x.1 ∧ Euc h t tp i x.1 W2 ∧ WIds p oM oU oV x.2.1 x.2.2.1 c0 h n1 ∧ (∀ y ∈ p :: oM :: oU :: oV :: (x.2.1 ++ x.2.2.1 ++ c0), 2 ≤ y ∧ y < n1) ∧ n1 ≤ x.2.2.2) (fun x => (ent2 x.1 i t).natAbs) (W, a, b, nx) ?_ ?_ ?_
        ·exact qM
        ·exact ⟨hP0, hEu, hI, hge, hnx⟩
        ·clear hRE hR hP0 hI hge hnx hEu
         rintro ⟨W, a, b, nx⟩ ⟨hP, hEu, hI, hge, hnx⟩ K4 hK4
         simp only at hP hEu hI hge hnx ⊢
         have hWS := hP.ws
         have hWI := hP.wi hi htp hKc
         have hy := hWI.fit i t
         have hx := hWI.fit tp t
         have hIn := hI.up hnx
         obtain ⟨l1, l2, l3, l4⟩ := hI.lts
         obtain ⟨z1, z2, z3, z4, z5, z6⟩ := hI.nes
         have x1 := hge p (by simp)
         have x2 := hge oM (by simp)
         have x3 := hge oU (by simp)
         have x4 := hge oV (by simp)
         have ga := slR_len 2 w a
         rw [hI.la] at ga
         obtain ⟨gii, gRi, y1i, y2i, y3i, y4i, y5i, gdi, g2i, gli⟩ := hI.cell hWS (i := i) (t := t) (by omega) hc
         obtain ⟨git, gRt, y1t, y2t, y3t, y4t, y5t, gdt, g2t, glt⟩ := hI.cell hWS (i := tp) (t := t) (by omega) hc
         have x5 := hge (a.getD i 0) (by simp only [List.mem_cons, List.mem_append]; exact .inr (.inr (.inr (.inr (.inl (.inl (getD_mem' (by rw [hI.la]; exact hi))))))))
         have x6 := hge (a.getD tp 0) (by simp only [List.mem_cons, List.mem_append]; exact .inr (.inr (.inr (.inr (.inl (.inl (getD_mem' (by rw [hI.la]; exact htp))))))))
         have c1 := sign_i (ent2 W i t) G hy (by omega)
         by_cases h0 : ent2 W i t = 0
         ·have hW2 := hEu.fin h0
          subst hW2
          have q4 : ((ent2 W2 i t).sign != 0) = false := by rw [h0]; rfl
          unfold ent2 at c1 q4
          unfold ent2 at gdi
          unfold iv sv at c1
          unfold ivC sv at gdi
          simp only [zl8, zl7] at gdi
          unfold wkH workC
          refine qWDf (Q17 @q4 @gii @gRi @gdi @g2i @gli @y2i @y3i @y4i @y5i @ga @z1 @z2 @z3 @z4 @z5 @z6) ?_
          refine hK3 _ (i + 1, W2, a, b, nx) ?_ ⟨by simp only; omega, by simp only; omega, hR2, hRE2, hI, hge, hnx⟩ (by simp only; omega)
          unfold wkH workC
          exact qM
         ·obtain ⟨hP2, hlt⟩ := hP.step hti hi h0
          have hEu2 := hEu.go h0
          have q4 : ((ent2 W i t).sign != 0) = true := by rw [bne_iff_ne]; intro e; exact h0 (Int.sign_eq_zero_iff_zero.1 e)
          have c2 := sign_i (ent2 W tp t) G hx (by omega)
          have hge' := swapIds hI htp hi hge
          have hI' := hI.swap htp hi
          by_cases hx0 : ent2 W tp t = 0
          ·have q5 : ((ent2 W tp t).sign != 0) = false := by rw [hx0]; rfl
           have eW : stepE h t tp i W = swapW h tp i W := by unfold stepE; rw [if_pos hx0]
           rw [eW] at hP2 hEu2 hlt
           have c6 := swap_q hWI hIn htp hi hn hw
           unfold ent2 at c1 c2 q4 q5
           unfold ent2 at gdi gdt
           unfold iv sv at c1 c2
           unfold ivC sv at gdi gdt
           simp only [zl8, zl7] at gdi gdt
           unfold wkH workC
           refine qWDf (Q2 (Q14 @q4 @q5 @gii @gRi @gdi @g2i @gli @y2i @y3i @y4i @y5i @git @gRt @gdt) (Q13 @g2t @glt @y2t @y3t @y4t @y5t @ga @z1 @z2 @z3 @z4 @z5 @z6)) ?_
           refine SO.inlQ qS Tab.go102 qS qS (SInlQ.part [(1, _), (0, _)] (fun i => 2 ≤ i ∧ i < n1) c6 not2' (wk_in (nx := 0) hge) ?_ ?_)
           ·rintro x hp' nx' ⟨rfl, rfl, rfl⟩
            exact ⟨.tu (fun _ h => by cases h), wk_only (nx := 0) hge', wk_in (nx := 0) hge'⟩
           rintro x hp' nx' ⟨rfl, rfl, rfl⟩
           refine qWD ?_
           refine hK4 _ (swapW h tp i W, swapN a tp i, swapN b tp i, nx') ?_ ⟨hP2, hEu2, hI', hge', hnx⟩ hlt
           exact qM
          ·have q5 : ((ent2 W tp t).sign != 0) = true := by rw [bne_iff_ne]; intro e; exact hx0 (Int.sign_eq_zero_iff_zero.1 e)
           have eW : stepE h t tp i W = swapW h tp i (addW h tp i (-(ent2 W tp t / ent2 W i t)) W) := by unfold stepE; rw [if_neg hx0]
           rw [eW] at hP2 hEu2 hlt
           have c3 := divmod_i (ent2 W tp t) (ent2 W i t) G hx hy (by omega) h0
           have hq : Fits G (ent2 W tp t / ent2 W i t) := fits_quo hx
           have c4 := neg_i (ent2 W tp t / ent2 W i t) G hq (by omega)
           have hIn2 := hI.up (show n1 ≤ nx + 2 by omega)
           have hWIa := addW_wi hWI htp hi (fits_neg hq)
           have c5 := addto_q hWI (fits_neg hq) (by omega) hIn2 htp hi (by omega) hn hw
           have c6 := swap_q hWIa hIn2 htp hi hn hw
           have hkl := hI.kl (W := W) (m := nx) hnx
           unfold iv sv at c5
           generalize hk : -(ent2 W tp t / ent2 W i t) = k at *
           generalize hq0 : ent2 W tp t / ent2 W i t = q at *
           generalize hr0 : ent2 W tp t % ent2 W i t = r at *
           unfold ent2 at c1 c2 c3 q4 q5
           unfold ent2 at gdi gdt
           unfold iv sv at c1 c2 c3 c4
           unfold ivC sv at gdi gdt
           simp only [zl8, zl7] at gdi gdt
           unfold wkH workC
           refine qWDf (Q2 (Q14 @q4 @q5 @hkl @gii @gRi @gdi @g2i @gli @y2i @y3i @y4i @y5i @git @gRt) (Q14 @gdt @g2t @glt @y2t @y3t @y4t @y5t @ga @z1 @z2 @z3 @z4 @z5 @z6)) ?_
           refine SO.inlQ qS Tab.go100 qS qS (SInlQ.part [(nx + 1, _), (nx, _), (1, _), (0, _)] (fun i => 2 ≤ i ∧ i < n1) c5 (not4 hnx) (wk_in (nx := 0) hge) ?_ ?_)
           ·rintro x hp' nx' ⟨rfl, rfl, rfl⟩
            exact ⟨.tu (fun _ h => by cases h), wk_only (nx := 0) hge, wk_in (nx := 0) hge⟩
           rintro x hp' nx' ⟨rfl, rfl, rfl⟩
           refine qWD ?_
           refine SO.inlQ qS Tab.go102 qS qS (SInlQ.part [(nx + 1, _), (nx, _), (1, _), (0, _)] (fun i => 2 ≤ i ∧ i < n1) c6 (not4 hnx) (wk_in (nx := 0) hge) ?_ ?_)
           ·rintro x hp' nx' ⟨rfl, rfl, rfl⟩
            exact ⟨.tu (fun _ h => by cases h), wk_only (nx := 0) hge', wk_in (nx := 0) hge'⟩
           rintro x hp' nx' ⟨rfl, rfl, rfl⟩
           refine qWD ?_
           refine hK4 _ (swapW h tp i (addW h tp i k W), swapN a tp i, swapN b tp i, nx + 2) ?_ ⟨hP2, hEu2, hI', hge', by simp only; omega⟩ hlt
           refine Le.slots ?_ (hget_old (b2 := ⟨84, _, false⟩) (b3 := ⟨84, _, false⟩) (hget_two (show 1 < nx by omega) fun id k hk => Nat.lt_of_lt_of_le (wk_lt hI' id k hk) hnx)) (znb _)
           repeat' (first | exact leSl_nil | refine leSl_cons qS ?_ ?_ | exact VLe.refl rfl)
       ·have q3 := decide_eq_false (p := (i : Int) < (h : Int)) (by omega)
        have hW2 := hRE.fin (by omega)
        subst hW2
        refine qWDf @q3 ?_
        refine hK2 _ (a, b, nx) ?_ ⟨hI, hge, hnx⟩
        exact qM
    have hRE0 := hRE
    clear hRE hR0 hI hge hnx
    rintro ⟨a, b, nx⟩ ⟨hI, hge, hnx⟩
    simp only at hI hge hnx ⊢
    have hWS := hRW.ws
    have hIn := hI.up hnx
    obtain ⟨l1, l2, l3, l4⟩ := hI.lts
    obtain ⟨z1, z2, z3, z4, z5, z6⟩ := hI.nes
    have x1 := hge p (by simp)
    have x2 := hge oM (by simp)
    have x3 := hge oU (by simp)
    have x4 := hge oV (by simp)
    have ga := slR_len 2 w a
    rw [hI.la] at ga
    obtain ⟨git, gRt, y1t, y2t, y3t, y4t, y5t, gdt, g2t, glt⟩ := hI.cell hWS (i := tp) (t := t) (by omega) hc
    have x6 := hge (a.getD tp 0) (by simp only [List.mem_cons, List.mem_append]; exact .inr (.inr (.inr (.inr (.inl (.inl (getD_mem' (by rw [hI.la]; exact htp))))))))
    have hx := hWI1.fit tp t
    have c2 := sign_i (ent2 W1 tp t) G hx (by omega)
    rcases hrest with ⟨h0, hCE2⟩ | ⟨h0, hCE2⟩
    ·obtain ⟨eW, hCI2⟩ := hCI.skip hc hRE0 h0
     have q4 : ((ent2 W1 tp t).sign == 0) = true := by rw [h0]; rfl
     unfold ent2 at c2 q4 gdt
     unfold iv sv at c2
     unfold ivC sv at gdt
     simp only [zl8, zl7] at gdt
     unfold wkH workC
     refine qWDf (Q17 @q4 @git @gRt @gdt @g2t @glt @y2t @y3t @y4t @y5t @ga @z1 @z2 @z3 @z4 @z5 @z6) ?_
     refine hK1 _ (t + 1, tp, W1, a, b, nx) ?_ ⟨⟨pv, by rw [eW]; exact hCI2⟩, hCE2, hI, hge, hnx⟩ (by simp only; omega)
     unfold wkH workC
     exact qM
    ·have q4 : ((ent2 W1 tp t).sign == 0) = false := by rw [beq_eq_false_iff_ne]; intro e; exact h0 (Int.sign_eq_zero_iff_zero.1 e)
     obtain ⟨r1, r2, r3, r4, r5⟩ := hCI.red0 hGb htp hRE0 h0 hn
     have hCI3 := hCI.piv hc htp hRE0 h0 hn
     generalize hZ : (if ent2 W1 tp t < 0 then negW h tp W1 else W1) = Z at *
     have hZW := r4.wi (znc _) htp hn hKc
     have c7 := negate_q hWI1 (by omega) hIn htp hn hw
     have q6 : ent2 W1 tp t < 0 → decide ((ent2 W1 tp t).sign < 0) = true := fun hs => by rw [decide_eq_true_iff, Int.sign_eq_neg_one_of_neg hs]; decide
     have q7 : ¬ ent2 W1 tp t < 0 → decide ((ent2 W1 tp t).sign < 0) = false := fun hs => by rw [decide_eq_false_iff_not, Int.sign_eq_one_of_pos (by omega)]; decide
     have hZ1 : ent2 W1 tp t < 0 → negW h tp W1 = Z := fun hs => by rw [← hZ, if_pos hs]
     have hZ2 : ¬ ent2 W1 tp t < 0 → W1 = Z := fun hs => by rw [← hZ, if_neg hs]
     clear hZ
     unfold ent2 at c2 q4 q6 q7 gdt hZ1 hZ2
     unfold iv sv at c2
     unfold ivC sv at gdt
     simp only [zl8, zl7] at gdt
     unfold wkH workC
     refine qWDf (Q17 @q4 @git @gRt @gdt @g2t @glt @y2t @y3t @y4t @y5t @ga @z1 @z2 @z3 @z4 @z5 @z6) ?_
     refine SC.condI (fun _ : Unit => ⟨[(1, .pt 0 0), (2, .pt 1 0), (3, .pt p 0), (4, .sc (.int .i64 tp)), (5, .sc (.int .i64 t))], (1, ⟨132, HZ, false⟩) :: (0, ⟨34, [.sc (.int .i64 h), .sc (.int .i64 w), .im (imR w (rI A)) h], false⟩) :: wkH p oM oU oV h w a b c0 Z, nx, 173⟩) (fun _ => True) qT (fun hb K6 hK6 => ?_) (fun hb K6 hK6 => ?_) ?_
     ·have hs : (W1.getD tp []).getD t 0 < 0 := Classical.byContradiction fun hn' => by rw [q7 hn'] at hb; cases hb
      rw [hZ1 hs] at c7
      refine qWD ?_
      refine SO.inlQ qS Tab.go103 qS qS (SInlQ.part [(1, _), (0, _)] (fun i => 2 ≤ i ∧ i < n1) c7 not2' (wk_in (nx := 0) hge) ?_ ?_)
      ·rintro x hp' nx' ⟨rfl, rfl, rfl⟩
       exact ⟨.tu (fun _ h => by cases h), wk_only (nx := 0) hge, wk_in (nx := 0) hge⟩
      rintro x hp' nx' ⟨rfl, rfl, rfl⟩
      refine qWD ?_
      refine hK6 _ () ?_ trivial
      exact qM
     ·have hs : ¬ (W1.getD tp []).getD t 0 < 0 := fun hp => by rw [q6 hp] at hb; cases hb
      have := hZ2 hs
      subst this
      refine qWD ?_
      refine hK6 _ () ?_ trivial
      unfold wkH workC
      exact qM
     intro _ _
     refine qWD ?_
     clear q6 q7 c7 hZ1 hZ2
     refine SC.loop (fun x : Nat × List (List Int) × Nat => ⟨[(1, .pt 0 0), (2, .pt 1 0), (3, .pt p 0), (4, .sc (.int .i64 tp)), (5, .sc (.int .i64 t)), (10, .sc (.int .i64 x.1))], (1, ⟨132, HZ, false⟩) :: (0, ⟨34, [.sc (.int .i64 h), .sc (.int .i64 w), .im (imR w (rI A)) h], false⟩) :: wkH p oM oU oV h w a b c0 x.2.1, x.2.2, 173⟩)
      (fun x => x.1 ≤ tp ∧ RedI h w t tp (4294967296 ^ Kc) (4294967296 ^ Kc * (12 * 4294967296 ^ Kc) ^ (h - (tp + 1))) x.1 Z x.2.1 ∧ redW h t tp (tp - x.1) x.1 x.2.1 = redW h t tp tp 0 Z ∧ n1 ≤ x.2.2) (fun x => tp - x.1) (0, Z, nx) ?_ ?_ ?_
     ·exact qM
     ·exact ⟨znc _, r4, rfl, hnx⟩
     ·rintro ⟨i, V, nx⟩ ⟨hi, hRd, hfin, hnx⟩ K5 hK5
      simp only at hi hRd hfin hnx ⊢
      by_cases hlt : i < tp
      ·as_aux_lemma =>
        have q6 := decide_eq_true (p := (i : Int) < (tp : Int)) (by omega)
        have hRn := hRd.next hlt htp r2 r3
        have hVI := hRd.wi hi htp hn hKc
        have hWS := hRd.ws
        have ep : ent2 V tp t = ent2 Z tp t := hRd.row tp htp hi t
        have hIn := hI.up hnx
        obtain ⟨gii, gRi, y1i, y2i, y3i, y4i, y5i, gdi, g2i, gli⟩ := hI.cell hWS (i := i) (t := t) (by omega) hc
        obtain ⟨git, gRt, y1t, y2t, y3t, y4t, y5t, gdt, g2t, glt⟩ := hI.cell hWS (i := tp) (t := t) (by omega) hc
        have x5 := hge (a.getD i 0) (by simp only [List.mem_cons, List.mem_append]; exact .inr (.inr (.inr (.inr (.inl (.inl (getD_mem' (by rw [hI.la]; omega))))))))
        have c1 := floor_i (ent2 V i t) (ent2 V tp t) G (hVI.fit i t) (hVI.fit tp t) (by omega) (by rw [ep]; omega)
        have hq : Fits G (ent2 V i t / ent2 V tp t) := fits_quo (hVI.fit i t)
        have c2 := neg_i (ent2 V i t / ent2 V tp t) G hq (by omega)
        have c5 := addto_q hVI (fits_neg hq) (by omega) hIn (show i < h by omega) htp (by omega) hn hw
        rw [show tp - i = (tp - (i + 1)) + 1 by omega, redW] at hfin
        clear r4 hCI3 hCE2 hRd hVI ep
        unfold iv sv at c5
        generalize hk : -(ent2 V i t / ent2 V tp t) = k at *
        generalize hq0 : ent2 V i t / ent2 V tp t = q at *
        unfold ent2 at c1
        unfold ent2 at gdi gdt
        unfold iv sv at c1 c2
        unfold ivC sv at gdi gdt
        simp only [zl8, zl7] at gdi gdt
        unfold wkH workC
        (repeat (first | refine DO.nilF (fun i => i + 1 - nx) (by simp (disch := omega) only [go_sem, ↓reduceIte, zn1, zn2, zn3, zn4, zn5, zn6, reduceCtorEq, zn7, zi1, zi2, if_pos, if_neg, Int.reduceAdd, zn8, zna, Nat.zero_mul, Nat.add_zero, zn9, Nat.sub_zero, zl2, zl4, zl3, zl9, zl7, zl8, List.append_nil, List.take_length, List.take_nil, List.drop_nil, List.length_nil, List.length_set, List.length_replicate, List.flatten_nil, List.flatten_cons, Bool.not_true, Bool.not_false, Bool.false_eq_true, Bool.or_true, Bool.true_or, Bool.or_false, Bool.or_self, bne_self_eq_false, beq_self_eq_true, zld, zle, Option.map_some, Option.map_none, znd, zne, znf] <;> rfl) (by kernel_rfl) ?_ | (with_reducible refine SC.condB (qTf @q6) ?_; first | with_reducible refine pickT ?_ | with_reducible refine pickF ?_) | (with_reducible refine qO ?_) | ((with_reducible apply SC.region); (focus (simp (disch := omega) only [go_sem, ↓reduceIte, zn1, zn2, zn3, zn4, zn5, zn6, reduceCtorEq, zn7, zi1, zi2, if_pos, if_neg, Int.reduceAdd, zn8, zna, Nat.zero_mul, Nat.add_zero, zn9, Nat.sub_zero, zl2, zl4, zl3, zl9, zl7, zl8, List.append_nil, List.take_length, List.take_nil, List.drop_nil, List.length_nil, List.length_set, List.length_replicate, List.flatten_nil, List.flatten_cons, Bool.not_true, Bool.not_false, Bool.false_eq_true, Bool.or_true, Bool.true_or, Bool.or_false, Bool.or_self, bne_self_eq_false, beq_self_eq_true, q6]; rfl))) | (with_reducible refine SC.draw Tab.mixed rfl ?_; (repeat (refine DO.run (qTf @q6) ?_)); refine DO.nilF (fun i => i + 1 - nx) (by simp (disch := omega) only [go_sem, ↓reduceIte, zn1, zn2, zn3, zn4, zn5, zn6, reduceCtorEq, zn7, zi1, zi2, if_pos, if_neg, Int.reduceAdd, zn8, zna, Nat.zero_mul, Nat.add_zero, zn9, Nat.sub_zero, zl2, zl4, zl3, zl9, zl7, zl8, List.append_nil, List.take_length, List.take_nil, List.drop_nil, List.length_nil, List.length_set, List.length_replicate, List.flatten_nil, List.flatten_cons, Bool.not_true, Bool.not_false, Bool.false_eq_true, Bool.or_true, Bool.true_or, Bool.or_false, Bool.or_self, bne_self_eq_false, beq_self_eq_true, zld, zle, Option.map_some, Option.map_none, znd, zne, znf] <;> rfl) (by kernel_rfl) ?_)))
        refine SC.drawT 27 (by simp only [zl3, zl4]; rfl) (by simp only [zl9, zl2]; rfl) Tab.mixed ?_ (by kernel_rfl) ?_
        ·exact klc (show 1 < nx by omega) (klc (show 0 < nx by omega) (wk_lt hIn))
        refine qWDf (Q25 @gii @gRi @gdi @g2i @gli @y2i @y3i @y4i @y5i @git @gRt @gdt @g2t @glt @y2t @y3t @y4t @y5t @ga @z1 @z2 @z3 @z4 @z5 @z6) ?_
        show SO _ _ _ _ _ _ _
        refine SO.inlQ qS (by rfl) qS qS (SInlQ.part [(1, _), (0, _)] (fun i => 2 ≤ i ∧ i < n1) c5 not2' (wk_in (nx := 0) hge) ?_ ?_)
        ·rintro x hp' nx' ⟨rfl, rfl, rfl⟩
         exact ⟨.tu (fun _ h => by cases h), wk_only (nx := 0) hge, wk_in (nx := 0) hge⟩
        rintro x hp' nx' ⟨rfl, rfl, rfl⟩
        refine qWD ?_
        refine hK5 _ (i + 1, addW h i tp k V, nx') ?_ ⟨by simp only; omega, hRn, hfin, hnx⟩ (by simp only; omega)
        exact qM
      ·have q6 := decide_eq_false (p := (i : Int) < (tp : Int)) (by omega)
       have hie : i = tp := by omega
       subst hie
       have hV : V = redW h t i i 0 Z := by rw [← hfin, Nat.sub_self]; rfl
       refine qWDf @q6 ?_
       refine hK1 _ (t + 1, i + 1, V, a, b, nx) ?_ ⟨⟨_, by rw [hV]; exact hCI3⟩, by rw [hV]; exact hCE2, hI, hge, hnx⟩ (by simp only; omega)
       exact qM
   ·have q2 := decide_eq_false (p := (tp : Int) < (h : Int)) (by omega)
    have hWW : W' = W := by cases hCE with | done _ => rfl | skip _ h1 => exact absurd h1 htp | piv _ h1 => exact absurd h1 htp
    subst hWW
    refine qWDf (Q2 @q1 @q2) ?_
    refine hK0 _ (tp, t, W', a, b, nx) ?_ ⟨hCI.ws, hCI.wi, hI, hge, hnx⟩
    exact qM
  ·have q1 := decide_eq_false (p := (t : Int) < (w : Int)) (by omega)
   have hWW : W' = W := by cases hCE with | done _ => rfl | skip h1 => exact absurd h1 hc | piv h1 => exact absurd h1 hc
   subst hWW
   refine qWDf @q1 ?_
   refine hK0 _ (tp, t, W', a, b, nx) ?_ ⟨hCI.ws, hCI.wi, hI, hge, hnx⟩
   exact qM
 rintro ⟨tp, t, W, a, b, nx⟩ ⟨hWS, hWI, hI, hge, hnx⟩
 clear hI0 hE hWk hA
 obtain ⟨l1, l2, l3, l4⟩ := hI.lts
 obtain ⟨z1, z2, z3, z4, z5, z6⟩ := hI.nes
 simp only at hI hge hnx l1 l2 l3 l4 ⊢
 have x1 := hge p (by simp)
 have x2 := hge oM (by simp)
 have x3 := hge oU (by simp)
 have x4 := hge oV (by simp)
 have la := hI.la
 have lb := hI.lb
 have lc := hI.lc
 have hWl := hWS.len
 have hM := rI_rows hWI.take
 have hU := rI_rows (work_u hWI)
 have hV := rI_rows (work_v hWI)
 have lU : ((W'.drop h).take h).length = h := (work_u hWI).len
 have lV : (W'.drop (2 * h)).length = h := (work_v hWI).len
 have lM : (W'.take h).length = h := hWI.take.len
 have hrow : ∀ C D : List V, ∀ q, q < 3 * h → hget ((1, (⟨132, C, false⟩ : Blk)) :: (0, ⟨34, D, false⟩) :: wkH p oM oU oV h w a b c0 W') ((a ++ b ++ c0).getD q 0) = some ⟨84, ivR (W'.getD q []), false⟩ := by
  intro C D q hq
  obtain ⟨gR, y1, y2, y3, y4, y5⟩ := hI.row hWl (q := q) (by omega)
  have x5 := hge ((a ++ b ++ c0).getD q 0) (by simp only [List.mem_cons]; exact .inr (.inr (.inr (.inr (getD_mem' (by rw [zl1, zl1]; omega))))))
  unfold wkH
  simp only [hget]
  rw [if_neg (by omega), if_neg (by omega), if_neg y2, if_neg y3, if_neg y4, if_neg y5, gR]
 have hrM : ∀ C D : List V, ∀ k, k < a.length → hget ((1, (⟨132, C, false⟩ : Blk)) :: (0, ⟨34, D, false⟩) :: wkH p oM oU oV h w a b c0 W') (a.getD k 0) = some ⟨84, (rI (W'.take h)).getD k [], false⟩ := fun C D k hk => by
  have := hrow C D k (by omega)
  rw [hI.iM (by omega)] at this
  rw [this, rI_getD, take_get (by omega)]
 have hrU : ∀ C D : List V, ∀ k, k < b.length → hget ((1, (⟨132, C, false⟩ : Blk)) :: (0, ⟨34, D, false⟩) :: wkH p oM oU oV h w a b c0 W') (b.getD k 0) = some ⟨84, (rI ((W'.drop h).take h)).getD k [], false⟩ := fun C D k hk => by
  have := hrow C D (h + k) (by omega)
  rw [hI.iU (by omega)] at this
  rw [this, rI_getD, take_get (by omega), getD_drop2]
 have hrV : ∀ C D : List V, ∀ k, k < c0.length → hget ((1, (⟨132, C, false⟩ : Blk)) :: (0, ⟨34, D, false⟩) :: wkH p oM oU oV h w a b c0 W') (c0.getD k 0) = some ⟨84, (rI (W'.drop (2 * h))).getD k [], false⟩ := fun C D k hk => by
  have := hrow C D (2 * h + k) (by omega)
  rw [hI.iV] at this
  rw [this, rI_getD, getD_drop2]
 have g1 := slR_len 2 w a
 have g2 := slR_len 2 h b
 have g3 := slR_len 2 h c0
 rw [la] at g1
 rw [lb] at g2
 rw [lc] at g3
 have hkl := hI.kl (W := W') (m := nx) hnx
 unfold hermC
 by_cases h0 : h = 0
 ·subst h0
  have ha : a = [] := List.eq_nil_of_length_eq_zero (by omega)
  have hb : b = [] := List.eq_nil_of_length_eq_zero (by omega)
  have hc : c0 = [] := List.eq_nil_of_length_eq_zero (by omega)
  have hWe : W' = [] := List.eq_nil_of_length_eq_zero (by omega)
  subst ha; subst hb; subst hc; subst hWe
  clear hrow hrM hrU hrV
  unfold wkH workC HZ at *
  have hkl2 : klB (rowsH 84 [] (rI [])) nx = true := rfl
  refine qWDf (Q7 @hkl2 @z1 @z2 @z3 @z4 @z5 @z6) ?_
  exact retQ_ret Try.results90 (qSf (Q6 @z1 @z2 @z3 @z4 @z5 @z6)) (qSf (Q6 @z1 @z2 @z3 @z4 @z5 @z6)) rfl
 ·have s1 := slR_some (z := 2) (m := w) (ids := a) (by omega)
  have s2 := slR_some (z := 2) (m := h) (ids := b) (by omega)
  have s3 := slR_some (z := 2) (m := h) (ids := c0) (by omega)
  have f1 := fun C D : List V => frz_rowsA (n := 5) (z := 2) (m := w) (ty := 84) (ids := a) (rs := rI (W'.take h)) (by omega) (by rw [rI_len]; omega) (hrM C D) hM
  have f2 := fun C D : List V => frz_rowsA (n := 5) (z := 2) (m := h) (ty := 84) (ids := b) (rs := rI ((W'.drop h).take h)) (by omega) (by rw [rI_len]; omega) (hrU C D) hU
  have f3 := fun C D : List V => frz_rowsA (n := 5) (z := 2) (m := h) (ty := 84) (ids := c0) (rs := rI (W'.drop (2 * h))) (by omega) (by rw [rI_len]; omega) (hrV C D) hV
  have t1 : (slR 2 w a).take h = slR 2 w a := zla (by omega)
  have t2 : (slR 2 h b).take h = slR 2 h b := zla (by omega)
  have t3 : (slR 2 h c0).take h = slR 2 h c0 := zla (by omega)
  clear hrow hrM hrU hrV
  unfold wkH workC HZ at *
  refine qWDf (Q7 @hkl @z1 @z2 @z3 @z4 @z5 @z6) ?_
  exact retQ_ret Try.results90 (qSf (Q6 @z1 @z2 @z3 @z4 @z5 @z6)) (qSf (Q18 @f1 @f2 @f3 @s1 @s2 @s3 @t1 @t2 @t3 @g1 @g2 @g3 @z1 @z2 @z3 @z4 @z5 @z6)) rfl
end Go.Proofs.Ytdkkgndibagihaa
namespace Go.Proofs.Ytdkkgndibagihaa
open Go.RowKit
theorem getE {α : Type} (l : List α) (d : α) {i : Nat} (h : i < l.length) : l.getD i d = l[i] := by
 rw [List.getD_eq_getElem?_getD, zlb h]; rfl
def pivI (r : List Int) : Int := if r.findIdx (fun x => x != 0) < r.length then (r.findIdx (fun x => x != 0) : Int) else -1
theorem piv_at {r : List Int} {c : Nat} (hc : c < r.length) (hz : ∀ k, k < c → r.getD k 0 = 0) (hn : r.getD c 0 ≠ 0) : pivI r = c := by
 have e : r.findIdx (fun x => x != 0) = c := by
  rw [List.findIdx_eq hc]
  refine ⟨?_, fun j hj => ?_⟩
  ·rw [getE r 0 hc] at hn
   simpa using hn
  ·have := hz j hj
   rw [getE r 0 (by omega)] at this
   simpa using this
 unfold pivI
 rw [e, if_pos hc]
theorem piv_no {r : List Int} (hz : ∀ k, k < r.length → r.getD k 0 = 0) : pivI r = -1 := by
 unfold pivI
 rw [if_neg]
 intro h
 have h2 := List.findIdx_getElem (p := fun x : Int => x != 0) (w := h)
 have h3 := hz _ h
 rw [getE r 0 h] at h3
 rw [h3] at h2
 simp at h2
set_option maxHeartbeats 4000000 in
theorem pivot_s {r : List Int} {K : Nat} (hf : ∀ c, c < r.length → Fits K (r.getD c 0)) (hK : K ≤ 100000000000) (hl : r.length ≤ 1000000) : Spec Try.prog 105 [.im (ivR r) r.length] (.sc (.int .i64 (pivI r))) := by
 have gl := ivR_len r
 refine qF Try.func105 Try.ntmps105 fun B hB => ?_
 refine qW ?_
 refine SC.loop (fun c : Nat => ⟨[(0, .im (ivR r) r.length), (3, .sc (.int .i64 c))], [], 0, 17⟩) (fun c => c ≤ r.length ∧ ∀ k, k < c → r.getD k 0 = 0) (fun c => r.length - c) 0 ?_ ⟨znc _, fun k hk => by omega⟩ ?_
 ·exact qL
 ·rintro c ⟨hc, hz⟩ K1 hK1
  by_cases hlt : c < r.length
  ·have q1 := decide_eq_true (p := (c : Int) < (r.length : Int)) (by omega)
   have gd := ivR_drop (l := r) (i := c) hlt
   have g2 : c * 2 < (ivR r).length := by omega
   have x0 : ((c : Int)).toNat = c := rfl
   have c1 := sign_i (r.getD c 0) K (hf c hlt) (by omega)
   by_cases h0 : r.getD c 0 = 0
   ·have q2 : ((r.getD c 0).sign != 0) = false := by rw [h0]; rfl
    have hz2 : ∀ k, k < c + 1 → r.getD k 0 = 0 := fun k hk => by
     by_cases e : k = c
     ·rw [e]; exact h0
     ·exact hz k (by omega)
    generalize r.getD c 0 = z at *
    unfold iv sv at c1
    unfold ivC sv at gd
    simp only [zl8, zl7] at gd
    refine qWf (Q6 @q1 @q2 @x0 @gl @gd @g2) ?_
    refine hK1 _ (c + 1) ?_ ⟨by omega, hz2⟩ (by omega)
    exact qL
   ·have q2 : ((r.getD c 0).sign != 0) = true := by rw [bne_iff_ne]; intro e; exact h0 (Int.sign_eq_zero_iff_zero.1 e)
    rw [piv_at hlt hz h0]
    generalize r.getD c 0 = z at *
    unfold iv sv at c1
    unfold ivC sv at gd
    simp only [zl8, zl7] at gd
    refine qWf (Q6 @q1 @q2 @x0 @gl @gd @g2) ?_
    exact qE Try.results105
  ·have q1 := decide_eq_false (p := (c : Int) < (r.length : Int)) (by omega)
   rw [piv_no fun k hk => hz k (by omega)]
   refine qWf @q1 ?_
   exact qE Try.results105
def cntM (M : List (List Int)) : Nat := (M.filter fun r => decide (0 ≤ pivI r)).length
theorem cnt_snoc {M : List (List Int)} {i : Nat} (hi : i < M.length) : cntM (M.take (i + 1)) = cntM (M.take i) + if 0 ≤ pivI (M.getD i []) then 1 else 0 := by
 unfold cntM
 rw [List.take_succ_eq_append_getElem hi, List.filter_append, zl1, getE M [] hi]
 congr 1
 by_cases h : 0 ≤ pivI M[i]
 ·rw [if_pos h, List.filter_cons, if_pos (by simpa using h)]; rfl
 ·rw [if_neg h, List.filter_cons, if_neg (by simpa using h)]; rfl
theorem cnt_le (M : List (List Int)) : cntM M ≤ M.length := List.length_filter_le _ _
set_option maxHeartbeats 4000000 in
theorem rrank_s2 {h w K : Nat} {M : List (List Int)} (hM : MI h w K M) (hK : K ≤ 100000000000) (hn : h ≤ 1000000) (hw : w ≤ 1000000) : Spec Try.prog 91 [mat w M] (.sc (.int .i64 (cntM M))) := by
 have hml := hM.len
 have gl := imI_len w M
 unfold mat
 refine qF Try.func91 Try.ntmps91 fun B hB => ?_
 refine qW ?_
 refine SC.loop (fun i : Nat => ⟨[(1, .pt 0 0), (3, .sc (.int .i64 (cntM (M.take i)))), (4, .sc (.int .i64 i))], [(0, ⟨34, [.sc (.int .i64 M.length), .sc (.int .i64 w), .im (imR w (rI M)) M.length], false⟩)], 1, 21⟩) (fun i => i ≤ M.length) (fun i => M.length - i) 0 ?_ (znc _) ?_
 ·exact qL
 ·intro i hi K1 hK1
  by_cases hlt : i < M.length
  ·have q1 := decide_eq_true (p := (i : Int) < (M.length : Int)) (by omega)
   have x0 : ((i : Int)).toNat = i := rfl
   have g1 := imI_get (w := w) (M := M) hlt
   have hr := hM.get (i := i) (by omega)
   have c1 := pivot_s (r := M.getD i []) (K := K) (fun c hc => hr.2 _ (getD_mem (d := 0) hc)) hK (by rw [hr.1]; exact hw)
   rw [hr.1] at c1
   have hcs := cnt_snoc hlt
   have hcl := cnt_le (M.take i)
   rw [List.length_take, Nat.min_eq_left hi] at hcl
   by_cases hp : 0 ≤ pivI (M.getD i [])
   ·have q2 : decide (pivI (M.getD i []) ≥ 0) = true := decide_eq_true hp
    rw [if_pos hp] at hcs
    generalize pivI (M.getD i []) = z at *
    generalize ivR (M.getD i []) = R at *
    refine qWf (Q6 @q1 @q2 @x0 @g1 @gl @gD) ?_
    refine hK1 _ (i + 1) ?_ (by omega) (by omega)
    rw [hcs]
    exact qL
   ·have q2 : decide (pivI (M.getD i []) ≥ 0) = false := decide_eq_false hp
    rw [if_neg hp, Nat.add_zero] at hcs
    generalize pivI (M.getD i []) = z at *
    generalize ivR (M.getD i []) = R at *
    refine qWf (Q6 @q1 @q2 @x0 @g1 @gl @gD) ?_
    refine hK1 _ (i + 1) ?_ (by omega) (by omega)
    rw [hcs]
    exact qL
  ·have q1 := decide_eq_false (p := (i : Int) < (M.length : Int)) (by omega)
   have e : M.take i = M := zla (by omega)
   rw [e]
   refine qWf @q1 ?_
   exact qE Try.results91
theorem imR_take (w : Nat) (M : List (List Int)) (n : Nat) : (imR w (rI M)).take n = imR w (rI (M.take n)) := by
 unfold imR rI; rw [← List.map_take, ← List.map_take]
theorem imR_drop (w : Nat) (M : List (List Int)) (n : Nat) : (imR w (rI M)).drop n = imR w (rI (M.drop n)) := by
 unfold imR rI; rw [← List.map_drop, ← List.map_drop]
set_option maxHeartbeats 4000000 in
theorem rtop_s {w n : Nat} {M : List (List Int)} (hn : n ≤ M.length) (hl : M.length ≤ 1000000) : Spec Try.prog 106 [mat w M, .sc (.int .i64 n)] (mat w (M.take n)) := by
 have gl := imI_len w M
 have gt := imR_take w M n
 have gn : (M.take n).length = n := by rw [List.length_take]; omega
 have x0 : ((n : Int)).toNat = n := rfl
 unfold mat
 rw [gn]
 refine qF Try.func106 Try.ntmps106 fun B hB => ?_
 refine qWf (Q3 @gl @gt @x0) ?_
 exact qE Try.results106
end Go.Proofs.Ytdkkgndibagihaa
namespace Go.Proofs.Ytdkkgndibagihaa
open Go.RowKit
theorem piv_nonneg {r : List Int} {c : Nat} (hc : c < r.length) (hn : r.getD c 0 ≠ 0) : 0 ≤ pivI r := by
 obtain ⟨k, hk, hl⟩ := least_of (P := fun k => r.getD k 0 ≠ 0) hn
 have hkl : k < r.length := by
  apply Nat.lt_of_not_le
  intro h
  apply hk
  rw [List.getD_eq_getElem?_getD, List.getElem?_eq_none h]; rfl
 rw [piv_at hkl (fun j hj => Classical.byContradiction fun h => hl j hj h) hk]
 omega
theorem cnt_isH {h w K r : Nat} {p : Nat → Nat} {M : List (List Int)} (hM : MI h w K M) (hH : IsH h w (ent2 M) r p) : cntM M = r := by
 have key : ∀ i, i ≤ h → cntM (M.take i) = min i r := by
  intro i
  induction i with
  | zero => intro _; rw [Nat.zero_min, zl4]; rfl
  | succ i ih =>
   intro hi
   have hml := hM.len
   rw [cnt_snoc (by omega), ih (by omega)]
   have hr := (hM.get (i := i) (by omega)).1
   by_cases hir : i < r
   ·have h1 := hH.pos i hir
    have h2 := hH.pw i hir
    rw [if_pos (piv_nonneg (c := p i) (by omega) (by unfold ent2 at h1; omega))]
    omega
   ·have h1 : pivI (M.getD i []) = -1 := piv_no fun k hk => hH.zero i (by omega) (by omega) k (by omega)
    rw [h1, if_neg (by decide)]
    omega
 have hml := hM.len
 have := key h (znb _)
 rw [zla (by omega)] at this
 have := hH.rh
 omega
theorem isH_take {h w r : Nat} {p : Nat → Nat} {W : List (List Int)} (hH : IsH h w (ent2 W) r p) : IsH h w (ent2 (W.take h)) r p := by
 have e : ∀ q, q < h → ∀ t, ent2 (W.take h) q t = ent2 W q t := fun q hq t => by unfold ent2; rw [take_get hq]
 have hr := hH.rh
 refine ⟨hH.rh, hH.pw, fun i hi => ?_, fun i hi j hj => ?_, hH.inc, fun i k h1 h2 => ?_, fun i h1 h2 j hj => ?_⟩
 ·rw [e i (by omega)]; exact hH.pos i hi
 ·rw [e i (by omega)]; exact hH.lead i hi j hj
 ·rw [e i (by omega), e k (by omega)]; exact hH.red i k h1 h2
 ·rw [e i h2]; exact hH.zero i h1 h2 j hj
theorem form_ex {h w K : Nat} {A : List (List Int)} (hA : MI h w K A) (hh : h ≤ 1000000) :
  ∃ W' r p K2, ColsE h w 0 0 (A ++ idL h ++ idL h) W' ∧ WS h w W' ∧ LinI h w A W' ∧ IsH h w (ent2 W') r p ∧ Gb h W' (fun _ => 4294967296 ^ K2) (fun _ => 4294967296 ^ K2) ∧ (K2 + 1) * fact (h - r + 1) ≤ (K + 1) * fact (h + 1) := by
 have hI := form_start hA
 obtain ⟨W', hE⟩ := ColsE.ex hh w (znb _) hI
 obtain ⟨c', top', p', hd, hI'⟩ := hE.inv hh hI
 obtain ⟨K2, hG, hK⟩ := hI'.bd
 exact ⟨W', top', p', K2, hE, hI'.ws, hI'.lin, hI'.hs.isH hd, hG, hK⟩
theorem Gb.wi1 {h w K2 : Nat} {W : List (List Int)} (hG : Gb h W (fun _ => 4294967296 ^ K2) (fun _ => 4294967296 ^ K2)) (hW : WS h w W) : WI h w (K2 + 1) W :=
 hG.fits hW (fun _ _ => znb _) (fun _ _ => znb _) (Nat.lt_succ_self _)
set_option maxHeartbeats 4000000 in
theorem rbasis_s {h w K : Nat} {M W' : List (List Int)} (hM : MI h w K M) (hG : (K + 1) * fact (h + 1) ≤ 50000000000) (hn : h ≤ 1000000) (hw : w ≤ 1000000) (hE : ColsE h w 0 0 (M ++ idL h ++ idL h) W') (hW : WI h w 50000000000 W') :
  Spec Try.prog 92 [mat w M] (mat w ((W'.take h).take (cntM (W'.take h)))) := by
 have c1 := rform_s hM hG (znb _) hn hw hE
 have c2 := rrank_s2 hW.take (by omega) hn hw
 have hl := hW.take.len
 have c3 := rtop_s (w := w) (M := W'.take h) (cnt_le _) (by omega)
 have hml := hM.len
 have gl : ((W'.take h).take (cntM (W'.take h))).length = cntM (W'.take h) := by rw [List.length_take]; have := cnt_le (W'.take h); omega
 unfold mat hermC at *
 rw [hl] at c2 c3
 rw [gl] at c3 ⊢
 rw [hml] at c1 ⊢
 clear hG hE hW hM
 generalize cntM (W'.take h) = r at *
 refine qF Try.func92 Try.ntmps92 fun B hB => ?_
 refine qW ?_
 exact qE Try.results92
set_option maxHeartbeats 4000000 in
theorem rleft_ex {h w K : Nat} {A : List (List Int)} (hA : MI h w K A) (hG : (K + 1) * fact (h + 1) ≤ 25000000000) (hn : h ≤ 1000000) (hw : w ≤ 1000000) :
  ∃ L, Spec Try.prog 74 [mat w A] (mat h L) ∧ MI L.length h (2 * ((K + 1) * fact (h + 1))) L ∧ L.length ≤ h ∧ ∀ q, q < L.length → ∀ t, t < w → dotI (fun s => ent2 L q s) (fun s => ent2 A s t) h = 0 := by
 obtain ⟨W1, r, p, K1, hE1, hW1, hL1, hH1, hG1, hK1⟩ := form_ex hA hn
 have hWI1 := hG1.wi1 hW1
 have hr := hH1.rh
 have hcr := cnt_isH (hWI1.take) (isH_take hH1)
 have hU := work_u hWI1
 have hUl := hU.len
 have hB : MI (h - r) h (K1 + 1) (((W1.drop h).take h).drop r) := ⟨by rw [List.length_drop]; omega, fun x hx => hU.row x (List.mem_of_mem_drop hx)⟩
 have hf := fact_pos (h - r + 1)
 have hK2 : (K1 + 1 + 1) * fact (h - r + 1) ≤ 2 * ((K + 1) * fact (h + 1)) := by
  have : fact (h - r + 1) ≤ (K1 + 1) * fact (h - r + 1) := Nat.le_mul_of_pos_left _ (Nat.succ_pos _)
  rw [Nat.add_mul (K1 + 1) 1, zna]
  omega
 obtain ⟨W2, r2, p2, K3, hE2, hW2, hL2, hH2, hG2, hK3⟩ := form_ex hB (by omega)
 have hWI2 := hG2.wi1 hW2
 have hcr2 := cnt_isH (hWI2.take) (isH_take hH2)
 have hr2 := hH2.rh
 have hl2 := hWI2.take.len
 have k1 := fact_le hK1
 have k3 := fact_le hK3
 have hLl : ((W2.take (h - r)).take r2).length = r2 := by rw [List.length_take]; omega
 refine ⟨(W2.take (h - r)).take r2, ?_, ?_, by rw [hLl]; omega, fun q hq t ht => ?_⟩
 ·have c1 := rform_s hA (Nat.le_trans hG (by omega)) (znb _) hn hw hE1
  have c2 := rrank_s2 (hWI1.take) (by omega) hn hw
  have c3 := rbasis_s hB (by omega) (by omega) hn hE2 (hWI2.mono (by omega))
  rw [hcr2] at c3
  rw [hcr] at c2
  have hl1 := hWI1.take.len
  have hml := hA.len
  have hBl := hB.len
  have gd := imR_drop h ((W1.drop h).take h) r
  have gl := imI_len h ((W1.drop h).take h)
  rw [hUl] at gl
  have x0 : ((r : Int)).toNat = r := rfl
  have x1 : ((h : Int) - (r : Int)) = ((h - r : Nat) : Int) := by omega
  unfold mat hermC at *
  rw [hl1] at c2
  rw [hBl] at c3
  rw [hLl] at c3 ⊢
  rw [hml] at c1 ⊢
  clear hA hG hE1 hW1 hL1 hH1 hG1 hK1 hWI1 hU hB hK2 hE2 hW2 hL2 hH2 hG2 hK3 hWI2
  have gt : (imR h (rI (((W1.drop h).take h).drop r))).take (h - r) = imR h (rI (((W1.drop h).take h).drop r)) := zla (by rw [imI_len]; omega)
  refine qF Try.func74 Try.ntmps74 fun B hB => ?_
  refine qWf (Q5 @x0 @x1 @gl @gd @gt) ?_
  exact qE Try.results74
 ·rw [hLl]
  have hm := hWI2.take
  refine ⟨hLl, fun x hx => ?_⟩
  have := hm.row x (List.mem_of_mem_take hx)
  exact ⟨this.1, fun y hy => (this.2 y hy).mono (by
   have : (K3 + 1) ≤ (K3 + 1) * fact (h - r - r2 + 1) := Nat.le_mul_of_pos_right _ (fact_pos _)
   omega)⟩
 ·rw [hLl] at hq
  have e0 : ∀ s, ent2 ((W2.take (h - r)).take r2) q s = ent2 W2 q s := fun s => by unfold ent2; rw [take_get hq, take_get (by omega)]
  have e1 : ∀ s, s < h → ent2 W2 q s = dotI (fun u => ent2 W2 (h - r + q) u) (fun u => ent2 W1 (h + (r + u)) s) (h - r) := fun s hs => by
   rw [hL2.l1 q s (by omega) hs]
   refine dot_congr fun u hu => ⟨rfl, ?_⟩
   unfold ent2
   rw [getD_drop2, take_get (by omega), getD_drop2]
  have e2 : ∀ u, u < h - r → dotI (fun s => ent2 W1 (h + (r + u)) s) (fun s => ent2 A s t) h = 0 := fun u hu => by
   rw [← hL1.l1 (r + u) t (by omega) ht]
   exact hH1.zero (r + u) (by omega) (by omega) t ht
  have e3 : dotI (fun s => ent2 ((W2.take (h - r)).take r2) q s) (fun s => ent2 A s t) h = dotI (fun s => dotI (fun u => ent2 W2 (h - r + q) u) (fun u => ent2 W1 (h + (r + u)) s) (h - r)) (fun s => ent2 A s t) h := dot_congr fun s hs => ⟨by rw [e0, e1 s hs], rfl⟩
  rw [e3, dot_dot]
  exact dot_zero fun u hu => by rw [e2 u hu, Int.mul_zero]
end Go.Proofs.Ytdkkgndibagihaa
namespace Go.Proofs.Ytdkkgndibagihaa
open Go.RowKit
def vecL (l : List Int) (n : Nat) : List Int := mkR n (dgt l)
theorem vecL_len (l : List Int) (n : Nat) : (vecL l n).length = n := mkR_len
theorem fil1 (l : List Int) (n : Nat) : filL 1 n l = [vecL l n] := by
 unfold filL mkM vecL
 simp
theorem vector_s {l : List Int} {n : Nat} (hn : n ≤ 8) (hb : ∀ x ∈ l, -128 ≤ x ∧ x ≤ 127) (hl : l.length ≤ 9223372036854775807) :
  Spec Try.prog 75 [.im (bv8 l) l.length, .sc (.int .i64 n)] (.im (ivR (vecL l n)) n) := by
 have c1 := filled_s (h := 1) (w := n) (l := l) (by omega) (by omega) hb hl
 rw [fil1] at c1
 have c1' : Spec Try.prog 93 [.sc (.int .i64 1), .sc (.int .i64 n), .im (bv8 l) l.length] (.ag [.sc (.int .i64 1), .sc (.int .i64 n), .im [.im (ivR (vecL l n)) n] 1]) := c1
 clear c1
 refine qF Try.func75 Try.ntmps75 fun B hB => ?_
 refine qW ?_
 exact qE Try.results75
theorem small_dg {z : Int} (h : -9 ≤ z ∧ z ≤ 9) : smallI z = z ∧ Fits 1 z := by
 have hf : Fits 1 z := by unfold Fits; omega
 have hl := fits_len hf
 unfold smallI
 rw [if_pos (by omega), wi64 z (by omega) (by omega)]
 exact ⟨rfl, hf⟩
def cyF (l : List Int) (i : Nat) : Int := (dgt l i).tmod 3
theorem cyF_bd {l : List Int} (hb : ∀ x ∈ l, -128 ≤ x ∧ x ≤ 127) (i : Nat) : -2 ≤ cyF l i ∧ cyF l i ≤ 2 := by
 have h := dgt_small (k := i) hb
 unfold cyF
 generalize dgt l i = x at *
 have := Int.tmod_def x 3
 have h1 := Int.tmod_lt_of_pos x (b := 3) (by omega)
 have h2 := Int.lt_tmod_of_pos x (b := 3) (by omega)
 omega
def cyR (l : List Int) (L : List (List Int)) (h i j : Nat) : List Int := mkR h fun t => dotI (cyF l) (fun s => ent2 L s t) (if t < j then i + 1 else i)
theorem cyR_len (l : List Int) (L : List (List Int)) (h i j : Nat) : (cyR l L h i j).length = h := mkR_len
def cyN (l : List Int) (L : List (List Int)) : Nat := min L.length (min l.length 8)
def cyV (l : List Int) (L : List (List Int)) (h : Nat) : List Int := mkR h fun t => dotI (cyF l) (fun s => ent2 L s t) (cyN l L)
theorem cyR_next (l : List Int) (L : List (List Int)) (h i : Nat) : cyR l L h i h = cyR l L h (i + 1) 0 := by
 unfold cyR
 exact mkR_congr fun t ht => by rw [if_pos ht, if_neg (by omega)]
theorem cyR_set {l : List Int} {L : List (List Int)} {h i j : Nat} (hj : j < h) {v : Int} (hv : dotI (cyF l) (fun s => ent2 L s j) i + cyF l i * ent2 L i j = v) : (cyR l L h i j).set j v = cyR l L h i (j + 1) :=
 ilist_ext (by rw [List.length_set, cyR_len, cyR_len]) fun t ht => by
  rw [List.length_set, cyR_len] at ht
  unfold cyR
  rw [mkR_get ht, List.getD_eq_getElem?_getD]
  by_cases e : j = t
  ·subst e
   rw [List.getElem?_set_self (by rw [mkR_len]; exact ht), if_pos (by omega), ← hv]; rfl
  ·rw [List.getElem?_set_ne e, ← List.getD_eq_getElem?_getD, mkR_get ht]
   by_cases e2 : t < j
   ·rw [if_pos e2, if_pos (by omega)]
   ·rw [if_neg e2, if_neg (by omega)]
theorem cyR_get {l : List Int} {L : List (List Int)} {h i j : Nat} (hj : j < h) : (cyR l L h i j).getD j 0 = dotI (cyF l) (fun s => ent2 L s j) i := by
 unfold cyR
 rw [mkR_get hj, if_neg (by omega)]
theorem cy_bd {l : List Int} {L : List (List Int)} {K : Nat} (hb : ∀ x ∈ l, -128 ≤ x ∧ x ≤ 127) {t : Nat} (hL : ∀ s, Fits K (ent2 L s t)) : ∀ i, (dotI (cyF l) (fun s => ent2 L s t) i).natAbs ≤ i * (2 * 4294967296 ^ K)
 | 0 => znc _
 | i + 1 => by
  have h1 := cy_bd hb hL i
  have h2 := cyF_bd hb i
  have h3 : (cyF l i * ent2 L i t).natAbs ≤ 2 * 4294967296 ^ K := by
   rw [Int.natAbs_mul]; exact Nat.mul_le_mul (by omega) (Nat.le_of_lt (hL i))
  rw [dotI, Nat.succ_mul]
  exact Nat.le_trans (Int.natAbs_add_le _ _) (Nat.add_le_add h1 h3)
theorem cy_fits {l : List Int} {L : List (List Int)} {K : Nat} (hb : ∀ x ∈ l, -128 ≤ x ∧ x ≤ 127) {t : Nat} (hL : ∀ s, Fits K (ent2 L s t)) {i : Nat} (hi : i ≤ 1000) : Fits (K + 1) (dotI (cyF l) (fun s => ent2 L s t) i) := by
 have h := cy_bd hb hL i
 have hp : 0 < 4294967296 ^ K := Nat.pow_pos (by omega)
 unfold Fits
 rw [Nat.pow_succ]
 have h1 : i * (2 * 4294967296 ^ K) ≤ 1000 * (2 * 4294967296 ^ K) := Nat.mul_le_mul_right _ hi
 generalize 4294967296 ^ K = M at *
 omega
set_option maxHeartbeats 16000000 in
set_option maxRecDepth 8000 in
theorem cycle_w {C : List Cx} {K KL h w : Nat} {k : Int} {l : List Int} {L : List (List Int)} {A : List (List Int)} (hC : CxOk K C) (hh : (idsL C k).length = h)
  (cB : Spec Try.prog 18 [cxV C, .sc (.int .i64 k)] (mat w A)) (cL : Spec Try.prog 74 [mat w A] (mat h L)) (hL : MI L.length h KL L) (hLl : L.length ≤ h) (hKL : KL ≤ 100000000000) (hb : ∀ x ∈ l, -128 ≤ x ∧ x ≤ 127) (hl : l.length ≤ 9223372036854775807) :
  Spec Try.prog 54 [cxV C, .sc (.int .i64 k), .im (bv8 l) l.length] (chV (fromL (cyV l L h) (idsL C k))) := by
 have hCl := hC.len
 have hhl : h ≤ 1000 := by have := idsL_len C k; omega
 have gb := bv8_len l
 obtain ⟨n, hn⟩ : ∃ n, n = min l.length 8 := ⟨_, rfl⟩
 have c3 := vector_s (l := l) (n := n) (by omega) hb hl
 have c4 := rcells_s (k := k) hCl
 have hfitL : ∀ t s, Fits KL (ent2 L s t) := fun t s => by
  unfold ent2
  by_cases h1 : s < L.length
  ·by_cases h2 : t < (L.getD s []).length
   ·exact (hL.row _ (getD_mem h1)).2 _ (getD_mem h2)
   ·rw [List.getD_eq_getElem?_getD, List.getElem?_eq_none (by omega)]; exact Nat.pow_pos (by omega)
  ·rw [List.getD_eq_getElem?_getD (l := L), List.getElem?_eq_none (by omega)]; exact Nat.pow_pos (by omega)
 have hfv : ∀ z ∈ cyV l L h, Fits (KL + 1) z := fun z hz => by
  obtain ⟨t, ht, rfl⟩ := List.mem_map.1 hz
  exact cy_fits hb (hfitL t) (by unfold cyN; omega)
 have c5 := fromrow_s (v := cyV l L h) (ids := idsL C k) (by unfold cyV; rw [mkR_len, hh]) (by omega) hfv (by omega)
 have hmin : (if (8 : Int) < l.length then (8 : Int) else l.length) = (n : Int) := by split <;> omega
 have hcy : cyN l L = min L.length n := by unfold cyN; omega
 have hvl : (cyV l L h).length = h := mkR_len
 have hcv : cyR l L h (cyN l L) 0 = cyV l L h := by unfold cyR cyV; exact mkR_congr fun t ht => by rw [if_neg (by omega)]
 rw [hvl] at c5
 have glL := imI_len h L
 generalize fromL (cyV l L h) (idsL C k) = F at *
 unfold mat at cB cL
 unfold nsV at c4 c5
 unfold cxV chV at *
 generalize idsL C k = ids at *
 refine qF Try.func54 Try.ntmps54 fun B hB => ?_
 refine qWf @hmin ?_
 refine SC.loop (fun i : Nat => ⟨[(0, .im (cxs C) C.length), (1, .sc (.int .i64 k)), (7, .pt 0 0), (8, .im (ivR (vecL l n)) n), (9, .sl 1 0 h 2 none), (10, .sc (.int .i64 (i : Nat)))], [(1, ⟨84, ivR (cyR l L h i 0), false⟩), (0, ⟨34, [.sc (.int .i64 (L.length : Nat)), .sc (.int .i64 (h : Nat)), .im (imR h (rI L)) L.length], false⟩)], 2, 77⟩)
  (fun i => i ≤ cyN l L) (fun i => cyN l L - i) 0 ?_ ?_ ?_
 ·(refine Le.of [] hB (by first | exact ⟨znc _, fun _ _ => znc _⟩ | (constructor <;> (try simp) <;> (try omega))) ?_ ?_ <;> (repeat' (first | exact leSl_nil | exact leHp_nil | refine leSl_cons qT ?_ ?_ | refine leHp_cons qT ?_ ?_ | exact VLe.junk _ | exact VLe.refl rfl | exact VLe.nil_sl _ _ _ | exact VLe.int (by first | rfl | omega | (dsimp only; omega)) | exact VLe.bool rfl | exact VLe.sl rfl (by first | rfl | omega | (dsimp only; omega) | (simp; done)) | exact VLe.cap rfl (by first | rfl | omega | (dsimp only; omega) | (simp; done)) | exact VLe.im rfl rfl | exact HLe.new rfl | exact HLe.same rfl (LLe.refl rfl) | refine HLe.same rfl ?_ | exact LLe.nil _ | exact LLe.refl rfl | exact LLe.cl rfl qS | exact LLe.clR rfl qS | refine LLe.cons ?_ ?_)))
  exact LLe_zer _ (by unfold cyR; exact ilist_ext (by rw [mkR_len, List.length_replicate]) fun j hj => by rw [mkR_len] at hj; rw [mkR_get hj, if_neg (by omega), dotI, List.getD_eq_getElem?_getD, List.getElem?_replicate]; simp [hj])
 ·exact znc _
 rintro i hi K0 hK0
 have gv := ivR_len (vecL l n)
 rw [vecL_len] at gv
 have hiL : i ≤ L.length := by omega
 by_cases hc : i < cyN l L
 ·have q0 : decide ((i : Int) < (L.length : Int)) = true := decide_eq_true (by omega)
  have q1 : decide ((i : Int) < (n : Int)) = true := decide_eq_true (by omega)
  have gd := ivR_drop (l := vecL l n) (i := i) (by rw [vecL_len]; omega)
  have ez : (vecL l n).getD i 0 = dgt l i := by unfold vecL; exact mkR_get (by omega)
  rw [ez] at gd
  have hsm := dgt_small (k := i) hb
  obtain ⟨es, hf1⟩ := small_dg (z := dgt l i) (by omega)
  have c6 := small_i (dgt l i) 1 hf1 (by omega)
  rw [es] at c6
  have hcf := cyF_bd hb i
  have c7 := of_i (cyF l i) (by omega) (by omega)
  have hF : Fits 1 (cyF l i) := by unfold Fits; omega
  have ht3 : (dgt l i).tmod 3 = cyF l i := rfl
  have wf := wi64 (cyF l i) (by omega) (by omega)
  have g2 : i * 2 < (ivR (vecL l n)).length := by omega
  generalize smallB (dgt l i) = bs at *
  have hsum := fun j (hj : j < h) => cy_fits hb (fun s => hfitL j s) (i := i) (by omega)
  have hset := fun j (hj : j < h) v => cyR_set (l := l) (L := L) (h := h) (i := i) hj (v := v)
  have hget := fun j (hj : j < h) => cyR_get (l := l) (L := L) (h := h) (i := i) hj
  have hnx := cyR_next l L h i
  generalize cyF l i = f at *
  unfold iv sv at c6 c7
  unfold ivC sv at gd
  simp only [zl8, zl7] at gd
  refine qWf (Q7 @q0 @q1 @gd @gv @g2 @gb @gD) ?_
  refine SC.loop (fun j : Nat => ⟨[(0, .im (cxs C) C.length), (1, .sc (.int .i64 k)), (7, .pt 0 0), (8, .im (ivR (vecL l n)) n), (9, .sl 1 0 h 2 none), (10, .sc (.int .i64 (i : Nat))), (11, .sc (.int .i64 (dgt l i))), (13, .sc (.int .i64 (j : Nat)))], [(1, ⟨84, ivR (cyR l L h i j), false⟩), (0, ⟨34, [.sc (.int .i64 (L.length : Nat)), .sc (.int .i64 (h : Nat)), .im (imR h (rI L)) L.length], false⟩)], 2, 77⟩)
   (fun j => j ≤ h) (fun j => h - j) 0 ?_ ?_ ?_
  ·have gc := ivR_clo (cyR l L h i 0)
   (refine Le.of [] hB (by first | exact ⟨znc _, fun _ _ => znc _⟩ | (constructor <;> (try simp) <;> (try omega))) ?_ ?_ <;> (repeat' (first | exact leSl_nil | exact leHp_nil | refine leSl_cons qT ?_ ?_ | refine leHp_cons qT ?_ ?_ | exact VLe.junk _ | exact VLe.refl rfl | exact VLe.nil_sl _ _ _ | exact VLe.int (by first | rfl | omega | (dsimp only; omega)) | exact VLe.bool rfl | exact VLe.sl rfl (by first | rfl | omega | (dsimp only; omega) | (simp; done)) | exact VLe.cap rfl (by first | rfl | omega | (dsimp only; omega) | (simp; done)) | exact VLe.im rfl rfl | exact HLe.new rfl | exact HLe.same rfl (LLe.refl rfl) | refine HLe.same rfl ?_ | exact LLe.nil _ | exact LLe.refl rfl | exact LLe.cl rfl qS | exact LLe.clR rfl qS | refine LLe.cons ?_ ?_)))
   exact LLe.cl rfl gc
  ·exact znc _
  rintro j hj K1 hK1
  by_cases hc2 : j < h
  ·have q2 : decide ((j : Int) < (h : Int)) = true := decide_eq_true (by omega)
   have hsj := hsum j hc2
   have hgj := hget j hc2
   have hset1 := hset j hc2 _ rfl
   have gA := imI_get (w := h) (M := L) (i := i) (by omega)
   have hAi := hL.get (show i < L.length by omega)
   have gdA := ivR_drop (l := L.getD i []) (i := j) (by omega)
   have glA := ivR_len (L.getD i [])
   rw [hAi.1] at glA
   have hx : (L.getD i []).getD j 0 = ent2 L i j := rfl
   have hfx : Fits KL (ent2 L i j) := hfitL j i
   rw [hx] at gdA
   have glR := ivR_len (cyR l L h i j)
   rw [cyR_len] at glR
   have gdR := ivR_drop (l := cyR l L h i j) (i := j) (by rw [cyR_len]; exact hc2)
   rw [hgj] at gdR
   have gsR := ivR_set (l := cyR l L h i j) (i := j) (dotI (cyF l) (fun s => ent2 L s j) i + f * ent2 L i j) (by rw [cyR_len]; exact hc2)
   rw [hset1] at gsR
   have hfe : Fits (KL + 1) (f * ent2 L i j) := by
    have h3 : (f * ent2 L i j).natAbs ≤ 2 * 4294967296 ^ KL := by
     rw [Int.natAbs_mul]; exact Nat.mul_le_mul (by omega) (Nat.le_of_lt hfx)
    have hp : 0 < 4294967296 ^ KL := Nat.pow_pos (by omega)
    unfold Fits
    rw [Nat.pow_succ]
    omega
   have c8 := mul_i f (ent2 L i j) (KL + 1) (by unfold Fits; exact Nat.lt_of_lt_of_le (show f.natAbs < 4294967296 ^ 1 by omega) (Nat.pow_le_pow_right (by omega) (by omega))) (hfx.mono (by omega)) (by omega)
   have c9 := add_i _ _ (KL + 1) hsj hfe (by omega)
   have gc := ivR_clo (cyR l L h i (j + 1))
   clear hset1 hfe hsj hgj hset hsum hget hfx hx
   generalize dotI (cyF l) (fun s => ent2 L s j) i = d at *
   generalize ent2 L i j = y at *
   generalize (ivR (cyR l L h i j)).drop ((j + 1) * 2) = D1 at *
   generalize (ivR (L.getD i [])).drop ((j + 1) * 2) = D2 at *
   generalize ivR (L.getD i []) = RA at *
   generalize ivR (cyR l L h i j) = RR at *
   unfold iv sv at c8 c9
   unfold ivC sv at gdR gdA gsR
   simp only [zl8, zl7] at gdR gdA
   have g3 : j * 2 < RR.length := by omega
   have g4 : j * 2 < RA.length := by omega
   refine qWf (Q12 @q2 @ht3 @gA @gdA @gdR @gsR @glA @glR @g3 @g4 @glL @gD) ?_
   refine hK1 _ (j + 1) ?_ (by omega) (by omega)
   (refine Le.of [] hB (by first | exact ⟨znc _, fun _ _ => znc _⟩ | (constructor <;> (try simp) <;> (try omega))) ?_ ?_ <;> (repeat' (first | exact leSl_nil | exact leHp_nil | refine leSl_cons qT ?_ ?_ | refine leHp_cons qT ?_ ?_ | exact VLe.junk _ | exact VLe.refl rfl | exact VLe.nil_sl _ _ _ | exact VLe.int (by first | rfl | omega | (dsimp only; omega)) | exact VLe.bool rfl | exact VLe.sl rfl (by first | rfl | omega | (dsimp only; omega) | (simp; done)) | exact VLe.cap rfl (by first | rfl | omega | (dsimp only; omega) | (simp; done)) | exact VLe.im rfl rfl | exact HLe.new rfl | exact HLe.same rfl (LLe.refl rfl) | refine HLe.same rfl ?_ | exact LLe.nil _ | exact LLe.refl rfl | exact LLe.cl rfl qS | exact LLe.clR rfl qS | refine LLe.cons ?_ ?_)))
   exact LLe.cl rfl gc
  ·have q2 : decide ((h : Int) < (h : Int)) = false := decide_eq_false (by omega)
   have hjl : j = h := by omega
   rw [hjl, hnx]
   have gc := ivR_clo (cyR l L h (i + 1) 0)
   refine qWf @q2 ?_
   refine hK0 _ (i + 1) ?_ (by omega) (by omega)
   (refine Le.of [] hB (by first | exact ⟨znc _, fun _ _ => znc _⟩ | (constructor <;> (try simp) <;> (try omega))) ?_ ?_ <;> (repeat' (first | exact leSl_nil | exact leHp_nil | refine leSl_cons qT ?_ ?_ | refine leHp_cons qT ?_ ?_ | exact VLe.junk _ | exact VLe.refl rfl | exact VLe.nil_sl _ _ _ | exact VLe.int (by first | rfl | omega | (dsimp only; omega)) | exact VLe.bool rfl | exact VLe.sl rfl (by first | rfl | omega | (dsimp only; omega) | (simp; done)) | exact VLe.cap rfl (by first | rfl | omega | (dsimp only; omega) | (simp; done)) | exact VLe.im rfl rfl | exact HLe.new rfl | exact HLe.same rfl (LLe.refl rfl) | refine HLe.same rfl ?_ | exact LLe.nil _ | exact LLe.refl rfl | exact LLe.cl rfl qS | exact LLe.clR rfl qS | refine LLe.cons ?_ ?_)))
   exact LLe.cl rfl gc
 ·have hie : i = cyN l L := by omega
  rw [hie, hcv]
  have gV := ivR_len (cyV l L h)
  rw [hvl] at gV
  have gt : (ivR (cyV l L h)).take (h * 2) = ivR (cyV l L h) := zla (by omega)
  have gc := ivR_clo (cyV l L h)
  by_cases hq : cyN l L < L.length
  ·have q0 : decide ((cyN l L : Int) < (L.length : Int)) = true := decide_eq_true (by omega)
   have q1 : decide ((cyN l L : Int) < (n : Int)) = false := decide_eq_false (by omega)
   refine qWf (Q6 @q0 @q1 @gv @gt @gc @gV) ?_
   exact qE Try.results54
  ·have q0 : decide ((cyN l L : Int) < (L.length : Int)) = false := decide_eq_false (by omega)
   refine qWf (Q4 @q0 @gt @gc @gV) ?_
   exact qE Try.results54
end Go.Proofs.Ytdkkgndibagihaa
namespace Go.Proofs.Ytdkkgndibagihaa
theorem findL_ins {C : List Cx} {x : Cx} (h : findL C x.id = none) (n : Int) : findL (insL C x) n = if n = x.id then some x else findL C n := by
 have e : ∀ m, findL C m = (findL (C.take (lbn C x.id)) m).or (findL (C.drop (lbn C x.id)) m) := fun m => by
  unfold findL
  rw [← List.find?_append, List.take_append_drop]
 have e2 : findL (insL C x) n = (findL (C.take (lbn C x.id)) n).or (findL (x :: C.drop (lbn C x.id)) n) := by
  unfold findL insL
  rw [List.find?_append]
 rw [e2, e n]
 by_cases hn : n = x.id
 ·subst hn
  rw [e] at h
  cases h1 : findL (C.take (lbn C x.id)) x.id with
  | none => rw [if_pos rfl]; unfold findL; simp
  | some y => rw [h1] at h; simp at h
 ·rw [if_neg hn]
  congr 1
  unfold findL
  rw [List.find?_cons_of_neg]
  simpa using fun h => hn h.symm
theorem mem_ins {C : List Cx} {x z : Cx} : z ∈ insL C x ↔ z = x ∨ z ∈ C := by
 unfold insL
 rw [List.mem_append, List.mem_cons]
 constructor
 ·rintro (h | h | h)
  ·exact .inr (List.mem_of_mem_take h)
  ·exact .inl h
  ·exact .inr (List.mem_of_mem_drop h)
 ·rintro (h | h)
  ·exact .inr (.inl h)
  ·rw [← List.take_append_drop (lbn C x.id) C, List.mem_append] at h
   rcases h with h | h
   ·exact .inl h
   ·exact .inr (.inr h)
theorem ins_len (C : List Cx) (x : Cx) : (insL C x).length = C.length + 1 := by
 have := lbn_le C x.id
 unfold insL
 rw [zl1, List.length_cons, List.length_take, List.length_drop]
 omega
theorem ins_get (C : List Cx) (x : Cx) (i : Nat) : (insL C x).getD i cx0 = if i < lbn C x.id then C.getD i cx0 else if i = lbn C x.id then x else C.getD (i - 1) cx0 := by
 have hl := lbn_le C x.id
 unfold insL
 rw [List.getD_eq_getElem?_getD, List.getElem?_append, List.length_take]
 by_cases h1 : i < lbn C x.id
 ·rw [if_pos (by omega), if_pos h1, List.getElem?_take, if_pos h1, List.getD_eq_getElem?_getD]
 ·rw [if_neg (by omega), if_neg h1, List.getElem?_cons]
  by_cases h2 : i = lbn C x.id
  ·rw [if_pos (by omega), if_pos h2]; rfl
  ·rw [if_neg (by omega), if_neg h2, zl5, List.getD_eq_getElem?_getD]
   congr 2
   omega
theorem Srt.ins {C : List Cx} {x : Cx} (hs : Srt C) (h : findL C x.id = none) : Srt (insL C x) := by
 have hge : ∀ j, lbn C x.id ≤ j → j < C.length → x.id < (C.getD j cx0).id := fun j h1 h2 => by
  have h3 := lbn_ge (C := C) (id := x.id) (by omega)
  have h4 : (C.getD (lbn C x.id) cx0).id ≤ (C.getD j cx0).id := by
   rcases Nat.lt_or_ge (lbn C x.id) j with h5 | h5
   ·exact Int.le_of_lt (hs _ _ h5 h2)
   ·rw [show j = lbn C x.id by omega]; exact Int.le_refl _
  have h6 : (C.getD j cx0).id ≠ x.id := fun e => by rw [findL_some hs h2 e] at h; cases h
  omega
 intro i j hij hj
 have hll := lbn_le C x.id
 rw [ins_len] at hj
 rw [ins_get, ins_get]
 by_cases h1 : i < lbn C x.id
 ·rw [if_pos h1]
  have h5 := lbn_lt h1
  by_cases h2 : j < lbn C x.id
  ·rw [if_pos h2]; exact hs i j hij (by omega)
  ·rw [if_neg h2]
   by_cases h3 : j = lbn C x.id
   ·rw [if_pos h3]; exact h5
   ·rw [if_neg h3]
    have := hge (j - 1) (by omega) (by omega)
    omega
 ·rw [if_neg h1, if_neg (show ¬ j < lbn C x.id by omega), if_neg (show ¬ j = lbn C x.id by omega)]
  by_cases h3 : i = lbn C x.id
  ·rw [if_pos h3]; exact hge (j - 1) (by omega) (by omega)
  ·rw [if_neg h3]; exact hs _ _ (by omega) (by omega)
theorem find_keep {C : List Cx} {x : Cx} (h : findL C x.id = none) {n : Int} {y : Cx} (hy : findL C n = some y) : findL (insL C x) n = some y := by
 rw [findL_ins h, if_neg (fun e => by rw [e, h] at hy; cases hy), hy]
theorem FacesOk.ins {C : List Cx} {x z : Cx} (h : findL C x.id = none) (hz : FacesOk C z) : FacesOk (insL C x) z where
 vg := hz.vg
 there := fun f hf => by
  obtain ⟨y, hy⟩ := hz.there f hf
  exact ⟨y, find_keep h hy⟩
 dim := hz.dim
 dims := fun f hf y hy => by
  obtain ⟨y', hy'⟩ := hz.there f hf
  have := find_keep h hy'
  rw [hy] at this
  cases this
  exact hz.dims f hf y hy'
theorem bdn_ins {C : List Cx} {x : Cx} (h : findL C x.id = none) (n : Int) : ∀ {b : Ch}, (∀ f ∈ b, ∃ y, findL C f.1 = some y) → bdn (insL C x) b n = bdn C b n
 | [], _ => rfl
 | f :: r, hb => by
  obtain ⟨y, hy⟩ := hb f List.mem_cons_self
  rw [bdn, bdn, bdn_ins h n fun g hg => hb g (List.mem_cons_of_mem _ hg)]
  have e : bOf (insL C x) f.1 = bOf C f.1 := by unfold bOf; rw [find_keep h hy, hy]
  rw [e]
theorem VAL.ins {C : List Cx} {x : Cx} (hC : VAL C) (h : findL C x.id = none) (hx : FacesOk C x) (hcl : ∀ n, bdn C x.b n = 0) (hl : C.length < 400) : VAL (insL C x) where
 len := by rw [ins_len]; omega
 srt := hC.srt.ins h
 faces := fun z hz => by
  rcases mem_ins.1 hz with e | e
  ·rw [e]; exact hx.ins h
  ·exact (hC.faces z e).ins h
 closed := fun z hz n => by
  rcases mem_ins.1 hz with e | e
  ·rw [e, bdn_ins h n hx.there]; exact hcl n
  ·rw [bdn_ins h n (hC.faces z e).there]; exact hC.closed z e n
def cn (C : List Cx) (d : Nat) : Nat := (idsL C d).length
theorem cn_ins (C : List Cx) (x : Cx) (d : Nat) : cn C d ≤ cn (insL C x) d := by
 unfold cn idsL
 rw [List.length_map, List.length_map]
 have hs : C.Sublist (insL C x) := by
  unfold insL
  conv => lhs; rw [← List.take_append_drop (lbn C x.id) C]
  exact List.Sublist.append (List.Sublist.refl _) (List.sublist_cons_self _ _)
 exact (hs.filter _).length_le
theorem cn_cons (x : Cx) (C : List Cx) (d : Nat) : cn (x :: C) d = (if x.dim = d then 1 else 0) + cn C d := by
 unfold cn idsL
 rw [List.length_map, List.length_map, List.filter_cons]
 by_cases h : x.dim = d
 ·rw [if_pos (by simpa using h), if_pos h, List.length_cons]; omega
 ·rw [if_neg (by simpa using h), if_neg h]; omega
theorem cn_sum : ∀ C : List Cx, cn C 0 + cn C 1 + cn C 2 ≤ C.length
 | [] => znb _
 | x :: C => by
  have := cn_sum C
  rw [cn_cons, cn_cons, cn_cons, List.length_cons]
  split <;> split <;> split <;> omega
def kb (n : Nat → Nat) : Nat → Nat
 | 0 => 0
 | d + 1 => if n d = 0 then 0 else 2 * ((kb n d + 1) * fact (n d + 1)) + 1
theorem fact_mono {m n : Nat} (h : m ≤ n) : fact m ≤ fact n := by
 induction n with
 | zero => rw [show m = 0 by omega]; exact znb _
 | succ n ih =>
  rcases Nat.lt_or_ge m (n + 1) with h1 | h1
  ·refine Nat.le_trans (ih (by omega)) ?_
   rw [fact, Nat.succ_mul]
   omega
  ·rw [show m = n + 1 by omega]; exact znb _
theorem kb_mono {m n : Nat → Nat} (h : ∀ d, m d ≤ n d) : ∀ d, kb m d ≤ kb n d
 | 0 => znb _
 | d + 1 => by
  have h1 : (kb m d + 1) * fact (m d + 1) ≤ (kb n d + 1) * fact (n d + 1) := Nat.mul_le_mul (Nat.succ_le_succ (kb_mono h d)) (fact_mono (Nat.succ_le_succ (h d)))
  have h2 := h d
  rw [kb, kb]
  by_cases h0 : m d = 0
  ·rw [if_pos h0]; exact znc _
  ·rw [if_neg h0, if_neg (by omega)]; omega
def nd3 (a b c : Nat) : Nat → Nat
 | 0 => a
 | 1 => b
 | _ => c
def bnd3 (a b c : Nat) : Bool := decide ((kb (nd3 a b c) 0 + 1) * fact (a + 1) ≤ 25000000000 ∧ (kb (nd3 a b c) 1 + 1) * fact (b + 1) ≤ 25000000000 ∧ (kb (nd3 a b c) 2 + 1) * fact (c + 1) ≤ 25000000000)
theorem bnd_all : ((List.range 13).all fun a => (List.range (13 - a)).all fun b => (List.range (13 - a - b)).all fun c => bnd3 a b c) = true := by decide +kernel
theorem kb_bd {n : Nat → Nat} (h : n 0 + n 1 + n 2 ≤ 12) : ∀ d, d ≤ 2 → (kb n d + 1) * fact (n d + 1) ≤ 25000000000 := by
 have h1 := List.all_eq_true.1 bnd_all (n 0) (List.mem_range.2 (by omega))
 have h2 := List.all_eq_true.1 h1 (n 1) (List.mem_range.2 (by omega))
 have h3 := List.all_eq_true.1 h2 (n 2) (List.mem_range.2 (by omega))
 have ⟨h4, h5, h6⟩ := of_decide_eq_true h3
 intro d hd
 have hd' : d = 0 ∨ d = 1 ∨ d = 2 := by omega
 rcases hd' with rfl | rfl | rfl
 ·exact h4
 ·exact h5
 ·exact h6
end Go.Proofs.Ytdkkgndibagihaa
