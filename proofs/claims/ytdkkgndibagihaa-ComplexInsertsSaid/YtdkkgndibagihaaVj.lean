/- Texts joined: Hd He Hf Hg Hh Yb Yc. -/
import Derived.Test.YtdkkgndibagihaaVf
import Derived.Test.YtdkkgndibagihaaVi
set_option linter.all false
open Nat renaming reduceEqDiff → zn1, reduceLT → zn2, reduceLeDiff → zn3, reduceAdd → zn4, reduceMul → zn5, reduceSub → zn6, reduceBEq → zn7, mul_one → zn8, zero_add → zn9, one_mul → zna, le_refl → znb, zero_le → znc, add_sub_cancel_left → znd, sub_eq_zero_of_le → zne, add_assoc → znf
open Int renaming reduceToNat → zi1, reducePow → zi2
open List renaming length_append → zl1, drop_zero → zl2, take_succ_cons → zl3, take_zero → zl4, getElem?_drop → zl5, append_assoc → zl6, nil_append → zl7, cons_append → zl8, drop_succ_cons → zl9, take_of_length_le → zla, getElem?_eq_getElem → zlb, getElem?_eq_some_iff → zlc, map_cons → zld, map_nil → zle, all_eq_true → zlf
namespace Go.Proofs.Ytdkkgndibagihaa
open Go.RowKit
def matH (o w : Nat) (ids : List Nat) (M : List (List Int)) : List (Nat × Blk) := (o, ⟨80, slR 2 w ids, false⟩) :: rowsH 84 ids (rI M)
def matT (o h w : Nat) : V := .ag [.sc (.int .i64 h), .sc (.int .i64 w), .sl o 0 h 1 none]
def workC (h w oM oU oV : Nat) : List V := [.sc (.int .i64 h), .sc (.int .i64 w), .sl oM 0 h 1 none, .sc (.int .i64 h), .sc (.int .i64 h), .sl oU 0 h 1 none, .sc (.int .i64 h), .sc (.int .i64 h), .sl oV 0 h 1 none]
def StP (n0 h w : Nat) (b0 : Blk) (A : List (List Int)) (L : Nat → Bool) (sl : List (Nat × V)) (hp : List (Nat × Blk)) (nx : Nat) : Prop :=
 (L 1 = false ∧ hp = [(n0, b0)] ∧ nx = n0 + 1) ∨
 (∃ oM a, L 1 = true ∧ L 4 = false ∧ RowsOk oM a h (n0 + 1) nx ∧ get sl 4 = matT oM h w ∧ hp = [(n0, b0)] ++ matH oM w a A) ∨
 (∃ oM a n1 oU b, L 4 = true ∧ L 7 = false ∧ RowsOk oM a h (n0 + 1) n1 ∧ RowsOk oU b h n1 nx ∧ get sl 4 = matT oM h w ∧ get sl 7 = matT oU h h ∧ hp = [(n0, b0)] ++ matH oM w a A ++ matH oU h b (idL h)) ∨
 (∃ oM a n1 oU b n2 oV c, L 7 = true ∧ L 8 = false ∧ RowsOk oM a h (n0 + 1) n1 ∧ RowsOk oU b h n1 n2 ∧ RowsOk oV c h n2 nx ∧ get sl 4 = matT oM h w ∧ get sl 7 = matT oU h h ∧ get sl 10 = matT oV h h ∧ hp = [(n0, b0)] ++ matH oM w a A ++ matH oU h b (idL h) ++ matH oV h c (idL h)) ∨
 (∃ oM a n1 oU b n2 oV c, L 8 = true ∧ L 9 = false ∧ RowsOk oM a h (n0 + 1) n1 ∧ RowsOk oU b h n1 n2 ∧ RowsOk oV c h n2 nx ∧ get sl 11 = .ag (workC h w oM oU oV) ∧ hp = [(n0, b0)] ++ matH oM w a A ++ matH oU h b (idL h) ++ matH oV h c (idL h)) ∨
 (∃ oM a n1 oU b n2 oV c p, L 9 = true ∧ L 10 = false ∧ RowsOk oM a h (n0 + 1) n1 ∧ RowsOk oU b h n1 n2 ∧ RowsOk oV c h n2 p ∧ nx = p + 1 ∧ get sl 12 = .pt p 0 ∧ hp = (p, ⟨140, workC h w oM oU oV, false⟩) :: ([(n0, b0)] ++ matH oM w a A ++ matH oU h b (idL h) ++ matH oV h c (idL h))) ∨
 (∃ oM a n1 oU b n2 oV c p, L 10 = true ∧ RowsOk oM a h (n0 + 1) n1 ∧ RowsOk oU b h n1 n2 ∧ RowsOk oV c h n2 p ∧ nx = p + 1 ∧ get sl 2 = .pt p 0 ∧ hp = (p, ⟨140, workC h w oM oU oV, false⟩) :: ([(n0, b0)] ++ matH oM w a A ++ matH oU h b (idL h) ++ matH oV h c (idL h)))
def StJ (n0 h w : Nat) (b0 : Blk) (A : List (List Int)) (L : Nat → Bool) (s : SS) : Prop :=
 s.nt = 13 ∧ get s.sl 1 = .pt n0 0 ∧ (L 0 = true → get s.sl 3 = .ag b0.cs) ∧ (L 2 = true → get s.sl 5 = .pt n0 0) ∧ (L 3 = true → get s.sl 6 = .sc (.int .i64 h)) ∧ (L 5 = true → get s.sl 8 = .pt n0 0) ∧ (L 6 = true → get s.sl 9 = .sc (.int .i64 h)) ∧ hget s.hp n0 = some b0 ∧ StP n0 h w b0 A L s.sl s.hp s.nx
structure WOk (p oM oU oV : Nat) (a b c : List Nat) (h lo hi : Nat) : Prop where
 la : a.length = h
 lb : b.length = h
 lc : c.length = h
 nod : (p :: oM :: oU :: oV :: (a ++ b ++ c)).Nodup
 rng : ∀ i ∈ p :: oM :: oU :: oV :: (a ++ b ++ c), lo ≤ i ∧ i < hi
def wkH (p oM oU oV h w : Nat) (a b c : List Nat) (W : List (List Int)) : List (Nat × Blk) :=
 (p, ⟨140, workC h w oM oU oV, false⟩) :: (oM, ⟨80, slR 2 w a, false⟩) :: (oU, ⟨80, slR 2 h b, false⟩) :: (oV, ⟨80, slR 2 h c, false⟩) :: rowsH 84 (a ++ b ++ c) (rI W)
def WorkQ (h w : Nat) (W : List (List Int)) (nx : Nat) (x : V) (hp' : List (Nat × Blk)) (nx' : Nat) : Prop :=
 ∃ p oM oU oV a b c, WOk p oM oU oV a b c h nx nx' ∧ x = .pt p 0 ∧ hp' = wkH p oM oU oV h w a b c W
theorem pushF {L : Nat → Bool} {i j t u : Nat} {sl : List (Nat × V)} {x v : V} (hij : j ≠ i) (htu : u ≠ t) (f : L j = true → get sl u = v) : addL L i j = true → get ((t, x) :: sl) u = v := by
 intro e
 unfold addL at e
 rw [if_neg hij] at e
 simp only [get]
 rw [if_neg htu]
 exact f e
theorem addL_ne {L : Nat → Bool} {i j : Nat} (h : j ≠ i) : addL L i j = L j := by unfold addL; rw [if_neg h]
theorem addL_eq {L : Nat → Bool} {i : Nat} : addL L i i = true := by unfold addL; rw [if_pos rfl]
theorem get_push {sl : List (Nat × V)} {t u : Nat} {x : V} (h : u ≠ t) : get ((t, x) :: sl) u = get sl u := by simp only [get]; rw [if_neg h]
theorem StP.push {n0 h w : Nat} {b0 : Blk} {A : List (List Int)} {L : Nat → Bool} {sl : List (Nat × V)} {hp : List (Nat × Blk)} {nx i t : Nat} {x : V} (hi : i ∈ [0, 2, 3, 5, 6]) (ht : t ∈ [3, 5, 6, 8, 9]) (hP : StP n0 h w b0 A L sl hp nx) : StP n0 h w b0 A (addL L i) ((t, x) :: sl) hp nx := by
 have i1 : 1 ≠ i := by rintro rfl; simp at hi
 have i4 : 4 ≠ i := by rintro rfl; simp at hi
 have i7 : 7 ≠ i := by rintro rfl; simp at hi
 have i8 : 8 ≠ i := by rintro rfl; simp at hi
 have i9 : 9 ≠ i := by rintro rfl; simp at hi
 have i10 : 10 ≠ i := by rintro rfl; simp at hi
 have t4 : 4 ≠ t := by rintro rfl; simp at ht
 have t7 : 7 ≠ t := by rintro rfl; simp at ht
 have t10 : 10 ≠ t := by rintro rfl; simp at ht
 have t11 : 11 ≠ t := by rintro rfl; simp at ht
 have t12 : 12 ≠ t := by rintro rfl; simp at ht
 have t2 : 2 ≠ t := by rintro rfl; simp at ht
 unfold StP at hP ⊢
 simp only [addL_ne i1, addL_ne i4, addL_ne i7, addL_ne i8, addL_ne i9, addL_ne i10, get_push t4, get_push t7, get_push t10, get_push t11, get_push t12, get_push t2]
 exact hP
theorem rowsH_app {ty : TypeId} : ∀ {a b : List Nat} {r q : List (List V)}, a.length = r.length → rowsH ty (a ++ b) (r ++ q) = rowsH ty a r ++ rowsH ty b q
 | [], b, [], q, _ => rfl
 | x :: a, b, y :: r, q, h => by
  rw [zl8, zl8, rowsH, rowsH, rowsH_app (by simpa using h)]; rfl
theorem kl_mat {o w h lo hi : Nat} {ids : List Nat} {M : List (List Int)} (hR : RowsOk o ids h lo hi) : ∀ id k, hget (matH o w ids M) id = some k → lo ≤ id ∧ id < hi := by
 intro id k hk
 rcases inR_rows (fun i hi => hi) id k hk with e | e
 ·subst e; exact hR.o1
 ·exact hR.lt _ e
theorem kl_app {a b : List (Nat × Blk)} {n : Nat} (h1 : ∀ id k, hget a id = some k → id < n) (h2 : ∀ id k, hget b id = some k → id < n) : ∀ id k, hget (a ++ b) id = some k → id < n := by
 intro id k hk
 rw [hget_app] at hk
 cases e : hget a id with
 | some q => exact h1 id q e
 | none => rw [e] at hk; exact h2 id k hk
theorem wok_of {oM oU oV h lo n1 n2 p : Nat} {a b c : List Nat} (p3 : RowsOk oM a h lo n1) (p4 : RowsOk oU b h n1 n2) (p5 : RowsOk oV c h n2 p) : WOk p oM oU oV a b c h lo (p + 1) := by
 have ho := p3.o1
 have ho2 := p4.o1
 have ho3 := p5.o1
 have mem : ∀ i, i ∈ a ++ b ++ c → (i ∈ a ∧ lo ≤ i ∧ i < n1) ∨ (i ∈ b ∧ n1 ≤ i ∧ i < n2) ∨ (i ∈ c ∧ n2 ≤ i ∧ i < p) := by
  intro i hi
  rcases List.mem_append.1 hi with hi | hi
  ·rcases List.mem_append.1 hi with hi | hi
   ·exact .inl ⟨hi, p3.lt i hi⟩
   ·exact .inr (.inl ⟨hi, p4.lt i hi⟩)
  ·exact .inr (.inr ⟨hi, p5.lt i hi⟩)
 refine ⟨p3.len, p4.len, p5.len, ?_, ?_⟩
 ·refine List.nodup_cons.2 ⟨fun hm => ?_, List.nodup_cons.2 ⟨fun hm => ?_, List.nodup_cons.2 ⟨fun hm => ?_, List.nodup_cons.2 ⟨fun hm => ?_, ?_⟩⟩⟩⟩
  ·simp only [List.mem_cons] at hm
   rcases hm with e | e | e | e
   ·omega
   ·omega
   ·omega
   ·have := mem p e; omega
  ·simp only [List.mem_cons] at hm
   rcases hm with e | e | e
   ·omega
   ·omega
   ·rcases mem oM e with ⟨h1, _⟩ | h1 | h1
    ·exact p3.o2 h1
    ·omega
    ·omega
  ·simp only [List.mem_cons] at hm
   rcases hm with e | e
   ·omega
   ·rcases mem oU e with h1 | ⟨h1, _⟩ | h1
    ·omega
    ·exact p4.o2 h1
    ·omega
  ·rcases mem oV hm with h1 | h1 | ⟨h1, _⟩
   ·omega
   ·omega
   ·exact p5.o2 h1
  ·rw [List.nodup_append, List.nodup_append]
   refine ⟨⟨p3.nod, p4.nod, fun x hx y hy => ?_⟩, p5.nod, fun x hx y hy => ?_⟩
   ·have := p3.lt x hx; have := p4.lt y hy; omega
   ·have := mem x (List.mem_append_left _ hx)
    have h5 := p5.lt y hy
    rcases List.mem_append.1 hx with hx | hx
    ·have := p3.lt x hx; omega
    ·have := p4.lt x hx; omega
 ·intro i hi
  simp only [List.mem_cons] at hi
  rcases hi with rfl | rfl | rfl | rfl | hi
  ·omega
  ·omega
  ·omega
  ·omega
  ·have := mem i hi; omega
theorem wk_heap {oM oU oV h w lo n0 n1 n2 p : Nat} {a b c : List Nat} {b0 : Blk} {A U C : List (List Int)} (p3 : RowsOk oM a h lo n1) (p4 : RowsOk oU b h n1 n2) (p5 : RowsOk oV c h n2 p) (hn : n0 < lo) (hA : A.length = h) (hU : U.length = h) (hC : C.length = h) :
  ∀ id k, hget (wkH p oM oU oV h w a b c (A ++ U ++ C)) id = some k → hget ((p, ⟨140, workC h w oM oU oV, false⟩) :: ([(n0, b0)] ++ matH oM w a A ++ matH oU h b U ++ matH oV h c C)) id = some k := by
 have ho := p3.o1
 have ho2 := p4.o1
 have ho3 := p5.o1
 have e1 : rI (A ++ U ++ C) = rI A ++ rI U ++ rI C := by simp [rI]
 have e2 : rowsH 84 (a ++ b ++ c) (rI (A ++ U ++ C)) = rowsH 84 a (rI A) ++ rowsH 84 b (rI U) ++ rowsH 84 c (rI C) := by
  rw [e1, rowsH_app (by rw [zl1, zl1, rI_len, rI_len, p3.len, p4.len]; omega), rowsH_app (by rw [rI_len, p3.len]; omega)]
 have na : ∀ id, n1 ≤ id → hget (rowsH 84 a (rI A)) id = none := fun id h1 => rows_none fun hm => by have := p3.lt id hm; omega
 have nb : ∀ id, n2 ≤ id → hget (rowsH 84 b (rI U)) id = none := fun id h1 => rows_none fun hm => by have := p4.lt id hm; omega
 have sa : ∀ id k, hget (rowsH 84 a (rI A)) id = some k → lo ≤ id ∧ id < n1 := fun id k hk => by
  obtain ⟨q, q1, _, q3, _⟩ := rows_inv hk
  rw [← q3]; exact p3.lt _ (getD_mem' q1)
 have sb : ∀ id k, hget (rowsH 84 b (rI U)) id = some k → n1 ≤ id ∧ id < n2 := fun id k hk => by
  obtain ⟨q, q1, _, q3, _⟩ := rows_inv hk
  rw [← q3]; exact p4.lt _ (getD_mem' q1)
 have sc : ∀ id k, hget (rowsH 84 c (rI C)) id = some k → n2 ≤ id ∧ id < p := fun id k hk => by
  obtain ⟨q, q1, _, q3, _⟩ := rows_inv hk
  rw [← q3]; exact p5.lt _ (getD_mem' q1)
 intro id k hk
 unfold wkH at hk
 rw [e2] at hk
 unfold matH
 simp only [hget, hget_app, zl8, zl7, zl6] at hk ⊢
 by_cases c1 : id = p
 ·rw [if_pos c1] at hk ⊢; exact hk
 rw [if_neg c1] at hk ⊢
 by_cases c2 : id = oM
 ·rw [if_pos c2] at hk
  rw [if_neg (by omega), if_pos c2]; exact hk
 rw [if_neg c2] at hk
 by_cases c3 : id = oU
 ·rw [if_pos c3] at hk
  rw [if_neg (by omega), if_neg c2, na id (by omega)]
  simp only
  rw [if_pos c3]; exact hk
 rw [if_neg c3] at hk
 by_cases c4 : id = oV
 ·rw [if_pos c4] at hk
  rw [if_neg (by omega), if_neg c2, na id (by omega)]
  simp only
  rw [if_neg c3, nb id (by omega)]
  simp only
  rw [if_pos c4]; exact hk
 rw [if_neg c4] at hk
 have hlo : lo ≤ id := by
  cases x1 : hget (rowsH 84 a (rI A)) id with
  | some q => exact (sa id q x1).1
  | none =>
   rw [x1] at hk
   simp only at hk
   cases x2 : hget (rowsH 84 b (rI U)) id with
   | some q => have := sb id q x2; omega
   | none =>
    rw [x2] at hk
    simp only at hk
    have := sc id k hk; omega
 rw [if_neg (by omega), if_neg c2, if_neg c3, if_neg c4]
 exact hk
set_option maxHeartbeats 8000000 in
set_option maxRecDepth 8000 in
theorem hstart_q {h w K : Nat} {A : List (List Int)} (n0 : Nat) (hA : MI h w K A) (hK : K ≤ 90000000000) (hn : h ≤ 1000000) (hw : w ≤ 1000000) :
  InlQ Try.prog 98 [mat w A] [] n0 (WorkQ h w (A ++ idL h ++ idL h) n0) := by
 have hAl := hA.len
 have c1 := fun n => rcopyI_q n hA hK hn hw
 have c2 := fun n => rident_q h n hn
 unfold mat at c1 ⊢
 rw [hAl] at c1 ⊢
 refine InlQ.run Try.func98 rfl Try.ntmps98 (by simp) qT fun B hB => ?_
 have nx := n0
 refine qY ?_
 refine SC.inv (StJ n0 h w ⟨34, [.sc (.int .i64 h), .sc (.int .i64 w), .im (imR w (rI A)) h], false⟩ A) Tab.mixed (by kernel_rfl) ?_ ?_ ?_
 ·refine ⟨rfl, rfl, (fun e => by cases e), (fun e => by cases e), (fun e => by cases e), (fun e => by cases e), (fun e => by cases e), by simp [hget], .inl ⟨rfl, rfl, rfl⟩⟩
 ·intro L s i o hcl hJ ho hi hd
  obtain ⟨sl, hp, m, nt⟩ := s
  obtain ⟨hnt, g1, f0, f2, f3, f5, f6, hG, hP⟩ := hJ
  simp only at hnt g1 f0 f2 f3 f5 f6 hG hP
  subst hnt
  have k41 : L 4 = true → L 1 = true := fun e => hcl 4 1 e (by kernel_rfl)
  have k74 : L 7 = true → L 4 = true := fun e => hcl 7 4 e (by kernel_rfl)
  have k87 : L 8 = true → L 7 = true := fun e => hcl 8 7 e (by kernel_rfl)
  have k98 : L 9 = true → L 8 = true := fun e => hcl 9 8 e (by kernel_rfl)
  have k109 : L 10 = true → L 9 = true := fun e => hcl 10 9 e (by kernel_rfl)
  match i, ho, hi, hd with
  | 0, ho, hi, hd =>
   cases ho
   refine SO.run (qTf (Q2 @g1 @hG)) (SO.nil ?_)
   exact ⟨rfl, g1, fun _ => rfl, pushF (by decide) (by decide) f2, pushF (by decide) (by decide) f3, pushF (by decide) (by decide) f5, pushF (by decide) (by decide) f6, hG, hP.push (by decide) (by decide)⟩
  | 2, ho, hi, hd =>
   cases ho
   refine SO.run (qTf (Q2 @g1 @hG)) (SO.nil ?_)
   exact ⟨rfl, g1, pushF (by decide) (by decide) f0, fun _ => rfl, pushF (by decide) (by decide) f3, pushF (by decide) (by decide) f5, pushF (by decide) (by decide) f6, hG, hP.push (by decide) (by decide)⟩
  | 3, ho, hi, hd =>
   cases ho
   have f2' := f2 (hd 2 (by kernel_rfl))
   refine SO.run (qTf (Q3 @g1 @hG @f2')) (SO.nil ?_)
   exact ⟨rfl, g1, pushF (by decide) (by decide) f0, pushF (by decide) (by decide) f2, fun _ => rfl, pushF (by decide) (by decide) f5, pushF (by decide) (by decide) f6, hG, hP.push (by decide) (by decide)⟩
  | 5, ho, hi, hd =>
   cases ho
   refine SO.run (qTf (Q2 @g1 @hG)) (SO.nil ?_)
   exact ⟨rfl, g1, pushF (by decide) (by decide) f0, pushF (by decide) (by decide) f2, pushF (by decide) (by decide) f3, fun _ => rfl, pushF (by decide) (by decide) f6, hG, hP.push (by decide) (by decide)⟩
  | 6, ho, hi, hd =>
   cases ho
   have f5' := f5 (hd 5 (by kernel_rfl))
   refine SO.run (qTf (Q3 @g1 @hG @f5')) (SO.nil ?_)
   exact ⟨rfl, g1, pushF (by decide) (by decide) f0, pushF (by decide) (by decide) f2, pushF (by decide) (by decide) f3, pushF (by decide) (by decide) f5, fun _ => rfl, hG, hP.push (by decide) (by decide)⟩
  | 1, ho, hi, hd =>
   cases ho
   have f0' := f0 (hd 0 (by kernel_rfl))
   rcases hP with ⟨_, rfl, rfl⟩ | ⟨_, _, e, _⟩ | ⟨_, _, _, _, _, e, _⟩ | ⟨_, _, _, _, _, _, _, _, e, _⟩ | ⟨_, _, _, _, _, _, _, _, e, _⟩ | ⟨_, _, _, _, _, _, _, _, _, e, _⟩ | ⟨_, _, _, _, _, _, _, _, _, e, _⟩
   ·refine SO.inlQ qS (by rfl) (qSf @f0') qS (SInlQ.newR (c1 (n0 + 1)) ?_ ?_ ?_)
    ·exact klc (by omega) kln
    ·exact fun x hp' nx' h => matQ_new h
    rintro x hp' nx' ⟨o, ids, hR, rfl, rfl⟩
    rw [hAl] at hR ⊢
    refine SO.nil ?_
    refine ⟨rfl, g1, pushF (by decide) (by decide) f0, pushF (by decide) (by decide) f2, pushF (by decide) (by decide) f3, pushF (by decide) (by decide) f5, pushF (by decide) (by decide) f6, by simp [hget], .inr (.inl ⟨o, ids, addL_eq, ?_, hR, rfl, rfl⟩)⟩
    rw [addL_ne (by decide)]
    cases h4 : L 4 with
    | false => rfl
    | true => rw [k41 h4] at hi; cases hi
   all_goals (exfalso; simp_all)
  | 4, ho, hi, hd =>
   cases ho
   have f3' := f3 (hd 3 (by kernel_rfl))
   have d1 := hd 1 (by kernel_rfl)
   rcases hP with ⟨e, _⟩ | ⟨oM, a, p1, p2, p3, p4, rfl⟩ | ⟨oM, a, n1, oU, b, p1, p2, p3, p4, p5, p6, rfl⟩ | ⟨oM, a, n1, oU, b, n2, oV, c, p1, p2, p3, p4, p5, p6, p7, p8, rfl⟩ | ⟨oM, a, n1, oU, b, n2, oV, c, p1, p2, p3, p4, p5, p6, rfl⟩ | ⟨oM, a, n1, oU, b, n2, oV, c, p, p1, p2, p3, p4, p5, rfl, p6, rfl⟩ | ⟨oM, a, n1, oU, b, n2, oV, c, p, p1, p3, p4, p5, rfl, p6, rfl⟩
   ·rw [d1] at e; cases e
   ·have q1 := kl_mat (w := w) (M := A) p3
    have ho := p3.o1
    refine SO.inlQ qS (by rfl) (qSf @f3') qS (SInlQ.newR (c2 m) ?_ ?_ ?_)
    ·exact kl_app (klc (by omega) kln) fun id k hk => (q1 id k hk).2
    ·exact fun x hp' nx' h => matQ_new h
    rintro x hp' nx' ⟨o, ids, hR, rfl, rfl⟩
    have hil : (idL h).length = h := mkM_len
    rw [hil] at hR ⊢
    refine SO.nil ?_
    refine ⟨rfl, g1, pushF (by decide) (by decide) f0, pushF (by decide) (by decide) f2, pushF (by decide) (by decide) f3, pushF (by decide) (by decide) f5, pushF (by decide) (by decide) f6, by simp [hget], .inr (.inr (.inl ⟨oM, a, m, o, ids, addL_eq, ?_, p3, hR, (get_push (by decide)).trans p4, rfl, rfl⟩))⟩
    rw [addL_ne (by decide)]
    cases h4 : L 7 with
    | false => rfl
    | true => rw [k74 h4] at hi; cases hi
   ·rw [hi] at p1; cases p1
   ·rw [k74 p1] at hi; cases hi
   ·rw [k74 (k87 p1)] at hi; cases hi
   ·rw [k74 (k87 (k98 p1))] at hi; cases hi
   ·rw [k74 (k87 (k98 (k109 p1)))] at hi; cases hi
  | 7, ho, hi, hd =>
   cases ho
   have f6' := f6 (hd 6 (by kernel_rfl))
   have d1 := hd 4 (by kernel_rfl)
   rcases hP with ⟨e, _⟩ | ⟨oM, a, p1, p2, p3, p4, rfl⟩ | ⟨oM, a, n1, oU, b, p1, p2, p3, p4, p5, p6, rfl⟩ | ⟨oM, a, n1, oU, b, n2, oV, c, p1, p2, p3, p4, p5, p6, p7, p8, rfl⟩ | ⟨oM, a, n1, oU, b, n2, oV, c, p1, p2, p3, p4, p5, p6, rfl⟩ | ⟨oM, a, n1, oU, b, n2, oV, c, p, p1, p2, p3, p4, p5, rfl, p6, rfl⟩ | ⟨oM, a, n1, oU, b, n2, oV, c, p, p1, p3, p4, p5, rfl, p6, rfl⟩
   ·rw [k41 d1] at e; cases e
   ·rw [d1] at p2; cases p2
   ·have q1 := kl_mat (w := w) (M := A) p3
    have q2 := kl_mat (w := h) (M := idL h) p4
    have ho := p3.o1
    have ho2 := p4.o1
    refine SO.inlQ qS (by rfl) (qSf @f6') qS (SInlQ.newR (c2 m) ?_ ?_ ?_)
    ·exact kl_app (kl_app (klc (by omega) kln) fun id k hk => by have := q1 id k hk; omega) fun id k hk => (q2 id k hk).2
    ·exact fun x hp' nx' h => matQ_new h
    rintro x hp' nx' ⟨o, ids, hR, rfl, rfl⟩
    have hil : (idL h).length = h := mkM_len
    rw [hil] at hR ⊢
    refine SO.nil ?_
    refine ⟨rfl, g1, pushF (by decide) (by decide) f0, pushF (by decide) (by decide) f2, pushF (by decide) (by decide) f3, pushF (by decide) (by decide) f5, pushF (by decide) (by decide) f6, by simp [hget], .inr (.inr (.inr (.inl ⟨oM, a, n1, oU, b, m, o, ids, addL_eq, ?_, p3, p4, hR, (get_push (by decide)).trans p5, (get_push (by decide)).trans p6, rfl, rfl⟩)))⟩
    rw [addL_ne (by decide)]
    cases h4 : L 8 with
    | false => rfl
    | true => rw [k87 h4] at hi; cases hi
   ·rw [hi] at p1; cases p1
   ·rw [k87 p1] at hi; cases hi
   ·rw [k87 (k98 p1)] at hi; cases hi
   ·rw [k87 (k98 (k109 p1))] at hi; cases hi
  | 8, ho, hi, hd =>
   cases ho
   have d1 := hd 7 (by kernel_rfl)
   rcases hP with ⟨e, _⟩ | ⟨oM, a, p1, p2, p3, p4, rfl⟩ | ⟨oM, a, n1, oU, b, p1, p2, p3, p4, p5, p6, rfl⟩ | ⟨oM, a, n1, oU, b, n2, oV, c, p1, p2, p3, p4, p5, p6, p7, p8, rfl⟩ | ⟨oM, a, n1, oU, b, n2, oV, c, p1, p2, p3, p4, p5, p6, rfl⟩ | ⟨oM, a, n1, oU, b, n2, oV, c, p, p1, p2, p3, p4, p5, rfl, p6, rfl⟩ | ⟨oM, a, n1, oU, b, n2, oV, c, p, p1, p3, p4, p5, rfl, p6, rfl⟩
   ·rw [k41 (k74 d1)] at e; cases e
   ·rw [k74 d1] at p2; cases p2
   ·rw [d1] at p2; cases p2
   ·unfold matT at p6 p7 p8
    refine SO.run (qTf (Q3 @p6 @p7 @p8)) (SO.nil ?_)
    refine ⟨rfl, g1, pushF (by decide) (by decide) f0, pushF (by decide) (by decide) f2, pushF (by decide) (by decide) f3, pushF (by decide) (by decide) f5, pushF (by decide) (by decide) f6, by simp [hget], .inr (.inr (.inr (.inr (.inl ⟨oM, a, n1, oU, b, n2, oV, c, addL_eq, ?_, p3, p4, p5, rfl, rfl⟩))))⟩
    rw [addL_ne (by decide)]
    cases h4 : L 9 with
    | false => rfl
    | true => rw [k98 h4] at hi; cases hi
   ·rw [hi] at p1; cases p1
   ·rw [k98 p1] at hi; cases hi
   ·rw [k98 (k109 p1)] at hi; cases hi
  | 9, ho, hi, hd =>
   cases ho
   have d1 := hd 8 (by kernel_rfl)
   rcases hP with ⟨e, _⟩ | ⟨oM, a, p1, p2, p3, p4, rfl⟩ | ⟨oM, a, n1, oU, b, p1, p2, p3, p4, p5, p6, rfl⟩ | ⟨oM, a, n1, oU, b, n2, oV, c, p1, p2, p3, p4, p5, p6, p7, p8, rfl⟩ | ⟨oM, a, n1, oU, b, n2, oV, c, p1, p2, p3, p4, p5, p6, rfl⟩ | ⟨oM, a, n1, oU, b, n2, oV, c, p, p1, p2, p3, p4, p5, rfl, p6, rfl⟩ | ⟨oM, a, n1, oU, b, n2, oV, c, p, p1, p3, p4, p5, rfl, p6, rfl⟩
   ·rw [k41 (k74 (k87 d1))] at e; cases e
   ·rw [k74 (k87 d1)] at p2; cases p2
   ·rw [k87 d1] at p2; cases p2
   ·rw [d1] at p2; cases p2
   ·unfold workC at p6
    refine SO.run (qTf @p6) (SO.nil ?_)
    have ho := p3.o1
    have ho2 := p4.o1
    have ho3 := p5.o1
    refine ⟨rfl, g1, pushF (by decide) (by decide) f0, pushF (by decide) (by decide) f2, pushF (by decide) (by decide) f3, pushF (by decide) (by decide) f5, pushF (by decide) (by decide) f6, ?_, .inr (.inr (.inr (.inr (.inr (.inl ⟨oM, a, n1, oU, b, n2, oV, c, m, addL_eq, ?_, p3, p4, p5, rfl, rfl, rfl⟩)))))⟩
    ·exact (if_neg (by omega)).trans hG
    rw [addL_ne (by decide)]
    cases h4 : L 10 with
    | false => rfl
    | true => rw [k109 h4] at hi; cases hi
   ·rw [hi] at p1; cases p1
   ·rw [k109 p1] at hi; cases hi
  | 10, ho, hi, hd =>
   cases ho
   have d1 := hd 9 (by kernel_rfl)
   rcases hP with ⟨e, _⟩ | ⟨oM, a, p1, p2, p3, p4, rfl⟩ | ⟨oM, a, n1, oU, b, p1, p2, p3, p4, p5, p6, rfl⟩ | ⟨oM, a, n1, oU, b, n2, oV, c, p1, p2, p3, p4, p5, p6, p7, p8, rfl⟩ | ⟨oM, a, n1, oU, b, n2, oV, c, p1, p2, p3, p4, p5, p6, rfl⟩ | ⟨oM, a, n1, oU, b, n2, oV, c, p, p1, p2, p3, p4, p5, rfl, p6, rfl⟩ | ⟨oM, a, n1, oU, b, n2, oV, c, p, p1, p3, p4, p5, rfl, p6, rfl⟩
   ·rw [k41 (k74 (k87 (k98 d1)))] at e; cases e
   ·rw [k74 (k87 (k98 d1))] at p2; cases p2
   ·rw [k87 (k98 d1)] at p2; cases p2
   ·rw [k98 d1] at p2; cases p2
   ·rw [d1] at p2; cases p2
   ·refine SO.run (qTf @p6) (SO.nil ?_)
    exact ⟨rfl, g1, pushF (by decide) (by decide) f0, pushF (by decide) (by decide) f2, pushF (by decide) (by decide) f3, pushF (by decide) (by decide) f5, pushF (by decide) (by decide) f6, hG, .inr (.inr (.inr (.inr (.inr (.inr ⟨oM, a, n1, oU, b, n2, oV, c, p, addL_eq, p3, p4, p5, rfl, rfl, rfl⟩)))))⟩
   ·rw [hi] at p1; cases p1
  | n + 11, ho, hi, hd => cases ho
 ·intro L s hL hJ
  obtain ⟨sl, hp, m, nt⟩ := s
  obtain ⟨hnt, g1, f0, f2, f3, f5, f6, hG, hP⟩ := hJ
  simp only at hnt g1 f0 f2 f3 f5 f6 hG hP
  subst hnt
  have l1 : L 1 = true := hL 1 (by decide)
  have l4 : L 4 = true := hL 4 (by decide)
  have l7 : L 7 = true := hL 7 (by decide)
  have l8 : L 8 = true := hL 8 (by decide)
  have l9 : L 9 = true := hL 9 (by decide)
  have l10 : L 10 = true := hL 10 (by decide)
  rcases hP with ⟨e, _⟩ | ⟨oM, a, p1, p2, p3, p4, rfl⟩ | ⟨oM, a, n1, oU, b, p1, p2, p3, p4, p5, p6, rfl⟩ | ⟨oM, a, n1, oU, b, n2, oV, c, p1, p2, p3, p4, p5, p6, p7, p8, rfl⟩ | ⟨oM, a, n1, oU, b, n2, oV, c, p1, p2, p3, p4, p5, p6, rfl⟩ | ⟨oM, a, n1, oU, b, n2, oV, c, p, p1, p2, p3, p4, p5, rfl, p6, rfl⟩ | ⟨oM, a, n1, oU, b, n2, oV, c, p, p1, p3, p4, p5, rfl, p6, rfl⟩
  ·rw [l1] at e; cases e
  ·rw [l4] at p2; cases p2
  ·rw [l7] at p2; cases p2
  ·rw [l8] at p2; cases p2
  ·rw [l9] at p2; cases p2
  ·rw [l10] at p2; cases p2
  ·have ho := p3.o1
   have hil : (idL h).length = h := mkM_len
   refine qY ?_
   refine retIQ_ret (.pt p 0) (wkH p oM oU oV h w a b c (A ++ idL h ++ idL h)) (p + 1) Try.results98 (qTf @p6) ⟨p, oM, oU, oV, a, b, c, ?_, rfl, rfl⟩ ?_
   ·have hw := wok_of p3 p4 p5
    exact ⟨hw.la, hw.lb, hw.lc, hw.nod, fun i hi => by have := hw.rng i hi; omega⟩
   ·refine Le.slots ?_ (wk_heap p3 p4 p5 (by omega) hAl hil hil) (znb _)
    exact leSl_cons rfl (VLe.refl rfl) leSl_nil
end Go.Proofs.Ytdkkgndibagihaa
namespace Go.Proofs.Ytdkkgndibagihaa
open Go.RowKit
structure WIds (p oM oU oV : Nat) (a b c : List Nat) (h nx : Nat) : Prop where
 la : a.length = h
 lb : b.length = h
 lc : c.length = h
 nod : (p :: oM :: oU :: oV :: (a ++ b ++ c)).Nodup
 rng : ∀ i ∈ p :: oM :: oU :: oV :: (a ++ b ++ c), i < nx
structure WI (h w K : Nat) (W : List (List Int)) : Prop where
 len : W.length = 3 * h
 rowM : ∀ q, q < h → (W.getD q []).length = w
 rowU : ∀ q, h ≤ q → q < 3 * h → (W.getD q []).length = h
 fit : ∀ q t, Fits K ((W.getD q []).getD t 0)
theorem WI.mono {h w K L : Nat} {W : List (List Int)} (hW : WI h w K W) (hl : K ≤ L) : WI h w L W := ⟨hW.len, hW.rowM, hW.rowU, fun q t => (hW.fit q t).mono hl⟩
theorem fits0 {K : Nat} : Fits K 0 := by unfold Fits; exact Nat.pow_pos (by omega)
theorem WI.set {h w K q : Nat} {W : List (List Int)} {r : List Int} (hW : WI h w K W) (hq : q < 3 * h) (hr : r.length = (W.getD q []).length) (hf : ∀ t, Fits K (r.getD t 0)) : WI h w K (W.set q r) := by
 have hl := hW.len
 refine ⟨by rw [List.length_set]; exact hl, fun i hi => ?_, fun i h1 h2 => ?_, fun i t => ?_⟩
 ·rw [getD_set (by omega)]
  split
  ·rename_i e; rw [hr, ← e]; exact hW.rowM i hi
  ·exact hW.rowM i hi
 ·rw [getD_set (by omega)]
  split
  ·rename_i e; rw [hr, ← e]; exact hW.rowU i h1 h2
  ·exact hW.rowU i h1 h2
 ·rw [getD_set (by omega)]
  split
  ·exact hf t
  ·exact hW.fit i t
theorem nodup_four {p oM oU oV : Nat} {l : List Nat} (h : (p :: oM :: oU :: oV :: l).Nodup) : p ≠ oM ∧ p ≠ oU ∧ p ≠ oV ∧ oM ≠ oU ∧ oM ≠ oV ∧ oU ≠ oV ∧ p ∉ l ∧ oM ∉ l ∧ oU ∉ l ∧ oV ∉ l ∧ l.Nodup := by
 simp only [List.nodup_cons, List.mem_cons, not_or] at h
 obtain ⟨⟨h1, h2, h3, h4⟩, ⟨h5, h6, h7⟩, ⟨h8, h9⟩, h10, h11⟩ := h
 exact ⟨h1, h2, h3, h5, h6, h8, h4, h7, h9, h10, h11⟩
theorem getD_app1 {a b : List Nat} {i : Nat} (h : i < a.length) : (a ++ b).getD i 0 = a.getD i 0 := by
 rw [List.getD_eq_getElem?_getD, List.getElem?_append_left h, List.getD_eq_getElem?_getD]
theorem getD_app2 {a b : List Nat} {i : Nat} : (a ++ b).getD (a.length + i) 0 = b.getD i 0 := by
 rw [List.getD_eq_getElem?_getD, List.getElem?_append_right (by omega), znd, List.getD_eq_getElem?_getD]
section
variable {p oM oU oV h w K nx : Nat} {a b c : List Nat} {W : List (List Int)}
theorem WIds.iM (hI : WIds p oM oU oV a b c h nx) {i : Nat} (hi : i < h) : (a ++ b ++ c).getD i 0 = a.getD i 0 := by
 have := hI.la; have := hI.lb
 rw [getD_app1 (by rw [zl1]; omega), getD_app1 (by omega)]
theorem WIds.iU (hI : WIds p oM oU oV a b c h nx) {i : Nat} (hi : i < h) : (a ++ b ++ c).getD (h + i) 0 = b.getD i 0 := by
 have h1 := hI.la; have := hI.lb
 rw [getD_app1 (by rw [zl1]; omega)]
 have := getD_app2 (a := a) (b := b) (i := i)
 rwa [h1] at this
theorem WIds.iV (hI : WIds p oM oU oV a b c h nx) {i : Nat} : (a ++ b ++ c).getD (2 * h + i) 0 = c.getD i 0 := by
 have h1 := hI.la; have h2 := hI.lb
 have := getD_app2 (a := a ++ b) (b := c) (i := i)
 rwa [zl1, h1, h2, ← Nat.two_mul] at this
theorem WIds.row (hI : WIds p oM oU oV a b c h nx) (hl : W.length = 3 * h) {q : Nat} (hq : q < 3 * h) :
  hget (rowsH 84 (a ++ b ++ c) (rI W)) ((a ++ b ++ c).getD q 0) = some ⟨84, ivR (W.getD q []), false⟩ ∧ (a ++ b ++ c).getD q 0 < nx ∧ (a ++ b ++ c).getD q 0 ≠ p ∧ (a ++ b ++ c).getD q 0 ≠ oM ∧ (a ++ b ++ c).getD q 0 ≠ oU ∧ (a ++ b ++ c).getD q 0 ≠ oV := by
 obtain ⟨_, _, _, _, _, _, n1, n2, n3, n4, n5⟩ := nodup_four hI.nod
 have hll : (a ++ b ++ c).length = 3 * h := by rw [zl1, zl1, hI.la, hI.lb, hI.lc]; omega
 have hm := getD_mem' (ids := a ++ b ++ c) (k := q) (by omega)
 have hg := rows_get (ty := 84) (rs := rI W) (k := q) n5 (by omega) (by rw [rI_len]; omega)
 rw [rI_getD] at hg
 refine ⟨hg, hI.rng _ (by simp only [List.mem_cons]; exact .inr (.inr (.inr (.inr hm)))), fun e => n1 (e ▸ hm), fun e => n2 (e ▸ hm), fun e => n3 (e ▸ hm), fun e => n4 (e ▸ hm)⟩
theorem WIds.rowF (hI : WIds p oM oU oV a b c h nx) (hl : W.length = 3 * h) {q : Nat} (hq : q < 3 * h) :
  hget (rowsH 84 (a ++ b ++ c) (rI W)) ((a ++ b ++ c).getD q 0) = some ⟨84, ivR (W.getD q []), false⟩ ∧ (a ++ b ++ c).getD q 0 < nx ∧ ((a ++ b ++ c).getD q 0 = p) = False ∧ ((a ++ b ++ c).getD q 0 = oM) = False ∧ ((a ++ b ++ c).getD q 0 = oU) = False ∧ ((a ++ b ++ c).getD q 0 = oV) = False := by
 obtain ⟨h1, h2, h3, h4, h5, h6⟩ := hI.row hl hq
 exact ⟨h1, h2, eq_false h3, eq_false h4, eq_false h5, eq_false h6⟩
theorem WIds.nes (hI : WIds p oM oU oV a b c h nx) : (oM = p) = False ∧ (oU = p) = False ∧ (oU = oM) = False ∧ (oV = p) = False ∧ (oV = oM) = False ∧ (oV = oU) = False := by
 obtain ⟨z1, z2, z3, z4, z5, z6, _⟩ := nodup_four hI.nod
 exact ⟨eq_false z1.symm, eq_false z2.symm, eq_false z4.symm, eq_false z3.symm, eq_false z5.symm, eq_false z6.symm⟩
theorem WIds.rset (hI : WIds p oM oU oV a b c h nx) (hl : W.length = 3 * h) {q : Nat} (hq : q < 3 * h) (r : List Int) :
  hset (rowsH 84 (a ++ b ++ c) (rI W)) ((a ++ b ++ c).getD q 0) ⟨84, ivR r, false⟩ = rowsH 84 (a ++ b ++ c) (rI (W.set q r)) := by
 obtain ⟨_, _, _, _, _, _, _, _, _, _, n5⟩ := nodup_four hI.nod
 have hll : (a ++ b ++ c).length = 3 * h := by rw [zl1, zl1, hI.la, hI.lb, hI.lc]; omega
 have hs := rows_set (ty := 84) (rs := rI W) (k := q) (r := ivR r) n5 (by omega) (by rw [rI_len]; omega)
 rwa [rI_set] at hs
theorem WIds.ne (hI : WIds p oM oU oV a b c h nx) {q t : Nat} (hq : q < 3 * h) (ht : t < 3 * h) (hqt : q ≠ t) : (a ++ b ++ c).getD q 0 ≠ (a ++ b ++ c).getD t 0 := by
 obtain ⟨_, _, _, _, _, _, _, _, _, _, n5⟩ := nodup_four hI.nod
 have hll : (a ++ b ++ c).length = 3 * h := by rw [zl1, zl1, hI.la, hI.lb, hI.lc]; omega
 exact fun e => hqt (nodup_getD n5 (by omega) (by omega) e)
theorem WIds.kl (hI : WIds p oM oU oV a b c h nx) {m : Nat} (hm : nx ≤ m) : klB (rowsH 84 (a ++ b ++ c) (rI W)) m = true :=
 klB_rows fun j hj => Nat.lt_of_lt_of_le (hI.rng j (by simp only [List.mem_cons]; exact .inr (.inr (.inr (.inr hj))))) hm
theorem WIds.lts (hI : WIds p oM oU oV a b c h nx) : p < nx ∧ oM < nx ∧ oU < nx ∧ oV < nx := ⟨hI.rng _ (by simp), hI.rng _ (by simp), hI.rng _ (by simp), hI.rng _ (by simp)⟩
theorem Le.wkDown {B : Base} {sl sl' : List (Nat × V)} {hp : List (Nat × Blk)} {nx1 nt : Nat} (hB : ∃ m, B.Old m ∧ m ≤ nx) (hI : WIds p oM oU oV a b c h nx)
  (hs : ∀ id k, hget (wkH p oM oU oV h w a b c W) id = some k → hget hp id = some k) (h1 : mapSl (fun i => i) (fun i => i < nx) sl sl') :
  Le B ⟨sl, hp, nx1, nt⟩ ⟨sl', wkH p oM oU oV h w a b c W, nx, nt⟩ := by
 obtain ⟨m0, hB, hm0⟩ := hB
 obtain ⟨l1, l2, l3, l4⟩ := hI.lts
 have lr : ∀ i ∈ a ++ b ++ c, i < nx := fun i hi => hI.rng i (by simp only [List.mem_cons]; exact .inr (.inr (.inr (.inr hi))))
 refine Le.map (fun i => i) (fun i => i < nx) hB (fun i hi => ⟨by omega, rfl⟩) (fun i h => h) (fun i j _ _ e => e) h1 (fun i k' hk' hlt => ?_)
 rw [hs i k' hk']
 unfold wkH at hk'
 simp only [hget] at hk'
 split at hk'
 ·cases hk'
  exact BMap.list (mapL_cons (VMap.sc _) (mapL_cons (VMap.sc _) (mapL_cons (VMap.sl rfl l2) (mapL_cons (VMap.sc _) (mapL_cons (VMap.sc _) (mapL_cons (VMap.sl rfl l3) (mapL_cons (VMap.sc _) (mapL_cons (VMap.sc _) (mapL_cons (VMap.sl rfl l4) mapL_nil)))))))))
 split at hk'
 ·cases hk'
  refine ⟨_, rfl, rfl, rfl, fun j y hy => ⟨y, hy, ?_⟩⟩
  obtain ⟨q, hq, rfl⟩ := List.mem_map.1 (List.mem_of_getElem? hy)
  exact VMap.sl rfl (lr q (List.mem_append_left _ (List.mem_append_left _ hq)))
 split at hk'
 ·cases hk'
  refine ⟨_, rfl, rfl, rfl, fun j y hy => ⟨y, hy, ?_⟩⟩
  obtain ⟨q, hq, rfl⟩ := List.mem_map.1 (List.mem_of_getElem? hy)
  exact VMap.sl rfl (lr q (List.mem_append_left _ (List.mem_append_right _ hq)))
 split at hk'
 ·cases hk'
  refine ⟨_, rfl, rfl, rfl, fun j y hy => ⟨y, hy, ?_⟩⟩
  obtain ⟨q, hq, rfl⟩ := List.mem_map.1 (List.mem_of_getElem? hy)
  exact VMap.sl rfl (lr q (List.mem_append_right _ hq))
 ·obtain ⟨q, q1, q2, q3, rfl⟩ := rows_inv hk'
  exact BMap.clo (rI_clo W _ (by rw [List.getD_eq_getElem?_getD, zlb q2]; exact List.getElem_mem q2))
theorem wk_lt (hI : WIds p oM oU oV a b c h nx) : ∀ id k, hget (wkH p oM oU oV h w a b c W) id = some k → id < nx := by
 obtain ⟨l1, l2, l3, l4⟩ := hI.lts
 intro id k hk
 unfold wkH at hk
 simp only [hget] at hk
 split at hk
 ·omega
 split at hk
 ·omega
 split at hk
 ·omega
 split at hk
 ·omega
 ·obtain ⟨q, q1, _, q3, _⟩ := rows_inv hk
  rw [← q3]; exact hI.rng _ (by simp only [List.mem_cons]; exact .inr (.inr (.inr (.inr (getD_mem' q1)))))
end
end Go.Proofs.Ytdkkgndibagihaa
namespace Go.Proofs.Ytdkkgndibagihaa
open Go.RowKit
theorem fits_mulL {K L : Nat} {y k : Int} (hy : Fits K y) (hk : Fits L k) : Fits (K + L) (k * y) := by
 unfold Fits at *
 rw [Int.natAbs_mul, Nat.pow_add]
 calc k.natAbs * y.natAbs = y.natAbs * k.natAbs := Nat.mul_comm _ _
  _ < 4294967296 ^ K * 4294967296 ^ L := Nat.mul_lt_mul'' hy hk
theorem fits_sum {K : Nat} {x y : Int} (hx : Fits K x) (hy : Fits K y) : Fits (K + 1) (x + y) := by
 unfold Fits at *
 have h1 := Int.natAbs_add_le x y
 have h3 : 0 < 4294967296 ^ K := Nat.pow_pos (by omega)
 rw [Nat.pow_succ]
 generalize 4294967296 ^ K = T at *
 omega
theorem fits_neg {K : Nat} {x : Int} (hx : Fits K x) : Fits K (-x) := by unfold Fits at *; rwa [Int.natAbs_neg]
theorem fits_addL {K L : Nat} {x y k : Int} (hx : Fits K x) (hy : Fits K y) (hk : Fits L k) : Fits (K + L + 1) (x + k * y) := fits_sum (hx.mono (by omega)) (fits_mulL hy hk)
theorem fits_subL {K L : Nat} {x y k : Int} (hx : Fits K x) (hy : Fits K y) (hk : Fits L k) : Fits (K + L + 1) (x - k * y) := by
 rw [Int.sub_eq_add_neg]; exact fits_sum (hx.mono (by omega)) (fits_neg (fits_mulL hy hk))
def colPre (h i j : Nat) (k : Int) (r : Nat) (W : List (List Int)) : List (List Int) := W.mapIdx fun q row => if 2 * h ≤ q ∧ q < 2 * h + r then row.set j (row.getD j 0 - k * row.getD i 0) else row
theorem colPre_len {h i j : Nat} {k : Int} {r : Nat} {W : List (List Int)} : (colPre h i j k r W).length = W.length := by simp [colPre]
theorem colPre_get {h i j : Nat} {k : Int} {r q : Nat} {W : List (List Int)} (hq : q < W.length) : (colPre h i j k r W).getD q [] = if 2 * h ≤ q ∧ q < 2 * h + r then (W.getD q []).set j ((W.getD q []).getD j 0 - k * (W.getD q []).getD i 0) else W.getD q [] := by
 unfold colPre
 rw [List.getD_eq_getElem?_getD, List.getElem?_mapIdx, getD_get' (d := []) hq]; rfl
theorem rows_ext {a b : List (List Int)} (h : a.length = b.length) (hx : ∀ q, q < a.length → a.getD q [] = b.getD q []) : a = b := by
 refine List.ext_getElem h fun q h1 h2 => ?_
 have := hx q h1
 rw [List.getD_eq_getElem?_getD, List.getD_eq_getElem?_getD, zlb h1, zlb h2] at this
 simpa using this
theorem colPre_zero {h i j : Nat} {k : Int} {W : List (List Int)} : colPre h i j k 0 W = W := rows_ext colPre_len fun q hq => by
 rw [colPre_len] at hq
 rw [colPre_get hq, if_neg (by omega)]
theorem colPre_set {h i j : Nat} {k : Int} {r : Nat} {W : List (List Int)} (hr : 2 * h + r < W.length) : (colPre h i j k r W).set (2 * h + r) ((W.getD (2 * h + r) []).set j ((W.getD (2 * h + r) []).getD j 0 - k * (W.getD (2 * h + r) []).getD i 0)) = colPre h i j k (r + 1) W := by
 refine rows_ext (by rw [List.length_set, colPre_len, colPre_len]) fun q hq => ?_
 rw [List.length_set, colPre_len] at hq
 rw [getD_set (by rw [colPre_len]; exact hr), colPre_get hq, colPre_get hq]
 by_cases e : q = 2 * h + r
 ·rw [if_pos e, if_pos (by omega), e]
 ·rw [if_neg e]
  by_cases e2 : 2 * h ≤ q ∧ q < 2 * h + r
  ·rw [if_pos e2, if_pos (by omega)]
  ·rw [if_neg e2, if_neg (by omega)]
def addW (h i j : Nat) (k : Int) (W : List (List Int)) : List (List Int) :=
 colPre h i j k h ((W.set i (addI (W.getD i []) (W.getD j []) k)).set (h + i) (addI (W.getD (h + i) []) (W.getD (h + j) []) k))
theorem addW_wi {h w K L i j : Nat} {k : Int} {W : List (List Int)} (hW : WI h w K W) (hi : i < h) (hj : j < h) (hk : Fits L k) : WI h w (K + L + 1) (addW h i j k W) := by
 have hl := hW.len
 have key : ∀ q q', q < 3 * h → q' < 3 * h → ∀ t, Fits (K + L + 1) ((addI (W.getD q []) (W.getD q' []) k).getD t 0) := by
  intro q q' _ _ t
  by_cases ht : t < (W.getD q []).length
  ·rw [addI_get ht]; exact fits_addL (hW.fit q t) (hW.fit q' t) hk
  ·rw [List.getD_eq_getElem?_getD, List.getElem?_eq_none (by rw [addI_len]; omega)]; exact fits0
 have h1 := (hW.mono (Nat.le_add_right K (L + 1))).set (q := i) (r := addI (W.getD i []) (W.getD j []) k) (by omega) (by rw [addI_len]) (key i j (by omega) (by omega))
 have h2 := h1.set (q := h + i) (r := addI (W.getD (h + i) []) (W.getD (h + j) []) k) (by omega) (by rw [addI_len, getD_set (by omega), if_neg (by omega)]) (key (h + i) (h + j) (by omega) (by omega))
 unfold addW
 generalize hX : (W.set i (addI (W.getD i []) (W.getD j []) k)).set (h + i) (addI (W.getD (h + i) []) (W.getD (h + j) []) k) = X at *
 have hX2 : ∀ q, 2 * h ≤ q → q < 3 * h → X.getD q [] = W.getD q [] := by
  intro q h3 h4
  rw [← hX, getD_set (by rw [List.length_set]; omega), if_neg (by omega), getD_set (by omega), if_neg (by omega)]
 have hxl := h2.len
 refine ⟨by rw [colPre_len]; exact hxl, fun q hq => ?_, fun q h3 h4 => ?_, fun q t => ?_⟩
 ·rw [colPre_get (by omega), if_neg (by omega)]; exact h2.rowM q hq
 ·rw [colPre_get (by omega)]
  split
  ·rw [List.length_set]; exact h2.rowU q h3 h4
  ·exact h2.rowU q h3 h4
 ·by_cases hq : q < 3 * h
  ·rw [colPre_get (by omega)]
   split
   ·rename_i hc
    rw [hX2 q (by omega) hq]
    have hrl := hW.rowU q (by omega) hq
    rw [getD_set (by omega)]
    split
    ·exact fits_subL (hW.fit q j) (hW.fit q i) hk
    ·exact (hW.fit q t).mono (by omega)
   ·exact h2.fit q t
  ·rw [List.getD_eq_getElem?_getD (l := colPre _ _ _ _ _ _), List.getElem?_eq_none (by rw [colPre_len]; omega)]
   exact fits0
set_option maxHeartbeats 16000000 in
set_option maxRecDepth 8000 in
theorem addto_q {h w K L p oM oU oV nx i j : Nat} {a b c : List Nat} {W : List (List Int)} {k : Int} (hW : WI h w K W) (hk : Fits L k) (hK : K + L ≤ 100000000000) (hI : WIds p oM oU oV a b c h nx) (hi : i < h) (hj : j < h) (hij : i ≠ j) (hn : h ≤ 1000000) (hw : w ≤ 1000000) :
  InlQ Try.prog 100 [.pt p 0, .sc (.int .i64 i), .sc (.int .i64 j), iv k] (wkH p oM oU oV h w a b c W) nx (fun x hp' nx' => x = .tu [] ∧ nx' = nx ∧ hp' = wkH p oM oU oV h w a b c (addW h i j k W)) := by
 have hl := hW.len
 obtain ⟨l1, l2, l3, l4⟩ := hI.lts
 obtain ⟨z1, z2, z3, z4, z5, z6⟩ := hI.nes
 have v1 : p + 1 - nx = 0 := by omega
 have v2 : oM + 1 - nx = 0 := by omega
 have v3 : oU + 1 - nx = 0 := by omega
 have v4 : oV + 1 - nx = 0 := by omega
 have la := hI.la
 have lb := hI.lb
 have lc := hI.lc
 have ga := slR_len 2 w a
 have gb := slR_len 2 h b
 have gc := slR_len 2 h c
 rw [la] at ga
 rw [lb] at gb
 rw [lc] at gc
 unfold iv sv
 refine InlQ.run Try.func100 rfl Try.ntmps100 (by simp) (by unfold wkH workC; simp (disch := omega) only [go_sem, ↓reduceIte, zn1, zn2, zn3, zn4, zn5, zn6, reduceCtorEq, zn7, zi1, zi2, if_pos, if_neg, Int.reduceAdd, zn8, zna, Nat.zero_mul, Nat.add_zero, zn9, Nat.sub_zero, zl2, zl4, zl3, zl9, zl7, zl8, List.append_nil, List.take_length, List.take_nil, List.drop_nil, List.length_nil, List.length_set, List.length_replicate, List.flatten_nil, List.flatten_cons, Bool.not_true, Bool.not_false, Bool.false_eq_true, Bool.or_true, Bool.true_or, Bool.or_false, Bool.or_self, bne_self_eq_false, beq_self_eq_true]; rfl) fun B hB => ?_
 refine qWD ?_
 have e1 : (W).set (i) (addPreI 0 (W.getD (i) []) (W.getD (j) []) k) = W := by
  rw [addPreI_zero]
  have := setI_self (M := W) (i := i) (by omega)
  exact this
 refine SC.loop (fun t : Nat => ⟨[(0, .pt p 0), (1, .sc (.int .i64 i)), (2, .sc (.int .i64 j)), (7, .pt nx 0), (8, .sc (.int .i64 t))], (nx, ⟨84, [.sc (.bool (decide (k < 0))), .im (lv (limbsOf k.natAbs)) (limbsOf k.natAbs).length], false⟩) :: wkH p oM oU oV h w a b c ((W).set (i) (addPreI t (W.getD (i) []) (W.getD (j) []) k)), nx + 1, 143⟩)
  (fun t => t ≤ w) (fun t => w - t) 0 ?_ ?_ ?_
 ·rw [e1]
  unfold wkH workC
  exact qM
 ·exact znc _
 ·intro t ht K2 hK2
  have hrl : (W.getD (i) []).length = w := hW.rowM i hi
  have hrlj : (W.getD (j) []).length = w := hW.rowM j hj
  by_cases hc : t < w
  ·as_aux_lemma =>
    have q1 := decide_eq_true (p := (t : Int) < (w : Int)) (by omega)
    have hWl : ((W).set (i) (addPreI t (W.getD (i) []) (W.getD (j) []) k)).length = 3 * h := by rw [List.length_set]; exact hl
    have gi := slR_get (z := 2) (m := w) (ids := a) (k := i) (by omega)
    have gj := slR_get (z := 2) (m := w) (ids := a) (k := j) (by omega)
    obtain ⟨gR, y1, y2, y3, y4, y5⟩ := hI.rowF hWl (q := i) (by omega)
    obtain ⟨gRj, u1, u2, u3, u4, u5⟩ := hI.rowF hWl (q := j) (by omega)
    rw [getD_set (by omega), if_pos rfl] at gR
    rw [getD_set (by omega), if_neg (fun e => hij e.symm)] at gRj
    have c1 := mul_i k ((W.getD (j) []).getD t 0) (K + L) (hk.mono (by omega)) ((hW.fit (j) t).mono (by omega)) (by omega)
    have c2 := add_i ((W.getD (i) []).getD t 0) (k * (W.getD (j) []).getD t 0) (K + L) ((hW.fit (i) t).mono (by omega)) (fits_mulL (hW.fit (j) t) hk) (by omega)
    have gdj := ivR_drop (l := W.getD (j) []) (i := t) (by omega)
    have glj := ivR_len (W.getD (j) [])
    rw [hrlj] at glj
    have gl := ivR_len (addPreI t (W.getD (i) []) (W.getD (j) []) k)
    rw [addPreI_len, hrl] at gl
    have gd := ivR_drop (l := addPreI t (W.getD (i) []) (W.getD (j) []) k) (i := t) (by rw [addPreI_len]; omega)
    rw [addPreI_get (by omega), if_neg (by omega)] at gd
    have gs := ivR_set (l := addPreI t (W.getD (i) []) (W.getD (j) []) k) (i := t) ((W.getD (i) []).getD t 0 + k * (W.getD (j) []).getD t 0) (by rw [addPreI_len]; omega)
    rw [addPreI_set (by omega)] at gs
    have hrs := hI.rset hWl (q := i) (by omega) (addPreI (t + 1) (W.getD (i) []) (W.getD (j) []) k)
    rw [List.set_set] at hrs
    have hkl := hI.kl (W := (W).set (i) (addPreI t (W.getD (i) []) (W.getD (j) []) k)) (m := nx + 1) (by omega)
    rw [hI.iM hi] at gR y1 y2 y3 y4 y5 hrs
    rw [hI.iM hj] at gRj u1 u2 u3 u4 u5
    have v5 : a.getD i 0 + 1 - nx = 0 := zne y1
    have v6 : a.getD j 0 + 1 - nx = 0 := zne u1
    unfold wkH workC at *
    generalize (ivR (addPreI t (W.getD (i) []) (W.getD (j) []) k)).drop ((t + 1) * 2) = D at *
    generalize hA : ivR (addPreI t (W.getD (i) []) (W.getD (j) []) k) = A at *
    generalize (W.getD (i) []).getD t 0 = x at *
    generalize (ivR (W.getD (j) [])).drop ((t + 1) * 2) = Dj at *
    generalize hAj : ivR (W.getD (j) []) = Aj at *
    generalize (W.getD (j) []).getD t 0 = y at *
    generalize hA' : ivR (addPreI (t + 1) (W.getD (i) []) (W.getD (j) []) k) = A' at *
    generalize hH : rowsH 84 (a ++ b ++ c) (rI ((W).set (i) (addPreI t (W.getD (i) []) (W.getD (j) []) k))) = H at *
    generalize a.getD i 0 = idk at *
    generalize a.getD j 0 = idj at *
    unfold iv sv at c1 c2
    unfold ivC sv at gd gs gdj
    simp only [zl8, zl7] at gd gdj
    have g2j : t * 2 < Aj.length := by omega
    have g2 : t * 2 < A.length := by omega
    refine qWDf (Q2 (Q16 @q1 @ga @gb @gc @gi @gj @gR @gRj @gl @glj @gd @gdj @gs @g2 @g2j @hrs) (Q15 @hkl @z1 @z2 @z3 @z4 @z5 @z6 @y2 @y3 @y4 @y5 @u2 @u3 @u4 @u5)) ?_
    refine hK2 _ (t + 1) ?_ (by omega) (by omega)
    exact qM
  ·have htw : t = w := by omega
   have q1 := decide_eq_false (p := (w : Int) < (w : Int)) (by omega)
   rw [htw, addPreI_end hrl]
   unfold wkH workC
   refine qWDf (Q7 @q1 @z1 @z2 @z3 @z4 @z5 @z6) ?_
   have e2 : (W.set i (addI (W.getD i []) (W.getD j []) k)).set (h + i) (addPreI 0 (W.getD (h + i) []) (W.getD (h + j) []) k) = W.set i (addI (W.getD i []) (W.getD j []) k) := by
    rw [addPreI_zero]
    have := setI_self (M := W.set i (addI (W.getD i []) (W.getD j []) k)) (i := h + i) (by rw [List.length_set]; omega)
    rwa [getD_set (by omega), if_neg (by omega)] at this
   refine SC.loop (fun t : Nat => ⟨[(0, .pt p 0), (1, .sc (.int .i64 i)), (2, .sc (.int .i64 j)), (7, .pt nx 0), (9, .sc (.int .i64 t))], (nx, ⟨84, [.sc (.bool (decide (k < 0))), .im (lv (limbsOf k.natAbs)) (limbsOf k.natAbs).length], false⟩) :: wkH p oM oU oV h w a b c ((W.set i (addI (W.getD i []) (W.getD j []) k)).set (h + i) (addPreI t (W.getD (h + i) []) (W.getD (h + j) []) k)), nx + 1, 143⟩)
    (fun t => t ≤ h) (fun t => h - t) 0 ?_ ?_ ?_
   ·rw [e2]
    unfold wkH workC
    exact qM
   ·exact znc _
   ·intro t ht K2 hK2
    have hrl : (W.getD (h + i) []).length = h := hW.rowU (h + i) (by omega) (by omega)
    have hrlj : (W.getD (h + j) []).length = h := hW.rowU (h + j) (by omega) (by omega)
    by_cases hc : t < h
    ·as_aux_lemma =>
      have q1 := decide_eq_true (p := (t : Int) < (h : Int)) (by omega)
      have hWl : ((W.set i (addI (W.getD i []) (W.getD j []) k)).set (h + i) (addPreI t (W.getD (h + i) []) (W.getD (h + j) []) k)).length = 3 * h := by rw [List.length_set, List.length_set]; exact hl
      have gi := slR_get (z := 2) (m := h) (ids := b) (k := i) (by omega)
      have gj := slR_get (z := 2) (m := h) (ids := b) (k := j) (by omega)
      obtain ⟨gR, y1, y2, y3, y4, y5⟩ := hI.rowF hWl (q := h + i) (by omega)
      obtain ⟨gRj, u1, u2, u3, u4, u5⟩ := hI.rowF hWl (q := h + j) (by omega)
      rw [getD_set (by rw [List.length_set]; omega), if_pos rfl] at gR
      rw [getD_set (by rw [List.length_set]; omega), if_neg (fun e => hij (Nat.add_left_cancel e).symm), getD_set (by omega), if_neg (by omega)] at gRj
      have c1 := mul_i k ((W.getD (h + j) []).getD t 0) (K + L) (hk.mono (by omega)) ((hW.fit (h + j) t).mono (by omega)) (by omega)
      have c2 := add_i ((W.getD (h + i) []).getD t 0) (k * (W.getD (h + j) []).getD t 0) (K + L) ((hW.fit (h + i) t).mono (by omega)) (fits_mulL (hW.fit (h + j) t) hk) (by omega)
      have gdj := ivR_drop (l := W.getD (h + j) []) (i := t) (by omega)
      have glj := ivR_len (W.getD (h + j) [])
      rw [hrlj] at glj
      have gl := ivR_len (addPreI t (W.getD (h + i) []) (W.getD (h + j) []) k)
      rw [addPreI_len, hrl] at gl
      have gd := ivR_drop (l := addPreI t (W.getD (h + i) []) (W.getD (h + j) []) k) (i := t) (by rw [addPreI_len]; omega)
      rw [addPreI_get (by omega), if_neg (by omega)] at gd
      have gs := ivR_set (l := addPreI t (W.getD (h + i) []) (W.getD (h + j) []) k) (i := t) ((W.getD (h + i) []).getD t 0 + k * (W.getD (h + j) []).getD t 0) (by rw [addPreI_len]; omega)
      rw [addPreI_set (by omega)] at gs
      have hrs := hI.rset hWl (q := h + i) (by omega) (addPreI (t + 1) (W.getD (h + i) []) (W.getD (h + j) []) k)
      rw [List.set_set] at hrs
      have hkl := hI.kl (W := (W.set i (addI (W.getD i []) (W.getD j []) k)).set (h + i) (addPreI t (W.getD (h + i) []) (W.getD (h + j) []) k)) (m := nx + 1) (by omega)
      rw [hI.iU hi] at gR y1 y2 y3 y4 y5 hrs
      rw [hI.iU hj] at gRj u1 u2 u3 u4 u5
      have v5 : b.getD i 0 + 1 - nx = 0 := zne y1
      have v6 : b.getD j 0 + 1 - nx = 0 := zne u1
      unfold wkH workC at *
      generalize (ivR (addPreI t (W.getD (h + i) []) (W.getD (h + j) []) k)).drop ((t + 1) * 2) = D at *
      generalize hA : ivR (addPreI t (W.getD (h + i) []) (W.getD (h + j) []) k) = A at *
      generalize (W.getD (h + i) []).getD t 0 = x at *
      generalize (ivR (W.getD (h + j) [])).drop ((t + 1) * 2) = Dj at *
      generalize hAj : ivR (W.getD (h + j) []) = Aj at *
      generalize (W.getD (h + j) []).getD t 0 = y at *
      generalize hA' : ivR (addPreI (t + 1) (W.getD (h + i) []) (W.getD (h + j) []) k) = A' at *
      generalize hH : rowsH 84 (a ++ b ++ c) (rI ((W.set i (addI (W.getD i []) (W.getD j []) k)).set (h + i) (addPreI t (W.getD (h + i) []) (W.getD (h + j) []) k))) = H at *
      generalize b.getD i 0 = idk at *
      generalize b.getD j 0 = idj at *
      unfold iv sv at c1 c2
      unfold ivC sv at gd gs gdj
      simp only [zl8, zl7] at gd gdj
      have g2j : t * 2 < Aj.length := by omega
      have g2 : t * 2 < A.length := by omega
      refine qWDf (Q2 (Q16 @q1 @ga @gb @gc @gi @gj @gR @gRj @gl @glj @gd @gdj @gs @g2 @g2j @hrs) (Q15 @hkl @z1 @z2 @z3 @z4 @z5 @z6 @y2 @y3 @y4 @y5 @u2 @u3 @u4 @u5)) ?_
      refine hK2 _ (t + 1) ?_ (by omega) (by omega)
      exact qM
    ·have htw : t = h := by omega
     have q1 := decide_eq_false (p := (h : Int) < (h : Int)) (by omega)
     rw [htw, addPreI_end hrl]
     unfold wkH workC
     refine qWDf (Q7 @q1 @z1 @z2 @z3 @z4 @z5 @z6) ?_
     have e3 : colPre h i j k 0 ((W.set i (addI (W.getD i []) (W.getD j []) k)).set (h + i) (addI (W.getD (h + i) []) (W.getD (h + j) []) k)) = (W.set i (addI (W.getD i []) (W.getD j []) k)).set (h + i) (addI (W.getD (h + i) []) (W.getD (h + j) []) k) := colPre_zero
     have eA : addW h i j k W = colPre h i j k h ((W.set i (addI (W.getD i []) (W.getD j []) k)).set (h + i) (addI (W.getD (h + i) []) (W.getD (h + j) []) k)) := rfl
     have hX2 : ∀ q, 2 * h ≤ q → q < 3 * h → ((W.set i (addI (W.getD i []) (W.getD j []) k)).set (h + i) (addI (W.getD (h + i) []) (W.getD (h + j) []) k)).getD q [] = W.getD q [] := by
      intro q h3 h4
      rw [getD_set (by rw [List.length_set]; omega), if_neg (by omega), getD_set (by omega), if_neg (by omega)]
     have hXl : ((W.set i (addI (W.getD i []) (W.getD j []) k)).set (h + i) (addI (W.getD (h + i) []) (W.getD (h + j) []) k)).length = 3 * h := by rw [List.length_set, List.length_set]; exact hl
     rw [← e3, eA]
     generalize (W.set i (addI (W.getD i []) (W.getD j []) k)).set (h + i) (addI (W.getD (h + i) []) (W.getD (h + j) []) k) = X at *
     refine SC.loop (fun t : Nat => ⟨[(0, .pt p 0), (1, .sc (.int .i64 i)), (2, .sc (.int .i64 j)), (7, .pt nx 0), (10, .sc (.int .i64 t))], (nx, ⟨84, [.sc (.bool (decide (k < 0))), .im (lv (limbsOf k.natAbs)) (limbsOf k.natAbs).length], false⟩) :: wkH p oM oU oV h w a b c (colPre h i j k t X), nx + 1, 143⟩)
      (fun t => t ≤ h) (fun t => h - t) 0 ?_ ?_ ?_
     ·unfold wkH workC
      exact qM
     ·exact znc _
     ·intro t ht K3 hK3
      by_cases hc : t < h
      ·as_aux_lemma =>
        have q1 := decide_eq_true (p := (t : Int) < (h : Int)) (by omega)
        have hrl : (W.getD (2 * h + t) []).length = h := hW.rowU (2 * h + t) (by omega) (by omega)
        have hWl : (colPre h i j k t X).length = 3 * h := by rw [colPre_len]; exact hXl
        have gi := slR_get (z := 2) (m := h) (ids := c) (k := t) (by omega)
        obtain ⟨gR, y1, y2, y3, y4, y5⟩ := hI.rowF hWl (q := 2 * h + t) (by omega)
        rw [colPre_get (by omega), if_neg (by omega), hX2 _ (by omega) (by omega)] at gR
        have c1 := mul_i k ((W.getD (2 * h + t) []).getD i 0) (K + L) (hk.mono (by omega)) ((hW.fit (2 * h + t) i).mono (by omega)) (by omega)
        have c2 := sub_i ((W.getD (2 * h + t) []).getD j 0) (k * (W.getD (2 * h + t) []).getD i 0) (K + L) ((hW.fit (2 * h + t) j).mono (by omega)) (fits_mulL (hW.fit (2 * h + t) i) hk) (by omega)
        have gl := ivR_len (W.getD (2 * h + t) [])
        rw [hrl] at gl
        have gd := ivR_drop (l := W.getD (2 * h + t) []) (i := i) (by omega)
        have gdj := ivR_drop (l := W.getD (2 * h + t) []) (i := j) (by omega)
        have gs := ivR_set (l := W.getD (2 * h + t) []) (i := j) ((W.getD (2 * h + t) []).getD j 0 - k * (W.getD (2 * h + t) []).getD i 0) (by omega)
        have hrs := hI.rset hWl (q := 2 * h + t) (by omega) ((W.getD (2 * h + t) []).set j ((W.getD (2 * h + t) []).getD j 0 - k * (W.getD (2 * h + t) []).getD i 0))
        have hcs := colPre_set (h := h) (i := i) (j := j) (k := k) (r := t) (W := X) (by omega)
        rw [hX2 _ (by omega) (by omega)] at hcs
        rw [hcs] at hrs
        have hkl := hI.kl (W := colPre h i j k t X) (m := nx + 1) (by omega)
        rw [hI.iV] at gR y1 y2 y3 y4 y5 hrs
        have v5 : c.getD t 0 + 1 - nx = 0 := zne y1
        clear hcs
        unfold wkH workC at *
        generalize (ivR (W.getD (2 * h + t) [])).drop ((i + 1) * 2) = Di at *
        generalize (ivR (W.getD (2 * h + t) [])).drop ((j + 1) * 2) = Dj at *
        generalize hA : ivR (W.getD (2 * h + t) []) = A at *
        generalize hA' : ivR ((W.getD (2 * h + t) []).set j ((W.getD (2 * h + t) []).getD j 0 - k * (W.getD (2 * h + t) []).getD i 0)) = A' at *
        generalize (W.getD (2 * h + t) []).getD i 0 = x at *
        generalize (W.getD (2 * h + t) []).getD j 0 = y at *
        generalize hH : rowsH 84 (a ++ b ++ c) (rI (colPre h i j k t X)) = H at *
        generalize c.getD t 0 = idk at *
        unfold iv sv at c1 c2
        unfold ivC sv at gd gs gdj
        simp only [zl8, zl7] at gd gdj
        have g2 : i * 2 < A.length := by omega
        have g2j : j * 2 < A.length := by omega
        refine qWDf (Q24 @q1 @ga @gb @gc @gi @gR @gl @gd @gdj @gs @g2 @g2j @hrs @hkl @z1 @z2 @z3 @z4 @z5 @z6 @y2 @y3 @y4 @y5) ?_
        refine hK3 _ (t + 1) ?_ (by omega) (by omega)
        exact qM
      ·have htw : t = h := by omega
       have q1 := decide_eq_false (p := (h : Int) < (h : Int)) (by omega)
       rw [htw]
       unfold wkH workC
       refine qWDf (Q7 @q1 @z1 @z2 @z3 @z4 @z5 @z6) ?_
       refine retIQ_normal (rs := []) (.tu []) (wkH p oM oU oV h w a b c (colPre h i j k h X)) nx Try.results100 rfl ⟨rfl, rfl, rfl⟩ ?_
       refine Le.wkDown ⟨nx, hB, znb _⟩ hI (less_new (fun id q hq => hq) fun id q hq => Nat.ne_of_lt (wk_lt hI id q hq)) ?_
       exact mapSl_cons rfl VMap.tu0 trivial
end Go.Proofs.Ytdkkgndibagihaa
namespace Go.Proofs.Ytdkkgndibagihaa
open Go.RowKit
def colNeg (h i r : Nat) (W : List (List Int)) : List (List Int) := W.mapIdx fun q row => if 2 * h ≤ q ∧ q < 2 * h + r then row.set i (-(row.getD i 0)) else row
theorem colNeg_len {h i r : Nat} {W : List (List Int)} : (colNeg h i r W).length = W.length := by simp [colNeg]
theorem colNeg_get {h i r q : Nat} {W : List (List Int)} (hq : q < W.length) : (colNeg h i r W).getD q [] = if 2 * h ≤ q ∧ q < 2 * h + r then (W.getD q []).set i (-((W.getD q []).getD i 0)) else W.getD q [] := by
 unfold colNeg
 rw [List.getD_eq_getElem?_getD, List.getElem?_mapIdx, getD_get' (d := []) hq]; rfl
theorem colNeg_zero {h i : Nat} {W : List (List Int)} : colNeg h i 0 W = W := rows_ext colNeg_len fun q hq => by
 rw [colNeg_len] at hq
 rw [colNeg_get hq, if_neg (by omega)]
theorem colNeg_set {h i r : Nat} {W : List (List Int)} (hr : 2 * h + r < W.length) : (colNeg h i r W).set (2 * h + r) ((W.getD (2 * h + r) []).set i (-((W.getD (2 * h + r) []).getD i 0))) = colNeg h i (r + 1) W := by
 refine rows_ext (by rw [List.length_set, colNeg_len, colNeg_len]) fun q hq => ?_
 rw [List.length_set, colNeg_len] at hq
 rw [getD_set (by rw [colNeg_len]; exact hr), colNeg_get hq, colNeg_get hq]
 by_cases e : q = 2 * h + r
 ·rw [if_pos e, if_pos (by omega), e]
 ·rw [if_neg e]
  by_cases e2 : 2 * h ≤ q ∧ q < 2 * h + r
  ·rw [if_pos e2, if_pos (by omega)]
  ·rw [if_neg e2, if_neg (by omega)]
def negW (h i : Nat) (W : List (List Int)) : List (List Int) :=
 colNeg h i h ((W.set i (negI (W.getD i []))).set (h + i) (negI (W.getD (h + i) [])))
set_option maxHeartbeats 16000000 in
set_option maxRecDepth 8000 in
theorem negate_q {h w K p oM oU oV nx i : Nat} {a b c : List Nat} {W : List (List Int)} (hW : WI h w K W) (hK : K ≤ 100000000000) (hI : WIds p oM oU oV a b c h nx) (hi : i < h) (hn : h ≤ 1000000) (hw : w ≤ 1000000) :
  InlQ Try.prog 103 [.pt p 0, .sc (.int .i64 i)] (wkH p oM oU oV h w a b c W) nx (fun x hp' nx' => x = .tu [] ∧ nx' = nx ∧ hp' = wkH p oM oU oV h w a b c (negW h i W)) := by
 have hl := hW.len
 obtain ⟨l1, l2, l3, l4⟩ := hI.lts
 have v1 : p + 1 - nx = 0 := by omega
 have v2 : oM + 1 - nx = 0 := by omega
 have v3 : oU + 1 - nx = 0 := by omega
 have v4 : oV + 1 - nx = 0 := by omega
 obtain ⟨z1, z2, z3, z4, z5, z6⟩ := hI.nes
 have la := hI.la
 have lb := hI.lb
 have lc := hI.lc
 have ga := slR_len 2 w a
 have gb := slR_len 2 h b
 have gc := slR_len 2 h c
 rw [la] at ga
 rw [lb] at gb
 rw [lc] at gc
 refine InlQ.run Try.func103 rfl Try.ntmps103 (by simp) (by unfold wkH workC; simp (disch := omega) only [go_sem, ↓reduceIte, zn1, zn2, zn3, zn4, zn5, zn6, reduceCtorEq, zn7, zi1, zi2, if_pos, if_neg, Int.reduceAdd, zn8, zna, Nat.zero_mul, Nat.add_zero, zn9, Nat.sub_zero, zl2, zl4, zl3, zl9, zl7, zl8, List.append_nil, List.take_length, List.take_nil, List.drop_nil, List.length_nil, List.length_set, List.length_replicate, List.flatten_nil, List.flatten_cons, Bool.not_true, Bool.not_false, Bool.false_eq_true, Bool.or_true, Bool.true_or, Bool.or_false, Bool.or_self, bne_self_eq_false, beq_self_eq_true]; rfl) fun B hB => ?_
 refine qWD ?_
 have e1 : (W).set (i) (negPre 0 (W.getD (i) [])) = W := by
  rw [negPre_zero]
  have := setI_self (M := W) (i := i) (by omega)
  exact this
 refine SC.loop (fun t : Nat => ⟨[(0, .pt p 0), (1, .sc (.int .i64 i)), (4, .sc (.int .i64 t))], wkH p oM oU oV h w a b c ((W).set (i) (negPre t (W.getD (i) []))), nx, 100⟩)
  (fun t => t ≤ w) (fun t => w - t) 0 ?_ ?_ ?_
 ·rw [e1]
  unfold wkH workC
  exact qM
 ·exact znc _
 ·intro t ht K2 hK2
  have hrl : (W.getD (i) []).length = w := hW.rowM i hi
  by_cases hc : t < w
  ·as_aux_lemma =>
    have q1 := decide_eq_true (p := (t : Int) < (w : Int)) (by omega)
    have hWl : ((W).set (i) (negPre t (W.getD (i) []))).length = 3 * h := by rw [List.length_set]; exact hl
    have gi := slR_get (z := 2) (m := w) (ids := a) (k := i) (by omega)
    obtain ⟨gR, y1, y2, y3, y4, y5⟩ := hI.rowF hWl (q := i) (by omega)
    rw [getD_set (by omega), if_pos rfl] at gR
    have c1 := neg_i ((W.getD (i) []).getD t 0) K (hW.fit (i) t) (by omega)
    have gl := ivR_len (negPre t (W.getD (i) []))
    rw [negPre_len, hrl] at gl
    have gd := ivR_drop (l := negPre t (W.getD (i) [])) (i := t) (by rw [negPre_len]; omega)
    rw [negPre_get (by omega), if_neg (by omega)] at gd
    have gs := ivR_set (l := negPre t (W.getD (i) [])) (i := t) (-((W.getD (i) []).getD t 0)) (by rw [negPre_len]; omega)
    rw [negPre_set (by omega)] at gs
    have hrs := hI.rset hWl (q := i) (by omega) (negPre (t + 1) (W.getD (i) []))
    rw [List.set_set] at hrs
    have hkl := hI.kl (W := (W).set (i) (negPre t (W.getD (i) []))) (m := nx) (by omega)
    rw [hI.iM hi] at gR y1 y2 y3 y4 y5 hrs
    have v5 : a.getD i 0 + 1 - nx = 0 := zne y1
    unfold wkH workC at *
    generalize (ivR (negPre t (W.getD (i) []))).drop ((t + 1) * 2) = D at *
    generalize hA : ivR (negPre t (W.getD (i) [])) = A at *
    generalize (W.getD (i) []).getD t 0 = x at *
    generalize hA' : ivR (negPre (t + 1) (W.getD (i) [])) = A' at *
    generalize hH : rowsH 84 (a ++ b ++ c) (rI ((W).set (i) (negPre t (W.getD (i) [])))) = H at *
    generalize a.getD i 0 = idk at *
    unfold iv sv at c1
    unfold ivC sv at gd gs
    simp only [zl8, zl7] at gd
    have g2 : t * 2 < A.length := by omega
    refine qWDf (Q22 @q1 @ga @gb @gc @gi @gR @gl @gd @gs @g2 @hrs @hkl @z1 @z2 @z3 @z4 @z5 @z6 @y2 @y3 @y4 @y5) ?_
    refine hK2 _ (t + 1) ?_ (by omega) (by omega)
    exact qM
  ·have htw : t = w := by omega
   have q1 := decide_eq_false (p := (w : Int) < (w : Int)) (by omega)
   rw [htw, negPre_end hrl]
   unfold wkH workC
   refine qWDf (Q7 @q1 @z1 @z2 @z3 @z4 @z5 @z6) ?_
   have e2 : (W.set i (negI (W.getD i []))).set (h + i) (negPre 0 (W.getD (h + i) [])) = W.set i (negI (W.getD i [])) := by
    rw [negPre_zero]
    have := setI_self (M := W.set i (negI (W.getD i []))) (i := h + i) (by rw [List.length_set]; omega)
    rwa [getD_set (by omega), if_neg (by omega)] at this
   refine SC.loop (fun t : Nat => ⟨[(0, .pt p 0), (1, .sc (.int .i64 i)), (5, .sc (.int .i64 t))], wkH p oM oU oV h w a b c ((W.set i (negI (W.getD i []))).set (h + i) (negPre t (W.getD (h + i) []))), nx, 100⟩)
    (fun t => t ≤ h) (fun t => h - t) 0 ?_ ?_ ?_
   ·rw [e2]
    unfold wkH workC
    exact qM
   ·exact znc _
   ·intro t ht K2 hK2
    have hrl : (W.getD (h + i) []).length = h := hW.rowU (h + i) (by omega) (by omega)
    by_cases hc : t < h
    ·as_aux_lemma =>
      have q1 := decide_eq_true (p := (t : Int) < (h : Int)) (by omega)
      have hWl : ((W.set i (negI (W.getD i []))).set (h + i) (negPre t (W.getD (h + i) []))).length = 3 * h := by rw [List.length_set, List.length_set]; exact hl
      have gi := slR_get (z := 2) (m := h) (ids := b) (k := i) (by omega)
      obtain ⟨gR, y1, y2, y3, y4, y5⟩ := hI.rowF hWl (q := h + i) (by omega)
      rw [getD_set (by rw [List.length_set]; omega), if_pos rfl] at gR
      have c1 := neg_i ((W.getD (h + i) []).getD t 0) K (hW.fit (h + i) t) (by omega)
      have gl := ivR_len (negPre t (W.getD (h + i) []))
      rw [negPre_len, hrl] at gl
      have gd := ivR_drop (l := negPre t (W.getD (h + i) [])) (i := t) (by rw [negPre_len]; omega)
      rw [negPre_get (by omega), if_neg (by omega)] at gd
      have gs := ivR_set (l := negPre t (W.getD (h + i) [])) (i := t) (-((W.getD (h + i) []).getD t 0)) (by rw [negPre_len]; omega)
      rw [negPre_set (by omega)] at gs
      have hrs := hI.rset hWl (q := h + i) (by omega) (negPre (t + 1) (W.getD (h + i) []))
      rw [List.set_set] at hrs
      have hkl := hI.kl (W := (W.set i (negI (W.getD i []))).set (h + i) (negPre t (W.getD (h + i) []))) (m := nx) (by omega)
      rw [hI.iU hi] at gR y1 y2 y3 y4 y5 hrs
      have v5 : b.getD i 0 + 1 - nx = 0 := zne y1
      unfold wkH workC at *
      generalize (ivR (negPre t (W.getD (h + i) []))).drop ((t + 1) * 2) = D at *
      generalize hA : ivR (negPre t (W.getD (h + i) [])) = A at *
      generalize (W.getD (h + i) []).getD t 0 = x at *
      generalize hA' : ivR (negPre (t + 1) (W.getD (h + i) [])) = A' at *
      generalize hH : rowsH 84 (a ++ b ++ c) (rI ((W.set i (negI (W.getD i []))).set (h + i) (negPre t (W.getD (h + i) [])))) = H at *
      generalize b.getD i 0 = idk at *
      unfold iv sv at c1
      unfold ivC sv at gd gs
      simp only [zl8, zl7] at gd
      have g2 : t * 2 < A.length := by omega
      refine qWDf (Q22 @q1 @ga @gb @gc @gi @gR @gl @gd @gs @g2 @hrs @hkl @z1 @z2 @z3 @z4 @z5 @z6 @y2 @y3 @y4 @y5) ?_
      refine hK2 _ (t + 1) ?_ (by omega) (by omega)
      exact qM
    ·have htw : t = h := by omega
     have q1 := decide_eq_false (p := (h : Int) < (h : Int)) (by omega)
     rw [htw, negPre_end hrl]
     unfold wkH workC
     refine qWDf (Q7 @q1 @z1 @z2 @z3 @z4 @z5 @z6) ?_
     have e3 : colNeg h i 0 ((W.set i (negI (W.getD i []))).set (h + i) (negI (W.getD (h + i) []))) = (W.set i (negI (W.getD i []))).set (h + i) (negI (W.getD (h + i) [])) := colNeg_zero
     have eA : negW h i W = colNeg h i h ((W.set i (negI (W.getD i []))).set (h + i) (negI (W.getD (h + i) []))) := rfl
     have hX2 : ∀ q, 2 * h ≤ q → q < 3 * h → ((W.set i (negI (W.getD i []))).set (h + i) (negI (W.getD (h + i) []))).getD q [] = W.getD q [] := by
      intro q h3 h4
      rw [getD_set (by rw [List.length_set]; omega), if_neg (by omega), getD_set (by omega), if_neg (by omega)]
     have hXl : ((W.set i (negI (W.getD i []))).set (h + i) (negI (W.getD (h + i) []))).length = 3 * h := by rw [List.length_set, List.length_set]; exact hl
     rw [← e3, eA]
     generalize (W.set i (negI (W.getD i []))).set (h + i) (negI (W.getD (h + i) [])) = X at *
     refine SC.loop (fun t : Nat => ⟨[(0, .pt p 0), (1, .sc (.int .i64 i)), (6, .sc (.int .i64 t))], wkH p oM oU oV h w a b c (colNeg h i t X), nx, 100⟩)
      (fun t => t ≤ h) (fun t => h - t) 0 ?_ ?_ ?_
     ·unfold wkH workC
      exact qM
     ·exact znc _
     ·intro t ht K3 hK3
      by_cases hc : t < h
      ·as_aux_lemma =>
        have q1 := decide_eq_true (p := (t : Int) < (h : Int)) (by omega)
        have hrl : (W.getD (2 * h + t) []).length = h := hW.rowU (2 * h + t) (by omega) (by omega)
        have hWl : (colNeg h i t X).length = 3 * h := by rw [colNeg_len]; exact hXl
        have gi := slR_get (z := 2) (m := h) (ids := c) (k := t) (by omega)
        obtain ⟨gR, y1, y2, y3, y4, y5⟩ := hI.rowF hWl (q := 2 * h + t) (by omega)
        rw [colNeg_get (by omega), if_neg (by omega), hX2 _ (by omega) (by omega)] at gR
        have c1 := neg_i ((W.getD (2 * h + t) []).getD i 0) K (hW.fit (2 * h + t) i) (by omega)
        have gl := ivR_len (W.getD (2 * h + t) [])
        rw [hrl] at gl
        have gd := ivR_drop (l := W.getD (2 * h + t) []) (i := i) (by omega)
        have gs := ivR_set (l := W.getD (2 * h + t) []) (i := i) (-((W.getD (2 * h + t) []).getD i 0)) (by omega)
        have hrs := hI.rset hWl (q := 2 * h + t) (by omega) ((W.getD (2 * h + t) []).set i (-((W.getD (2 * h + t) []).getD i 0)))
        have hcs := colNeg_set (h := h) (i := i) (r := t) (W := X) (by omega)
        rw [hX2 _ (by omega) (by omega)] at hcs
        rw [hcs] at hrs
        have hkl := hI.kl (W := colNeg h i t X) (m := nx) (by omega)
        rw [hI.iV] at gR y1 y2 y3 y4 y5 hrs
        have v5 : c.getD t 0 + 1 - nx = 0 := zne y1
        clear hcs
        unfold wkH workC at *
        generalize (ivR (W.getD (2 * h + t) [])).drop ((i + 1) * 2) = Di at *
        generalize hA : ivR (W.getD (2 * h + t) []) = A at *
        generalize hA' : ivR ((W.getD (2 * h + t) []).set i (-((W.getD (2 * h + t) []).getD i 0))) = A' at *
        generalize (W.getD (2 * h + t) []).getD i 0 = x at *
        generalize hH : rowsH 84 (a ++ b ++ c) (rI (colNeg h i t X)) = H at *
        generalize c.getD t 0 = idk at *
        unfold iv sv at c1
        unfold ivC sv at gd gs
        simp only [zl8, zl7] at gd
        have g2 : i * 2 < A.length := by omega
        refine qWDf (Q22 @q1 @ga @gb @gc @gi @gR @gl @gd @gs @g2 @hrs @hkl @z1 @z2 @z3 @z4 @z5 @z6 @y2 @y3 @y4 @y5) ?_
        refine hK3 _ (t + 1) ?_ (by omega) (by omega)
        exact qM
      ·have htw : t = h := by omega
       have q1 := decide_eq_false (p := (h : Int) < (h : Int)) (by omega)
       rw [htw]
       unfold wkH workC
       refine qWDf (Q7 @q1 @z1 @z2 @z3 @z4 @z5 @z6) ?_
       refine retIQ_normal (rs := []) (.tu []) (wkH p oM oU oV h w a b c (colNeg h i h X)) nx Try.results103 rfl ⟨rfl, rfl, rfl⟩ ?_
       refine Le.wkDown ⟨nx, hB, znb _⟩ hI (fun id q hq => hq) ?_
       exact mapSl_cons rfl VMap.tu0 trivial
end Go.Proofs.Ytdkkgndibagihaa
namespace Go.Proofs.Ytdkkgndibagihaa
open Go.RowKit
def swpR (i j : Nat) (row : List Int) : List Int := (row.set i (row.getD j 0)).set j (row.getD i 0)
theorem swpR_len {i j : Nat} {row : List Int} : (swpR i j row).length = row.length := by simp [swpR]
theorem swpR_get {i j t : Nat} {row : List Int} (hi : i < row.length) (hj : j < row.length) : (swpR i j row).getD t 0 = if t = j then row.getD i 0 else if t = i then row.getD j 0 else row.getD t 0 := by
 unfold swpR
 rw [getD_set (by rw [List.length_set]; exact hj), getD_set hi]
def colSwp (h i j r : Nat) (W : List (List Int)) : List (List Int) := W.mapIdx fun q row => if 2 * h ≤ q ∧ q < 2 * h + r then swpR i j row else row
theorem colSwp_len {h i j r : Nat} {W : List (List Int)} : (colSwp h i j r W).length = W.length := by simp [colSwp]
theorem colSwp_get {h i j r q : Nat} {W : List (List Int)} (hq : q < W.length) : (colSwp h i j r W).getD q [] = if 2 * h ≤ q ∧ q < 2 * h + r then swpR i j (W.getD q []) else W.getD q [] := by
 unfold colSwp
 rw [List.getD_eq_getElem?_getD, List.getElem?_mapIdx, getD_get' (d := []) hq]; rfl
theorem colSwp_zero {h i j : Nat} {W : List (List Int)} : colSwp h i j 0 W = W := rows_ext colSwp_len fun q hq => by
 rw [colSwp_len] at hq
 rw [colSwp_get hq, if_neg (by omega)]
theorem colSwp_set {h i j r : Nat} {W : List (List Int)} (hr : 2 * h + r < W.length) : (colSwp h i j r W).set (2 * h + r) (swpR i j (W.getD (2 * h + r) [])) = colSwp h i j (r + 1) W := by
 refine rows_ext (by rw [List.length_set, colSwp_len, colSwp_len]) fun q hq => ?_
 rw [List.length_set, colSwp_len] at hq
 rw [getD_set (by rw [colSwp_len]; exact hr), colSwp_get hq, colSwp_get hq]
 by_cases e : q = 2 * h + r
 ·rw [if_pos e, if_pos (by omega), e]
 ·rw [if_neg e]
  by_cases e2 : 2 * h ≤ q ∧ q < 2 * h + r
  ·rw [if_pos e2, if_pos (by omega)]
  ·rw [if_neg e2, if_neg (by omega)]
def swapW (h i j : Nat) (W : List (List Int)) : List (List Int) := swapI (swapI (colSwp h i j h W) i j) (h + i) (h + j)
theorem WI.swapI {h w K q t : Nat} {W : List (List Int)} (hW : WI h w K W) (hq : q < 3 * h) (ht : t < 3 * h) (he : (q < h ∧ t < h) ∨ (h ≤ q ∧ h ≤ t)) : WI h w K (swapI W q t) := by
 have hl := hW.len
 have e := fun k => swapI_get (M := W) (i := q) (j := t) (by omega) (by omega) k
 refine ⟨by rw [swapI_len]; exact hl, fun k hk => ?_, fun k h1 h2 => ?_, fun k s => ?_⟩
 ·rw [e]
  split
  ·exact hW.rowM q (by omega)
  ·split
   ·exact hW.rowM t (by omega)
   ·exact hW.rowM k hk
 ·rw [e]
  split
  ·exact hW.rowU q (by omega) hq
  ·split
   ·exact hW.rowU t (by omega) ht
   ·exact hW.rowU k h1 h2
 ·rw [e]
  split
  ·exact hW.fit q s
  ·split
   ·exact hW.fit t s
   ·exact hW.fit k s
theorem swapN_app1 {a b : List Nat} {i j : Nat} (hi : i < a.length) (hj : j < a.length) : swapN (a ++ b) i j = swapN a i j ++ b := by
 unfold swapN
 rw [List.set_append_left _ _ hi, List.set_append_left _ _ (by rw [List.length_set]; exact hj), getD_app1 hi, getD_app1 hj]
theorem swapN_app2 {a b : List Nat} {i j : Nat} : swapN (a ++ b) (a.length + i) (a.length + j) = a ++ swapN b i j := by
 unfold swapN
 rw [List.set_append_right _ _ (by omega), List.set_append_right _ _ (by omega), getD_app2, getD_app2, znd, znd]
theorem swapN_len {a : List Nat} {i j : Nat} : (swapN a i j).length = a.length := by simp [swapN]
section
variable {p oM oU oV h w K nx i j : Nat} {a b c : List Nat} {W : List (List Int)}
theorem WIds.swapL (hI : WIds p oM oU oV a b c h nx) (hi : i < h) (hj : j < h) : swapN (swapN (a ++ b ++ c) i j) (h + i) (h + j) = swapN a i j ++ swapN b i j ++ c := by
 have la := hI.la; have lb := hI.lb
 rw [zl6, swapN_app1 (by omega) (by omega)]
 have e := swapN_app2 (a := swapN a i j) (b := b ++ c) (i := i) (j := j)
 rw [swapN_len, la] at e
 rw [e, swapN_app1 (by omega) (by omega), zl6]
theorem nodup_swap {l : List Nat} {i j M : Nat} (hM : ∀ x ∈ l, x < M) (hl : l.Nodup) (hi : i < l.length) (hj : j < l.length) : (swapN l i j).Nodup ∧ ∀ x ∈ swapN l i j, x ∈ l := by
 have := Ids.swap (o := M) (ids0 := l) (ids := l) (n := l.length) (nx := M + 1) ⟨rfl, hl, fun _ h => h, fun x hx => by have := hM x hx; omega, by omega, fun hm => by have := hM M hm; omega⟩ hi hj
 exact ⟨this.nod, this.sub⟩
theorem WIds.swap (hI : WIds p oM oU oV a b c h nx) (hi : i < h) (hj : j < h) : WIds p oM oU oV (swapN a i j) (swapN b i j) c h nx := by
 have la := hI.la; have lb := hI.lb; have lc := hI.lc
 obtain ⟨z1, z2, z3, z4, z5, z6, n1, n2, n3, n4, n5⟩ := nodup_four hI.nod
 have hll : (a ++ b ++ c).length = 3 * h := by rw [zl1, zl1]; omega
 have lr : ∀ x ∈ a ++ b ++ c, x < nx := fun x hx => hI.rng x (by simp only [List.mem_cons]; exact .inr (.inr (.inr (.inr hx))))
 have s1 := nodup_swap (i := i) (j := j) lr n5 (by omega) (by omega)
 have s2 := nodup_swap (i := h + i) (j := h + j) (fun x hx => lr x (s1.2 x hx)) s1.1 (by rw [swapN_len]; omega) (by rw [swapN_len]; omega)
 rw [hI.swapL hi hj] at s2
 have sub : ∀ x ∈ swapN a i j ++ swapN b i j ++ c, x ∈ a ++ b ++ c := fun x hx => s1.2 x (s2.2 x hx)
 refine ⟨by rw [swapN_len]; exact la, by rw [swapN_len]; exact lb, lc, ?_, fun x hx => ?_⟩
 ·simp only [List.nodup_cons, List.mem_cons, not_or]
  exact ⟨⟨z1, z2, z3, fun hm => n1 (sub _ hm)⟩, ⟨z4, z5, fun hm => n2 (sub _ hm)⟩, ⟨z6, fun hm => n3 (sub _ hm)⟩, fun hm => n4 (sub _ hm), s2.1⟩
 ·simp only [List.mem_cons] at hx
  rcases hx with rfl | rfl | rfl | rfl | hx
  ·exact hI.rng _ (by simp)
  ·exact hI.rng _ (by simp)
  ·exact hI.rng _ (by simp)
  ·exact hI.rng _ (by simp)
  ·exact hI.rng _ (by simp only [List.mem_cons]; exact .inr (.inr (.inr (.inr (sub x hx)))))
def wkX (p oM oU oV h w : Nat) (a b c l : List Nat) (W : List (List Int)) : List (Nat × Blk) :=
 (p, ⟨140, workC h w oM oU oV, false⟩) :: (oM, ⟨80, slR 2 w a, false⟩) :: (oU, ⟨80, slR 2 h b, false⟩) :: (oV, ⟨80, slR 2 h c, false⟩) :: rowsH 84 l (rI W)
theorem Le.wkXDown {B : Base} {sl sl' : List (Nat × V)} {hp : List (Nat × Blk)} {nx1 nt : Nat} {l : List Nat} (hB : ∃ m, B.Old m ∧ m ≤ nx) (l2 : oM < nx) (l3 : oU < nx) (l4 : oV < nx) (ra : ∀ i ∈ a, i < nx) (rb : ∀ i ∈ b, i < nx) (rc : ∀ i ∈ c, i < nx)
  (hs : ∀ id k, hget (wkX p oM oU oV h w a b c l W) id = some k → hget hp id = some k) (h1 : mapSl (fun i => i) (fun i => i < nx) sl sl') :
  Le B ⟨sl, hp, nx1, nt⟩ ⟨sl', wkX p oM oU oV h w a b c l W, nx, nt⟩ := by
 obtain ⟨m0, hB, hm0⟩ := hB
 refine Le.map (fun i => i) (fun i => i < nx) hB (fun i hi => ⟨by omega, rfl⟩) (fun i h => h) (fun i j _ _ e => e) h1 (fun i k' hk' hlt => ?_)
 rw [hs i k' hk']
 unfold wkX at hk'
 simp only [hget] at hk'
 split at hk'
 ·cases hk'
  exact BMap.list (mapL_cons (VMap.sc _) (mapL_cons (VMap.sc _) (mapL_cons (VMap.sl rfl l2) (mapL_cons (VMap.sc _) (mapL_cons (VMap.sc _) (mapL_cons (VMap.sl rfl l3) (mapL_cons (VMap.sc _) (mapL_cons (VMap.sc _) (mapL_cons (VMap.sl rfl l4) mapL_nil)))))))))
 split at hk'
 ·cases hk'
  refine ⟨_, rfl, rfl, rfl, fun j y hy => ⟨y, hy, ?_⟩⟩
  obtain ⟨q, hq, rfl⟩ := List.mem_map.1 (List.mem_of_getElem? hy)
  exact VMap.sl rfl (ra q hq)
 split at hk'
 ·cases hk'
  refine ⟨_, rfl, rfl, rfl, fun j y hy => ⟨y, hy, ?_⟩⟩
  obtain ⟨q, hq, rfl⟩ := List.mem_map.1 (List.mem_of_getElem? hy)
  exact VMap.sl rfl (rb q hq)
 split at hk'
 ·cases hk'
  refine ⟨_, rfl, rfl, rfl, fun j y hy => ⟨y, hy, ?_⟩⟩
  obtain ⟨q, hq, rfl⟩ := List.mem_map.1 (List.mem_of_getElem? hy)
  exact VMap.sl rfl (rc q hq)
 ·obtain ⟨q, q1, q2, q3, rfl⟩ := rows_inv hk'
  exact BMap.clo (rI_clo W _ (by rw [List.getD_eq_getElem?_getD, zlb q2]; exact List.getElem_mem q2))
theorem wkX_lt {l : List Nat} (h1 : p < nx) (h2 : oM < nx) (h3 : oU < nx) (h4 : oV < nx) (hr : ∀ i ∈ l, i < nx) : ∀ id k, hget (wkX p oM oU oV h w a b c l W) id = some k → id < nx := by
 intro id k hk
 unfold wkX at hk
 simp only [hget] at hk
 split at hk
 ·omega
 split at hk
 ·omega
 split at hk
 ·omega
 split at hk
 ·omega
 ·obtain ⟨q, q1, _, q3, _⟩ := rows_inv hk
  rw [← q3]; exact hr _ (getD_mem' q1)
theorem wkX_swap (hI : WIds p oM oU oV a b c h nx) (hi : i < h) (hj : j < h) (hl : W.length = 3 * h) : ∀ id k, hget (wkH p oM oU oV h w (swapN a i j) (swapN b i j) c (Go.Proofs.Ytdkkgndibagihaa.swapI (Go.Proofs.Ytdkkgndibagihaa.swapI W i j) (h + i) (h + j))) id = some k → hget (wkX p oM oU oV h w (swapN a i j) (swapN b i j) c (a ++ b ++ c) W) id = some k := by
 have la := hI.la; have lb := hI.lb; have lc := hI.lc
 obtain ⟨_, _, _, _, _, _, _, _, _, _, n5⟩ := nodup_four hI.nod
 have hll : (a ++ b ++ c).length = 3 * h := by rw [zl1, zl1]; omega
 have lr : ∀ x ∈ a ++ b ++ c, x < nx := fun x hx => hI.rng x (by simp only [List.mem_cons]; exact .inr (.inr (.inr (.inr hx))))
 have s1 := nodup_swap (i := i) (j := j) lr n5 (by omega) (by omega)
 have r1 := rowsI_swap (ty := 84) (ids := a ++ b ++ c) (M := W) (k := i) (q := j) n5 (by omega) (by omega) (by omega)
 have r2 := rowsI_swap (ty := 84) (ids := swapN (a ++ b ++ c) i j) (M := Go.Proofs.Ytdkkgndibagihaa.swapI W i j) (k := h + i) (q := h + j) s1.1 (by rw [swapN_len, swapI_len]; omega) (by rw [swapN_len]; omega) (by rw [swapN_len]; omega)
 rw [hI.swapL hi hj] at r2
 intro id k hk
 unfold wkH at hk
 unfold wkX
 simp only [hget] at hk ⊢
 by_cases c1 : id = p
 ·rw [if_pos c1] at hk ⊢; exact hk
 rw [if_neg c1] at hk ⊢
 by_cases c2 : id = oM
 ·rw [if_pos c2] at hk ⊢; exact hk
 rw [if_neg c2] at hk ⊢
 by_cases c3 : id = oU
 ·rw [if_pos c3] at hk ⊢; exact hk
 rw [if_neg c3] at hk ⊢
 by_cases c4 : id = oV
 ·rw [if_pos c4] at hk ⊢; exact hk
 rw [if_neg c4] at hk ⊢
 exact r1 id k (r2 id k hk)
end
set_option maxHeartbeats 16000000 in
set_option maxRecDepth 8000 in
theorem swap_q {h w K p oM oU oV nx i j : Nat} {a b c : List Nat} {W : List (List Int)} (hW : WI h w K W) (hI : WIds p oM oU oV a b c h nx) (hi : i < h) (hj : j < h) (hn : h ≤ 1000000) (hw : w ≤ 1000000) :
  InlQ Try.prog 102 [.pt p 0, .sc (.int .i64 i), .sc (.int .i64 j)] (wkH p oM oU oV h w a b c W) nx (fun x hp' nx' => x = .tu [] ∧ nx' = nx ∧ hp' = wkH p oM oU oV h w (swapN a i j) (swapN b i j) c (swapW h i j W)) := by
 have hl := hW.len
 obtain ⟨l1, l2, l3, l4⟩ := hI.lts
 have v1 : p + 1 - nx = 0 := by omega
 have v2 : oM + 1 - nx = 0 := by omega
 have v3 : oU + 1 - nx = 0 := by omega
 have v4 : oV + 1 - nx = 0 := by omega
 obtain ⟨z1, z2, z3, z4, z5, z6⟩ := hI.nes
 have la := hI.la
 have lb := hI.lb
 have lc := hI.lc
 have ga := slR_len 2 w a
 have gb := slR_len 2 h b
 have gc := slR_len 2 h c
 rw [la] at ga
 rw [lb] at gb
 rw [lc] at gc
 have hI2 := hI.swap hi hj
 have lr : ∀ x ∈ a ++ b ++ c, x < nx := fun x hx => hI.rng x (by simp only [List.mem_cons]; exact .inr (.inr (.inr (.inr hx))))
 have lr2 : ∀ x ∈ swapN a i j ++ swapN b i j ++ c, x < nx := fun x hx => hI2.rng x (by simp only [List.mem_cons]; exact .inr (.inr (.inr (.inr hx))))
 have ra : ∀ x ∈ swapN a i j, x < nx := fun x hx => lr2 x (List.mem_append_left _ (List.mem_append_left _ hx))
 have rb : ∀ x ∈ swapN b i j, x < nx := fun x hx => lr2 x (List.mem_append_left _ (List.mem_append_right _ hx))
 have rc : ∀ x ∈ c, x < nx := fun x hx => lr2 x (List.mem_append_right _ hx)
 have gai := slR_get (z := 2) (m := w) (ids := a) (k := i) (by omega)
 have gaj := slR_get (z := 2) (m := w) (ids := a) (k := j) (by omega)
 have gbi := slR_get (z := 2) (m := h) (ids := b) (k := i) (by omega)
 have gbj := slR_get (z := 2) (m := h) (ids := b) (k := j) (by omega)
 have hsa : (a.set i (a.getD j 0)).set j (a.getD i 0) = swapN a i j := rfl
 have hsb : (b.set i (b.getD j 0)).set j (b.getD i 0) = swapN b i j := rfl
 have hkl := hI.kl (W := W) (m := nx) (znb _)
 refine InlQ.run Try.func102 rfl Try.ntmps102 (by simp) (by unfold wkH workC; simp (disch := omega) only [go_sem, ↓reduceIte, zn1, zn2, zn3, zn4, zn5, zn6, reduceCtorEq, zn7, zi1, zi2, if_pos, if_neg, Int.reduceAdd, zn8, zna, Nat.zero_mul, Nat.add_zero, zn9, Nat.sub_zero, zl2, zl4, zl3, zl9, zl7, zl8, List.append_nil, List.take_length, List.take_nil, List.drop_nil, List.length_nil, List.length_set, List.length_replicate, List.flatten_nil, List.flatten_cons, Bool.not_true, Bool.not_false, Bool.false_eq_true, Bool.or_true, Bool.true_or, Bool.or_false, Bool.or_self, bne_self_eq_false, beq_self_eq_true]; rfl) fun B hB => ?_
 refine qWDf (Q21 @ga @gb @gc @gai @gaj @gbi @gbj @slR_set @slR_len @la @lb @lc @hsa @hsb @hkl @z1 @z2 @z3 @z4 @z5 @z6) ?_
 have eW : colSwp h i j 0 W = W := colSwp_zero
 refine SC.loop (fun t : Nat => ⟨[(0, .pt p 0), (1, .sc (.int .i64 i)), (2, .sc (.int .i64 j)), (7, .sc (.int .i64 t))], wkX p oM oU oV h w (swapN a i j) (swapN b i j) c (a ++ b ++ c) (colSwp h i j t W), nx, 123⟩)
  (fun t => t ≤ h) (fun t => h - t) 0 ?_ ?_ ?_
 ·rw [eW]
  unfold wkX workC
  exact qM
 ·exact znc _
 ·intro t ht K3 hK3
  by_cases hc : t < h
  ·as_aux_lemma =>
    have q1 := decide_eq_true (p := (t : Int) < (h : Int)) (by omega)
    have hrl : (W.getD (2 * h + t) []).length = h := hW.rowU (2 * h + t) (by omega) (by omega)
    have hWl : (colSwp h i j t W).length = 3 * h := by rw [colSwp_len]; exact hl
    have gi := slR_get (z := 2) (m := h) (ids := c) (k := t) (by omega)
    obtain ⟨gR, y1, y2, y3, y4, y5⟩ := hI.rowF hWl (q := 2 * h + t) (by omega)
    rw [colSwp_get (by omega), if_neg (by omega)] at gR
    have gl := ivR_len (W.getD (2 * h + t) [])
    rw [hrl] at gl
    have gd := ivR_drop (l := W.getD (2 * h + t) []) (i := i) (by omega)
    have gdj := ivR_drop (l := W.getD (2 * h + t) []) (i := j) (by omega)
    have gs := ivR_set (l := W.getD (2 * h + t) []) (i := i) ((W.getD (2 * h + t) []).getD j 0) (by omega)
    have gs2 := ivR_set (l := (W.getD (2 * h + t) []).set i ((W.getD (2 * h + t) []).getD j 0)) (i := j) ((W.getD (2 * h + t) []).getD i 0) (by rw [List.length_set]; omega)
    have gl2 := ivR_len ((W.getD (2 * h + t) []).set i ((W.getD (2 * h + t) []).getD j 0))
    rw [List.length_set, hrl] at gl2
    have hrs := hI.rset hWl (q := 2 * h + t) (by omega) ((W.getD (2 * h + t) []).set i ((W.getD (2 * h + t) []).getD j 0))
    have hWl2 : ((colSwp h i j t W).set (2 * h + t) ((W.getD (2 * h + t) []).set i ((W.getD (2 * h + t) []).getD j 0))).length = 3 * h := by rw [List.length_set]; exact hWl
    have gR2 := (hI.rowF hWl2 (q := 2 * h + t) (by omega)).1
    rw [getD_set (by omega), if_pos rfl] at gR2
    have hrs2 := hI.rset hWl2 (q := 2 * h + t) (by omega) (((W.getD (2 * h + t) []).set i ((W.getD (2 * h + t) []).getD j 0)).set j ((W.getD (2 * h + t) []).getD i 0))
    have hcs := colSwp_set (h := h) (i := i) (j := j) (r := t) (W := W) (by omega)
    unfold swpR at hcs
    rw [List.set_set, hcs] at hrs2
    have hkl := hI.kl (W := colSwp h i j t W) (m := nx + 1) (by omega)
    have hkl2 := hI.kl (W := (colSwp h i j t W).set (2 * h + t) ((W.getD (2 * h + t) []).set i ((W.getD (2 * h + t) []).getD j 0))) (m := nx + 1) (by omega)
    rw [hI.iV] at gR gR2 y1 y2 y3 y4 y5 hrs hrs2
    have v5 : c.getD t 0 + 1 - nx = 0 := zne y1
    have gla := slR_len 2 w (swapN a i j)
    have glb := slR_len 2 h (swapN b i j)
    rw [swapN_len, la] at gla
    rw [swapN_len, lb] at glb
    have hsame : ∀ id k, hget (wkX p oM oU oV h w (swapN a i j) (swapN b i j) c (a ++ b ++ c) (colSwp h i j (t + 1) W)) id = some k → id < nx := wkX_lt l1 l2 l3 l4 lr
    clear hcs hWl2
    unfold wkX workC
    generalize (ivR (W.getD (2 * h + t) [])).drop ((i + 1) * 2) = Di at *
    generalize (ivR (W.getD (2 * h + t) [])).drop ((j + 1) * 2) = Dj at *
    generalize hA : ivR (W.getD (2 * h + t) []) = A at *
    generalize hA2 : ivR (((W.getD (2 * h + t) []).set i ((W.getD (2 * h + t) []).getD j 0)).set j ((W.getD (2 * h + t) []).getD i 0)) = A2 at *
    generalize hA1 : ivR ((W.getD (2 * h + t) []).set i ((W.getD (2 * h + t) []).getD j 0)) = A1 at *
    generalize hH1 : rowsH 84 (a ++ b ++ c) (rI ((colSwp h i j t W).set (2 * h + t) ((W.getD (2 * h + t) []).set i ((W.getD (2 * h + t) []).getD j 0)))) = H1 at *
    generalize (W.getD (2 * h + t) []).getD i 0 = x at *
    generalize (W.getD (2 * h + t) []).getD j 0 = y at *
    generalize hH : rowsH 84 (a ++ b ++ c) (rI (colSwp h i j t W)) = H at *
    generalize c.getD t 0 = idk at *
    unfold ivC sv at gd gs gdj gs2
    simp only [zl8, zl7] at gd gdj
    have g2 : i * 2 < A.length := by omega
    have g2j : j * 2 < A.length := by omega
    have g3j : j * 2 < A1.length := by omega
    refine qWDf (Q2 (Q15 @q1 @gla @glb @gc @gi @gR @gR2 @gl @gl2 @gd @gdj @gs @gs2 @g2 @g2j) (Q15 @g3j @hrs @hrs2 @hkl @hkl2 @z1 @z2 @z3 @z4 @z5 @z6 @y2 @y3 @y4 @y5)) ?_
    refine hK3 _ (t + 1) ?_ (by omega) (by omega)
    refine Le.wkXDown ⟨nx, hB, znb _⟩ l2 l3 l4 ra rb rc (less_new (fun id q hq => hq) fun id q hq => Nat.ne_of_lt (hsame id q hq)) ?_
    exact qN
  ·have htw : t = h := by omega
   have q1 := decide_eq_false (p := (h : Int) < (h : Int)) (by omega)
   rw [htw]
   unfold wkX workC
   refine qWDf (Q7 @q1 @z1 @z2 @z3 @z4 @z5 @z6) ?_
   refine retIQ_normal (rs := []) (.tu []) (wkH p oM oU oV h w (swapN a i j) (swapN b i j) c (swapW h i j W)) nx Try.results102 rfl ⟨rfl, rfl, rfl⟩ ?_
   refine Le.wkDown ⟨nx, hB, znb _⟩ hI2 (wkX_swap hI hi hj (by rw [colSwp_len]; exact hl)) ?_
   exact mapSl_cons rfl VMap.tu0 trivial
end Go.Proofs.Ytdkkgndibagihaa
namespace Go.Proofs.Ytdkkgndibagihaa
structure WS (h w : Nat) (W : List (List Int)) : Prop where
 len : W.length = 3 * h
 rowM : ∀ q, q < h → (W.getD q []).length = w
 rowU : ∀ q, h ≤ q → q < 3 * h → (W.getD q []).length = h
theorem addI_getD {a b : List Int} {k : Int} (hl : a.length = b.length) (t : Nat) : (addI a b k).getD t 0 = a.getD t 0 + k * b.getD t 0 := by
 by_cases ht : t < a.length
 ·exact addI_get ht
 ·rw [List.getD_eq_getElem?_getD, List.getElem?_eq_none (by rw [addI_len]; omega), List.getD_eq_getElem?_getD, List.getElem?_eq_none (by omega), List.getD_eq_getElem?_getD, List.getElem?_eq_none (by omega)]
  simp
theorem negI_getD {a : List Int} (t : Nat) : (negI a).getD t 0 = -(a.getD t 0) := by
 by_cases ht : t < a.length
 ·exact negI_get ht
 ·rw [List.getD_eq_getElem?_getD, List.getElem?_eq_none (by rw [negI_len]; omega), List.getD_eq_getElem?_getD, List.getElem?_eq_none (by omega)]
  simp
def swi (i j q : Nat) : Nat := if q = i then j else if q = j then i else q
theorem swi_lt {i j q n : Nat} (hi : i < n) (hj : j < n) (hq : q < n) : swi i j q < n := by unfold swi; split <;> (try split) <;> omega
section
variable {h w i j q t : Nat} {k : Int} {W : List (List Int)}
theorem addW_row (hl : W.length = 3 * h) (hi : i < h) (hq : q < 3 * h) : (addW h i j k W).getD q [] = if q = i then addI (W.getD i []) (W.getD j []) k else if q = h + i then addI (W.getD (h + i) []) (W.getD (h + j) []) k else if 2 * h ≤ q then (W.getD q []).set j ((W.getD q []).getD j 0 - k * (W.getD q []).getD i 0) else W.getD q [] := by
 unfold addW
 rw [colPre_get (by rw [List.length_set, List.length_set]; omega), getD_set (by rw [List.length_set]; omega), getD_set (by omega)]
 by_cases h1 : q = i
 ·subst h1
  rw [if_neg (by omega), if_neg (by omega), if_pos rfl, if_pos rfl]
 ·by_cases h2 : q = h + i
  ·subst h2
   rw [if_neg (by omega), if_pos rfl, if_neg h1, if_pos rfl]
  ·rw [if_neg h2, if_neg h1, if_neg h1, if_neg h2]
   by_cases h3 : 2 * h ≤ q
   ·rw [if_pos ⟨h3, by omega⟩, if_pos h3]
   ·rw [if_neg (by omega), if_neg h3]
theorem addW_ws (hW : WS h w W) (hi : i < h) (hj : j < h) : WS h w (addW h i j k W) := by
 refine ⟨by unfold addW; rw [colPre_len, List.length_set, List.length_set]; exact hW.len, fun q hq => ?_, fun q h1 h2 => ?_⟩
 ·rw [addW_row hW.len hi (by omega)]
  split
  ·rw [addI_len]; exact hW.rowM i hi
  ·rw [if_neg (by omega), if_neg (by omega)]; exact hW.rowM q hq
 ·rw [addW_row hW.len hi h2, if_neg (by omega)]
  split
  ·rw [addI_len]; exact hW.rowU _ (by omega) (by omega)
  ·split
   ·rw [List.length_set]; exact hW.rowU q h1 h2
   ·exact hW.rowU q h1 h2
theorem addW_ent (hW : WS h w W) (hi : i < h) (hj : j < h) (hq : q < 3 * h) : ent2 (addW h i j k W) q t = if q = i then ent2 W i t + k * ent2 W j t else if q = h + i then ent2 W (h + i) t + k * ent2 W (h + j) t else if 2 * h ≤ q ∧ t = j then ent2 W q j - k * ent2 W q i else ent2 W q t := by
 unfold ent2
 rw [addW_row hW.len hi hq]
 by_cases h1 : q = i
 ·rw [if_pos h1, if_pos h1, addI_getD (by rw [hW.rowM i hi, hW.rowM j hj])]
 ·rw [if_neg h1, if_neg h1]
  by_cases h2 : q = h + i
  ·rw [if_pos h2, if_pos h2, addI_getD (by rw [hW.rowU (h + i) (by omega) (by omega), hW.rowU (h + j) (by omega) (by omega)])]
  ·rw [if_neg h2, if_neg h2]
   by_cases h3 : 2 * h ≤ q
   ·rw [if_pos h3, getD_set (by rw [hW.rowU q (by omega) hq]; exact hj)]
    by_cases h4 : t = j
    ·rw [if_pos h4, if_pos ⟨h3, h4⟩]
    ·rw [if_neg h4, if_neg fun hh => h4 hh.2]
   ·rw [if_neg h3, if_neg fun hh => h3 hh.1]
theorem negW_row (hl : W.length = 3 * h) (hi : i < h) (hq : q < 3 * h) : (negW h i W).getD q [] = if q = i then negI (W.getD i []) else if q = h + i then negI (W.getD (h + i) []) else if 2 * h ≤ q then (W.getD q []).set i (-((W.getD q []).getD i 0)) else W.getD q [] := by
 unfold negW
 rw [colNeg_get (by rw [List.length_set, List.length_set]; omega), getD_set (by rw [List.length_set]; omega), getD_set (by omega)]
 by_cases h1 : q = i
 ·subst h1
  rw [if_neg (by omega), if_neg (by omega), if_pos rfl, if_pos rfl]
 ·by_cases h2 : q = h + i
  ·subst h2
   rw [if_neg (by omega), if_pos rfl, if_neg h1, if_pos rfl]
  ·rw [if_neg h2, if_neg h1, if_neg h1, if_neg h2]
   by_cases h3 : 2 * h ≤ q
   ·rw [if_pos ⟨h3, by omega⟩, if_pos h3]
   ·rw [if_neg (by omega), if_neg h3]
theorem negW_ws (hW : WS h w W) (hi : i < h) : WS h w (negW h i W) := by
 refine ⟨by unfold negW; rw [colNeg_len, List.length_set, List.length_set]; exact hW.len, fun q hq => ?_, fun q h1 h2 => ?_⟩
 ·rw [negW_row hW.len hi (by omega)]
  split
  ·rw [negI_len]; exact hW.rowM i hi
  ·rw [if_neg (by omega), if_neg (by omega)]; exact hW.rowM q hq
 ·rw [negW_row hW.len hi h2, if_neg (by omega)]
  split
  ·rw [negI_len]; exact hW.rowU _ (by omega) (by omega)
  ·split
   ·rw [List.length_set]; exact hW.rowU q h1 h2
   ·exact hW.rowU q h1 h2
theorem negW_ent (hW : WS h w W) (hi : i < h) (hq : q < 3 * h) : ent2 (negW h i W) q t = if q = i ∨ q = h + i ∨ (2 * h ≤ q ∧ t = i) then -(ent2 W q t) else ent2 W q t := by
 unfold ent2
 rw [negW_row hW.len hi hq]
 by_cases h1 : q = i
 ·rw [if_pos h1, if_pos (.inl h1), negI_getD, h1]
 ·rw [if_neg h1]
  by_cases h2 : q = h + i
  ·rw [if_pos h2, if_pos (.inr (.inl h2)), negI_getD, h2]
  ·rw [if_neg h2]
   by_cases h3 : 2 * h ≤ q
   ·rw [if_pos h3, getD_set (by rw [hW.rowU q (by omega) hq]; exact hi)]
    by_cases h4 : t = i
    ·rw [if_pos h4, if_pos (.inr (.inr ⟨h3, h4⟩)), h4]
    ·rw [if_neg h4, if_neg (by omega)]
   ·rw [if_neg h3, if_neg (by omega)]
theorem swapW_row (hl : W.length = 3 * h) (hi : i < h) (hj : j < h) (hq : q < 3 * h) : (swapW h i j W).getD q [] = if q < h then W.getD (swi i j q) [] else if q < 2 * h then W.getD (h + swi i j (q - h)) [] else swpR i j (W.getD q []) := by
 have hc : ∀ q, q < 3 * h → (colSwp h i j h W).getD q [] = if 2 * h ≤ q then swpR i j (W.getD q []) else W.getD q [] := fun q hq => by
  rw [colSwp_get (by omega)]
  by_cases h1 : 2 * h ≤ q
  ·rw [if_pos ⟨h1, by omega⟩, if_pos h1]
  ·rw [if_neg (by omega), if_neg h1]
 unfold swapW
 rw [swapI_get (by rw [swapI_len, colSwp_len]; omega) (by rw [swapI_len, colSwp_len]; omega)]
 have hs : ∀ q, (swapI (colSwp h i j h W) i j).getD q [] = if q = j then (colSwp h i j h W).getD i [] else if q = i then (colSwp h i j h W).getD j [] else (colSwp h i j h W).getD q [] := fun q => swapI_get (by rw [colSwp_len]; omega) (by rw [colSwp_len]; omega) q
 simp only [hs]
 rw [if_neg (show ¬ h + i = j by omega), if_neg (show ¬ h + i = i by omega), if_neg (show ¬ h + j = j by omega), if_neg (show ¬ h + j = i by omega)]
 rw [hc i (by omega), hc j (by omega), hc (h + i) (by omega), hc (h + j) (by omega), hc q hq, if_neg (show ¬ 2 * h ≤ i by omega), if_neg (show ¬ 2 * h ≤ j by omega), if_neg (show ¬ 2 * h ≤ h + i by omega), if_neg (show ¬ 2 * h ≤ h + j by omega)]
 unfold swi
 by_cases h1 : q < h
 ·rw [if_neg (show ¬ q = h + j by omega), if_neg (show ¬ q = h + i by omega), if_pos h1, if_neg (show ¬ 2 * h ≤ q by omega)]
  by_cases e1 : q = j
  ·rw [if_pos e1]
   by_cases e2 : q = i
   ·rw [if_pos e2, ← e1, e2]
   ·rw [if_neg e2, if_pos e1]
  ·rw [if_neg e1]
   by_cases e2 : q = i
   ·rw [if_pos e2, if_pos e2]
   ·rw [if_neg e2, if_neg e2, if_neg e1]
 ·rw [if_neg h1]
  by_cases h2 : q < 2 * h
  ·rw [if_pos h2, if_neg (show ¬ q = j by omega), if_neg (show ¬ q = i by omega), if_neg (show ¬ 2 * h ≤ q by omega)]
   by_cases e1 : q = h + j
   ·rw [if_pos e1]
    by_cases e2 : q = h + i
    ·rw [if_pos (by omega), show j = i by omega]
    ·rw [if_neg (by omega), if_pos (by omega)]
   ·rw [if_neg e1]
    by_cases e2 : q = h + i
    ·rw [if_pos e2, if_pos (by omega)]
    ·rw [if_neg e2, if_neg (by omega), if_neg (by omega), show h + (q - h) = q by omega]
  ·rw [if_neg h2, if_neg (by omega), if_neg (by omega), if_neg (by omega), if_neg (by omega), if_pos (by omega)]
theorem swapW_ws (hW : WS h w W) (hi : i < h) (hj : j < h) : WS h w (swapW h i j W) := by
 refine ⟨by unfold swapW; rw [swapI_len, swapI_len, colSwp_len]; exact hW.len, fun q hq => ?_, fun q h1 h2 => ?_⟩
 ·rw [swapW_row hW.len hi hj (by omega), if_pos hq]
  exact hW.rowM _ (swi_lt hi hj hq)
 ·rw [swapW_row hW.len hi hj h2, if_neg (by omega)]
  split
  ·have := swi_lt (q := q - h) hi hj (by omega)
   exact hW.rowU _ (by omega) (by omega)
  ·rw [swpR_len]; exact hW.rowU q h1 h2
theorem swapW_ent (hW : WS h w W) (hi : i < h) (hj : j < h) (hq : q < 3 * h) : ent2 (swapW h i j W) q t = if q < h then ent2 W (swi i j q) t else if q < 2 * h then ent2 W (h + swi i j (q - h)) t else ent2 W q (swi i j t) := by
 unfold ent2
 rw [swapW_row hW.len hi hj hq]
 by_cases h1 : q < h
 ·rw [if_pos h1, if_pos h1]
 ·rw [if_neg h1, if_neg h1]
  by_cases h2 : q < 2 * h
  ·rw [if_pos h2, if_pos h2]
  ·rw [if_neg h2, if_neg h2]
   have hr := hW.rowU q (by omega) hq
   rw [swpR_get (by omega) (by omega)]
   unfold swi
   by_cases e1 : t = j
   ·rw [if_pos e1]
    by_cases e2 : t = i
    ·rw [if_pos e2, ← e1, e2]
    ·rw [if_neg e2, if_pos e1]
   ·rw [if_neg e1]
    by_cases e2 : t = i
    ·rw [if_pos e2, if_pos e2]
    ·rw [if_neg e2, if_neg e2, if_neg e1]
end
structure Gb (h : Nat) (W : List (List Int)) (bM bV : Nat → Nat) : Prop where
 m : ∀ q t, q < h → (ent2 W q t).natAbs ≤ bM q
 u : ∀ q t, q < h → (ent2 W (h + q) t).natAbs ≤ bM q
 v : ∀ q t, q < h → t < h → (ent2 W (2 * h + q) t).natAbs ≤ bV t
def upd (b : Nat → Nat) (i x : Nat) : Nat → Nat := fun q => if q = i then x else b q
theorem abs_addmul {x y k : Int} {a b Q : Nat} (hx : x.natAbs ≤ a) (hy : y.natAbs ≤ b) (hk : k.natAbs ≤ Q) : (x + k * y).natAbs ≤ a + Q * b := by
 have h1 := Int.natAbs_add_le x (k * y)
 rw [Int.natAbs_mul] at h1
 have h2 := Nat.mul_le_mul hk hy
 omega
section
variable {h w i j : Nat} {k : Int} {W : List (List Int)} {bM bV cM cV : Nat → Nat}
theorem Gb.mono (hG : Gb h W bM bV) (h1 : ∀ q, q < h → bM q ≤ cM q) (h2 : ∀ q, q < h → bV q ≤ cV q) : Gb h W cM cV :=
 ⟨fun q t hq => Nat.le_trans (hG.m q t hq) (h1 q hq), fun q t hq => Nat.le_trans (hG.u q t hq) (h1 q hq), fun q t hq ht => Nat.le_trans (hG.v q t hq ht) (h2 t ht)⟩
theorem Gb.add (hG : Gb h W bM bV) (hW : WS h w W) (hi : i < h) (hj : j < h) {Q : Nat} (hk : k.natAbs ≤ Q) : Gb h (addW h i j k W) (upd bM i (bM i + Q * bM j)) (upd bV j (bV j + Q * bV i)) := by
 refine ⟨fun q t hq => ?_, fun q t hq => ?_, fun q t hq ht => ?_⟩
 ·rw [addW_ent hW hi hj (by omega)]
  unfold upd
  by_cases h1 : q = i
  ·rw [if_pos h1, if_pos h1]; exact abs_addmul (hG.m i t hi) (hG.m j t hj) hk
  ·rw [if_neg h1, if_neg h1, if_neg (by omega), if_neg (by omega)]; exact hG.m q t hq
 ·rw [addW_ent hW hi hj (by omega), if_neg (by omega)]
  unfold upd
  by_cases h1 : q = i
  ·rw [if_pos (by omega), if_pos h1]; exact abs_addmul (hG.u i t hi) (hG.u j t hj) hk
  ·rw [if_neg (by omega), if_neg h1, if_neg (by omega)]; exact hG.u q t hq
 ·rw [addW_ent hW hi hj (by omega), if_neg (by omega), if_neg (by omega)]
  unfold upd
  by_cases h1 : t = j
  ·rw [if_pos ⟨by omega, h1⟩, if_pos h1, Int.sub_eq_add_neg, ← Int.neg_mul]
   exact abs_addmul (hG.v q j hq hj) (hG.v q i hq hi) (by rw [Int.natAbs_neg]; exact hk)
  ·rw [if_neg (by omega), if_neg h1]; exact hG.v q t hq ht
theorem Gb.neg (hG : Gb h W bM bV) (hW : WS h w W) (hi : i < h) : Gb h (negW h i W) bM bV := by
 have key : ∀ q t, q < 3 * h → (ent2 (negW h i W) q t).natAbs = (ent2 W q t).natAbs := fun q t hq => by
  rw [negW_ent hW hi hq]
  split
  ·rw [Int.natAbs_neg]
  ·rfl
 exact ⟨fun q t hq => by rw [key q t (by omega)]; exact hG.m q t hq, fun q t hq => by rw [key _ t (by omega)]; exact hG.u q t hq, fun q t hq ht => by rw [key _ t (by omega)]; exact hG.v q t hq ht⟩
theorem Gb.swap (hG : Gb h W bM bV) (hW : WS h w W) (hi : i < h) (hj : j < h) : Gb h (swapW h i j W) (fun q => bM (swi i j q)) (fun q => bV (swi i j q)) := by
 refine ⟨fun q t hq => ?_, fun q t hq => ?_, fun q t hq ht => ?_⟩
 ·rw [swapW_ent hW hi hj (by omega), if_pos hq]; exact hG.m _ t (swi_lt hi hj hq)
 ·rw [swapW_ent hW hi hj (by omega), if_neg (by omega), if_pos (by omega), znd]; exact hG.u _ t (swi_lt hi hj hq)
 ·rw [swapW_ent hW hi hj (by omega), if_neg (by omega), if_neg (by omega)]; exact hG.v q _ hq (swi_lt hi hj ht)
theorem Gb.wi (hG : Gb h W bM bV) (hW : WS h w W) {K : Nat} (h1 : ∀ q, q < h → bM q < 4294967296 ^ K) (h2 : ∀ q, q < h → bV q < 4294967296 ^ K) : WI h w K W := by
 refine ⟨hW.len, hW.rowM, hW.rowU, fun q t => ?_⟩
 have hz : ∀ {l : List Int}, l.length ≤ t → Fits K (l.getD t 0) := fun hl => by
  rw [List.getD_eq_getElem?_getD, List.getElem?_eq_none hl]; exact fits0
 rcases Nat.lt_or_ge q h with hq | hq
 ·exact Nat.lt_of_le_of_lt (hG.m q t hq) (h1 q hq)
 ·rcases Nat.lt_or_ge q (2 * h) with hq2 | hq2
  ·have := hG.u (q - h) t (by omega)
   rw [show h + (q - h) = q by omega] at this
   exact Nat.lt_of_le_of_lt this (h1 _ (by omega))
  ·rcases Nat.lt_or_ge q (3 * h) with hq3 | hq3
   ·rcases Nat.lt_or_ge t h with ht | ht
    ·have := hG.v (q - 2 * h) t (by omega) ht
     rw [show 2 * h + (q - 2 * h) = q by omega] at this
     exact Nat.lt_of_le_of_lt this (h2 _ ht)
    ·exact hz (by rw [hW.rowU q (by omega) hq3]; exact ht)
   ·rw [List.getD_eq_getElem?_getD (l := W), List.getElem?_eq_none (by rw [hW.len]; exact hq3)]
    exact hz (by simp)
end
def sumI (f : Nat → Int) : Nat → Int
 | 0 => 0
 | n + 1 => sumI f n + f n
theorem dot_sum (f g : Nat → Int) : ∀ n, dotI f g n = sumI (fun t => f t * g t) n
 | 0 => rfl
 | n + 1 => by show dotI f g n + _ = sumI _ n + _; rw [dot_sum f g n]
theorem sum_congr {f g : Nat → Int} : ∀ {n : Nat}, (∀ t, t < n → f t = g t) → sumI f n = sumI g n
 | 0, _ => rfl
 | n + 1, h => by show sumI f n + f n = sumI g n + g n; rw [sum_congr fun t ht => h t (by omega), h n (by omega)]
theorem sum_one {f g : Nat → Int} {i : Nat} : ∀ {n : Nat}, i < n → (∀ t, t < n → t ≠ i → f t = g t) → sumI f n = sumI g n + (f i - g i)
 | 0, h, _ => by omega
 | n + 1, hi, h => by
  show sumI f n + f n = sumI g n + g n + _
  by_cases e : n = i
  ·subst e
   rw [sum_congr fun t ht => h t (by omega) (by omega)]; omega
  ·rw [sum_one (i := i) (by omega) fun t ht => h t (by omega), h n (by omega) e]; omega
theorem sum_two {f g : Nat → Int} {i j n : Nat} (hi : i < n) (hj : j < n) (hij : i ≠ j) (h : ∀ t, t < n → t ≠ i → t ≠ j → f t = g t) (he : f i + f j = g i + g j) : sumI f n = sumI g n := by
 have h1 := sum_one (f := f) (g := fun t => if t = i then f i else g t) (i := j) hj fun t ht hn => by
  by_cases e : t = i
  ·rw [if_pos e, e]
  ·rw [if_neg e]; exact h t ht e hn
 have h2 := sum_one (f := fun t => if t = i then f i else g t) (g := g) (i := i) hi fun t ht hn => if_neg hn
 rw [if_neg (Ne.symm hij)] at h1
 rw [if_pos rfl] at h2
 omega
theorem dot_zero' {c g : Nat → Int} : ∀ {n : Nat}, (∀ t, t < n → c t * g t = 0) → dotI c g n = 0
 | 0, _ => rfl
 | n + 1, h => by
  show dotI c g n + c n * g n = 0
  rw [dot_zero' fun t ht => h t (by omega), h n (by omega)]; rfl
theorem dot_dot {c : Nat → Int} {M : Nat → Nat → Int} {g : Nat → Int} {n : Nat} : ∀ {m : Nat}, dotI (fun s => dotI c (fun u => M u s) m) g n = dotI c (fun u => dotI (fun s => M u s) g n) m
 | 0 => dot_zero' fun s _ => by show (0 : Int) * g s = 0; omega
 | m + 1 => by
  show dotI (fun s => dotI c (fun u => M u s) m + c m * M m s) g n = dotI c (fun u => dotI (fun s => M u s) g n) m + c m * dotI (fun s => M m s) g n
  rw [dot_add (f := fun s => dotI c (fun u => M u s) m) (e := fun s => M m s), dot_dot]
structure LinI (h w : Nat) (A W : List (List Int)) : Prop where
 l1 : ∀ q t, q < h → t < w → ent2 W q t = dotI (fun s => ent2 W (h + q) s) (fun s => ent2 A s t) h
 l2 : ∀ s t, s < h → t < w → ent2 A s t = dotI (fun q => ent2 W (2 * h + s) q) (fun q => ent2 W q t) h
section
variable {h w i j : Nat} {k : Int} {A W : List (List Int)}
theorem LinI.add (hL : LinI h w A W) (hW : WS h w W) (hi : i < h) (hj : j < h) (hij : i ≠ j) : LinI h w A (addW h i j k W) := by
 refine ⟨fun q t hq ht => ?_, fun s t hs ht => ?_⟩
 ·rw [addW_ent hW hi hj (by omega)]
  by_cases h1 : q = i
  ·subst h1
   have e : ∀ s, ent2 (addW h q j k W) (h + q) s = ent2 W (h + q) s + k * ent2 W (h + j) s := fun s => by rw [addW_ent hW hi hj (by omega), if_neg (by omega), if_pos rfl]
   rw [if_pos rfl, hL.l1 q t hq ht, hL.l1 j t hj ht]
   simp only [e]
   rw [dot_add]
  ·have e : ∀ s, ent2 (addW h i j k W) (h + q) s = ent2 W (h + q) s := fun s => by rw [addW_ent hW hi hj (by omega), if_neg (by omega), if_neg (by omega), if_neg (by omega)]
   rw [if_neg h1, if_neg (by omega), if_neg (by omega)]
   simp only [e]
   exact hL.l1 q t hq ht
 ·rw [hL.l2 s t hs ht, dot_sum, dot_sum]
  have eV : ∀ q, ent2 (addW h i j k W) (2 * h + s) q = if q = j then ent2 W (2 * h + s) j - k * ent2 W (2 * h + s) i else ent2 W (2 * h + s) q := fun q => by
   rw [addW_ent hW hi hj (by omega), if_neg (by omega), if_neg (by omega)]
   by_cases e : q = j
   ·rw [if_pos ⟨by omega, e⟩, if_pos e]
   ·rw [if_neg (by omega), if_neg e]
  have eM : ∀ q, q < h → ent2 (addW h i j k W) q t = if q = i then ent2 W i t + k * ent2 W j t else ent2 W q t := fun q hq => by
   rw [addW_ent hW hi hj (by omega)]
   by_cases e : q = i
   ·rw [if_pos e, if_pos e]
   ·rw [if_neg e, if_neg e, if_neg (by omega), if_neg (by omega)]
  refine sum_two hi hj hij (fun q hq n1 n2 => ?_) ?_
  ·rw [eV, eM q hq, if_neg n2, if_neg n1]
  ·rw [eV, eV, eM i hi, eM j hj, if_neg hij, if_pos rfl, if_pos rfl, if_neg (Ne.symm hij)]
   generalize ent2 W (2 * h + s) i = a
   generalize ent2 W (2 * h + s) j = b
   generalize ent2 W i t = x
   generalize ent2 W j t = y
   rw [Int.mul_add, Int.sub_mul, Int.mul_left_comm, Int.mul_assoc]; omega
theorem LinI.neg (hL : LinI h w A W) (hW : WS h w W) (hi : i < h) : LinI h w A (negW h i W) := by
 refine ⟨fun q t hq ht => ?_, fun s t hs ht => ?_⟩
 ·rw [negW_ent hW hi (by omega)]
  by_cases h1 : q = i
  ·have e : ∀ s, ent2 (negW h i W) (h + q) s = -(ent2 W (h + q) s) := fun s => by rw [negW_ent hW hi (by omega), if_pos (.inr (.inl (by omega)))]
   rw [if_pos (.inl h1), hL.l1 q t hq ht]
   simp only [e]
   rw [dot_neg]
  ·have e : ∀ s, ent2 (negW h i W) (h + q) s = ent2 W (h + q) s := fun s => by rw [negW_ent hW hi (by omega), if_neg (by omega)]
   rw [if_neg (by omega)]
   simp only [e]
   exact hL.l1 q t hq ht
 ·rw [hL.l2 s t hs ht]
  refine (dot_sum _ _ _).trans (.trans (sum_congr fun q hq => ?_) (dot_sum _ _ _).symm)
  rw [negW_ent hW hi (by omega), negW_ent hW hi (by omega)]
  by_cases e : q = i
  ·rw [if_pos (.inr (.inr ⟨by omega, e⟩)), if_pos (.inl e), Int.neg_mul_neg]
  ·rw [if_neg (by omega), if_neg (by omega)]
theorem swi_i (i j : Nat) : swi i j i = j := if_pos rfl
theorem swi_j (i j : Nat) : swi i j j = i := by
 unfold swi
 by_cases e : j = i
 ·rw [if_pos e, e]
 ·rw [if_neg e, if_pos rfl]
theorem swi_ne {i j q : Nat} (h1 : q ≠ i) (h2 : q ≠ j) : swi i j q = q := by unfold swi; rw [if_neg h1, if_neg h2]
theorem LinI.swap (hL : LinI h w A W) (hW : WS h w W) (hi : i < h) (hj : j < h) (hij : i ≠ j) : LinI h w A (swapW h i j W) := by
 refine ⟨fun q t hq ht => ?_, fun s t hs ht => ?_⟩
 ·have e : ∀ s, ent2 (swapW h i j W) (h + q) s = ent2 W (h + swi i j q) s := fun s => by rw [swapW_ent hW hi hj (by omega), if_neg (by omega), if_pos (by omega), znd]
  rw [swapW_ent hW hi hj (by omega), if_pos hq]
  simp only [e]
  exact hL.l1 _ t (swi_lt hi hj hq) ht
 ·rw [hL.l2 s t hs ht, dot_sum, dot_sum]
  have eV : ∀ q, ent2 (swapW h i j W) (2 * h + s) q = ent2 W (2 * h + s) (swi i j q) := fun q => by rw [swapW_ent hW hi hj (by omega), if_neg (by omega), if_neg (by omega)]
  have eM : ∀ q, q < h → ent2 (swapW h i j W) q t = ent2 W (swi i j q) t := fun q hq => by rw [swapW_ent hW hi hj (by omega), if_pos hq]
  refine sum_two hi hj hij (fun q hq n1 n2 => ?_) ?_
  ·rw [eV, eM q hq, swi_ne n1 n2]
  ·rw [eV, eV, eM i hi, eM j hj, swi_i, swi_j]; omega
end
end Go.Proofs.Ytdkkgndibagihaa
namespace Go.Proofs.Ytdkkgndibagihaa
def stepE (h c top i : Nat) (W : List (List Int)) : List (List Int) := swapW h top i (if ent2 W top c = 0 then W else addW h top i (-(ent2 W top c / ent2 W i c)) W)
def bp (top i a b : Nat) (g : Nat → Nat) : Nat → Nat := fun q => if q = top then a else if q = i then b else g q
def gB (top B0 B : Nat) : Nat → Nat := fun q => if q < top then B0 else B
def PhE (x y : Int) (a b N B D : Nat) : Prop :=
 (a ≤ B ∧ b ≤ B ∧ 12 * (N * B) ≤ D) ∨ (0 ≤ x ∧ 0 ≤ y ∧ x.natAbs * b + y.natAbs * a ≤ D) ∨ (x < 0 ∧ 0 ≤ y ∧ y.natAbs ≤ x.natAbs ∧ 3 * (x.natAbs * b + y.natAbs * a) ≤ D) ∨ y = 0
theorem euc_nat {x y : Int} (hy : y ≠ 0) : 0 ≤ x % y ∧ (x % y).natAbs < y.natAbs ∧ (0 ≤ x → y.natAbs * (x / y).natAbs + (x % y).natAbs = x.natAbs) ∧ (x < 0 → y.natAbs * (x / y).natAbs = x.natAbs + (x % y).natAbs) := by
 have h1 := Int.mul_ediv_add_emod x y
 have h2 := Int.emod_nonneg x hy
 have h3 := Int.emod_lt x hy
 have h4 := Int.natAbs_mul y (x / y)
 have h5 : (x / y).natAbs ≠ 0 → y.natAbs ≤ y.natAbs * (x / y).natAbs := fun h => Nat.le_mul_of_pos_right _ (by omega)
 have h6 : (x / y).natAbs = 0 → y.natAbs * (x / y).natAbs = 0 := fun h => by rw [h, Nat.mul_zero]
 generalize y.natAbs * (x / y).natAbs = P at *
 generalize y * (x / y) = Z at *
 generalize x % y = R at *
 refine ⟨h2, by omega, fun h => ?_, fun h => by omega⟩
 by_cases hq : (x / y).natAbs = 0
 ·have := h6 hq; omega
 ·have := h5 hq; omega
theorem phE_step {x y : Int} {a b N B D : Nat} (hx : x.natAbs ≤ N) (hy : y.natAbs ≤ N) (h0 : y ≠ 0) (hP : PhE x y a b N B D) : PhE y (x % y) b (a + (x / y).natAbs * b) N B D ∧ a + (x / y).natAbs * b ≤ D := by
 obtain ⟨r0, r1, e1, e2⟩ := euc_nat (x := x) h0
 have eT : y.natAbs * (a + (x / y).natAbs * b) = y.natAbs * a + y.natAbs * (x / y).natAbs * b := by rw [Nat.mul_add, Nat.mul_assoc]
 have hY : 1 ≤ y.natAbs := by omega
 have hle : a + (x / y).natAbs * b ≤ y.natAbs * (a + (x / y).natAbs * b) := Nat.le_mul_of_pos_left _ hY
 have f1 : 0 ≤ x → y.natAbs * (x / y).natAbs * b + (x % y).natAbs * b = x.natAbs * b := fun h => by rw [← Nat.add_mul, e1 h]
 have f2 : x < 0 → y.natAbs * (x / y).natAbs * b = x.natAbs * b + (x % y).natAbs * b := fun h => by rw [← Nat.add_mul, e2 h]
 have g1 : (x % y).natAbs * b ≤ y.natAbs * b := Nat.mul_le_mul_right b (Nat.le_of_lt r1)
 have key : (0 < y → y.natAbs * (a + (x / y).natAbs * b) + (x % y).natAbs * b ≤ D) ∧ (y < 0 → 3 * (y.natAbs * (a + (x / y).natAbs * b) + (x % y).natAbs * b) ≤ D) := by
  rcases hP with ⟨ha, hb, hD⟩ | ⟨hx0, hy0, hT⟩ | ⟨hx0, hy0, hyx, hT⟩ | hP
  ·have k1 := Nat.mul_le_mul hy ha
   have k2 := Nat.mul_le_mul hx hb
   have k3 := Nat.mul_le_mul hy hb
   rcases Int.lt_or_le x 0 with hs | hs
   ·have := f2 hs; omega
   ·have := f1 hs; omega
  ·have := f1 hx0; omega
  ·have := f2 hx0
   have k3 := Nat.mul_le_mul_right b hyx
   omega
  ·exact absurd hP h0
 rcases Int.lt_trichotomy y 0 with hs | hs | hs
 ·have := key.2 hs
  exact ⟨.inr (.inr (.inl ⟨hs, r0, by omega, this⟩)), by omega⟩
 ·exact absurd hs h0
 ·have := key.1 hs
  exact ⟨.inr (.inl ⟨by omega, r0, this⟩), by omega⟩
section
variable {h w c top i N B0 B D : Nat} {A W W' : List (List Int)}
theorem stepE_ws (hW : WS h w W) (ht : top < h) (hi : i < h) : WS h w (stepE h c top i W) := by
 unfold stepE
 split
 ·exact swapW_ws hW ht hi
 ·exact swapW_ws (addW_ws hW ht hi) ht hi
theorem stepE_ent (hW : WS h w W) (hti : top < i) (hi : i < h) {q t : Nat} (hq : q < h) : ent2 (stepE h c top i W) q t = if q = top then ent2 W i t else if q = i then ent2 W top t - ent2 W top c / ent2 W i c * ent2 W i t else ent2 W q t := by
 have ht : top < h := by omega
 have hW1 : WS h w (if ent2 W top c = 0 then W else addW h top i (-(ent2 W top c / ent2 W i c)) W) := by
  split
  ·exact hW
  ·exact addW_ws hW ht hi
 have e1 : ∀ q, q < h → ent2 (if ent2 W top c = 0 then W else addW h top i (-(ent2 W top c / ent2 W i c)) W) q t = if q = top then ent2 W top t - ent2 W top c / ent2 W i c * ent2 W i t else ent2 W q t := fun q hq => by
  by_cases h0 : ent2 W top c = 0
  ·rw [if_pos h0, h0, Int.zero_ediv, Int.zero_mul, Int.sub_zero]
   by_cases e : q = top
   ·rw [if_pos e, e]
   ·rw [if_neg e]
  ·rw [if_neg h0, addW_ent hW ht hi (by omega)]
   by_cases e : q = top
   ·rw [if_pos e, if_pos e, Int.neg_mul, Int.sub_eq_add_neg]
   ·rw [if_neg e, if_neg e, if_neg (by omega), if_neg (by omega)]
 unfold stepE
 rw [swapW_ent hW1 ht hi (by omega), if_pos hq, e1 _ (swi_lt ht hi hq)]
 by_cases e2 : q = top
 ·subst e2
  rw [swi_i, if_neg (by omega), if_pos rfl]
 ·rw [if_neg e2]
  by_cases e3 : q = i
  ·subst e3
   rw [swi_j, if_pos rfl, if_pos rfl]
  ·rw [swi_ne e2 e3, if_neg e2, if_neg e3]
structure PairI (h w c top i N B0 B D : Nat) (W : List (List Int)) : Prop where
 ws : WS h w W
 bd : ∃ a b, Gb h W (bp top i a b (gB top B0 B)) (bp top i b a (gB top B0 B)) ∧ a ≤ D ∧ b ≤ D ∧ PhE (ent2 W top c) (ent2 W i c) a b N B D
 col : ∀ q, top ≤ q → q < h → (ent2 W q c).natAbs ≤ N
theorem bp_swap {a b : Nat} {g : Nat → Nat} (hti : top ≠ i) : (fun q => bp top i a b g (swi top i q)) = bp top i b a g := by
 funext q
 unfold bp
 by_cases e1 : q = top
 ·subst e1
  rw [swi_i, if_neg (Ne.symm hti), if_pos rfl, if_pos rfl]
 ·by_cases e2 : q = i
  ·subst e2
   rw [swi_j, if_pos rfl, if_neg e1, if_pos rfl]
  ·rw [swi_ne e1 e2, if_neg e1, if_neg e2, if_neg e1, if_neg e2]
theorem PairI.step (hP : PairI h w c top i N B0 B D W) (hti : top < i) (hi : i < h) (hne : ent2 W i c ≠ 0) : PairI h w c top i N B0 B D (stepE h c top i W) ∧ (ent2 (stepE h c top i W) i c).natAbs < (ent2 W i c).natAbs := by
 have ht : top < h := by omega
 obtain ⟨ws, ⟨a, b, hG, ha, hb, hPh⟩, hc⟩ := hP
 have hx := hc top (znb _) ht
 have hy := hc i (by omega) hi
 obtain ⟨r0, r1, _, _⟩ := euc_nat (x := ent2 W top c) hne
 have eX : ent2 (stepE h c top i W) top c = ent2 W i c := by rw [stepE_ent ws hti hi ht, if_pos rfl]
 have eY : ent2 (stepE h c top i W) i c = ent2 W top c % ent2 W i c := by
  rw [stepE_ent ws hti hi hi, if_neg (by omega), if_pos rfl]
  have := Int.mul_ediv_add_emod (ent2 W top c) (ent2 W i c)
  rw [Int.mul_comm] at this; omega
 have h1 := phE_step hx hy hne hPh
 refine ⟨⟨stepE_ws ws ht hi, ?_, fun q h1 h2 => ?_⟩, by rw [eY]; exact r1⟩
 ·rw [eX, eY]
  refine ⟨b, a + (ent2 W top c / ent2 W i c).natAbs * b, ?_, hb, h1.2, h1.1⟩
  unfold stepE
  by_cases h0 : ent2 W top c = 0
  ·rw [if_pos h0, h0, Int.zero_ediv]
   have := hG.swap ws ht hi
   rw [bp_swap (by omega), bp_swap (by omega)] at this
   simpa using this
  ·rw [if_neg h0]
   have h2 := hG.add ws ht hi (k := -(ent2 W top c / ent2 W i c)) (Q := (ent2 W top c / ent2 W i c).natAbs) (by rw [Int.natAbs_neg]; exact znb _)
   have e1 : bp top i a b (gB top B0 B) top = a := if_pos rfl
   have e2 : bp top i a b (gB top B0 B) i = b := by unfold bp; rw [if_neg (by omega), if_pos rfl]
   have e3 : bp top i b a (gB top B0 B) i = a := by unfold bp; rw [if_neg (by omega), if_pos rfl]
   have e4 : bp top i b a (gB top B0 B) top = b := if_pos rfl
   rw [e1, e2, e3, e4] at h2
   have e5 : ∀ x, upd (bp top i a b (gB top B0 B)) top x = bp top i x b (gB top B0 B) := fun x => by
    funext q
    unfold upd bp
    by_cases e : q = top
    ·rw [if_pos e, if_pos e]
    ·rw [if_neg e, if_neg e, if_neg e]
   have e6 : ∀ x, upd (bp top i b a (gB top B0 B)) i x = bp top i b x (gB top B0 B) := fun x => by
    funext q
    unfold upd bp
    by_cases e : q = i
    ·rw [if_pos e, if_neg (by omega), if_pos e]
    ·rw [if_neg e]
     by_cases e7 : q = top
     ·rw [if_pos e7, if_pos e7]
     ·rw [if_neg e7, if_neg e7, if_neg e, if_neg e]
   rw [e5, e6] at h2
   have h3 := h2.swap (addW_ws ws ht hi) ht hi
   rwa [bp_swap (by omega), bp_swap (by omega)] at h3
 ·by_cases e1 : q = top
  ·rw [e1, eX]; exact hy
  ·by_cases e2 : q = i
   ·rw [e2, eY]; omega
   ·rw [stepE_ent ws hti hi h2, if_neg e1, if_neg e2]; exact hc q h1 h2
inductive Euc (h c top i : Nat) : List (List Int) → List (List Int) → Prop
 | stop {W : List (List Int)} : ent2 W i c = 0 → Euc h c top i W W
 | step {W W' : List (List Int)} : ent2 W i c ≠ 0 → Euc h c top i (stepE h c top i W) W' → Euc h c top i W W'
theorem Euc.ex (hti : top < i) (hi : i < h) : ∀ (n : Nat) {W : List (List Int)}, (ent2 W i c).natAbs ≤ n → PairI h w c top i N B0 B D W → ∃ W', Euc h c top i W W'
 | 0, W, hn, _ => ⟨W, .stop (by omega)⟩
 | n + 1, W, hn, hP => by
  by_cases h0 : ent2 W i c = 0
  ·exact ⟨W, .stop h0⟩
  ·obtain ⟨h1, h2⟩ := hP.step hti hi h0
   obtain ⟨W', hW'⟩ := Euc.ex hti hi n (by omega) h1
   exact ⟨W', .step h0 hW'⟩
theorem Euc.zero (hE : Euc h c top i W W') : ent2 W' i c = 0 := by
 induction hE with
 | stop h0 => exact h0
 | step _ _ ih => exact ih
theorem Euc.pair (hE : Euc h c top i W W') (hti : top < i) (hi : i < h) : PairI h w c top i N B0 B D W → PairI h w c top i N B0 B D W' := by
 induction hE with
 | stop h0 => exact fun h => h
 | step h0 _ ih => exact fun h => ih (h.step hti hi h0).1
theorem Euc.rest (hE : Euc h c top i W W') (hti : top < i) (hi : i < h) : WS h w W → ∀ q, q < h → q ≠ top → q ≠ i → ∀ t, ent2 W' q t = ent2 W q t := by
 induction hE with
 | stop h0 => exact fun _ _ _ _ _ _ => rfl
 | step h0 _ ih => exact fun hW q hq h1 h2 t => by rw [ih (stepE_ws hW (by omega) hi) q hq h1 h2 t, stepE_ent hW hti hi hq, if_neg h1, if_neg h2]
theorem Euc.left (hE : Euc h c top i W W') (hti : top < i) (hi : i < h) {t : Nat} : WS h w W → ent2 W top t = 0 → ent2 W i t = 0 → ent2 W' top t = 0 ∧ ent2 W' i t = 0 := by
 induction hE with
 | stop h0 => exact fun _ a b => ⟨a, b⟩
 | step h0 _ ih => exact fun hW a b => ih (stepE_ws hW (by omega) hi) (by rw [stepE_ent hW hti hi (by omega), if_pos rfl]; exact b) (by rw [stepE_ent hW hti hi hi, if_neg (by omega), if_pos rfl, a, b]; simp)
theorem Euc.lin (hE : Euc h c top i W W') (hti : top < i) (hi : i < h) : WS h w W → LinI h w A W → LinI h w A W' := by
 induction hE with
 | stop h0 => exact fun _ h => h
 | @step W W' h0 _ ih =>
  intro hW hL
  refine ih (stepE_ws hW (by omega) hi) ?_
  unfold stepE
  split
  ·exact hL.swap hW (by omega) hi (by omega)
  ·exact (hL.add hW (by omega) hi (by omega)).swap (addW_ws hW (by omega) hi) (by omega) hi (by omega)
end
end Go.Proofs.Ytdkkgndibagihaa
