/- Texts joined: Rq Rr Rs Rt Ru Gl Op Rw Rv Ha Hb Hc. -/
import Derived.WalkKit
import Derived.ProofKit
import Derived.OpenShut
import Derived.Carry
import Derived.Test.YtdcbmdmlhjemmaaVc
import Derived.Test.YtdcbmdmlhjemmaaVf
import Derived.Test.YtdcbmdmlhjemmaaVm
set_option linter.all false
open Nat renaming reduceEqDiff → zn1, reduceLT → zn2, reduceLeDiff → zn3, reduceAdd → zn4, reduceMul → zn5, reduceSub → zn6, reduceBEq → zn7, mul_one → zn8, zero_add → zn9, one_mul → zna, le_refl → znb, zero_le → znc, add_sub_cancel_left → znd, sub_eq_zero_of_le → zne, add_assoc → znf
open Int renaming reduceToNat → zi1, reducePow → zi2
open List renaming length_append → zl1, drop_zero → zl2, take_succ_cons → zl3, take_zero → zl4, getElem?_drop → zl5, append_assoc → zl6, nil_append → zl7, cons_append → zl8, drop_succ_cons → zl9, take_of_length_le → zla, getElem?_eq_getElem → zlb, getElem?_eq_some_iff → zlc, map_cons → zld, map_nil → zle, all_eq_true → zlf
namespace Go.Proofs.Ytdcbmdmlhjemmaa
open Go.RowKit
theorem dot_congr {f f' g g' : Nat → Int} : ∀ {n : Nat}, (∀ t, t < n → f t = f' t ∧ g t = g' t) → dotI f g n = dotI f' g' n
 | 0, _ => rfl
 | n + 1, h => by
  rw [dotI, dotI, dot_congr (fun t ht => h t (by omega)), (h n (by omega)).1, (h n (by omega)).2]
theorem dot_neg {f g : Nat → Int} : ∀ {n : Nat}, dotI (fun t => -(f t)) g n = -(dotI f g n)
 | 0 => rfl
 | n + 1 => by rw [dotI, dotI, dot_neg, Int.neg_add, Int.neg_mul]
theorem dot_add {f e g : Nat → Int} {k : Int} : ∀ {n : Nat}, dotI (fun t => f t + k * e t) g n = dotI f g n + k * dotI e g n
 | 0 => by simp [dotI]
 | n + 1 => by
  rw [dotI, dotI, dotI, dot_add, Int.mul_add, Int.add_mul, Int.mul_assoc]; omega
theorem dot_unit {g : Nat → Int} {r : Nat} : ∀ {n : Nat}, dotI (fun t => if r = t then 1 else 0) g n = if r < n then g r else 0
 | 0 => by simp [dotI]
 | n + 1 => by
  rw [dotI, dot_unit]
  by_cases e : r = n
  ·subst e; simp
  ·rw [if_neg e]
   by_cases h : r < n
   ·rw [if_pos h, if_pos (by omega)]; simp
   ·rw [if_neg h, if_neg (by omega)]; simp
theorem ent_mk {h w r c : Nat} {f : Nat → Nat → Int} (hr : r < h) (hc : c < w) : ent2 (mkM h w f) r c = f r c := by
 unfold ent2; rw [mkM_get hr, mkR_get hc]
theorem mat_ent {h w K K' : Nat} {A C : List (List Int)} (hA : MI h w K A) (hC : MI h w K' C) (he : ∀ r c, r < h → c < w → ent2 A r c = ent2 C r c) : A = C := by
 rw [← mkM_of hA, ← mkM_of hC]
 exact mkM_congr he
theorem act_ent {h w K : Nat} {M : List (List Int)} (hM : MI h w K M) {o : OpL} (ho : OkOp h o) {r c : Nat} (hr : r < h) (hc : c < w) :
  ent2 (actO M o) r c = if o.kd = 1 then (if r = o.j then ent2 M o.i c else if r = o.i then ent2 M o.j c else ent2 M r c) else if o.kd = 2 then (if r = o.i then -(ent2 M r c) else ent2 M r c) else (if r = o.i then ent2 M r c + o.k * ent2 M o.j c else ent2 M r c) := by
 have hl := hM.len
 have hi := ho.i
 unfold actO
 by_cases h1 : o.kd = 1
 ·have hj : o.j < h := by rcases ho.c with ⟨_, hj, _⟩ | ⟨e, _⟩ | ⟨e, _⟩ <;> omega
  rw [if_pos h1, if_pos h1]
  unfold ent2
  rw [swapI_get (by omega) (by omega)]
  by_cases a : r = o.j
  ·rw [if_pos a, if_pos a]
  ·rw [if_neg a, if_neg a]
   by_cases b : r = o.i
   ·rw [if_pos b, if_pos b]
   ·rw [if_neg b, if_neg b]
 ·rw [if_neg h1, if_neg h1]
  by_cases h2 : o.kd = 2
  ·rw [if_pos h2, if_pos h2]
   unfold ent2
   rw [getD_set (by omega)]
   by_cases b : r = o.i
   ·rw [if_pos b, if_pos b, negI_get (by rw [(hM.get hi).1]; exact hc), b]
   ·rw [if_neg b, if_neg b]
  ·rw [if_neg h2, if_neg h2]
   unfold ent2
   rw [getD_set (by omega)]
   by_cases b : r = o.i
   ·rw [if_pos b, if_pos b, addI_get (by rw [(hM.get hi).1]; exact hc), b]
   ·rw [if_neg b, if_neg b]
theorem act_inv {h w K : Nat} {M : List (List Int)} (hM : MI h w K M) {o : OpL} (ho : OkOp h o) : actO (actO M o) (invO o) = M ∧ actO (actO M (invO o)) o = M := by
 have hi := ho.i
 have ho' := invO_ok ho
 have key : ∀ o, OkOp h o → actO (actO M o) (invO o) = M := by
  intro o ho
  have ho' := invO_ok ho
  have hM1 := hM.act ho
  refine mat_ent (hM1.act ho') hM fun r c hr hc => ?_
  rw [act_ent hM1 ho' hr hc]
  show (if o.kd = 1 then (if r = o.j then ent2 (actO M o) o.i c else if r = o.i then ent2 (actO M o) o.j c else ent2 (actO M o) r c) else if o.kd = 2 then (if r = o.i then -(ent2 (actO M o) r c) else ent2 (actO M o) r c) else (if r = o.i then ent2 (actO M o) r c + (-o.k) * ent2 (actO M o) o.j c else ent2 (actO M o) r c)) = _
  rw [act_ent hM ho hr hc, act_ent hM ho ho.i hc]
  by_cases h1 : o.kd = 1
  ·obtain ⟨hj, hij⟩ : o.j < h ∧ o.i ≠ o.j := by rcases ho.c with ⟨_, hj, hij, _⟩ | ⟨e, _⟩ | ⟨e, _⟩ <;> first | exact ⟨hj, hij⟩ | omega
   rw [act_ent hM ho hj hc]
   simp only [h1, if_true, if_neg hij]
   by_cases a : r = o.j
   ·subst a; simp
   ·by_cases b : r = o.i
    ·subst b; simp [hij]
    ·simp [a, b]
  ·by_cases h2 : o.kd = 2
   ·simp only [h2]
    by_cases b : r = o.i
    ·simp [b]
    ·simp [b]
   ·obtain ⟨hj, hij⟩ : o.j < h ∧ o.i ≠ o.j := by rcases ho.c with ⟨e, _⟩ | ⟨e, _⟩ | ⟨_, hj, hij⟩ <;> first | exact ⟨hj, hij⟩ | omega
    rw [act_ent hM ho hj hc]
    simp only [if_neg h1, if_neg h2, if_neg (Ne.symm hij)]
    by_cases b : r = o.i
    ·simp only [if_pos b]; rw [Int.neg_mul]; omega
    ·simp only [if_neg b]
 refine ⟨key o ho, ?_⟩
 have := key (invO o) ho'
 rwa [show invO (invO o) = o by obtain ⟨a, b, c, d⟩ := o; simp [invO]] at this
theorem actsO_app : ∀ (a b : List OpL) (M : List (List Int)), actsO M (a ++ b) = actsO (actsO M a) b
 | [], _, _ => rfl
 | o :: a, b, M => by rw [zl8, actsO, actsO, actsO_app a b]
theorem acts_mi {h w : Nat} : ∀ {l : List OpL} {K : Nat} {M : List (List Int)}, MI h w K M → (∀ o ∈ l, OkOp h o) → MI h w (K + (OL + 1) * l.length) (actsO M l)
 | [], _, _, hM, _ => hM
 | o :: l, K, M, hM, hl => by
  rw [actsO]
  exact (acts_mi (hM.act (hl o (by simp))) fun p hp => hl p (by simp [hp])).mono (by rw [List.length_cons, Nat.mul_succ]; omega)
theorem invL_cons (o : OpL) (l : List OpL) : invL (o :: l) = invL l ++ [invO o] := by simp [invL]
theorem acts_inv {h w : Nat} : ∀ {l : List OpL} {K : Nat} {M : List (List Int)}, MI h w K M → (∀ o ∈ l, OkOp h o) → actsO (actsO M l) (invL l) = M ∧ actsO (actsO M (invL l)) l = M
 | [], _, _, _, _ => ⟨rfl, rfl⟩
 | o :: l, K, M, hM, hl => by
  have ho := hl o (by simp)
  have hl' : ∀ p ∈ l, OkOp h p := fun p hp => hl p (by simp [hp])
  constructor
  ·rw [actsO, invL_cons, actsO_app, (acts_inv (hM.act ho) hl').1]
   exact (act_inv hM ho).1
  ·rw [invL_cons, actsO_app, actsO]
   show actsO (actO (actO (actsO M (invL l)) (invO o)) o) l = M
   rw [(act_inv (acts_mi hM (invL_ok hl')) ho).2]
   exact (acts_inv hM hl').2
def bv8 (l : List Int) : List V := l.map fun n => .sc (.int .i8 n)
theorem bv8_len (l : List Int) : (bv8 l).length = l.length := by simp [bv8]
theorem bv8_get {r : List Int} {j : Nat} (h : j < r.length) : (bv8 r)[j]? = some (.sc (.int .i8 (r.getD j 0))) := by
 unfold bv8; rw [List.getElem?_map, getD_get' (d := 0) h]; rfl
def dgt (l : List Int) (k : Nat) : Int := if k < l.length then (l.getD k 0).tmod 10 else 0
theorem dgt_small {l : List Int} {k : Nat} (h : ∀ x ∈ l, -128 ≤ x ∧ x ≤ 127) : -9 ≤ dgt l k ∧ dgt l k ≤ 9 := by
 unfold dgt
 split
 ·rename_i hc
  have hx := h _ (getD_mem (d := 0) hc)
  generalize l.getD k 0 = x at *
  have := Int.tmod_def x 10
  have h1 := Int.tmod_lt_of_pos x (b := 10) (by omega)
  have h2 := Int.lt_tmod_of_pos x (b := 10) (by omega)
  omega
 ·omega
def Gf (w : Nat) (l : List Int) (i j r c : Nat) : Int := if r < i ∨ (r = i ∧ c < j) then dgt l (r * w + c) else 0
def filL (h w : Nat) (l : List Int) : List (List Int) := mkM h w fun r c => dgt l (r * w + c)
set_option maxHeartbeats 16000000 in
set_option maxRecDepth 8000 in
theorem filled_s {h w : Nat} {l : List Int} (hn : h ≤ 16) (hw : w ≤ 16) (hb : ∀ x ∈ l, -128 ≤ x ∧ x ≤ 127) (hl : l.length ≤ 9223372036854775807) :
  Spec Try.prog 23 [.sc (.int .i64 h), .sc (.int .i64 w), .im (bv8 l) l.length] (mat w (filL h w l)) := by
 have c0 := rnew_s h w 1 (by omega) (by omega)
 have hm1 : max (h : Int) 0 = h := by omega
 have hm2 : max (w : Int) 0 = w := by omega
 have hm3 : min (h : Int) 16 = h := by omega
 have hm4 : min (w : Int) 16 = w := by omega
 refine Spec.run Try.func23 rfl Try.ntmps23 (by simp) sF fun B hB => ?_
 (repeat (first | (with_reducible refine oA ?_) | ((with_reducible first | apply SC.region | apply SO.run); (focus (simp (disch := omega) only [go_sem, ↓reduceIte, zn1, reduceCtorEq, if_neg] <;> rfl)); (fail_if_success with_reducible refine pickA ?_)) | (with_reducible apply SC.ops)))
 refine SO.inlQ sG Tab.go40 sG sG (SInlQ.newR c0 ?_ ?_ ?_)
 ·exact klc (by omega) kln
 ·exact fun x hp' nx' h => matQ_new h
 rintro x hp' nx ⟨o, ids, hR, rfl, rfl⟩
 have ho := hR.o1
 rw [zeroL_len] at hR ⊢
 have e0 : zeroL h w = mkM h w (Gf w l 0 0) := by
  rw [mkM_zero]
  exact mkM_congr fun r c _ _ => by
   unfold Gf
   rw [if_neg (by omega)]
 rw [e0]
 have hidl := hR.len
 have g1 := slR_len 2 w ids
 rw [hidl] at g1
 (repeat (first | (with_reducible refine oA ?_) | ((with_reducible first | apply SC.region | apply SO.run); (focus (simp (disch := omega) only [go_sem, ↓reduceIte, zn1, zn3, zn4] <;> rfl)); (fail_if_success with_reducible refine pickA ?_))))
 refine SC.loop (fun i : Nat => ⟨[(2, .im (bv8 l) l.length), (6, .pt 0 0), (7, .pt nx 0), (8, .sc (.int .i64 i))], (nx, ⟨28, [.sc (.int .i64 h), .sc (.int .i64 w), .sl o 0 h 1 none], false⟩) :: (0, ⟨28, [.sc (.int .i64 0), .sc (.int .i64 0), .sc (.slice none 0 0)], false⟩) :: (o, ⟨73, slR 2 w ids, false⟩) :: rowsH 43 ids (rI (mkM h w (Gf w l i 0))), nx + 1, 60⟩)
  (fun i => i ≤ h) (fun i => h - i) 0 ?_ ?_ ?_
 ·(refine Le.slots ?_ ?_ ?_ <;> (repeat' (first | (exact fun _ _ h => h) | exact znb _ | exact leSl_nil | refine leSl_cons sG ?_ ?_ | exact VLe.refl rfl)))
 ·exact znc _
 ·intro i hi K1 hK1
  by_cases hc : i < h
  ·have q1 := decide_eq_true (p := (i : Int) < (h : Int)) (by omega)
   (repeat (first | (with_reducible refine oA ?_) | ((with_reducible first | apply SC.condB | apply SC.region); (focus (simp (disch := omega) only [go_sem, ↓reduceIte, zn1, reduceCtorEq, q1] <;> rfl)); (first | refine pickT ?_ | fail_if_success with_reducible refine pickA ?_))))
   refine SC.loop (fun j : Nat => ⟨[(2, .im (bv8 l) l.length), (6, .pt 0 0), (7, .pt nx 0), (8, .sc (.int .i64 i)), (9, .sc (.int .i64 j))], (nx, ⟨28, [.sc (.int .i64 h), .sc (.int .i64 w), .sl o 0 h 1 none], false⟩) :: (0, ⟨28, [.sc (.int .i64 0), .sc (.int .i64 0), .sc (.slice none 0 0)], false⟩) :: (o, ⟨73, slR 2 w ids, false⟩) :: rowsH 43 ids (rI (mkM h w (Gf w l i j))), nx + 1, 60⟩)
    (fun j => j ≤ w) (fun j => w - j) 0 ?_ ?_ ?_
   ·(refine Le.slots ?_ ?_ ?_ <;> (repeat' (first | (exact fun _ _ h => h) | exact znb _ | exact leSl_nil | refine leSl_cons sG ?_ ?_ | exact VLe.refl rfl)))
   ·exact znc _
   ·intro j hj K2 hK2
    have hiw : i * w ≤ 16 * 16 := Nat.mul_le_mul (by omega) hw
    have hww : (i : Int) * (w : Int) = ((i * w : Nat) : Int) := by simp
    by_cases hc2 : j < w
    ·have q2 := decide_eq_true (p := (j : Int) < (w : Int)) (by omega)
     have gl := bv8_len l
     by_cases hc3 : i * w + j < l.length
     ·have q3 := decide_eq_true (p := ((i * w : Nat) : Int) + (j : Int) < (l.length : Int)) (by omega)
      have gi := slR_get (z := 2) (m := w) (ids := ids) (k := i) (by omega)
      obtain ⟨gR, gl2, gd, gs, hrs⟩ := cellF (ty := 43) (f := Gf w l i j) (z := dgt l (i * w + j)) (j := j) hR.nod hidl hc hc2
      have e1 : (mkM h w fun r c => if r = i ∧ c = j then dgt l (i * w + j) else Gf w l i j r c) = mkM h w (Gf w l i (j + 1)) := mkM_congr fun r c _ _ => by
       unfold Gf
       by_cases e : r = i ∧ c = j
       ·obtain ⟨rfl, rfl⟩ := e
        rw [if_pos ⟨rfl, rfl⟩, if_pos (by omega)]
       ·rw [if_neg e]
        by_cases e2 : r < i ∨ (r = i ∧ c < j)
        ·rw [if_pos e2, if_pos (by omega)]
        ·rw [if_neg e2, if_neg (by omega)]
      rw [e1] at hrs
      have hd := dgt_small (k := i * w + j) hb
      have c1 := of_i (dgt l (i * w + j)) (by omega) (by omega)
      have ed : dgt l (i * w + j) = (l.getD (i * w + j) 0).tmod 10 := by unfold dgt; rw [if_pos hc3]
      rw [ed] at c1 gs hrs
      have g3 := bv8_get hc3
      have hx := hb _ (getD_mem (d := 0) hc3)
      have hkl := klB_rows (ty := 43) (rs := rI (mkM h w (Gf w l i j))) (n := nx + 1) (fun j hj => by have := hR.lt j hj; omega)
      have hmem := getD_mem' (ids := ids) (k := i) (by omega)
      have hidk := hR.lt _ hmem
      have hne : ids.getD i 0 ≠ o := fun e => hR.o2 (by rw [← e]; exact hmem)
      have hix : (((i * w : Nat) : Int) + (j : Int)).toNat = i * w + j := by omega
      generalize hH : rowsH 43 ids (rI (mkM h w (Gf w l i j))) = H at *
      generalize mkR w (Gf w l i j i) = row at *
      generalize ids.getD i 0 = idk at *
      generalize hRr : ivR row = RR at *
      generalize l.getD (i * w + j) 0 = dd at *
      unfold iv sv at c1
      unfold ivC sv at gs
      have g2 : j * 2 < RR.length := by omega
      (repeat (first | refine DO.nilF (fun i => i + 1 - nx) (by simp (disch := omega) only [go_sem, zld, zle, Option.map_some, Option.map_none, znd, zne] <;> rfl) (by kernel_rfl) ?_ | (with_reducible refine oA ?_) | ((apply DO.call); (iterate 3 (focus (simp (disch := omega) only [go_sem, ↓reduceIte] <;> rfl))); (apply DCall.ofX); (focus (assumption)); (focus (simp (disch := omega) only [go_sem] <;> rfl))) | ((with_reducible first | apply SC.condB | apply SC.region | apply DO.run); (focus (simp (disch := omega) only [go_sem, ↓reduceIte, zn1, zn4, reduceCtorEq, if_pos, if_neg, q2, q3, hww, hix, gi, gR, gl, gl2, gs, hrs, g3, zl5] <;> rfl)); (first | refine pickT ?_ | fail_if_success with_reducible refine pickA ?_)) | ((with_reducible refine SC.draw Tab.mixed ?_ ?_); (focus (simp (disch := omega) only [go_sem, ↓reduceIte, if_pos, hkl])))))
      refine hK2 _ (j + 1) ?_ (by omega) (by omega)
      (refine Le.slots ?_ ?_ ?_ <;> (repeat' (first | (exact fun _ _ h => h) | exact znb _ | exact leSl_nil | refine leSl_cons sG ?_ ?_ | exact VLe.refl rfl)))
     ·have q3 := decide_eq_false (p := ((i * w : Nat) : Int) + (j : Int) < (l.length : Int)) (by omega)
      (repeat (first | (with_reducible refine oA ?_) | ((with_reducible first | apply SC.condB | apply SC.region); (focus (simp (disch := omega) only [go_sem, ↓reduceIte, zn1, reduceCtorEq, q2, q3, hww] <;> rfl)); (first | refine pickF ?_ | fail_if_success with_reducible refine pickA ?_))))
      refine hK1 _ (i + 1) ?_ (by omega) (by omega)
      have e1 : mkM h w (Gf w l i j) = mkM h w (Gf w l (i + 1) 0) := mkM_congr fun r c _ hcw => by
       unfold Gf
       by_cases e : r < i ∨ (r = i ∧ c < j)
       ·rw [if_pos e, if_pos (by omega)]
       ·rw [if_neg e]
        by_cases e2 : r = i
        ·subst e2
         rw [if_pos (by omega)]
         unfold dgt
         rw [if_neg (by omega)]
        ·rw [if_neg (by omega)]
      rw [e1]
      (refine Le.slots ?_ ?_ ?_ <;> (repeat' (first | (exact fun _ _ h => h) | exact znb _ | exact leSl_nil | refine leSl_cons sG ?_ ?_ | exact VLe.refl rfl)))
    ·have q2 := decide_eq_false (p := (j : Int) < (w : Int)) (by omega)
     have hjw : j = w := by omega
     (repeat (first | (with_reducible refine oA ?_) | ((with_reducible first | apply SC.condB | apply SC.region); (focus (simp (disch := omega) only [go_sem, ↓reduceIte, zn1, reduceCtorEq, q2] <;> rfl)); (first | refine pickF ?_ | fail_if_success with_reducible refine pickA ?_))))
     refine hK1 _ (i + 1) ?_ (by omega) (by omega)
     have e1 : mkM h w (Gf w l i j) = mkM h w (Gf w l (i + 1) 0) := mkM_congr fun r c _ hcw => by
      unfold Gf
      by_cases e : r < i ∨ (r = i ∧ c < j)
      ·rw [if_pos e, if_pos (by omega)]
      ·rw [if_neg e]
       by_cases e2 : r = i
       ·subst e2
        rw [if_pos (by omega)]
        unfold dgt
        rw [if_neg (by omega)]
       ·rw [if_neg (by omega)]
     rw [e1]
     (refine Le.slots ?_ ?_ ?_ <;> (repeat' (first | (exact fun _ _ h => h) | exact znb _ | exact leSl_nil | refine leSl_cons sG ?_ ?_ | exact VLe.refl rfl)))
  ·have q1 := decide_eq_false (p := (i : Int) < (h : Int)) (by omega)
   have hih : i = h := by omega
   subst hih
   have e1 : mkM i w (Gf w l i 0) = filL i w l := mkM_congr fun r c hr _ => by
    unfold Gf
    rw [if_pos (.inl hr)]
   rw [e1]
   have hM : MI i w 1 (filL i w l) := mk_mi fun r c _ _ => by
    have := dgt_small (k := r * w + c) hb
    unfold Fits; omega
   generalize filL i w l = Z at *
   have hZl := hM.len
   by_cases h0 : i = 0
   ·subst h0
    have hids : ids = [] := List.eq_nil_of_length_eq_zero (by omega)
    have hZ : Z = [] := List.eq_nil_of_length_eq_zero (by omega)
    subst hids; subst hZ
    (repeat (first | (with_reducible refine oA ?_) | ((with_reducible first | apply SC.condB | apply SC.region); (focus (simp (disch := omega) only [go_sem, ↓reduceIte, zn1, zn2, zn3, zn4, reduceCtorEq, if_neg, q1] <;> rfl)); (first | refine pickF ?_ | fail_if_success with_reducible refine pickA ?_))))
    exact retQ_ret Try.results23 sG sG rfl
   ·have hrows : ∀ C1 C2 : List V, ∀ k, k < ids.length → hget ((nx, (⟨28, C1, false⟩ : Blk)) :: (0, ⟨28, C2, false⟩) :: (o, ⟨73, slR 2 w ids, false⟩) :: rowsH 43 ids (rI Z)) (ids.getD k 0) = some ⟨43, (rI Z).getD k [], false⟩ := by
     intro C1 C2 k hk
     have hm := getD_mem' hk
     have := hR.lt _ hm
     simp only [hget]
     rw [if_neg (by omega), if_neg (by omega), if_neg (fun e => hR.o2 (by rw [← e]; exact hm))]
     exact rows_get hR.nod hk (by rw [rI_len]; omega)
    have hfz := fun C1 C2 : List V => frz_rowsA (n := 5) (z := 2) (m := w) (ty := 43) (ids := ids) (rs := rI Z) (by omega) (by rw [rI_len]; omega) (hrows C1 C2) (rI_rows hM)
    have hsl := slR_some (z := 2) (m := w) (ids := ids) (by omega)
    have ht : (slR 2 w ids).take i = slR 2 w ids := zla (by omega)
    have hne : nx ≠ o := by omega
    unfold mat
    rw [hZl]
    (repeat (first | (with_reducible refine oA ?_) | ((with_reducible first | apply SC.condB | apply SC.region); (focus (simp (disch := omega) only [go_sem, ↓reduceIte, zn1, zn2, zn3, zn4, reduceCtorEq, if_neg, q1] <;> rfl)); (first | refine pickF ?_ | fail_if_success with_reducible refine pickA ?_))))
    exact retQ_ret Try.results23 sG (by simp (disch := omega) only [go_sem, ↓reduceIte, if_pos, if_neg, hfz, hsl, ht, g1] <;> rfl) rfl
theorem rmade_s {a b : Nat} {l : List Int} (ha : a < 256) (hb : b < 256) (hx : ∀ x ∈ l, -128 ≤ x ∧ x ≤ 127) (hl : l.length ≤ 9223372036854775807) :
  Spec Try.prog 5 [.ag [.sc (.int .u8 a), .sc (.int .u8 b), .im (bv8 l) l.length]] (mat (b % 5) (filL (a % 5) (b % 5) l)) := by
 have c1 := filled_s (h := a % 5) (w := b % 5) (l := l) (by omega) (by omega) hx hl
 have r1 : (a : Int).tmod 5 = ((a % 5 : Nat) : Int) := by rw [Int.tmod_eq_emod_of_nonneg (by omega)]; simp
 have r2 : (b : Int).tmod 5 = ((b % 5 : Nat) : Int) := by rw [Int.tmod_eq_emod_of_nonneg (by omega)]; simp
 generalize filL (a % 5) (b % 5) l = F at *
 unfold mat at *
 refine Spec.run Try.func5 rfl Try.ntmps5 (by simp) sF fun B hB => ?_
 (repeat (first | (with_reducible refine oA ?_) | ((apply SO.call); (iterate 3 (focus (simp (disch := omega) only [go_sem, ↓reduceIte, zn1, zn2] <;> rfl))); (apply SCall.ofX); (focus (assumption)); (focus (simp (disch := omega) only [go_sem] <;> rfl))) | ((with_reducible first | apply SC.region | apply SO.run); (focus (simp (disch := omega) only [go_sem, ↓reduceIte, zn1, zn2, zn3, zn4, reduceCtorEq, if_neg, r1, r2] <;> rfl)); (fail_if_success with_reducible refine pickA ?_)) | (with_reducible apply SC.ops)))
 exact retQ_ret Try.results5 sG sG rfl
theorem opC_z (a i j : Nat) : opC ⟨a, i, j, 0⟩ = [.sc (.int .i64 a), .sc (.int .i64 i), .sc (.int .i64 j), .sc (.bool false), .im [] 0] := rfl
end Go.Proofs.Ytdcbmdmlhjemmaa
namespace Go.Proofs.Ytdcbmdmlhjemmaa
open Go.ChangeShapes Go.WideShapes Go.ChangeAt Go.RowKit
section
variable {H : Type} {enc : TypeId × Value → H} {P : Program} {W W' : World}
theorem trodAll_below (hl : laidOutB P = true) (hb : Below W.heap.size W W') : ∀ {ts : List TypeId} {vs : List Value} {ds : List (DataW H)} {ps : List MemPlace}, (ts.all fun t => P.readableRec t && decide (t < P.types.size)) = true → (∀ x ∈ ps, x.block < W.heap.size) →
  DataW.TrodAll enc P W 0 (fun _ => true) true ts vs ds ps → DataW.TrodAll enc P W' 0 (fun b => decide (b < W.heap.size)) true ts vs ds ps
 | [], vs, ds, ps, _, _, h => by obtain ⟨rfl, rfl, rfl⟩ := trodAll_nil h; exact trodAll_mk0
 | t :: ts, vs, ds, ps, hr, hlt, h => by
  obtain ⟨v, vs', d, ds', p, q, rfl, rfl, rfl, h1, h2⟩ := trodAll_cons h
  simp only [List.all_cons, Bool.and_eq_true, decide_eq_true_eq] at hr
  exact trodAll_cons_mk (Below.trod hl hr.1.1 hr.1.2 h1 hb fun x hx => hlt x (List.mem_append.2 (.inl hx))) (trodAll_below hl hb hr.2 (fun x hx => hlt x (List.mem_append.2 (.inr hx))) h2)
theorem law_post {f : Func} {s : ChangeSpec} {args : Array Value} {ds gs : List (DataW H)} {before : List MemPlace} {tb : TypeId} (hl : laidOutB P = true) (hr : (f.params.toList.all fun t => P.readableRec t && decide (t < P.types.size)) = true) (hres : f.resultTypes = #[tb])
  (htb : P.underlying tb = some .bool) (hvars : s.vars = []) (hs : s.fn H ds = { results := [.lit (.bool true)], args := ds }) (hW : DataW.Whole enc P f.params.toList s.vars false W args.toList ds gs before) (hb : Below W.heap.size W W') :
  s.post enc P f false true false false W args (.bool true) W' := by
 have hW' := hW
 obtain ⟨p, q, hA, hV, rfl, hz, hn⟩ := hW
 have hlt := hW'.lt
 rw [hvars] at hV
 obtain ⟨rfl, rfl⟩ := trodVars_none hV
 have e : s.fn H (ds ++ []) = { results := [.lit (.bool true)], args := ds } := by rw [List.append_nil]; exact hs
 refine ⟨ds, [], p ++ [], [], p, [], hW', ?_, ?_, ?_, hb.frame _, fun h => by cases h⟩
 ·rw [e, hres]; exact trodAll_mk1 (shut_bool htb true)
 ·rw [e]; exact trodAll_below hl hb hr (fun x hx => hlt x (List.mem_append.2 (.inl hx))) hA
 ·rw [e, hvars]; exact rfl
theorem Rc.sc (S : Nat → Prop) (w : World) (v : Value) : Rc S w (.sc v) v := R.sc v
theorem Rc.scs (S : Nat → Prop) (w : World) (l : List Value) : Rc S w (.ag (l.map .sc)) (.agg l.toArray) :=
 R.ag (by simp) fun i x u hx hu => by
  rw [List.getElem?_map] at hx
  rw [List.getElem?_toArray] at hu
  rw [hu] at hx
  cases hx; exact .sc _
theorem AllC.nil (S : Nat → Prop) (w : World) : AllC S w [] [] := ⟨rfl, fun i x u hx => by simp at hx⟩
theorem AllC.cons {S : Nat → Prop} {w : World} {x : V} {v : Value} {xs : List V} {vs : List Value} (h : Rc S w x v) (k : AllC S w xs vs) : AllC S w (x :: xs) (v :: vs) :=
 ⟨by simp [k.1], fun i y u hy hu => by
  cases i with
  | zero => simp at hy hu; subst hy; subst hu; exact h
  | succ i => simp at hy hu; exact k.2 i y u hy hu⟩
theorem Spec.law {f : Nat} {xs : List V} {args : Array Value} (h : Spec P f xs (.sc (.bool true))) (ht : TabOK (fun b => b < W.heap.size) W) (ha : AllC (fun b => b < W.heap.size) W xs args.toList) : Calls P f args W fun e W' => e = .returned (.bool true) ∧ Below W.heap.size W W' := by
 refine (h _ W args (fun _ h => h) ht ha).mono ?_
 rintro e W' ⟨v, rfl, hg, hx⟩
 have : v = .bool true := by
  generalize hq : V.sc (.bool true) = q at hx
  cases hx <;> cases hq
  rfl
 exact ⟨by rw [this], hg.os, hg.tape, hg.output, hg.size, hg.block⟩
theorem u8_wf (n : Int) (h : (Lit.int .u8 n).wf = true) : 0 ≤ n ∧ n ≤ (255 : Nat) := by
 have h1 : IntKind.u8.min = 0 := rfl
 have h2 : IntKind.u8.max = 255 := rfl
 simp [Lit.wf] at h
 omega
end
end Go.Proofs.Ytdcbmdmlhjemmaa
namespace Go.Proofs.Ytdcbmdmlhjemmaa
open Go.ChangeShapes Go.WideShapes Go.ChangeAt Go.RowKit
inductive Shp where
 | int (k : IntKind) | bool | str
 | arr (n : Nat) (s : Shp)
 | slc (s : Shp)
 | st (l : List Shp)
mutual
/-- the cells of a value of the shape, as trees -/
def Shp.Rep : Shp → List V → Prop
 | .int k, ys => ∃ n : Int, ys = [.sc (.int k n)] ∧ (Lit.int k n).wf = true
 | .bool, ys => ∃ b, ys = [.sc (.bool b)]
 | .str, ys => ∃ s : ByteArray, ys = [.sc (.string s)] ∧ s.size ≤ maxLen
 | .arr n s, ys => ∃ yss : List (List V), yss.length = n ∧ ys = yss.flatten ∧ ∀ z ∈ yss, s.Rep z
 | .slc s, ys => ∃ yss : List (List V), yss.length ≤ maxLen ∧ ys = [.im yss.flatten yss.length] ∧ ∀ z ∈ yss, s.Rep z
 | .st l, ys => Shp.Reps l ys
def Shp.Reps : List Shp → List V → Prop
 | [], ys => ys = []
 | s :: r, ys => ∃ a b, ys = a ++ b ∧ s.Rep a ∧ Shp.Reps r b
end
mutual
/-- the type has the shape -/
def Shp.ok (P : Program) : Shp → TypeId → Bool
 | .int k, t => match P.underlying t with
  | some (.int k') => k' == k && P.cellsOf t == 1
  | _ => false
 | .bool, t => match P.underlying t with
  | some .bool => P.cellsOf t == 1
  | _ => false
 | .str, t => match P.underlying t with
  | some .string => P.cellsOf t == 1
  | _ => false
 | .arr n s, t => match P.underlying t with
  | some (.array m e) => m == n && s.ok P e && P.cellsOf t == n * P.cellsOf e
  | _ => false
 | .slc s, t => match P.underlying t with
  | some (.slice e) => s.ok P e && P.cellsOf t == 1
  | _ => false
 | .st l, t => match P.underlying t with
  | some (.struct fs) => Shp.oks P l fs.toList 0 (P.cellsOf t)
  | _ => false
def Shp.oks (P : Program) : List Shp → List Field → Nat → Nat → Bool
 | [], fs, off, n => fs.isEmpty && off == n
 | s :: r, fs, off, n => match fs with
  | f :: fs => f.offset == off && s.ok P f.type && Shp.oks P r fs (off + P.cellsOf f.type) n
  | [] => false
end
section
variable {S : Nat → Prop} {w : World}
theorem AllC.append {xs ys : List V} {vs us : List Value} (h : AllC S w xs vs) (k : AllC S w ys us) : AllC S w (xs ++ ys) (vs ++ us) := by
 refine ⟨by simp [h.1, k.1], fun i x u hx hu => ?_⟩
 have hl := h.1
 rw [List.getElem?_append] at hx hu
 by_cases hi : i < xs.length
 ·rw [if_pos hi] at hx; rw [if_pos (by omega)] at hu
  exact h.2 i x u hx hu
 ·rw [if_neg hi] at hx; rw [if_neg (by omega), ← hl] at hu
  exact k.2 _ x u hx hu
theorem AllC.rows {Q : List V → Prop} {sz : Nat} : ∀ (n : Nat) (cs : List Value), cs.length = n * sz → (∀ i, i < n → ∃ ys, Q ys ∧ AllC S w ys ((cs.drop (i * sz)).take sz)) → ∃ yss : List (List V), yss.length = n ∧ (∀ z ∈ yss, Q z) ∧ AllC S w yss.flatten cs
 | 0, cs, hl, _ => by
  have : cs = [] := List.eq_nil_of_length_eq_zero (by simpa using hl)
  subst this
  exact ⟨[], rfl, fun z hz => by simp at hz, AllC.nil _ _⟩
 | n + 1, cs, hl, h => by
  obtain ⟨ys, hq, ha⟩ := h 0 (by omega)
  rw [Nat.zero_mul, zl2] at ha
  have hl' : cs.length = n * sz + sz := by rw [hl, Nat.add_mul, zna]
  obtain ⟨yss, h1, h2, h3⟩ := AllC.rows (Q := Q) (sz := sz) n (cs.drop sz) (by simp [hl']) fun i hi => by
   obtain ⟨zs, hz, hb⟩ := h (i + 1) (by omega)
   refine ⟨zs, hz, ?_⟩
   rwa [List.drop_drop, show sz + i * sz = (i + 1) * sz by rw [Nat.add_mul]; omega]
  refine ⟨ys :: yss, by simp [h1], fun z hz => ?_, ?_⟩
  ·rcases List.mem_cons.1 hz with rfl | hz
   ·exact hq
   ·exact h2 z hz
  ·have := ha.append h3
   rwa [List.take_append_drop] at this
end
theorem addr_add (a : Addr) (i j : Nat) : (a.add i).add j = a.add (i + j) := by
 unfold Addr.add
 by_cases hj : j = 0
 ·subst hj; simp
 ·by_cases hi : i = 0
  ·subst hi; simp
  ·rw [if_neg hj, if_neg hi, if_neg (by omega)]; simp; omega
section
variable {H : Type} {enc : TypeId × Value → H} {P : Program} {w : World} {base : Nat} {sp : Nat → Bool} {held : Bool}
mutual
theorem open_rep : ∀ (s : Shp) {t : TypeId} {fuel : Nat} {cs : List Value} {x : DataW H × List MemPlace}, s.ok P t = true → DataW.trod enc P w base sp held fuel t cs = some x → cs.length = P.cellsOf t ∧ ∃ ys, s.Rep ys ∧ AllC (fun b => b < w.heap.size) w ys cs
 | .int k, t, fuel, cs, x, ho, h => by
  simp only [Shp.ok] at ho
  split at ho
  ·rename_i k' hu
   simp only [Bool.and_eq_true, beq_iff_eq] at ho
   obtain ⟨rfl, hc⟩ := ho
   obtain ⟨n, rfl, _, hw⟩ := DataW.trod_int hu h
   exact ⟨hc.symm, _, ⟨n, rfl, hw⟩, AllC.cons (Rc.sc _ _ _) (AllC.nil _ _)⟩
  ·cases ho
 | .bool, t, fuel, cs, x, ho, h => by
  simp only [Shp.ok] at ho
  split at ho
  ·rename_i hu
   simp only [beq_iff_eq] at ho
   obtain ⟨n, rfl, _⟩ := DataW.trod_bool hu h
   exact ⟨ho.symm, _, ⟨n, rfl⟩, AllC.cons (Rc.sc _ _ _) (AllC.nil _ _)⟩
  ·cases ho
 | .str, t, fuel, cs, x, ho, h => by
  simp only [Shp.ok] at ho
  split at ho
  ·rename_i hu
   simp only [beq_iff_eq] at ho
   obtain ⟨n, rfl, _, hl⟩ := DataW.trod_string hu h
   exact ⟨ho.symm, _, ⟨n, rfl, hl⟩, AllC.cons (Rc.sc _ _ _) (AllC.nil _ _)⟩
  ·cases ho
 | .arr n s, t, fuel, cs, x, ho, h => by
  simp only [Shp.ok] at ho
  split at ho
  ·rename_i m e hu
   simp only [Bool.and_eq_true, beq_iff_eq] at ho
   obtain ⟨⟨rfl, ho⟩, hc⟩ := ho
   obtain ⟨xs, q, _, _, hl, hn, hel⟩ := DataW.trod_array hu h
   refine ⟨hl, ?_⟩
   obtain ⟨yss, h1, h2, h3⟩ := AllC.rows (S := fun b => b < w.heap.size) (w := w) (Q := s.Rep) m cs (by rw [hl, hc]) fun i hi => by
    have := hel i hi
    rw [zlb (by omega)] at this
    exact (open_rep s ho this).2
   exact ⟨_, ⟨yss, h1, rfl, h2⟩, h3⟩
  ·cases ho
 | .slc s, t, fuel, cs, x, ho, h => by
  simp only [Shp.ok] at ho
  split at ho
  ·rename_i e hu
   simp only [Bool.and_eq_true, beq_iff_eq] at ho
   obtain ⟨ho, hc⟩ := ho
   rcases DataW.trod_slice hu h with ⟨rfl, _⟩ | ⟨a, len, cap, elems, rest, n, _, rfl, _, hb, hl, hm, hlen, hel, _, _⟩
   ·exact ⟨hc.symm, _, ⟨[], by simp, rfl, fun z hz => by simp at hz⟩, AllC.cons (.im0 (znb _) (by unfold maxLen; omega) (fun _ => rfl)) (AllC.nil _ _)⟩
   ·refine ⟨hc.symm, ?_⟩
    obtain ⟨f, hf⟩ : ∃ f : Nat → Value, f = fun i => (w.cell? (a.add i)).getD undef := ⟨_, rfl⟩
    have each : ∀ i, i < len → w.cells? base (a.add (i * P.cellsOf e)) (P.cellsOf e) = some ((((List.range (len * P.cellsOf e)).map f).drop (i * P.cellsOf e)).take (P.cellsOf e)) ∧ ∃ y, DataW.trod enc P w base sp held n e ((((List.range (len * P.cellsOf e)).map f).drop (i * P.cellsOf e)).take (P.cellsOf e)) = some y := by
     intro i hi
     have h1 := hel i hi
     rw [zlb (by omega), Option.bind_eq_some_iff] at h1
     obtain ⟨cs', h2, h3⟩ := h1
     obtain ⟨_, h4, h5⟩ := World.cells?_some h2
     have hle : i * P.cellsOf e + P.cellsOf e ≤ len * P.cellsOf e := by
      have := Nat.mul_le_mul_right (P.cellsOf e) (show i + 1 ≤ len by omega)
      rwa [Nat.add_mul, zna] at this
     have he : cs' = (((List.range (len * P.cellsOf e)).map f).drop (i * P.cellsOf e)).take (P.cellsOf e) := by
      refine List.ext_getElem? fun j => ?_
      rw [List.getElem?_take]
      split
      ·rename_i hj
       have h6 := h5 j hj
       rw [addr_add] at h6
       rw [zl5, List.getElem?_map, List.getElem?_range (by omega), Option.map_some, hf]
       simp only
       rw [h6, zlb (by omega)]; rfl
      ·rw [List.getElem?_eq_none (by omega)]
     rw [← he]
     exact ⟨h2, _, h3⟩
    obtain ⟨yss, h1, h2, h3⟩ := AllC.rows (S := fun b => b < w.heap.size) (w := w) (Q := s.Rep) (sz := P.cellsOf e) len ((List.range (len * P.cellsOf e)).map f) (by simp) fun i hi => by
     obtain ⟨_, y, hy⟩ := each i hi
     exact (open_rep s ho hy).2
    refine ⟨_, ⟨yss, by omega, rfl, h2⟩, AllC.cons ?_ (AllC.nil _ _)⟩
    rw [h1]
    by_cases h0 : yss.flatten = []
    ·rw [h0]; exact .im0 hl hm (fun h => by cases h)
    ·have hpos : 0 < len * P.cellsOf e := by
      have h4 := h3.1
      simp only [List.length_map, List.length_range] at h4
      rw [← h4]
      exact List.length_pos_iff.2 h0
     have cell : ∀ i, i < len * P.cellsOf e → w.cell? (a.add i) = some (f i) := by
      intro i hi
      have hsz : 0 < P.cellsOf e := Nat.pos_of_ne_zero fun h => by rw [h, Nat.mul_zero] at hpos; omega
      have hd : i / P.cellsOf e < len := (Nat.div_lt_iff_lt_mul hsz).2 hi
      obtain ⟨h4, _⟩ := each (i / P.cellsOf e) hd
      obtain ⟨_, _, h5⟩ := World.cells?_some h4
      have h6 := h5 (i % P.cellsOf e) (Nat.mod_lt _ hsz)
      rw [addr_add, Nat.mul_comm, Nat.div_add_mod, List.getElem?_take, if_pos (Nat.mod_lt _ hsz), zl5, Nat.mul_comm, Nat.mul_comm, List.getElem?_map] at h6
      rw [h6, Nat.div_add_mod, List.getElem?_range hi]; rfl
     have c0 := cell 0 hpos
     rw [show a.add 0 = a by simp [Addr.add]] at c0
     obtain ⟨b, off, spot⟩ := a
     have hsp : spot = none := by
      cases spot with
      | none => rfl
      | some _ =>
       simp only [World.cell?] at c0
       split at c0
       ·simp at c0
       ·cases c0
     subst hsp
     have hbl : b < w.heap.size := by
      simp only [World.cell?] at c0
      split at c0
      ·rename_i hb'; exact (Array.getElem?_eq_some_iff.1 hb').1
      ·cases c0
     refine .im1 f hl hm hbl (fun i x hx => ?_) (fun i x hx => ?_)
     ·have hi : i < len * P.cellsOf e := by
       have := (List.getElem?_eq_some_iff.1 hx).1
       have h4 := h3.1
       simp only [List.length_map, List.length_range] at h4
       omega
      have := cell i hi
      unfold Addr.add at this
      split at this
      ·rename_i hi0; subst hi0; exact this
      ·exact this
     ·have hi : i < len * P.cellsOf e := by
       have := (List.getElem?_eq_some_iff.1 hx).1
       have h4 := h3.1
       simp only [List.length_map, List.length_range] at h4
       omega
      exact h3.2 i x (f i) hx (by rw [List.getElem?_map, List.getElem?_range hi]; rfl)
  ·cases ho
 | .st l, t, fuel, cs, x, ho, h => by
  simp only [Shp.ok] at ho
  split at ho
  ·rename_i fs hu
   obtain ⟨xs, n, _, _, hl, hn, hel⟩ := DataW.trod_struct hu h
   refine ⟨hl, ?_⟩
   obtain ⟨ys, h1, h2⟩ := open_reps l (fs := fs.toList) (off := 0) (cs := cs) (n := n) (m := P.cellsOf t) ho hl (fun i f hf => by
    have := hel i f (by simpa using hf)
    have hi := (List.getElem?_eq_some_iff.1 hf).1
    rw [zlb (by rw [hn]; simpa using hi)] at this
    exact ⟨_, this⟩)
   rw [zl2] at h2
   exact ⟨ys, h1, h2⟩
  ·cases ho
theorem open_reps : ∀ (l : List Shp) {fs : List Field} {off n m : Nat} {cs : List Value}, Shp.oks P l fs off m = true → cs.length = m → (∀ (i : Nat) (f : Field), fs[i]? = some f → ∃ x : DataW H × List MemPlace, DataW.trod enc P w base sp held n f.type ((cs.drop f.offset).take (P.cellsOf f.type)) = some x) →
  ∃ ys, Shp.Reps l ys ∧ AllC (fun b => b < w.heap.size) w ys (cs.drop off)
 | [], fs, off, n, m, cs, ho, hl, h => by
  simp only [Shp.oks, Bool.and_eq_true, beq_iff_eq] at ho
  refine ⟨[], rfl, ?_⟩
  rw [List.drop_of_length_le (by omega)]
  exact AllC.nil _ _
 | s :: r, [], off, n, m, cs, ho, hl, h => by simp [Shp.oks] at ho
 | s :: r, f :: fs, off, n, m, cs, ho, hl, h => by
  simp only [Shp.oks, Bool.and_eq_true, beq_iff_eq] at ho
  obtain ⟨⟨h1, h2⟩, h3⟩ := ho
  obtain ⟨x, hx⟩ := h 0 f rfl
  obtain ⟨hlen, ys, h4, h5⟩ := open_rep s h2 hx
  obtain ⟨zs, h6, h7⟩ := open_reps r h3 hl fun i g hg => h (i + 1) g (by simpa using hg)
  refine ⟨ys ++ zs, ⟨ys, zs, rfl, h4, h6⟩, ?_⟩
  have := h5.append h7
  rwa [h1, ← List.drop_drop, List.take_append_drop] at this
end
def Shp.Val : Shp → V → Prop
 | .arr n s, x => ∃ ys, x = .ag ys ∧ (Shp.arr n s).Rep ys
 | .st l, x => ∃ ys, x = .ag ys ∧ Shp.Reps l ys
 | .int k, x => ∃ n : Int, x = .sc (.int k n) ∧ (Lit.int k n).wf = true
 | .bool, x => ∃ b, x = .sc (.bool b)
 | .str, x => ∃ s : ByteArray, x = .sc (.string s) ∧ s.size ≤ maxLen
 | .slc s, x => ∃ yss : List (List V), yss.length ≤ maxLen ∧ x = .im yss.flatten yss.length ∧ ∀ z ∈ yss, s.Rep z
def Shp.Vals : List Shp → List V → Prop
 | [], xs => xs = []
 | s :: r, xs => ∃ x ys, xs = x :: ys ∧ s.Val x ∧ Shp.Vals r ys
theorem rc_agg {S : Nat → Prop} {ys : List V} {cs : Array Value} (h : AllC S w ys cs.toList) : Rc S w (.ag ys) (.agg cs) :=
 .ag (by have := h.1; simpa using this) fun i x u hx hu => h.2 i x u hx (by simpa using hu)
theorem open_arg (s : Shp) {t : TypeId} {v : Value} {d : DataW H} {ps : List MemPlace} (ho : s.ok P t = true) (hval : Value.okWide P w .any 0 t v) (hd : DataW.Trod enc P w 0 (fun _ => true) true t v d ps) : ∃ x, s.Val x ∧ Rc (fun b => b < w.heap.size) w x v := by
 obtain ⟨fuel, hf⟩ := hd
 obtain ⟨_, ys, h1, h2⟩ := open_rep s ho hf
 have one : ∀ {y : V}, (∀ cs, v ≠ .agg cs) → ys = [y] → Rc (fun b => b < w.heap.size) w y v := by
  intro y hv e
  subst e
  have hc : v.cells.toList = [v] := by cases v <;> first | rfl | exact absurd rfl (hv _)
  rw [hc] at h2
  exact h2.2 0 y v rfl rfl
 cases s with
 | int k =>
  obtain ⟨n, rfl, hw⟩ := h1
  simp only [Shp.ok] at ho
  split at ho
  ·rename_i hu
   obtain ⟨m, rfl⟩ := okWide_int hu hval
   exact ⟨_, ⟨n, rfl, hw⟩, one (fun cs e => by cases e) rfl⟩
  ·cases ho
 | bool =>
  obtain ⟨b, rfl⟩ := h1
  simp only [Shp.ok] at ho
  split at ho
  ·rename_i hu
   obtain ⟨m, rfl⟩ := okWide_bool hu hval
   exact ⟨_, ⟨b, rfl⟩, one (fun cs e => by cases e) rfl⟩
  ·cases ho
 | str =>
  obtain ⟨b, rfl, hl⟩ := h1
  simp only [Shp.ok] at ho
  split at ho
  ·rename_i hu
   refine ⟨_, ⟨b, rfl, hl⟩, one (fun cs e => ?_) rfl⟩
   subst e
   simp [Value.okWide, Cell.okWide, Cell.ok, hu] at hval
  ·cases ho
 | slc s =>
  obtain ⟨yss, h3, rfl, h4⟩ := h1
  simp only [Shp.ok] at ho
  split at ho
  ·rename_i hu
   refine ⟨_, ⟨yss, h3, rfl, h4⟩, one (fun cs e => ?_) rfl⟩
   subst e
   simp [Value.okWide, Cell.okWide, Cell.ok, hu] at hval
  ·cases ho
 | arr n s =>
  have ho' := ho
  simp only [Shp.ok] at ho
  split at ho
  ·rename_i hu
   obtain ⟨cs, rfl, _⟩ : ∃ cs, v = .agg cs ∧ cs.size = P.cellsOf t ∧ Row.okWide P w .any 0 t cs := by simpa [Value.okWide, hu] using hval
   exact ⟨_, ⟨ys, rfl, h1⟩, rc_agg h2⟩
  ·cases ho
 | st l =>
  simp only [Shp.ok] at ho
  split at ho
  ·rename_i hu
   obtain ⟨cs, rfl, _⟩ : ∃ cs, v = .agg cs ∧ cs.size = P.cellsOf t ∧ Row.okWide P w .any 0 t cs := by simpa [Value.okWide, hu] using hval
   exact ⟨_, ⟨ys, rfl, h1⟩, rc_agg h2⟩
  ·cases ho
def Shp.okL (P : Program) : List Shp → List TypeId → Bool
 | [], [] => true
 | s :: r, t :: ts => s.ok P t && Shp.okL P r ts
 | _, _ => false
theorem open_args : ∀ (ss : List Shp) {ts : List TypeId} {vs : List Value} {ds : List (DataW H)} {ps : List MemPlace}, Shp.okL P ss ts = true → (∀ (j : Nat) t v, ts[j]? = some t → vs[j]? = some v → Value.okWide P w .any 0 t v) → DataW.TrodAll enc P w 0 (fun _ => true) true ts vs ds ps →
  ∃ xs, Shp.Vals ss xs ∧ AllC (fun b => b < w.heap.size) w xs vs ∧ ds.length = ts.length
 | [], [], vs, ds, ps, _, _, h => by obtain ⟨rfl, rfl, rfl⟩ := trodAll_nil h; exact ⟨[], rfl, AllC.nil _ _, rfl⟩
 | [], t :: ts, _, _, _, ho, _, _ => by cases ho
 | s :: r, [], _, _, _, ho, _, _ => by cases ho
 | s :: r, t :: ts, vs, ds, ps, ho, hv, h => by
  simp only [Shp.okL, Bool.and_eq_true] at ho
  obtain ⟨v, vs', d, ds', p, q, rfl, rfl, rfl, h1, h2⟩ := trodAll_cons h
  obtain ⟨x, h3, h4⟩ := open_arg s ho.1 (hv 0 t v rfl rfl) h1
  obtain ⟨xs, h5, h6, h7⟩ := open_args r ho.2 (fun j t v a b => hv (j + 1) t v (by simpa using a) (by simpa using b)) h2
  exact ⟨x :: xs, ⟨x, xs, rfl, h3, h5⟩, AllC.cons h4 h6, by simp [h7]⟩
theorem law_calls {f : Nat} {fn : Func} (ss : List Shp) {args : Array Value} {ds : List (DataW H)} {p : List MemPlace} (hok : Shp.okL P ss fn.params.toList = true)
  (hval : ∀ (j : Nat) t v, fn.params[j]? = some t → args[j]? = some v → Value.okWide P w .any 0 t v) (hA : DataW.TrodAll enc P w 0 (fun _ => true) true fn.params.toList args.toList ds p)
  (ht : TabOK (fun b => b < w.heap.size) w) (hs : ∀ xs, Shp.Vals ss xs → Spec P f xs (.sc (.bool true))) : ds.length = fn.params.size ∧ Calls P f args w fun e w' => e = .returned (.bool true) ∧ Below w.heap.size w w' := by
 obtain ⟨xs, h1, h2, h3⟩ := open_args ss hok (fun j t v a b => hval j t v (by simpa using a) (by simpa using b)) hA
 exact ⟨by simpa using h3, Spec.law (hs xs h1) ht h2⟩
theorem reps_ints {k : IntKind} : ∀ {yss : List (List V)}, (∀ z ∈ yss, (Shp.int k).Rep z) → ∃ ns : List Int, yss.flatten = ns.map (fun n => .sc (.int k n)) ∧ ns.length = yss.length ∧ ∀ n ∈ ns, (Lit.int k n).wf = true
 | [], _ => ⟨[], rfl, rfl, fun n hn => by simp at hn⟩
 | y :: r, h => by
  obtain ⟨n, rfl, hw⟩ := h y (by simp)
  obtain ⟨ns, h1, h2, h3⟩ := reps_ints (yss := r) fun z hz => h z (by simp [hz])
  exact ⟨n :: ns, by simp [h1], by simp [h2], fun m hm => by
   rcases List.mem_cons.1 hm with rfl | hm
   ·exact hw
   ·exact h3 m hm⟩
theorem wf_nat {k : IntKind} {M : Nat} (hk : ∀ n, (Lit.int k n).wf = true → 0 ≤ n ∧ n ≤ M) {n : Int} (h : (Lit.int k n).wf = true) : ∃ m : Nat, n = m ∧ m ≤ M := by
 obtain ⟨h1, h2⟩ := hk n h
 exact ⟨n.toNat, by omega, by omega⟩
end
end Go.Proofs.Ytdcbmdmlhjemmaa
namespace Go.Proofs.Ytdcbmdmlhjemmaa
open Go.ChangeShapes Go.WideShapes Go.ChangeAt Go.RowKit
theorem i8_wf (n : Int) (h : (Lit.int .i8 n).wf = true) : -128 ≤ n ∧ n ≤ 127 := by
 have h : (IntKind.i8.min ≤ n ∧ n ≤ IntKind.i8.max) := by simpa [Lit.wf] using h
 have h1 : IntKind.i8.min = -128 := by decide
 have h2 : IntKind.i8.max = 127 := by decide
 omega
theorem raw5_val {x : V} (h : (Shp.st [.int .u8, .int .u8, .slc (.int .i8)]).Val x) : ∃ (a b : Nat) (l : List Int), x = .ag [.sc (.int .u8 a), .sc (.int .u8 b), .im (bv8 l) l.length] ∧ a < 256 ∧ b < 256 ∧ (∀ x ∈ l, -128 ≤ x ∧ x ≤ 127) ∧ l.length ≤ 9223372036854775807 := by
 obtain ⟨ys, rfl, a1, b1, rfl, ⟨n1, rfl, w1⟩, a2, b2, rfl, ⟨n2, rfl, w2⟩, a3, b3, rfl, ⟨yss, hl, rfl, hr⟩, rfl⟩ := h
 obtain ⟨a, rfl, ha⟩ := wf_nat u8_wf w1
 obtain ⟨b, rfl, hb⟩ := wf_nat u8_wf w2
 obtain ⟨l, h1, h2, h3⟩ := reps_ints hr
 unfold maxLen at hl
 refine ⟨a, b, l, ?_, by omega, by omega, fun x hx => i8_wf x (h3 x hx), by omega⟩
 rw [h1, h2]; rfl
theorem filL_mi {h w : Nat} {l : List Int} (hb : ∀ x ∈ l, -128 ≤ x ∧ x ≤ 127) : MI h w 1 (filL h w l) := mk_mi fun r c _ _ => by
 have := dgt_small (k := r * w + c) hb
 unfold Fits; omega
def wk (x y : V) : Prop := ∀ (S : Nat → Prop) (rho : Nat → Nat) (w : World) (A : Nat → Prop) (v : Value), R S rho w A x v → R S rho w A y v
inductive wkL : List V → List V → Prop
 | nil : wkL [] []
 | cons {x y : V} {xs ys : List V} : wk x y → wkL xs ys → wkL (x :: xs) (y :: ys)
theorem wk.rfl {x : V} : wk x x := fun _ _ _ _ _ h => h
theorem wkL.len {xs ys : List V} (h : wkL xs ys) : xs.length = ys.length := by induction h with | nil => exact Eq.refl _ | cons _ _ ih => simp [ih]
theorem wkL.get {xs ys : List V} (h : wkL xs ys) : ∀ {i : Nat} {y : V}, ys[i]? = some y → ∃ x, xs[i]? = some x ∧ wk x y := by
 induction h with
 | nil => intro i y h; simp at h
 | @cons a b _ _ hw _ ih =>
  intro i y h
  cases i with
  | zero => simp at h; exact ⟨a, Eq.refl _, h ▸ hw⟩
  | succ i => simp at h ⊢; exact ih h
theorem wkL.app {xs ys us zs : List V} (h : wkL xs ys) (k : wkL us zs) : wkL (xs ++ us) (ys ++ zs) := by
 induction h with
 | nil => exact k
 | cons hw _ ih => exact .cons hw ih
theorem wk.im {cs ds : List V} {n : Nat} (h : wkL cs ds) : wk (.im cs n) (.im ds n) := by
 intro S rho w A v hr
 cases hr with
 | im0 a b c => cases h; exact .im0 a b c
 | im1 f a b c d e =>
  refine .im1 f a b c (fun i x hx => ?_) fun i x hx => ?_
  ·obtain ⟨y, hy, _⟩ := h.get hx; exact d i y hy
  ·obtain ⟨y, hy, hw⟩ := h.get hx; exact hw _ _ _ _ _ (e i y hy)
theorem wk.ag {cs ds : List V} (h : wkL cs ds) : wk (.ag cs) (.ag ds) := by
 intro S rho w A v hr
 cases hr with
 | ag a b =>
  refine .ag (by rw [← h.len]; exact a) fun i x u hx hu => ?_
  obtain ⟨y, hy, hw⟩ := h.get hx; exact hw _ _ _ _ _ (b i y u hy hu)
theorem wk.nil : wk (.sc (.slice none 0 0)) (.im [] 0) := by
 intro S rho w A v hr
 cases hr
 exact .im0 (znb _) (by unfold maxLen; omega) (fun _ => Eq.refl _)
theorem Spec.wk {P : Program} {f : Nat} {xs ys : List V} {x : V} (h : Spec P f ys x) (hw : wkL xs ys) : Spec P f xs x := by
 intro S w vs hS hT ha
 refine h S w vs hS hT ⟨by rw [← hw.len]; exact ha.1, fun i y u hy hu => ?_⟩
 obtain ⟨z, hz, hw⟩ := hw.get hy
 exact hw _ _ _ _ _ (ha.2 i z u hz hu)
theorem fits1z : Fits 1 0 := by unfold Fits; decide
def unZ : V → V → Option Int
 | .sc (.bool false), .sc (.slice none 0 0) => some 0
 | .sc (.bool false), .im [] 0 => some 0
 | .sc (.bool false), .im [.sc (.int .u32 (.ofNat v))] 1 => if 0 < v ∧ v < 4294967296 then some (.ofNat v) else none
 | .sc (.bool true), .im [.sc (.int .u32 (.ofNat v))] 1 => if 0 < v ∧ v < 4294967296 then some (.negSucc (v - 1)) else none
 | _, _ => none
theorem unZ_s {b m : V} {z : Int} (h : unZ b m = some z) : wkL [b, m] (ivC z) ∧ Fits 1 z := by
 unfold unZ at h
 split at h
 ·cases h; exact ⟨.cons wk.rfl (.cons wk.nil .nil), fits1z⟩
 ·cases h; exact ⟨.cons wk.rfl (.cons wk.rfl .nil), fits1z⟩
 ·split at h
  ·rename_i v hv
   cases h
   have e : ivC (Int.ofNat v) = [.sc (.bool false), .im [.sc (.int .u32 (.ofNat v))] 1] := by
    unfold ivC sv
    rw [show (Int.ofNat v).natAbs = v from Eq.refl _, limbsOf_one hv.1 hv.2, decide_eq_false (by have := Int.natCast_nonneg v; exact Int.not_lt.2 this)]; exact Eq.refl _
   rw [e]
   exact ⟨.cons wk.rfl (.cons wk.rfl .nil), by unfold Fits; show v < _; omega⟩
  ·cases h
 ·split at h
  ·rename_i v hv
   cases h
   have e : ivC (Int.negSucc (v - 1)) = [.sc (.bool true), .im [.sc (.int .u32 (.ofNat v))] 1] := by
    unfold ivC sv
    rw [show (Int.negSucc (v - 1)).natAbs = v by rw [Int.natAbs_negSucc]; omega, limbsOf_one hv.1 hv.2, decide_eq_true (by omega)]; exact Eq.refl _
   rw [e]
   exact ⟨.cons wk.rfl (.cons wk.rfl .nil), by unfold Fits; rw [Int.natAbs_negSucc]; omega⟩
  ·cases h
 ·cases h
def unOps : List V → Option (List OpL)
 | .sc (.int .i64 (.ofNat kd)) :: .sc (.int .i64 (.ofNat i)) :: .sc (.int .i64 (.ofNat j)) :: b :: m :: r => (unZ b m).bind fun k => (unOps r).map fun l => ⟨kd, i, j, k⟩ :: l
 | [] => some []
 | _ => none
theorem unOps_s : ∀ {cs : List V} {l : List OpL}, unOps cs = some l → wkL cs (opsC l) ∧ ∀ o ∈ l, Fits 1 o.k := by
 intro cs
 induction cs using unOps.induct with
 | case1 kd i j b m r ih =>
  intro l h
  rw [unOps] at h
  cases hz : unZ b m with
  | none => rw [hz] at h; cases h
  | some k =>
   cases hr : unOps r with
   | none => rw [hz, hr] at h; cases h
   | some t =>
    rw [hz, hr] at h
    cases h
    have h1 := unZ_s hz
    have h2 := ih hr
    refine ⟨?_, fun o ho => ?_⟩
    ·exact wkL.app (.cons wk.rfl (.cons wk.rfl (.cons wk.rfl h1.1))) h2.1
    ·rcases List.mem_cons.1 ho with rfl | ho
     ·exact h1.2
     ·exact h2.2 o ho
 | case2 => intro l h; cases h; exact ⟨.nil, fun o ho => by cases ho⟩
 | case3 t h1 h2 =>
  intro l h
  rw [unOps] at h
  ·cases h
  ·exact h1
  ·exact h2
def okB (n : Nat) (o : OpL) : Bool := decide (o.i < n) && ((decide (o.kd = 1) && decide (o.j < n) && decide (o.i ≠ o.j) && decide (o.k = 0)) || (decide (o.kd = 2) && decide (o.j = 0) && decide (o.k = 0)) || (decide (o.kd = 3) && decide (o.j < n) && decide (o.i ≠ o.j)))
theorem okB_s {n : Nat} {o : OpL} (h : okB n o = true) (hk : Fits 1 o.k) : OkOp n o := by
 replace hk : Fits OL o.k := hk.toOL (by omega)
 simp only [okB, Bool.and_eq_true, Bool.or_eq_true, decide_eq_true_eq] at h
 refine ⟨h.1, hk, ?_⟩
 rcases h.2 with (⟨⟨⟨a, b⟩, c⟩, d⟩ | ⟨⟨a, b⟩, c⟩) | ⟨⟨a, b⟩, c⟩
 ·exact .inl ⟨a, b, c, d⟩
 ·exact .inr (.inl ⟨a, b, c⟩)
 ·exact .inr (.inr ⟨a, b, c⟩)
def unRowI : List V → Option (List Int)
 | b :: m :: r => (unZ b m).bind fun k => (unRowI r).map fun l => k :: l
 | [] => some []
 | _ => none
theorem unRowI_s : ∀ {cs : List V} {l : List Int}, unRowI cs = some l → wkL cs (ivR l) ∧ ∀ x ∈ l, Fits 1 x := by
 intro cs
 induction cs using unRowI.induct with
 | case1 b m r ih =>
  intro l h
  rw [unRowI] at h
  cases hz : unZ b m with
  | none => rw [hz] at h; cases h
  | some k =>
   cases hr : unRowI r with
   | none => rw [hz, hr] at h; cases h
   | some t =>
    rw [hz, hr] at h
    cases h
    have h1 := unZ_s hz
    have h2 := ih hr
    refine ⟨wkL.app h1.1 h2.1, fun o ho => ?_⟩
    rcases List.mem_cons.1 ho with rfl | ho
    ·exact h1.2
    ·exact h2.2 o ho
 | case2 => intro l h; cases h; exact ⟨.nil, fun o ho => by cases ho⟩
 | case3 t h1 h2 =>
  intro l h
  rw [unRowI] at h
  ·cases h
  ·exact h1
  ·exact h2
def unImI (w : Nat) : V → Option (List Int)
 | .im cs n => if n = w then (unRowI cs).bind fun l => if l.length = w then some l else none else none
 | _ => none
theorem unImI_s {w : Nat} {x : V} {l : List Int} (h : unImI w x = some l) : wk x (.im (ivR l) w) ∧ l.length = w ∧ ∀ x ∈ l, Fits 1 x := by
 unfold unImI at h
 split at h
 ·rename_i cs n
  split at h
  ·rename_i e
   cases hz : unRowI cs with
   | none => rw [hz] at h; cases h
   | some k =>
    rw [hz, Option.bind_some] at h
    split at h
    ·rename_i hkl
     cases h
     have h1 := unRowI_s hz
     subst e
     exact ⟨wk.im h1.1, hkl, h1.2⟩
    ·cases h
  ·cases h
 ·cases h
def unRowsI (w : Nat) : List V → Option (List (List Int))
 | [] => some []
 | x :: r => (unImI w x).bind fun l => (unRowsI w r).map fun M => l :: M
theorem unRowsI_s {w : Nat} : ∀ {cs : List V} {M : List (List Int)}, unRowsI w cs = some M → wkL cs (imR w (rI M)) ∧ ∀ r ∈ M, r.length = w ∧ ∀ x ∈ r, Fits 1 x
 | [], M, h => by cases h; exact ⟨.nil, fun o ho => by cases ho⟩
 | x :: r, M, h => by
  simp only [unRowsI] at h
  cases hx : unImI w x with
  | none => rw [hx] at h; cases h
  | some a =>
   cases hr : unRowsI w r with
   | none => rw [hx, hr] at h; cases h
   | some t =>
    rw [hx, hr] at h
    cases h
    have h1 := unImI_s hx
    have h2 := unRowsI_s hr
    refine ⟨.cons h1.1 h2.1, fun o ho => ?_⟩
    rcases List.mem_cons.1 ho with rfl | ho
    ·exact h1.2
    ·exact h2.2 o ho
def sanK (f : Nat) (ys : List V) : Option V :=
 if f = 12 then
  match ys with
  | [.im cs n, .ag [.sc (.int .i64 (.ofNat h)), .sc (.int .i64 (.ofNat w)), .im rs m]] =>
   (unOps cs).bind fun l => (unRowsI w rs).bind fun M => if n = l.length ∧ m = h ∧ M.length = h ∧ h ≤ 10 ∧ w ≤ 10 ∧ l.length ≤ 10 ∧ l.all (okB h) = true then some (.tu [mat w (actsO M l), .sc (.int .i64 0)]) else none
  | _ => none
 else if f = 41 then
  match ys with
  | [.sc (.int .i64 (.ofNat n))] => if n ≤ 10 then some (mat n (idL n)) else none
  | _ => none
 else none
theorem sanK_s : KSound Try.prog sanK := by
 intro f ys x h
 unfold sanK at h
 split at h
 ·rename_i e
  subst e
  split at h
  ·rename_i cs n h' w rs m
   cases ho : unOps cs with
   | none => rw [ho] at h; cases h
   | some l =>
    cases hr : unRowsI w rs with
    | none => rw [ho, hr] at h; cases h
    | some M =>
     rw [ho, hr, Option.bind_some, Option.bind_some] at h
     split at h
     ·rename_i hc
      obtain ⟨rfl, rfl, hm, hh, hw, hl, hok⟩ := hc
      cases h
      have h1 := unOps_s ho
      have h2 := unRowsI_s hr
      have h3 : ∀ o ∈ l, OkOp m o := fun o ho => okB_s (List.all_eq_true.1 hok o ho) (h1.2 o ho)
      have hM0 : MI m w 1 M := ⟨hm, h2.2⟩
      have hs := iapply_s (h := m) (w := w) (K := 1 + (OL + 1) * 10) (M := M) (l := l) (hM0.mono (Nat.le_add_right _ _)) h3 (fun i _ => (acts_mi hM0 (fun o ho => h3 o (List.mem_of_mem_take ho))).mono (Nat.add_le_add_left (Nat.mul_le_mul_left _ (show (l.take i).length ≤ 10 by rw [List.length_take]; omega)) 1)) (by rw [OL_eq]; decide) (by omega) (by omega) (by omega)
      refine hs.wk (.cons (wk.im h1.1) (.cons (wk.ag ?_) .nil))
      rw [hm]
      exact .cons wk.rfl (.cons wk.rfl (.cons (wk.im h2.1) .nil))
     ·cases h
  ·cases h
 ·split at h
  ·rename_i e
   subst e
   split at h
   ·split at h
    ·cases h; exact pident_s _ (by omega)
    ·cases h
   ·cases h
  ·cases h
def sanI (f : Nat) : Bool := f == 25 || f == 72 || f == 40
theorem sanity_s : Spec Try.prog 4 [] (.sc (.bool true)) := Spec.eval sanK_s 200 sanI (by kernel_rfl)
set_option maxHeartbeats 8000000 in
set_option maxRecDepth 8000 in
theorem rident_q (n n0 : Nat) (hn : n ≤ 1000000) : InlQ Try.prog 14 [.sc (.int .i64 n)] [] n0 (MatQ n (idL n) n0) := by
 have c0 := rnew_s n n (n0 + 1) hn hn
 have c1 := of_i 1 (by omega) (by omega)
 have hil : (idL n).length = n := mkM_len
 unfold iv sv at c1
 refine InlQ.run Try.func14 rfl Try.ntmps14 (by simp) sF fun B hB => ?_
 (repeat (first | (with_reducible refine oA ?_) | ((with_reducible first | apply SC.region | apply SO.run); (focus (simp (disch := omega) only [go_sem, ↓reduceIte, reduceCtorEq] <;> rfl)); (fail_if_success with_reducible refine pickA ?_)) | (with_reducible apply SC.ops)))
 refine SO.inlQ sG Tab.go40 sG sG (SInlQ.newR c0 ?_ ?_ ?_)
 ·exact klc (by omega) kln
 ·exact fun x hp' nx' h => matQ_new h
 rintro x hp' nx ⟨o, ids, hR, rfl, rfl⟩
 have ho := hR.o1
 have hn0 : n0 + 1 - nx = 0 := by omega
 have ho0 : o + 1 - nx = 0 := by omega
 rw [zeroL_len] at hR ⊢
 rw [mkM_zero]
 (repeat (first | (with_reducible refine oA ?_) | ((with_reducible first | apply SC.region | apply SO.run); (focus (simp (disch := omega) only [go_sem, ↓reduceIte, zn1, zn3, zn4] <;> rfl)); (fail_if_success with_reducible refine pickA ?_))))
 have e0 : mkM n n (fun _ _ => 0) = mkM n n (fun r c => if r = c ∧ r < 0 then 1 else 0) := mkM_congr fun r c _ _ => by rw [if_neg (by omega)]
 rw [e0]
 refine SC.loop (fun i : Nat => ⟨[(0, .sc (.int .i64 n)), (2, .pt n0 0), (3, .pt nx 0), (4, .sc (.int .i64 i))], (nx, ⟨28, [.sc (.int .i64 n), .sc (.int .i64 n), .sl o 0 n 1 none], false⟩) :: (n0, ⟨28, [.sc (.int .i64 0), .sc (.int .i64 0), .sc (.slice none 0 0)], false⟩) :: (o, ⟨73, slR 2 n ids, false⟩) :: rowsH 43 ids (rI (mkM n n (fun r c => if r = c ∧ r < i then 1 else 0))), nx + 1, 22⟩)
  (fun i => i ≤ n) (fun i => n - i) 0 ?_ ?_ ?_
 ·(refine Le.slots ?_ ?_ ?_ <;> (repeat' (first | (exact fun _ _ h => h) | exact znb _ | exact leSl_nil | refine leSl_cons sG ?_ ?_ | exact VLe.refl rfl)))
 ·exact znc _
 ·intro i hi K hK
  have hidl := hR.len
  have g1 := slR_len 2 n ids
  rw [hidl] at g1
  by_cases hc : i < n
  ·have q1 := decide_eq_true (p := (i : Int) < (n : Int)) (by omega)
   have gi := slR_get (z := 2) (m := n) (ids := ids) (k := i) (by omega)
   obtain ⟨gR, gl, gd, gs, hrs⟩ := cellF (ty := 43) (f := fun r c => if r = c ∧ r < i then (1 : Int) else 0) (z := 1) (j := i) hR.nod hidl hc hc
   have e1 : mkM n n (fun r c => if r = i ∧ c = i then (1 : Int) else if r = c ∧ r < i then 1 else 0) = mkM n n (fun r c => if r = c ∧ r < i + 1 then 1 else 0) := mkM_congr fun r c _ _ => by
    by_cases e : r = i ∧ c = i
    ·rw [if_pos e, if_pos (by omega)]
    ·rw [if_neg e]
     by_cases e2 : r = c ∧ r < i
     ·rw [if_pos e2, if_pos (by omega)]
     ·rw [if_neg e2, if_neg (by omega)]
   rw [e1] at hrs
   have hkl := klB_rows (ty := 43) (rs := rI (mkM n n fun r c => if r = c ∧ r < i then (1 : Int) else 0)) (n := nx + 1) (fun j hj => by have := hR.lt j hj; omega)
   have hmem := getD_mem' (ids := ids) (k := i) (by omega)
   have hidk := hR.lt _ hmem
   have hne : ids.getD i 0 ≠ o := fun e => hR.o2 (by rw [← e]; exact hmem)
   generalize hH : rowsH 43 ids (rI (mkM n n fun r c => if r = c ∧ r < i then (1 : Int) else 0)) = H at *
   generalize mkR n (fun c => if i = c ∧ i < i then (1 : Int) else 0) = row at *
   generalize ids.getD i 0 = idk at *
   unfold ivC sv at gs
   have g2 : i * 2 < (ivR row).length := by omega
   (repeat (first | refine DO.nilF (fun i => i + 1 - nx) (by simp (disch := omega) only [go_sem, zld, zle, Option.map_some, Option.map_none, znd, zne] <;> rfl) (by kernel_rfl) ?_ | (with_reducible refine oA ?_) | ((apply DO.call); (iterate 3 (focus (simp (disch := omega) only [go_sem] <;> rfl))); (apply DCall.ofX); (focus (assumption)); (focus (simp (disch := omega) only [go_sem] <;> rfl))) | ((with_reducible first | apply SC.condB | apply SC.region | apply DO.run); (focus (simp (disch := omega) only [go_sem, ↓reduceIte, zn1, zn4, reduceCtorEq, if_pos, if_neg, q1, gi, gR, gl, gs, hrs] <;> rfl)); (first | refine pickT ?_ | fail_if_success with_reducible refine pickA ?_)) | ((with_reducible refine SC.draw Tab.mixed ?_ ?_); (focus (simp (disch := omega) only [go_sem, ↓reduceIte, if_pos, hkl])))))
   refine hK _ (i + 1) ?_ (by omega) (by omega)
   (refine Le.slots ?_ ?_ ?_ <;> (repeat' (first | (exact fun _ _ h => h) | exact znb _ | exact leSl_nil | refine leSl_cons sG ?_ ?_ | exact VLe.refl rfl)))
  ·have q1 := decide_eq_false (p := (i : Int) < (n : Int)) (by omega)
   have hin : i = n := by omega
   subst hin
   have e1 : mkM i i (fun r c => if r = c ∧ r < i then (1 : Int) else 0) = idL i := mkM_congr fun r c hr _ => by
    by_cases e : r = c
    ·rw [if_pos ⟨e, hr⟩, if_pos e]
    ·rw [if_neg (fun h => e h.1), if_neg e]
   rw [e1]
   (repeat (first | (with_reducible refine oA ?_) | ((with_reducible first | apply SC.condB | apply SC.region); (focus (simp (disch := omega) only [go_sem, ↓reduceIte, zn1, zn2, zn3, zn4, reduceCtorEq, if_neg, q1] <;> rfl)); (first | refine pickF ?_ | fail_if_success with_reducible refine pickA ?_))))
   refine retIQ_ret (.ag [.sc (.int .i64 i), .sc (.int .i64 i), .sl o 0 i 1 none]) ((o, ⟨73, slR 2 i ids, false⟩) :: rowsH 43 ids (rI (idL i))) nx Try.results14 sF ⟨o, ids, ?_, by rw [hil], rfl⟩ ?_
   ·rw [hil]; exact ⟨hR.len, hR.nod, fun j hj => by have := hR.lt j hj; omega, by omega, hR.o2⟩
   refine Le.rowsDown [] pre0 ⟨n0, hB, by omega⟩ (by omega) (fun j hj => (hR.lt j hj).2) (rI_clo _) (less_new (less_new (fun id k hk => hk) (fun id k hk => ?_)) (fun id k hk => ?_)) ?_
   ·rcases inR_rows (fun i hi => hi) id k hk with e | e
    ·omega
    ·have := hR.lt _ e; omega
   ·rcases inR_rows (fun i hi => hi) id k hk with e | e
    ·omega
    ·have := hR.lt _ e; omega
   ·refine mapSl_cons (x := .ag [.sc (.int .i64 i), .sc (.int .i64 i), .sl o 0 i 1 none]) (by simp (disch := omega) only [go_sem, ↓reduceIte]) (VMap.ag rfl fun j x y hx hy => ?_) trivial
    match j, hx, hy with
    | 0, hx, hy => cases hx; cases hy; exact VMap.sc _
    | 1, hx, hy => cases hx; cases hy; exact VMap.sc _
    | 2, hx, hy => cases hx; cases hy; exact VMap.cap rfl (by omega)
def Sf (A : List (List Int)) (k : Int) (i j r c : Nat) : Int := if r < i ∨ (r = i ∧ c < j) then ent2 A r c * k else 0
def scaleM (h w : Nat) (A : List (List Int)) (k : Int) : List (List Int) := mkM h w fun r c => ent2 A r c * k
theorem scaleM_one {h w K : Nat} {A : List (List Int)} (hA : MI h w K A) : scaleM h w A 1 = A := by
 rw [← mkM_of hA]
 unfold scaleM
 refine mkM_congr fun r c _ _ => ?_
 rw [Int.mul_one, mkM_of hA]; rfl
set_option maxHeartbeats 16000000 in
set_option maxRecDepth 8000 in
theorem rscale_q {h w K : Nat} {A : List (List Int)} {k : Int} (n0 : Nat) (hA : MI h w K A) (hk : Fits K k) (hK : K ≤ 100000000000) (hn : h ≤ 1000000) (hw : w ≤ 1000000) :
  InlQ Try.prog 77 [mat w A, iv k] [] n0 (MatQ w (scaleM h w A k) n0) := by
 have c0 := rnew_s h w (n0 + 3) hn hw
 have hAl := hA.len
 have hml : (scaleM h w A k).length = h := mkM_len
 have gA := imI_len w A
 unfold mat iv sv
 rw [hAl] at gA ⊢
 refine InlQ.run Try.func77 rfl Try.ntmps77 (by simp) sF fun B hB => ?_
 (repeat (first | (with_reducible refine oA ?_) | ((with_reducible first | apply SC.region | apply SO.run); (focus (simp (disch := omega) only [go_sem, ↓reduceIte, zn1, reduceCtorEq, if_neg] <;> rfl)); (fail_if_success with_reducible refine pickA ?_)) | (with_reducible apply SC.ops)))
 refine SO.inlQ sG Tab.go40 sG sG (SInlQ.newR c0 ?_ ?_ ?_)
 ·exact klc (by omega) (klc (by omega) (klc (by omega) kln))
 ·exact fun x hp' nx' h => matQ_new h
 rintro x hp' nx ⟨o, ids, hR, rfl, rfl⟩
 have ho := hR.o1
 have hn0 : n0 + 1 - nx = 0 := by omega
 have hn1 : n0 + 1 + 1 - nx = 0 := by omega
 have hn2 : n0 + 1 + 1 + 1 - nx = 0 := by omega
 have ho0 : o + 1 - nx = 0 := by omega
 rw [zeroL_len] at hR ⊢
 have e0 : zeroL h w = mkM h w (Sf A k 0 0) := by
  rw [mkM_zero]
  exact mkM_congr fun r c _ _ => by unfold Sf; rw [if_neg (by omega)]
 rw [e0]
 have hidl := hR.len
 have g1 := slR_len 2 w ids
 rw [hidl] at g1
 (repeat (first | (with_reducible refine oA ?_) | ((with_reducible first | apply SC.region | apply SO.run); (focus (simp (disch := omega) only [go_sem, ↓reduceIte, zn1, zn3, zn4] <;> rfl)); (fail_if_success with_reducible refine pickA ?_))))
 refine SC.loop (fun i : Nat => ⟨[(2, .pt n0 0), (3, .pt (n0 + 1) 0), (4, .pt (n0 + 1 + 1) 0), (5, .pt nx 0), (6, .sc (.int .i64 i))], (nx, ⟨28, [.sc (.int .i64 h), .sc (.int .i64 w), .sl o 0 h 1 none], false⟩) :: (n0 + 1 + 1, ⟨28, [.sc (.int .i64 0), .sc (.int .i64 0), .sc (.slice none 0 0)], false⟩) :: (n0 + 1, ⟨43, [.sc (.bool (decide (k < 0))), .im (lv (limbsOf k.natAbs)) (limbsOf k.natAbs).length], false⟩) :: (n0, ⟨28, [.sc (.int .i64 h), .sc (.int .i64 w), .im (imR w (rI A)) h], false⟩) :: (o, ⟨73, slR 2 w ids, false⟩) :: rowsH 43 ids (rI (mkM h w (Sf A k i 0))), nx + 1, 43⟩)
  (fun i => i ≤ h) (fun i => h - i) 0 ?_ ?_ ?_
 ·(refine Le.slots ?_ ?_ ?_ <;> (repeat' (first | (exact fun _ _ h => h) | exact znb _ | exact leSl_nil | refine leSl_cons sG ?_ ?_ | exact VLe.refl rfl)))
 ·exact znc _
 ·intro i hi K1 hK1
  by_cases hc : i < h
  ·have q1 := decide_eq_true (p := (i : Int) < (h : Int)) (by omega)
   (repeat (first | (with_reducible refine oA ?_) | ((with_reducible first | apply SC.condB | apply SC.region); (focus (simp (disch := omega) only [go_sem, ↓reduceIte, zn1, reduceCtorEq, if_neg, q1] <;> rfl)); (first | refine pickT ?_ | fail_if_success with_reducible refine pickA ?_))))
   refine SC.loop (fun j : Nat => ⟨[(2, .pt n0 0), (3, .pt (n0 + 1) 0), (4, .pt (n0 + 1 + 1) 0), (5, .pt nx 0), (6, .sc (.int .i64 i)), (7, .sc (.int .i64 j))], (nx, ⟨28, [.sc (.int .i64 h), .sc (.int .i64 w), .sl o 0 h 1 none], false⟩) :: (n0 + 1 + 1, ⟨28, [.sc (.int .i64 0), .sc (.int .i64 0), .sc (.slice none 0 0)], false⟩) :: (n0 + 1, ⟨43, [.sc (.bool (decide (k < 0))), .im (lv (limbsOf k.natAbs)) (limbsOf k.natAbs).length], false⟩) :: (n0, ⟨28, [.sc (.int .i64 h), .sc (.int .i64 w), .im (imR w (rI A)) h], false⟩) :: (o, ⟨73, slR 2 w ids, false⟩) :: rowsH 43 ids (rI (mkM h w (Sf A k i j))), nx + 1, 43⟩)
    (fun j => j ≤ w) (fun j => w - j) 0 ?_ ?_ ?_
   ·(refine Le.slots ?_ ?_ ?_ <;> (repeat' (first | (exact fun _ _ h => h) | exact znb _ | exact leSl_nil | refine leSl_cons sG ?_ ?_ | exact VLe.refl rfl)))
   ·exact znc _
   ·intro j hj K2 hK2
    by_cases hc2 : j < w
    ·have q2 := decide_eq_true (p := (j : Int) < (w : Int)) (by omega)
     have gi := slR_get (z := 2) (m := w) (ids := ids) (k := i) (by omega)
     have hfx := hA.fit hc hc2
     obtain ⟨gR, gl, gd, gs, hrs⟩ := cellF (ty := 43) (f := Sf A k i j) (z := ent2 A i j * k) (j := j) hR.nod hidl hc hc2
     have e1 : (mkM h w fun r c => if r = i ∧ c = j then ent2 A i j * k else Sf A k i j r c) = mkM h w (Sf A k i (j + 1)) := mkM_congr fun r c _ _ => by
      unfold Sf
      by_cases e : r = i ∧ c = j
      ·obtain ⟨rfl, rfl⟩ := e
       rw [if_pos ⟨rfl, rfl⟩, if_pos (by omega)]
      ·rw [if_neg e]
       by_cases e2 : r < i ∨ (r = i ∧ c < j)
       ·rw [if_pos e2, if_pos (by omega)]
       ·rw [if_neg e2, if_neg (by omega)]
     rw [e1] at hrs
     have gAi := imI_get (w := w) (M := A) (i := i) (by omega)
     have hAi := hA.get hc
     have gdA := ivR_drop (l := A.getD i []) (i := j) (by omega)
     have glA := ivR_len (A.getD i [])
     have hx : (A.getD i []).getD j 0 = ent2 A i j := rfl
     rw [hx] at gdA hfx
     rw [hAi.1] at glA
     have c1 := mul_i (ent2 A i j) k K hfx hk (by omega)
     have hkl := klB_rows (ty := 43) (rs := rI (mkM h w (Sf A k i j))) (n := nx + 1) (fun j hj => by have := hR.lt j hj; omega)
     have hmem := getD_mem' (ids := ids) (k := i) (by omega)
     have hidk := hR.lt _ hmem
     have hne : ids.getD i 0 ≠ o := fun e => hR.o2 (by rw [← e]; exact hmem)
     clear hfx e1 hx
     generalize hH : rowsH 43 ids (rI (mkM h w (Sf A k i j))) = H at *
     generalize mkR w (Sf A k i j i) = row at *
     generalize ids.getD i 0 = idk at *
     generalize ent2 A i j = x at *
     generalize (ivR row).drop ((j + 1) * 2) = D1 at *
     generalize (ivR (A.getD i [])).drop ((j + 1) * 2) = D2 at *
     generalize ivR (A.getD i []) = RA at *
     generalize hRr : ivR row = RR at *
     unfold iv sv at c1
     unfold ivC sv at gs gd gdA
     simp only [zl8, zl7] at gd gdA
     have g2 : j * 2 < RR.length := by omega
     have g4 : j * 2 < RA.length := by omega
     (repeat (first | refine DO.nilF (fun i => i + 1 - nx) (by simp (disch := omega) only [go_sem, zn4, zld, zle, Option.map_some, Option.map_none, znd, zne, znf, zn4] <;> rfl) (by kernel_rfl) ?_ | (with_reducible refine oA ?_) | ((apply DO.call); (iterate 3 (focus (simp (disch := omega) only [go_sem, ↓reduceIte, zn1] <;> rfl))); (apply DCall.ofX); (focus (assumption)); (focus (simp (disch := omega) only [go_sem] <;> rfl))) | ((with_reducible first | apply SC.condB | apply SC.region | apply DO.run); (focus (simp (disch := omega) only [go_sem, ↓reduceIte, zn1, zn3, zn4, reduceCtorEq, if_pos, if_neg, q2, gi, gR, gl, gs, hrs, glA, gAi, gdA, gA, zl5] <;> rfl)); (first | refine pickT ?_ | fail_if_success with_reducible refine pickA ?_)) | ((with_reducible refine SC.draw Tab.mixed ?_ ?_); (focus (simp (disch := omega) only [go_sem, ↓reduceIte, if_pos, hkl])))))
     refine hK2 _ (j + 1) ?_ (by omega) (by omega)
     (refine Le.slots ?_ ?_ ?_ <;> (repeat' (first | (exact fun _ _ h => h) | exact znb _ | exact leSl_nil | refine leSl_cons sG ?_ ?_ | exact VLe.refl rfl)))
    ·have q2 := decide_eq_false (p := (j : Int) < (w : Int)) (by omega)
     have hjw : j = w := by omega
     subst hjw
     (repeat (first | (with_reducible refine oA ?_) | ((with_reducible first | apply SC.condB | apply SC.region); (focus (simp (disch := omega) only [go_sem, ↓reduceIte, zn1, reduceCtorEq, if_neg, q2] <;> rfl)); (first | refine pickF ?_ | fail_if_success with_reducible refine pickA ?_))))
     refine hK1 _ (i + 1) ?_ (by omega) (by omega)
     have e1 : mkM h j (Sf A k i j) = mkM h j (Sf A k (i + 1) 0) := mkM_congr fun r c _ hcj => by
      unfold Sf
      by_cases e : r < i ∨ (r = i ∧ c < j)
      ·rw [if_pos e, if_pos (by omega)]
      ·rw [if_neg e, if_neg (by omega)]
     rw [e1]
     (refine Le.slots ?_ ?_ ?_ <;> (repeat' (first | (exact fun _ _ h => h) | exact znb _ | exact leSl_nil | refine leSl_cons sG ?_ ?_ | exact VLe.refl rfl)))
  ·have q1 := decide_eq_false (p := (i : Int) < (h : Int)) (by omega)
   have hih : i = h := by omega
   subst hih
   have e1 : mkM i w (Sf A k i 0) = scaleM i w A k := mkM_congr fun r c hr _ => by
    unfold Sf
    rw [if_pos (.inl hr)]
   rw [e1]
   (repeat (first | (with_reducible refine oA ?_) | ((with_reducible first | apply SC.condB | apply SC.region); (focus (simp (disch := omega) only [go_sem, ↓reduceIte, zn1, zn2, zn3, zn4, reduceCtorEq, if_neg, q1] <;> rfl)); (first | refine pickF ?_ | fail_if_success with_reducible refine pickA ?_))))
   refine retIQ_ret (.ag [.sc (.int .i64 i), .sc (.int .i64 w), .sl o 0 i 1 none]) ((o, ⟨73, slR 2 w ids, false⟩) :: rowsH 43 ids (rI (scaleM i w A k))) nx Try.results77 sF ⟨o, ids, ?_, by rw [hml], rfl⟩ ?_
   ·rw [hml]; exact ⟨hR.len, hR.nod, fun j hj => by have := hR.lt j hj; omega, by omega, hR.o2⟩
   refine Le.rowsDown [] pre0 ⟨n0, hB, by omega⟩ (by omega) (fun j hj => (hR.lt j hj).2) (rI_clo _) (less_new (less_new (less_new (less_new (fun id k hk => hk) (fun id k hk => ?_)) (fun id k hk => ?_)) (fun id k hk => ?_)) (fun id k hk => ?_)) ?_
   ·rcases inR_rows (fun i hi => hi) id k hk with e | e
    ·omega
    ·have := hR.lt _ e; omega
   ·rcases inR_rows (fun i hi => hi) id k hk with e | e
    ·omega
    ·have := hR.lt _ e; omega
   ·rcases inR_rows (fun i hi => hi) id k hk with e | e
    ·omega
    ·have := hR.lt _ e; omega
   ·rcases inR_rows (fun i hi => hi) id k hk with e | e
    ·omega
    ·have := hR.lt _ e; omega
   ·refine mapSl_cons (x := .ag [.sc (.int .i64 i), .sc (.int .i64 w), .sl o 0 i 1 none]) (by simp (disch := omega) only [go_sem, ↓reduceIte]) (VMap.ag rfl fun j x y hx hy => ?_) trivial
    match j, hx, hy with
    | 0, hx, hy => cases hx; cases hy; exact VMap.sc _
    | 1, hx, hy => cases hx; cases hy; exact VMap.sc _
    | 2, hx, hy => cases hx; cases hy; exact VMap.cap rfl (by omega)
set_option maxHeartbeats 8000000 in
set_option maxRecDepth 8000 in
theorem rcopyI_q {h w K : Nat} {A : List (List Int)} (n0 : Nat) (hA : MI h w K A) (hK : K ≤ 90000000000) (hn : h ≤ 1000000) (hw : w ≤ 1000000) :
  InlQ Try.prog 58 [mat w A] [] n0 (MatQ w A n0) := by
 have hA1 := hA.mono (Nat.le_add_right K 1)
 have c0 := rscale_q (n0 + 2) hA1 (k := 1) (by unfold Fits; exact Nat.one_lt_pow (by omega) (by omega)) (by omega) hn hw
 rw [scaleM_one hA1] at c0
 have hAl := hA.len
 have c1 := of_i 1 (by omega) (by omega)
 have nx := n0
 unfold iv sv at c1 c0
 unfold mat at c0 ⊢
 rw [hAl] at c0 ⊢
 refine InlQ.run Try.func58 rfl Try.ntmps58 (by simp) sF fun B hB => ?_
 (repeat (first | (with_reducible refine oA ?_) | ((with_reducible apply SC.region); (focus (simp (disch := omega) only [go_sem, ↓reduceIte]; rfl)))))
 refine SC.drawT 2 (by simp only [zl3, zl4]; rfl) (by simp only [zl9, zl2]; rfl) Tab.mixed ?_ (by kernel_rfl) ?_
 ·simp (disch := omega) only [go_sem]
  intro id q hq
  repeat' (split at hq)
  all_goals first | omega | cases hq
 (repeat (first | refine DO.nilF (fun i => i + 1 - nx) (by simp (disch := omega) only [go_sem, zld, zle, Option.map_none] <;> rfl) (by kernel_rfl) ?_ | (with_reducible refine oA ?_) | ((first | apply SO.call | apply DO.call); (iterate 3 (focus (simp (disch := omega) only [go_sem, ↓reduceIte, zn1, zn2] <;> rfl))); (first | apply SCall.ofX | apply DCall.ofX); (focus (assumption)); (focus (simp (disch := omega) only [go_sem] <;> rfl))) | ((with_reducible apply DO.run); (focus (simp (disch := omega) only [go_sem, ↓reduceIte, zn1, zn3, zn4, if_neg] <;> rfl)); (fail_if_success with_reducible refine pickA ?_))))
 show SO _ _ _ _ _ _ _
 refine SO.inlQ sG (by rfl) sG sG (SInlQ.newR c0 ?_ ?_ ?_)
 ·exact klc (by omega) (klc (by omega) kln)
 ·exact fun x hp' nx' h => matQ_new h
 rintro x hp' nx ⟨o, ids, hR, rfl, rfl⟩
 have ho := hR.o1
 rw [hAl] at hR ⊢
 (repeat (first | (with_reducible refine oA ?_) | ((with_reducible apply SO.run); (focus (simp (disch := omega) only [go_sem, ↓reduceIte, zn1, zn3, zn4] <;> rfl)); (fail_if_success with_reducible refine pickA ?_))))
 refine retIQ_ret (.ag [.sc (.int .i64 h), .sc (.int .i64 w), .sl o 0 h 1 none]) ((o, ⟨73, slR 2 w ids, false⟩) :: rowsH 43 ids (rI A)) nx Try.results58 sF ⟨o, ids, ?_, by rw [hAl], rfl⟩ ?_
 ·rw [hAl]; exact ⟨hR.len, hR.nod, fun j hj => by have := hR.lt j hj; omega, by omega, hR.o2⟩
 refine Le.rowsDown [] pre0 ⟨n0, hB, by omega⟩ (by omega) (fun j hj => (hR.lt j hj).2) (rI_clo _) (less_new (less_new (fun id k hk => hk) (fun id k hk => ?_)) (fun id k hk => ?_)) ?_
 ·rcases inR_rows (fun i hi => hi) id k hk with e | e
  ·omega
  ·have := hR.lt _ e; omega
 ·rcases inR_rows (fun i hi => hi) id k hk with e | e
  ·omega
  ·have := hR.lt _ e; omega
 ·refine mapSl_cons (x := .ag [.sc (.int .i64 h), .sc (.int .i64 w), .sl o 0 h 1 none]) (by simp (disch := omega) only [go_sem, ↓reduceIte]) (VMap.ag rfl fun j x y hx hy => ?_) trivial
  match j, hx, hy with
  | 0, hx, hy => cases hx; cases hy; exact VMap.sc _
  | 1, hx, hy => cases hx; cases hy; exact VMap.sc _
  | 2, hx, hy => cases hx; cases hy; exact VMap.cap rfl (by omega)
end Go.Proofs.Ytdcbmdmlhjemmaa
