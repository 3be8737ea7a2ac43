/- Texts joined: Aa Ab Ac Ad Ae Af Ag Ah Ai Aj Ak. -/
import Derived.Test.YtdkkgndibagihaaVe
import Derived.Test.YtdkkgndibagihaaVf
import Derived.Test.YtdkkgndibagihaaVg
set_option linter.all false
open Nat renaming reduceEqDiff → zn1, reduceLT → zn2, reduceLeDiff → zn3, reduceAdd → zn4, reduceMul → zn5, reduceSub → zn6, reduceBEq → zn7, mul_one → zn8, zero_add → zn9, one_mul → zna, le_refl → znb, zero_le → znc, add_sub_cancel_left → znd, sub_eq_zero_of_le → zne, add_assoc → znf
open Int renaming reduceToNat → zi1, reducePow → zi2
open List renaming length_append → zl1, drop_zero → zl2, take_succ_cons → zl3, take_zero → zl4, getElem?_drop → zl5, append_assoc → zl6, nil_append → zl7, cons_append → zl8, drop_succ_cons → zl9, take_of_length_le → zla, getElem?_eq_getElem → zlb, getElem?_eq_some_iff → zlc, map_cons → zld, map_nil → zle, all_eq_true → zlf
namespace Go.Proofs.Ytdkkgndibagihaa
open Go.RowKit
section
variable {α : Type} {g : α → List V} {z : Nat}
theorem fm_len (hg : ∀ x, (g x).length = z) : ∀ l : List α, (l.flatMap g).length = z * l.length
 | [] => rfl
 | x :: r => by rw [List.flatMap_cons, zl1, hg, fm_len hg r, List.length_cons, Nat.mul_succ]; omega
theorem fm_drop (hg : ∀ x, (g x).length = z) (d : α) : ∀ {l : List α} {i : Nat}, i < l.length → (l.flatMap g).drop (i * z) = g (l.getD i d) ++ (l.flatMap g).drop ((i + 1) * z)
 | x :: r, 0, _ => by
  have e : (0 + 1) * z = (g x).length := by rw [hg]; omega
  rw [Nat.zero_mul, zl2, e, List.flatMap_cons, List.drop_left]; rfl
 | x :: r, i + 1, h => by
  have e : ∀ m, (m + 1) * z = (g x).length + m * z := by intro m; rw [hg, Nat.succ_mul]; omega
  have hd : ∀ m, ((x :: r).flatMap g).drop ((m + 1) * z) = (r.flatMap g).drop (m * z) := by
   intro m
   rw [e, List.flatMap_cons, ← List.drop_drop, List.drop_left]
  rw [hd i, hd (i + 1), fm_drop hg d (by simpa using h)]; rfl
theorem fm_all {p : V → Bool} (hg : ∀ x, (g x).all p = true) : ∀ l : List α, (l.flatMap g).all p = true
 | [] => rfl
 | x :: r => by rw [List.flatMap_cons, List.all_append, hg, fm_all hg r]; rfl
theorem fm_take (hg : ∀ x, (g x).length = z) : ∀ (l : List α) (i : Nat), (l.flatMap g).take (i * z) = (l.take i).flatMap g
 | [], i => by simp
 | x :: r, 0 => by simp
 | x :: r, i + 1 => by
  have e : (i + 1) * z = (g x).length + i * z := by rw [hg, Nat.succ_mul]; omega
  rw [e, List.flatMap_cons, List.take_append, zla (Nat.le_add_right _ _), znd, fm_take hg r i]; rfl
theorem fm_dropL (hg : ∀ x, (g x).length = z) : ∀ (l : List α) (i : Nat), (l.flatMap g).drop (i * z) = (l.drop i).flatMap g
 | [], i => by simp
 | x :: r, 0 => by simp
 | x :: r, i + 1 => by
  have e : (i + 1) * z = (g x).length + i * z := by rw [hg, Nat.succ_mul]; omega
  rw [e, List.flatMap_cons, ← List.drop_drop, List.drop_left, fm_dropL hg r i]; rfl
end
theorem okL_clo {ok : Nat → Bool} {x : V} (h : clo x = true) : okL ok x = true := by
 cases x <;> first | rfl | (cases h; done)
theorem LLe.cl {ok : Nat → Bool} {l l' : List V} (e : l = l') (h : l.all clo = true) : LLe ok l l' := by
 subst e
 exact ⟨znb _, fun i y x h1 h2 => by
  rw [h1] at h2
  cases h2
  exact VLe.okL (okL_clo (List.all_eq_true.1 h _ (List.mem_of_getElem? h1)))⟩
theorem renL_clo (f : Nat → Nat) : ∀ {l : List V}, l.all clo = true → V.renL f l = l
 | [], _ => by simp [V.renL]
 | x :: r, h => by
  rw [List.all_cons, Bool.and_eq_true] at h
  rw [V.renL, renL_clo f h.2]
  congr 1
  have h1 := h.1
  cases x <;> first | (simp [V.ren]; done) | (cases h1; done)
theorem LLe.clR {ok : Nat → Bool} {f : Nat → Nat} {l l' : List V} (e : l = l') (h : l.all clo = true) : LLe ok (V.renL f l) l' := by
 rw [renL_clo f h]; exact LLe.cl e h
theorem qLc {G : Prop} (h : G := by (refine Le.of [] hB (by first | exact ⟨znc _, fun _ _ => znc _⟩ | (constructor <;> (try simp) <;> (try omega))) ?_ ?_ <;> (repeat' (first | exact leSl_nil | exact leHp_nil | refine leSl_cons qT ?_ ?_ | refine leHp_cons qT ?_ ?_ | exact VLe.junk _ | exact VLe.refl rfl | exact VLe.nil_sl _ _ _ | exact VLe.int (by first | rfl | omega | (dsimp only; omega)) | exact VLe.bool rfl | exact VLe.sl rfl (by first | rfl | omega | (dsimp only; omega) | (simp; done)) | exact VLe.cap rfl (by first | rfl | omega | (dsimp only; omega) | (simp; done)) | exact VLe.im rfl rfl | exact HLe.new rfl | exact HLe.same rfl (LLe.refl rfl) | refine HLe.same rfl ?_ | exact LLe.nil _ | exact LLe.refl rfl | exact LLe.cl rfl qS | exact LLe.clR rfl qS | refine LLe.cons ?_ ?_)))) : G := h
abbrev Cf := Option Int
def cv (q : Cf) : Int := q.getD 0
def cfC : Cf → List V
 | some z => ivC z
 | none => [.sc (.bool true), .im [] 0]
abbrev Fc := Int × Cf
abbrev Ch := List Fc
def fcC (f : Fc) : List V := .sc (.int .i64 f.1) :: cfC f.2
theorem cfC_len (q : Cf) : (cfC q).length = 2 := by cases q <;> rfl
theorem fcC_len (f : Fc) : (fcC f).length = 3 := by unfold fcC; rw [List.length_cons, cfC_len]
theorem cfC_clo (q : Cf) : (cfC q).all clo = true := by cases q <;> rfl
theorem fcC_clo (f : Fc) : (fcC f).all clo = true := by unfold fcC; rw [List.all_cons, cfC_clo]; rfl
theorem cfC_one (q : Cf) : (cfC q).all V.one = true := by cases q <;> rfl
theorem fcC_one (f : Fc) : (fcC f).all V.one = true := by unfold fcC; rw [List.all_cons, cfC_one]; rfl
def fcs (l : Ch) : List V := l.flatMap fcC
theorem fcs_len (l : Ch) : (fcs l).length = 3 * l.length := fm_len fcC_len l
theorem fcs_drop {l : Ch} {i : Nat} (h : i < l.length) : (fcs l).drop (i * 3) = fcC (l.getD i (0, some 0)) ++ (fcs l).drop ((i + 1) * 3) := fm_drop fcC_len _ h
@[go_sem] theorem fcs_clo (l : Ch) : (fcs l).all clo = true := fm_all fcC_clo l
theorem fcs_one (l : Ch) : (fcs l).all V.one = true := fm_all fcC_one l
structure Cx where
 id : Int
 dim : Int
 b : Ch
def cxC (x : Cx) : List V := [.sc (.int .i64 x.id), .sc (.int .i64 x.dim), .im (fcs x.b) x.b.length]
def cx0 : Cx := ⟨0, 0, []⟩
theorem cxC_len (x : Cx) : (cxC x).length = 3 := rfl
def cxs (C : List Cx) : List V := C.flatMap cxC
theorem cxs_len (C : List Cx) : (cxs C).length = 3 * C.length := fm_len cxC_len C
theorem cxs_drop {C : List Cx} {i : Nat} (h : i < C.length) : (cxs C).drop (i * 3) = cxC (C.getD i cx0) ++ (cxs C).drop ((i + 1) * 3) := fm_drop cxC_len _ h
@[go_sem] theorem cxs_clo (C : List Cx) : (cxs C).all clo = true := fm_all (fun _ => rfl) C
theorem cxs_one (C : List Cx) : (cxs C).all V.one = true := fm_all (fun _ => rfl) C
def cxV (C : List Cx) : V := .im (cxs C) C.length
def chV (l : Ch) : V := .im (fcs l) l.length
def I64 (n : Int) : Prop := -9223372036854775808 ≤ n ∧ n ≤ 9223372036854775807
structure CxK (K : Nat) (x : Cx) : Prop where
 id : I64 x.id
 dim : -100000 ≤ x.dim ∧ x.dim ≤ 100000
 len : x.b.length ≤ 1000
 fid : ∀ f ∈ x.b, I64 f.1
 cf : ∀ f ∈ x.b, Fits K (cv f.2)
structure CxOk (K : Nat) (C : List Cx) : Prop where
 len : C.length ≤ 1000
 all : ∀ x ∈ C, CxK K x
theorem CxK.mono {K K' : Nat} {x : Cx} (h : CxK K x) (hk : K ≤ K') : CxK K' x := ⟨h.id, h.dim, h.len, h.fid, fun f hf => (h.cf f hf).mono hk⟩
theorem CxOk.mono {K K' : Nat} {C : List Cx} (h : CxOk K C) (hk : K ≤ K') : CxOk K' C := ⟨h.len, fun x hx => (h.all x hx).mono hk⟩
theorem CxOk.get {K : Nat} {C : List Cx} (h : CxOk K C) {i : Nat} (hi : i < C.length) : CxK K (C.getD i cx0) := h.all _ (getD_mem hi)
theorem CxK.get {K : Nat} {x : Cx} (h : CxK K x) {i : Nat} (hi : i < x.b.length) : I64 (x.b.getD i (0, some 0)).1 ∧ Fits K (cv (x.b.getD i (0, some 0)).2) := ⟨h.fid _ (getD_mem hi), h.cf _ (getD_mem hi)⟩
def Srt (C : List Cx) : Prop := ∀ i j, i < j → j < C.length → (C.getD i cx0).id < (C.getD j cx0).id
def lbn (C : List Cx) (id : Int) : Nat := (C.takeWhile fun x => decide (x.id < id)).length
def findL (C : List Cx) (id : Int) : Option Cx := C.find? fun x => decide (x.id = id)
theorem lbn_le : ∀ (C : List Cx) (id : Int), lbn C id ≤ C.length
 | [], _ => znb _
 | x :: C, id => by
  unfold lbn
  rw [List.takeWhile_cons]
  split
  ·have := lbn_le C id; unfold lbn at this; simp; omega
  ·simp
theorem lbn_lt {C : List Cx} {id : Int} : ∀ {i : Nat}, i < lbn C id → (C.getD i cx0).id < id := by
 induction C with
 | nil => intro i h; exact absurd h (Nat.not_lt_zero _)
 | cons x C ih =>
  intro i h
  unfold lbn at h
  rw [List.takeWhile_cons] at h
  split at h
  ·rename_i hx
   cases i with
   | zero => simpa using hx
   | succ i => simpa using ih (i := i) (by unfold lbn; simpa using h)
  ·simp at h
theorem lbn_ge {C : List Cx} {id : Int} (h : lbn C id < C.length) : id ≤ (C.getD (lbn C id) cx0).id := by
 induction C with
 | nil => simp at h
 | cons x C ih =>
  unfold lbn at h ⊢
  rw [List.takeWhile_cons] at h ⊢
  split at h
  ·rename_i hx
   simp only [hx, if_true, List.length_cons, List.getD_cons_succ]
   exact ih (by unfold lbn; simpa using h)
  ·rename_i hx
   simp only [hx]
   simp at hx ⊢
   omega
theorem lbn_eq {C : List Cx} {id : Int} {i : Nat} (hi : i ≤ C.length) (h1 : ∀ j, j < i → (C.getD j cx0).id < id) (h2 : i < C.length → id ≤ (C.getD i cx0).id) : lbn C id = i := by
 rcases Nat.lt_trichotomy (lbn C id) i with h | h | h
 ·have := h1 _ h
  have := lbn_ge (C := C) (id := id) (by omega)
  omega
 ·exact h
 ·have := lbn_lt h
  have := h2 (by have := lbn_le C id; omega)
  omega
theorem findL_none {C : List Cx} {id : Int} (h : ∀ j, j < C.length → (C.getD j cx0).id ≠ id) : findL C id = none := by
 unfold findL
 rw [List.find?_eq_none]
 intro x hx
 obtain ⟨j, hj, rfl⟩ := List.mem_iff_getElem.1 hx
 have := h j hj
 rw [List.getD_eq_getElem?_getD, zlb hj] at this
 simpa using this
theorem findL_some {C : List Cx} {id : Int} {i : Nat} (hs : Srt C) (hi : i < C.length) (he : (C.getD i cx0).id = id) : findL C id = some (C.getD i cx0) := by
 have h0 : C[i] = C.getD i cx0 := by rw [List.getD_eq_getElem?_getD, zlb hi]; rfl
 unfold findL
 rw [List.find?_eq_some_iff_getElem]
 refine ⟨by simpa using he, i, hi, h0, fun j hj => ?_⟩
 have := hs j i hj hi
 have h1 : C[j] = C.getD j cx0 := by rw [List.getD_eq_getElem?_getD, zlb (by omega)]; rfl
 rw [h1]
 simp only [Bool.not_eq_true', decide_eq_false_iff_not]
 omega
theorem find_lbn {C : List Cx} {id : Int} (hs : Srt C) : findL C id = if lbn C id < C.length ∧ (C.getD (lbn C id) cx0).id = id then some (C.getD (lbn C id) cx0) else none := by
 split
 ·rename_i h; exact findL_some hs h.1 h.2
 ·rename_i h
  refine findL_none fun j hj e => h ?_
  have hlt : lbn C id = j := lbn_eq (by omega) (fun k hk => by have := hs k j hk hj; omega) (fun _ => by omega)
  rw [hlt]; exact ⟨hj, e⟩
theorem findL_mem {C : List Cx} {id : Int} {y : Cx} (h : findL C id = some y) : y ∈ C ∧ y.id = id := by
 unfold findL at h
 exact ⟨List.mem_of_find?_eq_some h, by simpa using List.find?_some h⟩
end Go.Proofs.Ytdkkgndibagihaa
namespace Go.Proofs.Ytdkkgndibagihaa
open Go.RowKit
theorem qVf {F G R : Prop} (f : F) (r : R) (h : F → Hd R → G := by intro f k; (repeat (first | refine DO.nil (by kernel_rfl) ?_ | (with_reducible refine qO ?_) | ((first | apply SO.call | apply DO.call); (iterate 3 exact qSf f); (first | apply SCall.ofX | apply DCall.ofX); assumption; exact qSf f) | ((apply DO.callL; (iterate 3 exact qSf f)); apply DCall.ofX; assumption; exact qSf f) | ((first | apply SO.callV | apply DO.callV); exact qTf f; (focus (simp (disch := omega) only [go_sem, ↓reduceIte, zn1, zn2, zn3, zn4, zn5, zn6, reduceCtorEq, zn7, zi1, zi2, if_pos, if_neg, Int.reduceAdd, zn8, zna, Nat.zero_mul, Nat.add_zero, zn9, Nat.sub_zero, zl2, zl4, zl3, zl9, zl7, zl8, List.append_nil, List.take_length, List.take_nil, List.drop_nil, List.length_nil, List.length_set, List.length_replicate, List.flatten_nil, List.flatten_cons, Bool.not_true, Bool.not_false, Bool.false_eq_true, Bool.or_true, Bool.true_or, Bool.or_false, Bool.or_self, bne_self_eq_false, beq_self_eq_true, f])); exact qTf f; exact qSf f; (first | apply SCallV.of | apply DCall.ofX); assumption; exact qSf f) | ((with_reducible first | apply wa | apply wb | apply wc | apply wd); exact qSf f; (first | refine pT ?_ | refine pF ?_ | fail_if_success with_reducible refine pA ?_)) | ((with_reducible refine SC.draw Tab.mixed ?_ ?_); (focus (first | rfl | exact qSf f))) | (with_reducible apply SC.ops))); exact k.h) : G := h f ⟨r⟩
def cmpI (a b : Int) : Int := if a < b then -1 else if b < a then 1 else 0
theorem isnan_s (x : Int) : Spec Try.prog 83 [.sc (.int .i64 x)] (.sc (.bool false)) := by
 have q : (x != x) = false := by simp
 refine qF Try.func83 Try.ntmps83 fun B hB => ?_
 refine qWf @q ?_
 exact qE Try.results83
theorem cmpInt_s (x y : Int) : Spec Try.prog 64 [.sc (.int .i64 x), .sc (.int .i64 y)] (.sc (.int .i64 (cmpI x y))) := by
 have c1 := isnan_s x
 have c2 := isnan_s y
 refine qF Try.func64 Try.ntmps64 fun B hB => ?_
 unfold cmpI
 by_cases h1 : x < y
 ·have q1 : decide (x < y) = true := decide_eq_true h1
  rw [if_pos h1]
  refine qWf @q1 ?_
  exact qE Try.results64
 ·have q1 : decide (x < y) = false := decide_eq_false h1
  rw [if_neg h1]
  by_cases h2 : y < x
  ·have q2 : decide (x > y) = true := decide_eq_true h2
   rw [if_pos h2]
   refine qWf (Q2 @q1 @q2) ?_
   exact qE Try.results64
  ·have q2 : decide (x > y) = false := decide_eq_false h2
   rw [if_neg h2]
   refine qWf (Q2 @q1 @q2) ?_
   exact qE Try.results64
theorem place1_s (x : Cx) (id : Int) : Spec Try.prog 63 [.ag (cxC x), .sc (.int .i64 id)] (.sc (.int .i64 (cmpI x.id id))) := by
 have c1 := cmpInt_s x.id id
 unfold cxC
 refine qF Try.func63 Try.ntmps63 fun B hB => ?_
 refine qW ?_
 exact qE Try.results63
theorem cmpI_lt {a b : Int} : cmpI a b < 0 ↔ a < b := by unfold cmpI; split <;> (try split) <;> omega
theorem cmpI_eq {a b : Int} : cmpI a b = 0 ↔ a = b := by unfold cmpI; split <;> (try split) <;> omega
set_option maxHeartbeats 4000000 in
theorem bsearch_s {C : List Cx} {id : Int} (hs : Srt C) (hl : C.length ≤ 1000) :
  Spec Try.prog 62 [cxV C, .sc (.int .i64 id), .sc (.func (.func 63) #[] #[])]
   (.tu [.sc (.int .i64 (lbn C id : Nat)), .sc (.bool (decide (lbn C id < C.length ∧ (C.getD (lbn C id) cx0).id = id)))]) := by
 unfold cxV
 refine qF Try.func62 Try.ntmps62 fun B hB => ?_
 refine qW ?_
 refine SC.loop (fun x : Nat × Nat => ⟨[(0, .im (cxs C) C.length), (1, .sc (.int .i64 id)), (2, .sc (.func (.func 63) #[] #[])), (8, .sc (.int .i64 (C.length : Nat))), (9, .sc (.int .i64 (x.1 : Nat))), (10, .sc (.int .i64 (x.2 : Nat)))], [], 0, 49⟩)
  (fun x => x.1 ≤ x.2 ∧ x.2 ≤ C.length ∧ (∀ j, j < x.1 → (C.getD j cx0).id < id) ∧ (x.2 < C.length → id ≤ (C.getD x.2 cx0).id)) (fun x => x.2 - x.1) (0, C.length) ?_ ?_ ?_
 ·exact qL
 ·exact ⟨znc _, znb _, fun j h => absurd h (Nat.not_lt_zero _), fun h => absurd h (Nat.lt_irrefl _)⟩
 ·rintro ⟨i, j⟩ ⟨h1, h2, h3, h4⟩ K hK
  simp only at h1 h2 h3 h4
  have gl := cxs_len C
  by_cases hc : i < j
  ·have q1 : decide ((i : Int) < (j : Int)) = true := decide_eq_true (by omega)
   have em : ((i : Int) + (j : Int)) / 2 ^ min 1 64 = (((i + j) / 2 : Nat) : Int) := by rw [show (2 : Int) ^ min 1 64 = 2 by decide]; omega
   have m1 : i ≤ (i + j) / 2 := by omega
   have m2 : (i + j) / 2 < j := by omega
   generalize (i + j) / 2 = h at *
   have gd := cxs_drop (C := C) (i := h) (by omega)
   have c1 := place1_s (C.getD h cx0) id
   have hv : (C.getD h cx0).id < id ∨ id ≤ (C.getD h cx0).id := by omega
   have hlo : (C.getD h cx0).id < id → ∀ k, k < h + 1 → (C.getD k cx0).id < id := fun hx k hk => by
    rcases Nat.lt_or_ge k h with h5 | h5
    ·have := hs k h h5 (by omega); omega
    ·rw [show k = h by omega]; exact hx
   generalize hgx : C.getD h cx0 = x at *
   unfold cxC at *
   rcases hv with hv | hv
   ·have q2 : decide (cmpI x.id id < 0) = true := decide_eq_true (cmpI_lt.2 hv)
    refine qVf (Q5 @q1 @em @gd @gl @q2) ?_
    refine hK _ (h + 1, j) ?_ ⟨by omega, by omega, hlo hv, h4⟩ (by omega)
    exact qL
   ·have q2 : decide (cmpI x.id id < 0) = false := decide_eq_false fun h => by have := cmpI_lt.1 h; omega
    refine qVf (Q5 @q1 @em @gd @gl @q2) ?_
    refine hK _ (i, h) ?_ ⟨by omega, by omega, h3, fun _ => by show id ≤ (C.getD h cx0).id; rw [hgx]; exact hv⟩ (by omega)
    exact qL
  ·have q1 : decide ((i : Int) < (j : Int)) = false := decide_eq_false (by omega)
   have hij : i = j := by omega
   subst hij
   have e := lbn_eq h2 h3 h4
   rw [e]
   by_cases h5 : i < C.length
   ·have q2 : decide ((i : Int) < (C.length : Int)) = true := decide_eq_true (by omega)
    have gd := cxs_drop h5
    have c1 := place1_s (C.getD i cx0) id
    generalize C.getD i cx0 = x at *
    unfold cxC at *
    have q3 : decide (i < C.length ∧ x.id = id) = (cmpI x.id id == 0) := by
     rw [Bool.eq_iff_iff, decide_eq_true_eq, beq_iff_eq, cmpI_eq]; exact ⟨fun h => h.2, fun h => ⟨h5, h⟩⟩
    rw [q3]
    refine qVf (Q4 @q1 @q2 @gd @gl) ?_
    exact qE Try.results62
   ·have q2 : decide ((i : Int) < (C.length : Int)) = false := decide_eq_false (by omega)
    rw [show decide (i < C.length ∧ (C.getD i cx0).id = id) = false from decide_eq_false fun h => h5 h.1]
    refine qVf (Q2 @q1 @q2) ?_
    exact qE Try.results62
theorem place_s {C : List Cx} {id : Int} (hs : Srt C) (hl : C.length ≤ 1000) :
  Spec Try.prog 47 [cxV C, .sc (.int .i64 id)] (.tu [.sc (.int .i64 (lbn C id : Nat)), .sc (.bool (decide (lbn C id < C.length ∧ (C.getD (lbn C id) cx0).id = id)))]) := by
 have c1 := bsearch_s (id := id) hs hl
 unfold cxV at *
 refine qF Try.func47 Try.ntmps47 fun B hB => ?_
 refine qW ?_
 exact qE Try.results47
theorem cfind_s {C : List Cx} {id : Int} (hs : Srt C) (hl : C.length ≤ 1000) :
  Spec Try.prog 19 [cxV C, .sc (.int .i64 id)] (.tu [.ag (cxC ((findL C id).getD cx0)), .sc (.bool (findL C id).isSome)]) := by
 have c1 := place_s (id := id) hs hl
 rw [find_lbn hs]
 have gl := cxs_len C
 generalize lbn C id = i at *
 unfold cxV at *
 refine qF Try.func19 Try.ntmps19 fun B hB => ?_
 by_cases h : i < C.length ∧ (C.getD i cx0).id = id
 ·have q1 : decide (i < C.length ∧ (C.getD i cx0).id = id) = true := decide_eq_true h
  rw [if_pos h, Option.getD_some]
  rw [q1] at c1
  have gd := cxs_drop h.1
  have h1 := h.1
  generalize C.getD i cx0 = x at *
  unfold cxC at *
  refine qWf (Q2 @gd @gl) ?_
  exact qE Try.results19
 ·have q1 : decide (i < C.length ∧ (C.getD i cx0).id = id) = false := decide_eq_false h
  rw [if_neg h, Option.getD_none]
  rw [q1] at c1
  refine qW ?_
  exact qE Try.results19
end Go.Proofs.Ytdkkgndibagihaa
namespace Go.Proofs.Ytdkkgndibagihaa
open Go.RowKit
theorem pvalid_c (q : Cf) (K : Nat) (hq : Fits K (cv q)) (hK : K ≤ 100000000000) : Spec Try.prog 66 [.ag (cfC q)] (.sc (.bool q.isSome)) := by
 cases q with
 | some z => exact pvalid_i z K hq hK
 | none => exact valid_g [] 0 true rfl (by omega)
theorem cfC_two (q : Cf) : ∃ (n : Bool) (l : List Nat), cfC q = [.sc (.bool n), .im (lv l) l.length] := by
 cases q with
 | some z => exact ⟨_, _, rfl⟩
 | none => exact ⟨true, [], rfl⟩
def facesG (C : List Cx) (d : Int) : Option Int → Int → Ch → Int
 | _, e, [] => e
 | p, e, f :: r => if (∃ q, p = some q ∧ f.1 ≤ q) ∨ f.2 = none ∨ f.2 = some 0 then 251 else
  match findL C f.1 with
  | none => 251
  | some y => facesG C d (some f.1) (if y.dim = d - 1 then e else 260) r
def facesL (C : List Cx) (x : Cx) : Int := facesG C x.dim none (if x.dim < 0 ∨ 3 < x.dim then 260 else 0) x.b
def prevF (b : Ch) (i : Nat) : Option Int := if i = 0 then none else some (b.getD (i - 1) (0, some 0)).1
theorem facesG_drop {C : List Cx} {d e : Int} {p : Option Int} {b : Ch} {i : Nat} (h : i < b.length) : facesG C d p e (b.drop i) =
  if (∃ q, p = some q ∧ (b.getD i (0, some 0)).1 ≤ q) ∨ (b.getD i (0, some 0)).2 = none ∨ (b.getD i (0, some 0)).2 = some 0 then 251 else
  match findL C (b.getD i (0, some 0)).1 with
  | none => 251
  | some y => facesG C d (some (b.getD i (0, some 0)).1) (if y.dim = d - 1 then e else 260) (b.drop (i + 1)) := by
 have e : b.drop i = b.getD i (0, some 0) :: b.drop (i + 1) := by
  rw [List.drop_eq_getElem_cons h, List.getD_eq_getElem?_getD, zlb h]; rfl
 rw [e, facesG]
theorem opt_or {α : Type} (q : Option α) : q = none ∨ ∃ z, q = some z := by cases q <;> simp
theorem cutC (C : Prop) {A G : Prop} (h : (Unit → C → A) → G) (k : C → A) : G := h fun _ => k
theorem cutA {A G : Prop} (h : A → G) (k : A) : G := h k
set_option maxHeartbeats 4000000 in
set_option maxRecDepth 8000 in
theorem faces_s {C : List Cx} {x : Cx} {K : Nat} (hs : Srt C) (hC : CxOk K C) (hx : CxK K x) (hK : K ≤ 100000000000) :
  Spec Try.prog 49 [cxV C, .ag (cxC x)] (.sc (.int .i64 (facesL C x))) := by
 have hl := hC.len
 obtain ⟨id, dim, b⟩ := x
 have hd := hx.dim
 have hbl := hx.len
 simp only at hd hbl
 unfold facesL
 simp only
 unfold cxV cxC
 refine qF Try.func49 Try.ntmps49 fun B hB => ?_
 obtain ⟨e0, he0⟩ : ∃ e0 : Int, e0 = if dim < 0 ∨ 3 < dim then 260 else 0 := ⟨_, rfl⟩
 rw [← he0]
 apply cutA
 ·intro N
  by_cases h0 : dim < 0
  ·have q1 : decide (dim < 0) = true := decide_eq_true h0
   rw [if_pos (.inl h0)] at he0
   refine qWf @q1 ?_
   refine SC.weak (s' := ⟨[(0, .im (cxs C) C.length), (3, .pt 0 0), (5, .sc (.int .i64 e0)), (19, .im (fcs b) b.length), (20, .sc (.int .i64 (b.length : Nat))), (21, .sc (.int .i64 (0 : Nat)))], [(0, ⟨39, [.sc (.int .i64 id), .sc (.int .i64 dim), .im (fcs b) b.length], false⟩)], 1, 69⟩) (by simp) ?_ N
   exact qL
  ·have q1 : decide (dim < 0) = false := decide_eq_false h0
   by_cases h3 : 3 < dim
   ·have q2 : decide (dim > 3) = true := decide_eq_true h3
    rw [if_pos (.inr h3)] at he0
    refine qWf (Q2 @q1 @q2) ?_
    refine SC.weak (s' := ⟨[(0, .im (cxs C) C.length), (3, .pt 0 0), (5, .sc (.int .i64 e0)), (19, .im (fcs b) b.length), (20, .sc (.int .i64 (b.length : Nat))), (21, .sc (.int .i64 (0 : Nat)))], [(0, ⟨39, [.sc (.int .i64 id), .sc (.int .i64 dim), .im (fcs b) b.length], false⟩)], 1, 69⟩) (by simp) ?_ N
    exact qL
   ·have q2 : decide (dim > 3) = false := decide_eq_false h3
    rw [if_neg (by omega)] at he0
    refine qWf (Q2 @q1 @q2) ?_
    refine SC.weak (s' := ⟨[(0, .im (cxs C) C.length), (3, .pt 0 0), (5, .sc (.int .i64 e0)), (19, .im (fcs b) b.length), (20, .sc (.int .i64 (b.length : Nat))), (21, .sc (.int .i64 (0 : Nat)))], [(0, ⟨39, [.sc (.int .i64 id), .sc (.int .i64 dim), .im (fcs b) b.length], false⟩)], 1, 69⟩) (by simp) ?_ N
    exact qL
 generalize hF : facesG C dim none e0 b = F
 refine SC.loop (fun x : Nat × Int => ⟨[(0, .im (cxs C) C.length), (3, .pt 0 0), (5, .sc (.int .i64 x.2)), (19, .im (fcs b) b.length), (20, .sc (.int .i64 (b.length : Nat))), (21, .sc (.int .i64 (x.1 : Nat)))], [(0, ⟨39, [.sc (.int .i64 id), .sc (.int .i64 dim), .im (fcs b) b.length], false⟩)], 1, 69⟩)
  (fun x => x.1 ≤ b.length ∧ facesG C dim (prevF b x.1) x.2 (b.drop x.1) = F) (fun x => b.length - x.1) (0, e0) ?_ ?_ ?_
 ·exact qL
 ·exact ⟨znc _, hF⟩
 ·rintro ⟨i, e⟩ ⟨hi, hI⟩ K0 hK0
  simp only at hi hI
  have gl := fcs_len b
  by_cases hc : i < b.length
  ·have q1 : decide ((i : Int) < (b.length : Int)) = true := decide_eq_true (by omega)
   have gd := fcs_drop hc
   rw [facesG_drop hc] at hI
   have hf := hx.get hc
   simp only at hf
   generalize hgf : b.getD i (0, some 0) = f at *
   have hfi := hf.1
   have c1 := pvalid_c f.2 K hf.2 hK
   obtain ⟨nf, lf, hqf⟩ := cfC_two f.2
   by_cases hA : ∃ q, prevF b i = some q ∧ f.1 ≤ q
   ·rw [if_pos (.inl hA)] at hI
    obtain ⟨q, hq, hle⟩ := hA
    unfold prevF at hq
    split at hq
    ·cases hq
    ·rename_i hi0
     cases hq
     have q2 : decide ((i : Int) > 0) = true := decide_eq_true (by omega)
     have e1 : ((i : Int) - 1).toNat = i - 1 := by omega
     have gp := fcs_drop (l := b) (i := i - 1) (by omega)
     generalize b.getD (i - 1) (0, some 0) = g at *
     have q3 : decide (f.1 ≤ g.1) = true := decide_eq_true hle
     have hF : F = 251 := hI.symm
     subst hF
     obtain ⟨ng, lg, hqg⟩ := cfC_two g.2
     unfold fcC at gd gp
     rw [hqf] at gd
     rw [hqg] at gp
     refine qWf (Q7 @q1 @q2 @e1 @gd @gp @gl @q3) ?_
     exact qE Try.results49
   ·-- the face before does not hinder
    have c1n : f.2 = none → Spec Try.prog 66 [.ag [.sc (.bool nf), .im (lv lf) lf.length]] (.sc (.bool false)) := fun h => by rw [hqf, h] at c1; exact c1
    have c1s : ∀ z, f.2 = some z → Spec Try.prog 66 [.ag [.sc (.bool nf), .im (lv lf) lf.length]] (.sc (.bool true)) := fun z h => by rw [hqf, h] at c1; exact c1
    have c2s : ∀ z, f.2 = some z → Spec Try.prog 67 [.ag [.sc (.bool nf), .im (lv lf) lf.length]] (.sc (.int .i64 z.sign)) := fun z h => by
     have c2 := psign_i z K (by have := hf.2; rw [h] at this; exact this) (by omega)
     rw [h] at hqf
     have e2 : iv z = .ag [.sc (.bool nf), .im (lv lf) lf.length] := congrArg V.ag hqf
     rwa [e2] at c2
    unfold fcC at gd
    rw [hqf] at gd
    clear c1
    apply cutC (f.2 ≠ none ∧ f.2 ≠ some 0)
    ·intro N
     by_cases hi0 : i = 0
     ·have q2 : decide ((i : Int) > 0) = false := decide_eq_false (by omega)
      rcases opt_or f.2 with hq | ⟨z, hq⟩
      ·have hF : F = 251 := by rw [← hI, if_pos (.inr (.inl hq))]
       have c1' := c1n hq
       refine qWf (Q4 @q1 @gd @gl @q2) ?_
       exact retQ_ret Try.results49 qS qS (by rw [hF])
      ·have c1' := c1s z hq
       have c2 := c2s z hq
       by_cases hz : z = 0
       ·have hF : F = 251 := by rw [← hI, if_pos (.inr (.inr (by rw [hq, hz])))]
        have q5 : (Int.sign z == 0) = true := by rw [hz]; decide
        refine qWf (Q5 @q1 @gd @gl @q5 @q2) ?_
        exact retQ_ret Try.results49 qS qS (by rw [hF])
       ·have q5 : (z.sign == 0) = false := by rw [beq_eq_false_iff_ne]; exact fun h => hz (Int.sign_eq_zero_iff_zero.1 h)
        refine qWf (Q5 @q1 @gd @gl @q5 @q2) ?_
        refine SO.weak (s' := ⟨[(55, .sc (.int .i64 f.1)), (53, .im (cxs C) C.length), (0, .im (cxs C) C.length), (3, .pt 0 0), (5, .sc (.int .i64 e)), (7, .pt 1 0), (19, .im (fcs b) b.length), (20, .sc (.int .i64 (b.length : Nat))), (21, .sc (.int .i64 (i : Nat)))], [(1, ⟨86, [.sc (.int .i64 f.1), .sc (.bool nf), .im (lv lf) lf.length], false⟩), (0, ⟨39, [.sc (.int .i64 id), .sc (.int .i64 dim), .im (fcs b) b.length], false⟩)], 2, 69⟩) ?_ (N () ⟨(by rw [hq]; exact Option.some_ne_none z), (by rw [hq]; exact fun h => hz (Option.some.inj h))⟩)
        exact qL
     ·have q2 : decide ((i : Int) > 0) = true := decide_eq_true (by omega)
      have e1 : ((i : Int) - 1).toNat = i - 1 := by omega
      obtain ⟨g, hg⟩ : ∃ g, g = b.getD (i - 1) (0, some 0) := ⟨_, rfl⟩
      obtain ⟨ng, lg, hqg⟩ := cfC_two g.2
      have gp : (fcs b).drop ((i - 1) * 3) = [.sc (.int .i64 g.1), .sc (.bool ng), .im (lv lg) lg.length] ++ (fcs b).drop ((i - 1 + 1) * 3) := by
       rw [fcs_drop (l := b) (i := i - 1) (by omega), ← hg, fcC, hqg]
      have q3 : decide (f.1 ≤ g.1) = false := decide_eq_false fun h => hA ⟨_, if_neg hi0, by rw [← hg]; exact h⟩
      rcases opt_or f.2 with hq | ⟨z, hq⟩
      ·have hF : F = 251 := by rw [← hI, if_pos (.inr (.inl hq))]
       have c1' := c1n hq
       refine qWf (Q7 @q1 @gd @gl @q2 @e1 @gp @q3) ?_
       exact retQ_ret Try.results49 qS qS (by rw [hF])
      ·have c1' := c1s z hq
       have c2 := c2s z hq
       by_cases hz : z = 0
       ·have hF : F = 251 := by rw [← hI, if_pos (.inr (.inr (by rw [hq, hz])))]
        have q5 : (Int.sign z == 0) = true := by rw [hz]; decide
        refine qWf (Q8 @q1 @gd @gl @q5 @q2 @e1 @gp @q3) ?_
        exact retQ_ret Try.results49 qS qS (by rw [hF])
       ·have q5 : (z.sign == 0) = false := by rw [beq_eq_false_iff_ne]; exact fun h => hz (Int.sign_eq_zero_iff_zero.1 h)
        refine qWf (Q8 @q1 @gd @gl @q5 @q2 @e1 @gp @q3) ?_
        refine SO.weak (s' := ⟨[(55, .sc (.int .i64 f.1)), (53, .im (cxs C) C.length), (0, .im (cxs C) C.length), (3, .pt 0 0), (5, .sc (.int .i64 e)), (7, .pt 1 0), (19, .im (fcs b) b.length), (20, .sc (.int .i64 (b.length : Nat))), (21, .sc (.int .i64 (i : Nat)))], [(1, ⟨86, [.sc (.int .i64 f.1), .sc (.bool nf), .im (lv lf) lf.length], false⟩), (0, ⟨39, [.sc (.int .i64 id), .sc (.int .i64 dim), .im (fcs b) b.length], false⟩)], 2, 69⟩) ?_ (N () ⟨(by rw [hq]; exact Option.some_ne_none z), (by rw [hq]; exact fun h => hz (Option.some.inj h))⟩)
        exact qL
    ·rintro ⟨h1, h2⟩
     rw [if_neg fun h => h.elim hA fun h => h.elim h1 h2] at hI
     have c3 := cfind_s (id := f.1) hs hl
     unfold cxV at c3
     cases hy : findL C f.1 with
     | none =>
      rw [hy] at hI c3
      have hF : F = 251 := hI.symm
      subst hF
      have c3' : Spec Try.prog 19 [.im (cxs C) C.length, .sc (.int .i64 f.1)] (.tu [.ag (cxC cx0), .sc (.bool false)]) := c3
      clear c3
      unfold cxC cx0 fcs at c3'
      simp only [List.flatMap_nil, List.length_nil] at c3'
      refine qW ?_
      exact qE Try.results49
     | some y =>
      rw [hy] at hI c3
      have c3' : Spec Try.prog 19 [.im (cxs C) C.length, .sc (.int .i64 f.1)] (.tu [.ag (cxC y), .sc (.bool true)]) := c3
      clear c3
      have hI2 : facesG C dim (some f.1) (if y.dim = dim - 1 then e else 260) (b.drop (i + 1)) = F := hI
      have hyd := (hC.all y (findL_mem hy).1).dim
      unfold cxC at c3'
      have hp : prevF b (i + 1) = some f.1 := by
       unfold prevF
       rw [if_neg (by omega), Nat.add_sub_cancel, hgf]
      by_cases hdim : y.dim = dim - 1
      ·rw [if_pos hdim] at hI2
       have q6 : (y.dim != dim - 1) = false := by rw [hdim]; simp
       refine qWf @q6 ?_
       refine hK0 _ (i + 1, e) ?_ ⟨by show i + 1 ≤ b.length; omega, by show facesG C dim (prevF b (i + 1)) e (b.drop (i + 1)) = F; rw [hp]; exact hI2⟩ (by show b.length - (i + 1) < b.length - i; omega)
       exact qL
      ·rw [if_neg hdim] at hI2
       have q6 : (y.dim != dim - 1) = true := by rw [bne_iff_ne]; exact hdim
       refine qWf @q6 ?_
       refine hK0 _ (i + 1, 260) ?_ ⟨by show i + 1 ≤ b.length; omega, by show facesG C dim (prevF b (i + 1)) 260 (b.drop (i + 1)) = F; rw [hp]; exact hI2⟩ (by show b.length - (i + 1) < b.length - i; omega)
       exact qL
  ·have q1 : decide ((i : Int) < (b.length : Int)) = false := decide_eq_false (by omega)
   have hib : i = b.length := by omega
   rw [hib, List.drop_length] at hI
   have hI' : e = F := hI
   subst hI'
   refine qWf @q1 ?_
   exact qE Try.results49
end Go.Proofs.Ytdkkgndibagihaa
namespace Go.Proofs.Ytdkkgndibagihaa
open Go.RowKit
def zget (ks : List Int) (zs : List Int) (n : Int) : Int := ((kix ks n).bind fun i => zs[i]?).getD 0
theorem kix_none : ∀ {ks : List Int} {n : Int}, kix ks n = none ↔ n ∉ ks
 | [], n => by simp [kix]
 | k :: r, n => by
  unfold kix
  by_cases h : n = k
  ·simp [h]
  ·rw [if_neg h]
   simp [h, kix_none]
theorem kix_lt {ks : List Int} {n : Int} {i : Nat} (h : kix ks n = some i) : i < ks.length := (List.getElem?_eq_some_iff.1 (kix_some h)).1
theorem kix_of {ks : List Int} (hn : ks.Nodup) {n : Int} {i : Nat} (h : ks[i]? = some n) : kix ks n = some i := by
 cases e : kix ks n with
 | none => exact absurd (List.mem_of_getElem? h) (kix_none.1 e)
 | some j =>
  have h1 := kix_some e
  have h2 := (List.getElem?_eq_some_iff.1 h1).1
  have h3 := (List.getElem?_eq_some_iff.1 h).1
  rw [zlb h2] at h1
  rw [zlb h3] at h
  cases h1
  exact congrArg some ((List.getElem_inj hn).1 (Option.some.inj h).symm)
theorem mget_map (f : Int → V) (ks zs : List Int) (n : Int) : mget ks (zs.map f) n = ((kix ks n).bind fun i => zs[i]?).map f := by
 unfold mget
 cases kix ks n with
 | none => rfl
 | some i => simp
structure ZM (ks zs : List Int) : Prop where
 nd : ks.Nodup
 len : zs.length = ks.length
 nz : ∀ z ∈ zs, z ≠ 0
def putZ (ks zs : List Int) (n s : Int) : List Int :=
 match kix ks n with
 | some i => zs.set i s
 | none => zs ++ [s]
def delZ (ks zs : List Int) (n : Int) : List Int :=
 match kix ks n with
 | some i => zs.eraseIdx i
 | none => zs
theorem mputV_map (f : Int → V) (ks zs : List Int) (n s : Int) : mputV ks (zs.map f) n (f s) = (putZ ks zs n s).map f := by
 unfold mputV putZ
 cases kix ks n with
 | none => simp
 | some i => simp
theorem mdelV_map (f : Int → V) (ks zs : List Int) (n : Int) : mdelV ks (zs.map f) n = (delZ ks zs n).map f := by
 unfold mdelV delZ
 cases kix ks n with
 | none => rfl
 | some i => exact (map_erase f zs i).symm
theorem ZM.nil : ZM [] [] := ⟨List.nodup_nil, rfl, fun z h => by cases h⟩
theorem zget_kix {ks zs : List Int} {n : Int} {i : Nat} (h : kix ks n = some i) : zget ks zs n = zs.getD i 0 := by
 unfold zget; rw [h, Option.bind_some, List.getD_eq_getElem?_getD]
theorem zget_none {ks zs : List Int} {n : Int} (h : kix ks n = none) : zget ks zs n = 0 := by unfold zget; rw [h]; rfl
theorem kix_append {ks : List Int} {n m : Int} (hm : kix ks m = none) : kix (ks ++ [m]) n = if n = m then some ks.length else kix ks n := by
 induction ks with
 | nil => simp [kix]
 | cons k r ih =>
  have hmk : m ≠ k := fun e => by rw [e] at hm; simp [kix] at hm
  have hr : kix r m = none := by
   unfold kix at hm
   rw [if_neg hmk] at hm
   simpa using hm
  rw [zl8, kix, ih hr, kix]
  by_cases h1 : n = k
  ·subst h1; rw [if_pos rfl, if_pos rfl, if_neg fun e => hmk e.symm]
  ·rw [if_neg h1, if_neg h1]
   by_cases h2 : n = m
   ·rw [if_pos h2, if_pos h2]; rfl
   ·rw [if_neg h2, if_neg h2]
theorem ZM.put {ks zs : List Int} (h : ZM ks zs) {n s : Int} (hs : s ≠ 0) : ZM (mputK ks n) (putZ ks zs n s) ∧ ∀ m, zget (mputK ks n) (putZ ks zs n s) m = if m = n then s else zget ks zs m := by
 cases hi : kix ks n with
 | none =>
  have e1 : mputK ks n = ks ++ [n] := by simp [mputK, hi]
  have e2 : putZ ks zs n s = zs ++ [s] := by simp [putZ, hi]
  rw [e1, e2]
  refine ⟨⟨?_, by simp [h.len], fun z hz => ?_⟩, fun m => ?_⟩
  ·rw [List.nodup_append]
   refine ⟨h.nd, by simp, fun a ha b hb => ?_⟩
   simp at hb
   subst hb
   exact fun e => kix_none.1 hi (e ▸ ha)
  ·rcases List.mem_append.1 hz with hz | hz
   ·exact h.nz z hz
   ·simp at hz; rw [hz]; exact hs
  ·by_cases hm : m = n
   ·subst hm
    rw [if_pos rfl, zget_kix (i := ks.length) (by rw [kix_append hi, if_pos rfl]), List.getD_eq_getElem?_getD, ← h.len]
    simp
   ·rw [if_neg hm]
    have e3 : kix (ks ++ [n]) m = kix ks m := by rw [kix_append hi, if_neg hm]
    cases hj : kix ks m with
    | none => rw [zget_none hj, zget_none (by rw [e3]; exact hj)]
    | some j =>
     have := kix_lt hj
     rw [zget_kix hj, zget_kix (by rw [e3]; exact hj), List.getD_eq_getElem?_getD, List.getElem?_append_left (by rw [h.len]; exact this), List.getD_eq_getElem?_getD]
 | some i =>
  have hlt := kix_lt hi
  have e1 : mputK ks n = ks := by simp [mputK, hi]
  have e2 : putZ ks zs n s = zs.set i s := by simp [putZ, hi]
  rw [e1, e2]
  refine ⟨⟨h.nd, by simp [h.len], fun z hz => ?_⟩, fun m => ?_⟩
  ·rcases List.mem_or_eq_of_mem_set hz with hz | hz
   ·exact h.nz z hz
   ·rw [hz]; exact hs
  ·by_cases hm : m = n
   ·subst hm
    rw [if_pos rfl, zget_kix hi, List.getD_eq_getElem?_getD, List.getElem?_set_self (by rw [h.len]; exact hlt)]
    rfl
   ·rw [if_neg hm]
    cases hj : kix ks m with
    | none => rw [zget_none hj, zget_none hj]
    | some j =>
     have hij : i ≠ j := fun e => by
      subst e
      have h1 := kix_some hi
      have h2 := kix_some hj
      rw [h1] at h2; cases h2; exact hm rfl
     rw [zget_kix hj, zget_kix hj, List.getD_eq_getElem?_getD, List.getElem?_set_ne hij, List.getD_eq_getElem?_getD]
theorem ZM.del {ks zs : List Int} (h : ZM ks zs) (n : Int) : ZM (mdelK ks n) (delZ ks zs n) ∧ ∀ m, zget (mdelK ks n) (delZ ks zs n) m = if m = n then 0 else zget ks zs m := by
 cases hi : kix ks n with
 | none =>
  have e1 : mdelK ks n = ks := by simp [mdelK, hi]
  have e2 : delZ ks zs n = zs := by simp [delZ, hi]
  rw [e1, e2]
  refine ⟨h, fun m => ?_⟩
  by_cases hm : m = n
  ·subst hm; rw [if_pos rfl, zget_none hi]
  ·rw [if_neg hm]
 | some i =>
  have hlt := kix_lt hi
  have e1 : mdelK ks n = ks.eraseIdx i := by simp [mdelK, hi]
  have e2 : delZ ks zs n = zs.eraseIdx i := by simp [delZ, hi]
  rw [e1, e2]
  have hnd : (ks.eraseIdx i).Nodup := h.nd.sublist (List.eraseIdx_sublist _ _)
  refine ⟨⟨hnd, by rw [List.length_eraseIdx_of_lt (by rw [h.len]; exact hlt), List.length_eraseIdx_of_lt hlt, h.len], fun z hz => h.nz z (List.mem_of_mem_eraseIdx hz)⟩, fun m => ?_⟩
  by_cases hm : m = n
  ·subst hm
   rw [if_pos rfl]
   refine zget_none (kix_none.2 fun hmem => ?_)
   obtain ⟨j, hj, he⟩ := List.mem_iff_getElem.1 hmem
   rw [List.getElem_eraseIdx] at he
   have h1 := kix_some hi
   rw [zlb hlt] at h1
   have h1 := Option.some.inj h1
   rw [List.length_eraseIdx_of_lt hlt] at hj
   split at he
   ·have := (List.getElem_inj h.nd).1 (he.trans h1.symm); omega
   ·have := (List.getElem_inj h.nd).1 (he.trans h1.symm); omega
  ·rw [if_neg hm]
   cases hj : kix ks m with
   | none =>
    rw [zget_none hj]
    exact zget_none (kix_none.2 fun hmem => kix_none.1 hj (List.mem_of_mem_eraseIdx hmem))
   | some j =>
    have hjl := kix_lt hj
    have hks := kix_some hj
    have hij : i ≠ j := fun e => by
     subst e
     have h1 := kix_some hi
     rw [h1] at hks; cases hks; exact hm rfl
    rcases Nat.lt_or_gt_of_ne hij with h2 | h2
    ·have e3 : kix (ks.eraseIdx i) m = some (j - 1) := kix_of hnd (by rw [List.getElem?_eraseIdx, if_neg (by omega), show j - 1 + 1 = j by omega]; exact hks)
     rw [zget_kix hj, zget_kix e3, List.getD_eq_getElem?_getD, List.getElem?_eraseIdx, if_neg (by omega), show j - 1 + 1 = j by omega, List.getD_eq_getElem?_getD]
    ·have e3 : kix (ks.eraseIdx i) m = some j := kix_of hnd (by rw [List.getElem?_eraseIdx, if_pos (by omega)]; exact hks)
     rw [zget_kix hj, zget_kix e3, List.getD_eq_getElem?_getD, List.getElem?_eraseIdx, if_pos (by omega), List.getD_eq_getElem?_getD]
theorem ZM.empty {ks zs : List Int} (h : ZM ks zs) : zs.length = 0 ↔ ∀ n, zget ks zs n = 0 := by
 constructor
 ·intro h0 n
  have hk : ks = [] := List.eq_nil_of_length_eq_zero (by rw [← h.len]; exact h0)
  subst hk
  exact zget_none rfl
 ·intro h0
  rcases Nat.eq_zero_or_pos zs.length with e | e
  ·exact e
  ·exfalso
   have hk : 0 < ks.length := by rw [← h.len]; exact e
   have hi := kix_of h.nd (zlb hk)
   have h1 := h0 ks[0]
   rw [zget_kix hi] at h1
   exact h.nz _ (getD_mem e) h1
def cfn : Ch → Int → Int
 | [], _ => 0
 | g :: r, n => (if g.1 = n then cv g.2 else 0) + cfn r n
def bOf (C : List Cx) (id : Int) : Ch := ((findL C id).getD cx0).b
def bdn (C : List Cx) : Ch → Int → Int
 | [], _ => 0
 | f :: r, n => cv f.2 * cfn (bOf C f.1) n + bdn C r n
theorem cfn_app (a b : Ch) (n : Int) : cfn (a ++ b) n = cfn a n + cfn b n := by
 induction a with
 | nil => simp [cfn]
 | cons x r ih => rw [zl8, cfn, cfn, ih]; omega
theorem bdn_app (C : List Cx) (a b : Ch) (n : Int) : bdn C (a ++ b) n = bdn C a n + bdn C b n := by
 induction a with
 | nil => simp [bdn]
 | cons x r ih => rw [zl8, bdn, bdn, ih]; omega
theorem cfn_take {b : Ch} {j : Nat} (h : j < b.length) (n : Int) : cfn (b.take (j + 1)) n = cfn (b.take j) n + if (b.getD j (0, some 0)).1 = n then cv (b.getD j (0, some 0)).2 else 0 := by
 rw [List.take_succ_eq_append_getElem h, cfn_app, List.getD_eq_getElem?_getD, zlb h]
 simp [cfn]
theorem bdn_take {C : List Cx} {b : Ch} {i : Nat} (h : i < b.length) (n : Int) : bdn C (b.take (i + 1)) n = bdn C (b.take i) n + cv (b.getD i (0, some 0)).2 * cfn (bOf C (b.getD i (0, some 0)).1) n := by
 rw [List.take_succ_eq_append_getElem h, bdn_app, List.getD_eq_getElem?_getD, zlb h]
 simp [bdn]
end Go.Proofs.Ytdkkgndibagihaa
namespace Go.Proofs.Ytdkkgndibagihaa
open Go.RowKit
theorem pmul_b (x : Int) (K : Nat) (hx : Fits K x) (hK : K ≤ 400000000000) : Spec Try.prog 69 [iv x, .ag [.sc (.bool true), .im [] 0]] (iv 0) := by
 have lx := fits_len hx
 have t1 := trim_n x.natAbs (by omega)
 have t2 := trim_n 0 (by rw [limbsOf_zero]; simp)
 have c1 := ptimes_i (limbsOf x.natAbs) (limbsOf 0) (limbsOf_limbs _) (limbsOf_limbs _) (by omega) (by rw [limbsOf_zero]; simp)
 rw [limbsOf_val, limbsOf_val, Nat.mul_zero, limbsOf_zero] at c1
 rw [limbsOf_zero] at t2
 have c2 := pvalue_dg ((limbsOf x.natAbs).length + 0) 0 (decide (x < 0) != true) 0 (by cases (decide (x < 0) != true) <;> rfl) (Nat.pow_pos (by omega)) (by omega)
 unfold iv sv at *
 have hn : lv [] = [] := rfl
 simp only [hn, List.length_nil] at *
 refine qF Try.func69 Try.ntmps69 fun B hB => ?_
 refine qW ?_
 exact qE Try.results69
theorem pmul_c (x : Int) (q : Cf) (K : Nat) (hx : Fits K x) (hq : Fits K (cv q)) (hK : K ≤ 400000000000) : Spec Try.prog 69 [iv x, .ag (cfC q)] (iv (x * cv q)) := by
 cases q with
 | some y => exact pmul_i x y K hx hq hK
 | none =>
  show Spec _ _ _ (iv (x * 0))
  rw [Int.mul_zero]
  exact pmul_b x K hx hK
theorem iv_two (z : Int) : ∃ (n : Bool) (l : List Nat), iv z = .ag [.sc (.bool n), .im (lv l) l.length] := ⟨_, _, rfl⟩
theorem iv_zero2 : iv 0 = .ag [.sc (.bool false), .im [] 0] := by
 unfold iv sv
 rw [show Int.natAbs 0 = 0 from rfl, limbsOf_zero]; rfl
theorem fits_sumC {K t : Nat} {x : Int} (h : x.natAbs ≤ t * (4294967296 ^ K * 4294967296 ^ K)) (ht : t < 4294967296) : Fits (2 * K + 1) x := by
 unfold Fits
 have hp : 0 < 4294967296 ^ K * 4294967296 ^ K := Nat.mul_pos (Nat.pow_pos (by omega)) (Nat.pow_pos (by omega))
 have h1 : t * (4294967296 ^ K * 4294967296 ^ K) < 4294967296 * (4294967296 ^ K * 4294967296 ^ K) := Nat.mul_lt_mul_of_pos_right ht hp
 rw [Nat.pow_succ, Nat.mul_comm 2 K, Nat.pow_mul, Nat.pow_two, Nat.mul_comm (_ * _) 4294967296]
 exact Nat.lt_of_le_of_lt h h1
theorem mul_bound {K : Nat} {x y : Int} (hx : Fits K x) (hy : Fits K y) : (x * y).natAbs ≤ 4294967296 ^ K * 4294967296 ^ K := by
 rw [Int.natAbs_mul]; exact Nat.mul_le_mul (Nat.le_of_lt hx) (Nat.le_of_lt hy)
set_option maxHeartbeats 8000000 in
set_option maxRecDepth 8000 in
theorem closed_s {C : List Cx} {l : Ch} {K : Nat} (hs : Srt C) (hC : CxOk K C) (hl : l.length ≤ 1000) (hf : ∀ f ∈ l, (∃ z, f.2 = some z) ∧ Fits K (cv f.2)) (hK : K ≤ 100000000000) :
  ∃ r : Bool, Spec Try.prog 50 [cxV C, chV l] (.sc (.bool r)) ∧ (r = true ↔ ∀ n, bdn C l n = 0) := by
 obtain ⟨r, hr⟩ : ∃ r : Bool, (r = true ↔ ∀ n, bdn C l n = 0) := by
  by_cases h : ∀ n, bdn C l n = 0
  ·exact ⟨true, by simp [h]⟩
  ·exact ⟨false, by simp [h]⟩
 refine ⟨r, ?_, hr⟩
 have hCl := hC.len
 unfold cxV chV
 refine qF Try.func50 Try.ntmps50 fun B hB => ?_
 refine qW ?_
 refine SO.mapMk qS rfl fun mb hmb => ?_
 refine qW ?_
 refine SC.loop (fun x : Nat × List Int × List Int => ⟨[(0, .im (cxs C) C.length), (5, .mp 0 mb x.2.1 (x.2.2.map iv)), (14, .im (fcs l) l.length), (15, .sc (.int .i64 (l.length : Nat))), (16, .sc (.int .i64 (x.1 : Nat)))], [], 1, 59⟩)
  (fun x => x.1 ≤ l.length ∧ ZM x.2.1 x.2.2 ∧ (∀ n, zget x.2.1 x.2.2 n = bdn C (l.take x.1) n) ∧ ∀ n, (zget x.2.1 x.2.2 n).natAbs ≤ (x.1 * 1000) * (4294967296 ^ K * 4294967296 ^ K)) (fun x => l.length - x.1) (0, [], []) ?_ ?_ ?_
 ·exact qL
 ·exact ⟨znc _, ZM.nil, fun n => by rw [zl4]; exact zget_none rfl, fun n => by rw [show zget (0, ([] : List Int), ([] : List Int)).2.1 (0, ([] : List Int), ([] : List Int)).2.2 n = 0 from zget_none rfl]; exact znc _⟩
 ·rintro ⟨i, ks, zs⟩ ⟨hi, hZ, hsum, hbd⟩ K0 hK0
  simp only at hi hZ hsum hbd
  have gl := fcs_len l
  by_cases hc : i < l.length
  ·have q1 : decide ((i : Int) < (l.length : Int)) = true := decide_eq_true (by omega)
   have gd := fcs_drop hc
   have hfi := hf _ (getD_mem (d := (0, some 0)) hc)
   have hbt := fun n => bdn_take (C := C) hc n
   generalize l.getD i (0, some 0) = f at *
   obtain ⟨⟨z, hz⟩, hfz⟩ := hfi
   obtain ⟨nf, lf, hqf⟩ := cfC_two f.2
   have ef : iv z = .ag [.sc (.bool nf), .im (lv lf) lf.length] := by rw [hz] at hqf; exact congrArg V.ag hqf
   have cvz : cv f.2 = z := by rw [hz]; rfl
   rw [cvz] at hfz hbt
   unfold fcC at gd
   rw [hqf] at gd
   have c1 := cfind_s (id := f.1) hs hCl
   obtain ⟨y, hy⟩ : ∃ y, y = (findL C f.1).getD cx0 := ⟨_, rfl⟩
   have hyb : bOf C f.1 = y.b := by rw [hy]; rfl
   have hyl : y.b.length ≤ 1000 ∧ ∀ g ∈ y.b, Fits K (cv g.2) := by
    rw [hy]
    cases e : findL C f.1 with
    | none => exact ⟨znc _, fun g h => by cases h⟩
    | some w => have h1 := hC.all w (findL_mem e).1; exact ⟨h1.len, h1.cf⟩
   simp only [hyb] at hbt
   rw [← hy] at c1
   generalize (findL C f.1).isSome = fo at c1
   clear hy hyb
   obtain ⟨yi, yd, yb⟩ := y
   simp only at hyl hbt
   unfold cxC cxV at c1
   simp only at c1
   have gyl := fcs_len yb
   refine qWf (Q3 @q1 @gd @gl) ?_
   refine SC.loop (fun x : Nat × List Int × List Int => ⟨[(0, .im (cxs C) C.length), (5, .mp 0 mb x.2.1 (x.2.2.map iv)), (7, .pt 1 0), (14, .im (fcs l) l.length), (15, .sc (.int .i64 (l.length : Nat))), (16, .sc (.int .i64 (i : Nat))), (28, .im (fcs yb) yb.length), (29, .sc (.int .i64 (yb.length : Nat))), (30, .sc (.int .i64 (x.1 : Nat)))], [(1, ⟨86, [.sc (.int .i64 f.1), .sc (.bool nf), .im (lv lf) lf.length], false⟩)], 3, 59⟩)
    (fun x => x.1 ≤ yb.length ∧ ZM x.2.1 x.2.2 ∧ (∀ n, zget x.2.1 x.2.2 n = bdn C (l.take i) n + z * cfn (yb.take x.1) n) ∧ ∀ n, (zget x.2.1 x.2.2 n).natAbs ≤ (i * 1000 + x.1) * (4294967296 ^ K * 4294967296 ^ K)) (fun x => yb.length - x.1) (0, ks, zs) ?_ ?_ ?_
   ·exact qL
   ·exact ⟨znc _, hZ, fun n => by rw [zl4, cfn, Int.mul_zero, Int.add_zero]; exact hsum n, fun n => by rw [Nat.add_zero]; exact hbd n⟩
   ·clear hZ hsum hbd
    rintro ⟨j, ks, zs⟩ ⟨hj, hZ, hsum, hbd⟩ K1 hK1
    simp only at hj hZ hsum hbd
    by_cases hc2 : j < yb.length
    ·have q2 : decide ((j : Int) < (yb.length : Int)) = true := decide_eq_true (by omega)
     have gd2 := fcs_drop hc2
     have hg := hyl.2 _ (getD_mem (d := (0, some 0)) hc2)
     have hct := fun n => cfn_take hc2 n
     generalize yb.getD j (0, some 0) = g at *
     obtain ⟨ng, lg, hqg⟩ := cfC_two g.2
     have c2 := pmul_c z g.2 K hfz hg (by omega)
     have hmb2 := mul_bound hfz hg
     obtain ⟨p, hp⟩ : ∃ p, p = z * cv g.2 := ⟨_, rfl⟩
     rw [← hp] at c2 hmb2
     obtain ⟨np, lp, ep⟩ := iv_two p
     have hb0 := hbd g.1
     have hT : i * 1000 + j < 1000000 := by omega
     have ht0 := fits_sumC hb0 (by omega)
     have htp : Fits (2 * K + 1) p := fits_sumC (t := 1) (by rw [zna]; exact hmb2) (by omega)
     have c3 := padd_i (zget ks zs g.1) p (2 * K + 1) ht0 htp (by omega)
     have hbs : (zget ks zs g.1 + p).natAbs ≤ (i * 1000 + (j + 1)) * (4294967296 ^ K * 4294967296 ^ K) := by
      rw [← znf, Nat.succ_mul]
      exact Nat.le_trans (Int.natAbs_add_le _ _) (Nat.add_le_add hb0 hmb2)
     have c4 := psign_i (zget ks zs g.1 + p) (2 * K + 1) (fits_sumC hbs (by omega)) (by omega)
     have hnew : ∀ ks' zs', (∀ m, zget ks' zs' m = if m = g.1 then zget ks zs g.1 + p else zget ks zs m) → (∀ n, zget ks' zs' n = bdn C (l.take i) n + z * cfn (yb.take (j + 1)) n) ∧ ∀ n, (zget ks' zs' n).natAbs ≤ (i * 1000 + (j + 1)) * (4294967296 ^ K * 4294967296 ^ K) := by
      intro ks' zs' h
      refine ⟨fun n => ?_, fun n => ?_⟩
      ·rw [h n, hct n]
       by_cases e : n = g.1
       ·subst e; rw [if_pos rfl, if_pos rfl, hsum, hp, Int.mul_add]; omega
       ·rw [if_neg e, if_neg (fun h => e h.symm), Int.add_zero]; exact hsum n
      ·rw [h n]
       split
       ·exact hbs
       ·exact Nat.le_trans (hbd n) (Nat.mul_le_mul_right _ (by omega))
     obtain ⟨w, hw⟩ : ∃ w, w = zget ks zs g.1 := ⟨_, rfl⟩
     rw [← hw] at hnew c3 c4
     obtain ⟨sm, hsm⟩ : ∃ sm, sm = w + p := ⟨_, rfl⟩
     rw [← hsm] at hnew c3 c4
     obtain ⟨ns, ls, es⟩ := iv_two sm
     rw [ef, hqg, ep] at c2
     rw [ep, es] at c3
     unfold fcC at gd2
     rw [hqg] at gd2
     apply cutC True
     ·intro N
      rcases opt_or (kix ks g.1) with hk | ⟨k, hk⟩
      ·have gm : mget ks (zs.map iv) g.1 = none := by rw [mget_map, hk]; rfl
       have c3' : Spec Try.prog 68 [.ag [.sc (.bool false), .im [] 0], .ag [.sc (.bool np), .im (lv lp) lp.length]] (.ag [.sc (.bool ns), .im (lv ls) ls.length]) := by
        rw [← iv_zero2, show (0 : Int) = w by rw [hw, zget_none hk]]; exact c3
       (repeat (first | refine DO.nil (by kernel_rfl) ?_ | (with_reducible refine qO ?_) | ((first | apply SO.call | apply DO.call); (iterate 3 (focus (simp (disch := omega) only [go_sem, ↓reduceIte, zn1, zn2, zn3, zn4, zn5, zn6, reduceCtorEq, zn7, zi1, zi2, if_pos, if_neg, Int.reduceAdd, zn8, zna, Nat.zero_mul, Nat.add_zero, zn9, Nat.sub_zero, zl2, zl4, zl3, zl9, zl7, zl8, List.append_nil, List.take_length, List.take_nil, List.drop_nil, List.length_nil, List.length_set, List.length_replicate, List.flatten_nil, List.flatten_cons, Bool.not_true, Bool.not_false, Bool.false_eq_true, Bool.or_true, Bool.true_or, Bool.or_false, Bool.or_self, bne_self_eq_false, beq_self_eq_true, q2, gd2, gyl, gm] <;> rfl))); (first | apply SCall.ofX | apply DCall.ofX); assumption; (focus (simp (disch := omega) only [go_sem, ↓reduceIte, zn1, zn2, zn3, zn4, zn5, zn6, reduceCtorEq, zn7, zi1, zi2, if_pos, if_neg, Int.reduceAdd, zn8, zna, Nat.zero_mul, Nat.add_zero, zn9, Nat.sub_zero, zl2, zl4, zl3, zl9, zl7, zl8, List.append_nil, List.take_length, List.take_nil, List.drop_nil, List.length_nil, List.length_set, List.length_replicate, List.flatten_nil, List.flatten_cons, Bool.not_true, Bool.not_false, Bool.false_eq_true, Bool.or_true, Bool.true_or, Bool.or_false, Bool.or_self, bne_self_eq_false, beq_self_eq_true, q2, gd2, gyl, gm] <;> rfl))) | ((with_reducible first | apply wa | apply wb | apply wc | apply wd); (focus (simp (disch := omega) only [go_sem, ↓reduceIte, zn1, zn2, zn3, zn4, zn5, zn6, reduceCtorEq, zn7, zi1, zi2, if_pos, if_neg, Int.reduceAdd, zn8, zna, Nat.zero_mul, Nat.add_zero, zn9, Nat.sub_zero, zl2, zl4, zl3, zl9, zl7, zl8, List.append_nil, List.take_length, List.take_nil, List.drop_nil, List.length_nil, List.length_set, List.length_replicate, List.flatten_nil, List.flatten_cons, Bool.not_true, Bool.not_false, Bool.false_eq_true, Bool.or_true, Bool.true_or, Bool.or_false, Bool.or_self, bne_self_eq_false, beq_self_eq_true, q2, gd2, gyl, gm] <;> rfl)); (first | refine pT ?_ | refine pF ?_ | fail_if_success with_reducible refine pA ?_)) | ((with_reducible refine SC.draw Tab.mixed ?_ ?_); (focus (first | rfl | simp (disch := omega) only [go_sem, ↓reduceIte, zn1, zn2, zn3, zn4, zn5, zn6, reduceCtorEq, zn7, zi1, zi2, if_pos, if_neg, Int.reduceAdd, zn8, zna, Nat.zero_mul, Nat.add_zero, zn9, Nat.sub_zero, zl2, zl4, zl3, zl9, zl7, zl8, List.append_nil, List.take_length, List.take_nil, List.drop_nil, List.length_nil, List.length_set, List.length_replicate, List.flatten_nil, List.flatten_cons, Bool.not_true, Bool.not_false, Bool.false_eq_true, Bool.or_true, Bool.true_or, Bool.or_false, Bool.or_self, bne_self_eq_false, beq_self_eq_true, q2, gd2, gyl, gm]))) | (with_reducible apply SC.ops)))
       refine SO.weak (s' := ⟨[(44, .ag [.sc (.bool ns), .im (lv ls) ls.length]), (0, .im (cxs C) C.length), (5, .mp 0 mb ks (zs.map iv)), (7, .pt 1 0), (11, .pt 3 0), (12, .pt 4 0), (14, .im (fcs l) l.length), (15, .sc (.int .i64 (l.length : Nat))), (16, .sc (.int .i64 (i : Nat))), (28, .im (fcs yb) yb.length), (29, .sc (.int .i64 (yb.length : Nat))), (30, .sc (.int .i64 (j : Nat)))], [(4, ⟨84, [.sc (.bool ns), .im (lv ls) ls.length], false⟩), (3, ⟨86, [.sc (.int .i64 g.1), .sc (.bool ng), .im (lv lg) lg.length], false⟩), (1, ⟨86, [.sc (.int .i64 f.1), .sc (.bool nf), .im (lv lf) lf.length], false⟩)], 5, 59⟩) ?_ (N () trivial)
       exact qL
      ·have hkl := kix_lt hk
       have gm : mget ks (zs.map iv) g.1 = some (iv w) := by
        rw [mget_map, hk, Option.bind_some, hw, zget_kix hk, List.getD_eq_getElem?_getD, zlb (by rw [hZ.len]; exact hkl)]; rfl
       obtain ⟨nw, lw, ew⟩ := iv_two w
       have gm' := gm
       rw [ew] at gm'
       have c3' := c3
       rw [ew] at c3'
       (repeat (first | refine DO.nil (by kernel_rfl) ?_ | (with_reducible refine qO ?_) | ((first | apply SO.call | apply DO.call); (iterate 3 (focus (simp (disch := omega) only [go_sem, ↓reduceIte, zn1, zn2, zn3, zn4, zn5, zn6, reduceCtorEq, zn7, zi1, zi2, if_pos, if_neg, Int.reduceAdd, zn8, zna, Nat.zero_mul, Nat.add_zero, zn9, Nat.sub_zero, zl2, zl4, zl3, zl9, zl7, zl8, List.append_nil, List.take_length, List.take_nil, List.drop_nil, List.length_nil, List.length_set, List.length_replicate, List.flatten_nil, List.flatten_cons, Bool.not_true, Bool.not_false, Bool.false_eq_true, Bool.or_true, Bool.true_or, Bool.or_false, Bool.or_self, bne_self_eq_false, beq_self_eq_true, q2, gd2, gyl, gm'] <;> rfl))); (first | apply SCall.ofX | apply DCall.ofX); assumption; (focus (simp (disch := omega) only [go_sem, ↓reduceIte, zn1, zn2, zn3, zn4, zn5, zn6, reduceCtorEq, zn7, zi1, zi2, if_pos, if_neg, Int.reduceAdd, zn8, zna, Nat.zero_mul, Nat.add_zero, zn9, Nat.sub_zero, zl2, zl4, zl3, zl9, zl7, zl8, List.append_nil, List.take_length, List.take_nil, List.drop_nil, List.length_nil, List.length_set, List.length_replicate, List.flatten_nil, List.flatten_cons, Bool.not_true, Bool.not_false, Bool.false_eq_true, Bool.or_true, Bool.true_or, Bool.or_false, Bool.or_self, bne_self_eq_false, beq_self_eq_true, q2, gd2, gyl, gm'] <;> rfl))) | ((with_reducible first | apply wa | apply wb | apply wc | apply wd); (focus (simp (disch := omega) only [go_sem, ↓reduceIte, zn1, zn2, zn3, zn4, zn5, zn6, reduceCtorEq, zn7, zi1, zi2, if_pos, if_neg, Int.reduceAdd, zn8, zna, Nat.zero_mul, Nat.add_zero, zn9, Nat.sub_zero, zl2, zl4, zl3, zl9, zl7, zl8, List.append_nil, List.take_length, List.take_nil, List.drop_nil, List.length_nil, List.length_set, List.length_replicate, List.flatten_nil, List.flatten_cons, Bool.not_true, Bool.not_false, Bool.false_eq_true, Bool.or_true, Bool.true_or, Bool.or_false, Bool.or_self, bne_self_eq_false, beq_self_eq_true, q2, gd2, gyl, gm'] <;> rfl)); (first | refine pT ?_ | refine pF ?_ | fail_if_success with_reducible refine pA ?_)) | ((with_reducible refine SC.draw Tab.mixed ?_ ?_); (focus (first | rfl | simp (disch := omega) only [go_sem, ↓reduceIte, zn1, zn2, zn3, zn4, zn5, zn6, reduceCtorEq, zn7, zi1, zi2, if_pos, if_neg, Int.reduceAdd, zn8, zna, Nat.zero_mul, Nat.add_zero, zn9, Nat.sub_zero, zl2, zl4, zl3, zl9, zl7, zl8, List.append_nil, List.take_length, List.take_nil, List.drop_nil, List.length_nil, List.length_set, List.length_replicate, List.flatten_nil, List.flatten_cons, Bool.not_true, Bool.not_false, Bool.false_eq_true, Bool.or_true, Bool.true_or, Bool.or_false, Bool.or_self, bne_self_eq_false, beq_self_eq_true, q2, gd2, gyl, gm']))) | (with_reducible apply SC.ops)))
       refine SO.weak (s' := ⟨[(44, .ag [.sc (.bool ns), .im (lv ls) ls.length]), (0, .im (cxs C) C.length), (5, .mp 0 mb ks (zs.map iv)), (7, .pt 1 0), (11, .pt 3 0), (12, .pt 4 0), (14, .im (fcs l) l.length), (15, .sc (.int .i64 (l.length : Nat))), (16, .sc (.int .i64 (i : Nat))), (28, .im (fcs yb) yb.length), (29, .sc (.int .i64 (yb.length : Nat))), (30, .sc (.int .i64 (j : Nat)))], [(4, ⟨84, [.sc (.bool ns), .im (lv ls) ls.length], false⟩), (3, ⟨86, [.sc (.int .i64 g.1), .sc (.bool ng), .im (lv lg) lg.length], false⟩), (1, ⟨86, [.sc (.int .i64 f.1), .sc (.bool nf), .im (lv lf) lf.length], false⟩)], 5, 59⟩) ?_ (N () trivial)
       exact qL
     ·intro _
      clear c2 c3
      rw [es] at c4
      by_cases hs0 : sm = 0
      ·have q5 : (sm.sign == 0) = true := by rw [hs0]; rfl
       refine qWf @q5 ?_
       refine SO.mapDel qS Tab.mp111 qS qS hmb rfl qS ?_
       rw [mdelV_map]
       obtain ⟨hZ2, hg2⟩ := hZ.del g.1
       obtain ⟨h1, h2⟩ := hnew _ _ (fun m => by rw [hg2 m]; split <;> simp [hs0])
       generalize mdelK ks g.1 = ks2 at *
       generalize delZ ks zs g.1 = zs2 at *
       refine qW ?_
       refine hK1 _ (j + 1, ks2, zs2) ?_ ⟨by show j + 1 ≤ _; omega, hZ2, h1, h2⟩ (by show yb.length - (j + 1) < yb.length - j; omega)
       exact qL
      ·have q5 : (sm.sign == 0) = false := by rw [beq_eq_false_iff_ne]; exact fun h => hs0 (Int.sign_eq_zero_iff_zero.1 h)
       refine qWf @q5 ?_
       refine SO.mapPut qS Tab.mp111 qS qS qS hmb rfl qS ?_
       rw [← es, mputV_map]
       obtain ⟨hZ2, hg2⟩ := hZ.put (n := g.1) hs0
       obtain ⟨h1, h2⟩ := hnew _ _ (fun m => hg2 m)
       generalize mputK ks g.1 = ks2 at *
       generalize putZ ks zs g.1 sm = zs2 at *
       refine qW ?_
       refine hK1 _ (j + 1, ks2, zs2) ?_ ⟨by show j + 1 ≤ _; omega, hZ2, h1, h2⟩ (by show yb.length - (j + 1) < yb.length - j; omega)
       exact qL
    ·have q2 : decide ((j : Int) < (yb.length : Int)) = false := decide_eq_false (by omega)
     have hjl : j = yb.length := by omega
     subst hjl
     rw [List.take_length] at hsum
     refine qWf @q2 ?_
     refine hK0 _ (i + 1, ks, zs) ?_ ⟨by show i + 1 ≤ _; omega, hZ, fun n => by show zget ks zs n = bdn C (l.take (i + 1)) n; rw [hbt n]; exact hsum n, fun n => ?_⟩ (by show l.length - (i + 1) < l.length - i; omega)
     ·exact qL
     ·show (zget ks zs n).natAbs ≤ ((i + 1) * 1000) * _
      exact Nat.le_trans (hbd n) (Nat.mul_le_mul_right _ (by have := hyl.1; omega))
  ·have q1 : decide ((i : Int) < (l.length : Int)) = false := decide_eq_false (by omega)
   have hil : i = l.length := by omega
   subst hil
   rw [List.take_length] at hsum
   have he := hZ.empty
   simp only [hsum] at he
   rw [← hr] at he
   have q3 : (((zs.map iv).length : Int) == 0) = r := by
    rw [List.length_map, Bool.eq_iff_iff, beq_iff_eq, ← he]; omega
   refine qWf (Q2 @q1 @q3) ?_
   exact qE Try.results50
end Go.Proofs.Ytdkkgndibagihaa
namespace Go.Proofs.Ytdkkgndibagihaa
open Go.RowKit
def VG : Option Int → Ch → Prop
 | _, [] => True
 | p, f :: r => (∀ q, p = some q → q < f.1) ∧ (∃ z, f.2 = some z ∧ z ≠ 0) ∧ VG (some f.1) r
theorem facesG_eq {C : List Cx} {d : Int} : ∀ {l : Ch} {p : Option Int} {e : Int}, (e = 0 ∨ e = 260) →
  (facesG C d p e l = 251 ∧ ¬ (VG p l ∧ ∀ f ∈ l, ∃ y, findL C f.1 = some y)) ∨
  ((VG p l ∧ ∀ f ∈ l, ∃ y, findL C f.1 = some y) ∧ ((facesG C d p e l = 0 ∧ e = 0 ∧ ∀ f ∈ l, ∀ y, findL C f.1 = some y → y.dim = d - 1) ∨ (facesG C d p e l = 260 ∧ ¬ (e = 0 ∧ ∀ f ∈ l, ∀ y, findL C f.1 = some y → y.dim = d - 1))))
 | [], p, e, he => .inr ⟨⟨trivial, fun f h => by cases h⟩, he.imp (fun h => ⟨h, h, fun f h => by cases h⟩) fun h => ⟨h, fun k => by have h1 := k.1; have h2 : e = 260 := h; omega⟩⟩
 | f :: r, p, e, he => by
  unfold facesG
  split
  ·rename_i h
   refine .inl ⟨rfl, fun ⟨⟨h1, ⟨z, h2, h3⟩, _⟩, _⟩ => ?_⟩
   rcases h with ⟨q, hq, hle⟩ | h | h
   ·have := h1 q hq; omega
   ·rw [h] at h2; cases h2
   ·rw [h] at h2; cases h2; exact h3 rfl
  ·rename_i h
   have hp : ∀ q, p = some q → q < f.1 := fun q hq => by
    rcases Int.lt_or_le q f.1 with h1 | h1
    ·exact h1
    ·exact absurd (.inl ⟨q, hq, h1⟩) h
   have hz : ∃ z, f.2 = some z ∧ z ≠ 0 := by
    cases e2 : f.2 with
    | none => exact absurd (.inr (.inl e2)) h
    | some z => exact ⟨z, rfl, fun hz => h (.inr (.inr (by rw [e2, hz])))⟩
   cases hy : findL C f.1 with
   | none => exact .inl ⟨rfl, fun ⟨_, h2⟩ => by obtain ⟨y, h3⟩ := h2 f (List.mem_cons_self ..); rw [hy] at h3; cases h3⟩
   | some y =>
    simp only
    have he' : (if y.dim = d - 1 then e else 260) = 0 ∨ (if y.dim = d - 1 then e else 260) = 260 := by split <;> simp [he]
    rcases facesG_eq (C := C) (d := d) (l := r) (p := some f.1) he' with ⟨h1, h2⟩ | ⟨⟨h1, h2⟩, h3⟩
    ·exact .inl ⟨h1, fun ⟨⟨_, _, h3⟩, h4⟩ => h2 ⟨h3, fun g hg => h4 g (List.mem_cons_of_mem _ hg)⟩⟩
    ·refine .inr ⟨⟨⟨hp, hz, h1⟩, fun g hg => ?_⟩, h3.imp (fun ⟨a, b, c⟩ => ⟨a, ?_⟩) fun ⟨a, b⟩ => ⟨a, fun ⟨c, k⟩ => b ⟨?_, fun g hg => k g (List.mem_cons_of_mem _ hg)⟩⟩⟩
     ·rcases List.mem_cons.1 hg with rfl | hg
      ·exact ⟨y, hy⟩
      ·exact h2 g hg
     ·split at b
      ·rename_i hd
       refine ⟨b, fun g hg w hw => ?_⟩
       rcases List.mem_cons.1 hg with rfl | hg
       ·rw [hy] at hw; cases hw; exact hd
       ·exact c g hg w hw
      ·omega
     ·rw [if_pos (k f (List.mem_cons_self ..) y hy)]; exact c
theorem VG.mem : ∀ {l : Ch} {p : Option Int}, VG p l → ∀ f ∈ l, ∃ z, f.2 = some z ∧ z ≠ 0
 | f :: r, p, h, g, hg => by
  rcases List.mem_cons.1 hg with rfl | hg
  ·exact h.2.1
  ·exact VG.mem h.2.2 g hg
structure FacesOk (C : List Cx) (x : Cx) : Prop where
 vg : VG none x.b
 there : ∀ f ∈ x.b, ∃ y, findL C f.1 = some y
 dim : 0 ≤ x.dim ∧ x.dim ≤ 3
 dims : ∀ f ∈ x.b, ∀ y, findL C f.1 = some y → y.dim = x.dim - 1
theorem faces_zero {C : List Cx} {x : Cx} : facesL C x = 0 ↔ FacesOk C x := by
 unfold facesL
 have he : (if x.dim < 0 ∨ 3 < x.dim then (260 : Int) else 0) = 0 ∨ (if x.dim < 0 ∨ 3 < x.dim then (260 : Int) else 0) = 260 := by split <;> simp
 rcases facesG_eq (C := C) (d := x.dim) (l := x.b) (p := none) he with ⟨h1, h2⟩ | ⟨⟨h1, h2⟩, ⟨h3, h4, h5⟩ | ⟨h3, h4⟩⟩
 ·rw [h1]; exact ⟨fun h => by omega, fun h => absurd ⟨h.vg, h.there⟩ h2⟩
 ·refine ⟨fun _ => ⟨h1, h2, ?_, h5⟩, fun _ => h3⟩
  split at h4 <;> omega
 ·rw [h3]; exact ⟨fun h => by omega, fun h => absurd ⟨by rw [if_neg (by have := h.dim; omega)], h.dims⟩ h4⟩
structure VAL (C : List Cx) : Prop where
 len : C.length ≤ 400
 srt : Srt C
 faces : ∀ x ∈ C, FacesOk C x
 closed : ∀ x ∈ C, ∀ n, bdn C x.b n = 0
theorem adj_srt {C : List Cx} (h : ∀ k, 0 < k → k < C.length → (C.getD (k - 1) cx0).id < (C.getD k cx0).id) : Srt C := by
 intro i j hij hj
 induction j with
 | zero => omega
 | succ j ih =>
  have h1 := h (j + 1) (by omega) hj
  rw [Nat.add_sub_cancel] at h1
  rcases Nat.lt_or_ge i j with h2 | h2
  ·have := ih h2 (by omega); omega
  ·rw [show i = j by omega]; exact h1
set_option maxHeartbeats 8000000 in
set_option maxRecDepth 8000 in
theorem cvalid_s {C : List Cx} {K : Nat} (hC : CxOk K C) (hK : K ≤ 100000000000) : ∃ r : Bool, Spec Try.prog 26 [cxV C] (.sc (.bool r)) ∧ (r = true ↔ VAL C) := by
 obtain ⟨r, hr⟩ : ∃ r : Bool, (r = true ↔ VAL C) := by
  by_cases h : VAL C
  ·exact ⟨true, by simp [h]⟩
  ·exact ⟨false, by simp [h]⟩
 refine ⟨r, ?_, hr⟩
 have hCl := hC.len
 have gl := cxs_len C
 unfold cxV
 refine qF Try.func26 Try.ntmps26 fun B hB => ?_
 by_cases h400 : 400 < C.length
 ·have q1 : decide ((C.length : Int) > 400) = true := decide_eq_true (by omega)
  have hF : r = false := by cases r with | false => rfl | true => have := (hr.1 rfl).len; omega
  subst hF
  refine qWf @q1 ?_
  exact qE Try.results26
 have q1 : decide ((C.length : Int) > 400) = false := decide_eq_false (by omega)
 refine qWf @q1 ?_
 refine SC.loop (fun i : Nat => ⟨[(0, .im (cxs C) C.length), (10, .im (cxs C) C.length), (11, .sc (.int .i64 (C.length : Nat))), (12, .sc (.int .i64 (i : Nat)))], [], 0, 49⟩)
  (fun i => i ≤ C.length ∧ ∀ k, 0 < k → k < i → (C.getD (k - 1) cx0).id < (C.getD k cx0).id) (fun i => C.length - i) 0 ?_ ?_ ?_
 ·exact qL
 ·exact ⟨znc _, fun k h1 h2 => by omega⟩
 ·rintro i ⟨hi, hI⟩ K0 hK0
  by_cases hc : i < C.length
  ·have q2 : decide ((i : Int) < (C.length : Int)) = true := decide_eq_true (by omega)
   have gd := cxs_drop hc
   by_cases hi0 : i = 0
   ·have q3 : decide ((i : Int) > 0) = false := decide_eq_false (by omega)
    generalize C.getD i cx0 = x at gd
    unfold cxC at gd
    refine qWf (Q4 @q2 @q3 @gd @gl) ?_
    refine hK0 _ (i + 1) ?_ ⟨by omega, fun k h1 h2 => by omega⟩ (by omega)
    exact qL
   ·have q3 : decide ((i : Int) > 0) = true := decide_eq_true (by omega)
    have e1 : ((i : Int) - 1).toNat = i - 1 := by omega
    have gp := cxs_drop (C := C) (i := i - 1) (by omega)
    by_cases hlt : (C.getD (i - 1) cx0).id < (C.getD i cx0).id
    ·have q4 : decide ((C.getD i cx0).id ≤ (C.getD (i - 1) cx0).id) = false := decide_eq_false (by omega)
     have hI2 : ∀ k, 0 < k → k < i + 1 → (C.getD (k - 1) cx0).id < (C.getD k cx0).id := fun k h1 h2 => by
      rcases Nat.lt_or_ge k i with h3 | h3
      ·exact hI k h1 h3
      ·rw [show k = i by omega]; exact hlt
     clear hlt hI
     generalize C.getD i cx0 = x at gd q4
     generalize C.getD (i - 1) cx0 = y at gp q4
     unfold cxC at gd gp
     refine qWf (Q7 @q2 @q3 @e1 @gd @gp @gl @q4) ?_
     refine hK0 _ (i + 1) ?_ ⟨by omega, hI2⟩ (by omega)
     exact qL
    ·have q4 : decide ((C.getD i cx0).id ≤ (C.getD (i - 1) cx0).id) = true := decide_eq_true (by omega)
     have hF : r = false := by cases r with | false => rfl | true => exact absurd ((hr.1 rfl).srt (i - 1) i (by omega) hc) hlt
     subst hF
     clear hlt hI
     generalize C.getD i cx0 = x at gd q4
     generalize C.getD (i - 1) cx0 = y at gp q4
     unfold cxC at gd gp
     refine qWf (Q7 @q2 @q3 @e1 @gd @gp @gl @q4) ?_
     exact qE Try.results26
  ·have q2 : decide ((i : Int) < (C.length : Int)) = false := decide_eq_false (by omega)
   have hs : Srt C := adj_srt fun k h1 h2 => hI k h1 (by omega)
   clear hI
   refine qWf @q2 ?_
   refine SC.loop (fun i : Nat => ⟨[(0, .im (cxs C) C.length), (31, .im (cxs C) C.length), (32, .sc (.int .i64 (C.length : Nat))), (33, .sc (.int .i64 (i : Nat)))], [], 0, 49⟩)
    (fun i => i ≤ C.length ∧ ∀ k, k < i → FacesOk C (C.getD k cx0) ∧ ∀ n, bdn C (C.getD k cx0).b n = 0) (fun i => C.length - i) 0 ?_ ?_ ?_
   ·exact qL
   ·exact ⟨znc _, fun k h2 => by omega⟩
   ·clear hi hc q2
    rintro i ⟨hi, hI⟩ K1 hK1
    by_cases hc : i < C.length
    ·have q2 : decide ((i : Int) < (C.length : Int)) = true := decide_eq_true (by omega)
     have gd := cxs_drop hc
     have hx := hC.get hc
     have c1 := faces_s hs hC hx hK
     have hm : C.getD i cx0 ∈ C := getD_mem hc
     have hst : FacesOk C (C.getD i cx0) → (∀ n, bdn C (C.getD i cx0).b n = 0) → ∀ k, k < i + 1 → FacesOk C (C.getD k cx0) ∧ ∀ n, bdn C (C.getD k cx0).b n = 0 := fun h1 h2 k hk => by
      rcases Nat.lt_or_ge k i with h3 | h3
      ·exact hI k h3
      ·rw [show k = i by omega]; exact ⟨h1, h2⟩
     clear hI
     generalize C.getD i cx0 = x at *
     have hfz := faces_zero (C := C) (x := x)
     by_cases h0 : facesL C x = 0
     ·have hok := hfz.1 h0
      rw [h0] at c1
      obtain ⟨r2, c2, hr2⟩ := closed_s hs hC hx.len (fun f hf => ⟨by obtain ⟨z, hz, _⟩ := hok.vg.mem f hf; exact ⟨z, hz⟩, hx.cf f hf⟩) hK
      obtain ⟨id, dim, b⟩ := x
      simp only at c2 hr2 hst
      unfold cxV chV at c2
      unfold cxV cxC at c1
      unfold cxC at gd
      simp only at c1 gd
      cases r2 with
      | true =>
       refine qWf (Q3 @q2 @gd @gl) ?_
       refine hK1 _ (i + 1) ?_ ⟨by omega, hst hok (hr2.1 rfl)⟩ (by omega)
       exact qL
      | false =>
       have hF : r = false := by cases r with | false => rfl | true => exact (by have := hr2.2 ((hr.1 rfl).closed _ hm); cases this)
       subst hF
       refine qWf (Q3 @q2 @gd @gl) ?_
       exact qE Try.results26
     ·have q5 : (facesL C x != 0) = true := by rw [bne_iff_ne]; exact h0
      have hF : r = false := by cases r with | false => rfl | true => exact absurd (hfz.2 ((hr.1 rfl).faces x hm)) h0
      subst hF
      generalize facesL C x = e at *
      obtain ⟨id, dim, b⟩ := x
      unfold cxV cxC at c1
      unfold cxC at gd
      simp only at c1 gd
      refine qWf (Q4 @q2 @gd @gl @q5) ?_
      exact qE Try.results26
    ·have q2 : decide ((i : Int) < (C.length : Int)) = false := decide_eq_false (by omega)
     have hF : r = true := hr.2 ⟨by omega, hs, fun x hx => by
      obtain ⟨k, hk, rfl⟩ := List.mem_iff_getElem.1 hx
      have := (hI k (by omega)).1
      rwa [List.getD_eq_getElem?_getD, zlb hk] at this, fun x hx => by
      obtain ⟨k, hk, rfl⟩ := List.mem_iff_getElem.1 hx
      have := (hI k (by omega)).2
      rwa [List.getD_eq_getElem?_getD, zlb hk] at this⟩
     subst hF
     refine qWf @q2 ?_
     exact qE Try.results26
end Go.Proofs.Ytdkkgndibagihaa
namespace Go.Proofs.Ytdkkgndibagihaa
open Go.RowKit
theorem findL_first {C : List Cx} {id : Int} {i : Nat} (hi : i < C.length) (he : (C.getD i cx0).id = id) (h : ∀ k, k < i → (C.getD k cx0).id ≠ id) : findL C id = some (C.getD i cx0) := by
 have h0 : C[i] = C.getD i cx0 := by rw [List.getD_eq_getElem?_getD, zlb hi]; rfl
 unfold findL
 rw [List.find?_eq_some_iff_getElem]
 refine ⟨decide_eq_true he, i, hi, h0, fun j hj => ?_⟩
 have h1 : C[j] = C.getD j cx0 := by rw [List.getD_eq_getElem?_getD, zlb (by omega)]; rfl
 rw [h1]
 simp only [Bool.not_eq_true', decide_eq_false_iff_not]
 exact h j hj
set_option maxHeartbeats 4000000 in
theorem rcfind_s {C : List Cx} {id : Int} (hl : C.length ≤ 1000) :
  Spec Try.prog 20 [cxV C, .sc (.int .i64 id)] (.tu [.ag (cxC ((findL C id).getD cx0)), .sc (.bool (findL C id).isSome)]) := by
 have gl := cxs_len C
 unfold cxV
 generalize hR : findL C id = R
 refine qF Try.func20 Try.ntmps20 fun B hB => ?_
 refine qW ?_
 refine SC.loop (fun i : Nat => ⟨[(0, .im (cxs C) C.length), (1, .sc (.int .i64 id)), (4, .pt 0 0), (6, .sc (.int .i64 (i : Nat)))], [(0, ⟨39, [.sc (.int .i64 0), .sc (.int .i64 0), .sc (.slice none 0 0)], false⟩)], 1, 25⟩)
  (fun i => i ≤ C.length ∧ ∀ k, k < i → (C.getD k cx0).id ≠ id) (fun i => C.length - i) 0 ?_ ?_ ?_
 ·exact qL
 ·exact ⟨znc _, fun k h => by omega⟩
 ·rintro i ⟨hi, hI⟩ K0 hK0
  by_cases hc : i < C.length
  ·have q1 : decide ((i : Int) < (C.length : Int)) = true := decide_eq_true (by omega)
   have gd := cxs_drop hc
   by_cases he : (C.getD i cx0).id = id
   ·have h1 := findL_first hc he hI
    rw [hR] at h1
    subst h1
    clear hI
    generalize C.getD i cx0 = x at *
    have q2 : (x.id == id) = true := by rw [he]; simp
    simp only [Option.getD_some, Option.isSome_some]
    unfold cxC at *
    refine qWf (Q4 @q1 @gd @gl @q2) ?_
    exact qE Try.results20
   ·have h2 : ∀ k, k < i + 1 → (C.getD k cx0).id ≠ id := fun k hk => by
     rcases Nat.lt_or_ge k i with h3 | h3
     ·exact hI k h3
     ·rw [show k = i by omega]; exact he
    have q2 : ((C.getD i cx0).id == id) = false := by rw [beq_eq_false_iff_ne]; exact he
    clear hI he
    generalize C.getD i cx0 = x at gd q2
    unfold cxC at gd
    refine qWf (Q4 @q1 @gd @gl @q2) ?_
    refine hK0 _ (i + 1) ?_ ⟨by omega, h2⟩ (by omega)
    exact qL
  ·have q1 : decide ((i : Int) < (C.length : Int)) = false := decide_eq_false (by omega)
   have h1 := findL_none (id := id) fun j hj => hI j (by omega)
   rw [hR] at h1
   subst h1
   refine qWf @q1 ?_
   exact qE Try.results20
theorem rvalid_c (q : Cf) (K : Nat) (hq : Fits K (cv q)) (hK : K ≤ 100000000000) : Spec Try.prog 71 [.ag (cfC q)] (.sc (.bool q.isSome)) := by
 cases q with
 | some z => exact rvalid_i z K hq (by omega)
 | none => exact Spec.eval (K := fun _ _ => none) (fun _ _ _ h => by cases h) 60 (fun _ => false) (by kernel_rfl)
theorem VG_iff : ∀ {l : Ch} {p : Option Int}, VG p l ↔ (∀ q, p = some q → 0 < l.length → q < (l.getD 0 (0, some 0)).1) ∧ (∀ i, i < l.length → ∃ z, (l.getD i (0, some 0)).2 = some z ∧ z ≠ 0) ∧ ∀ k, 0 < k → k < l.length → (l.getD (k - 1) (0, some 0)).1 < (l.getD k (0, some 0)).1
 | [], p => ⟨fun _ => ⟨fun _ _ h => by simp at h, fun _ h => by simp at h, fun _ _ h => by simp at h⟩, fun _ => trivial⟩
 | f :: r, p => by
  unfold VG
  rw [VG_iff (l := r) (p := some f.1)]
  constructor
  ·rintro ⟨h1, h2, h3, h4, h5⟩
   refine ⟨fun q hq _ => h1 q hq, fun i hi => ?_, fun k hk hl => ?_⟩
   ·cases i with
    | zero => exact h2
    | succ i => exact h4 i (by simpa using hi)
   ·match k, hk with
    | 1, _ => exact h3 f.1 rfl (by simpa using hl)
    | k + 2, _ => exact h5 (k + 1) (by omega) (by have h9 := hl; rw [List.length_cons] at h9; omega)
  ·rintro ⟨h1, h2, h3⟩
   refine ⟨fun q hq => h1 q hq (by simp), h2 0 (by simp), fun q hq hl => ?_, fun i hi => h2 (i + 1) (by simpa using hi), fun k hk hl => ?_⟩
   ·cases hq; exact h3 1 (by omega) (by simpa using hl)
   ·match k, hk with
    | k + 1, _ => exact h3 (k + 2) (by omega) (by rw [List.length_cons]; omega)
set_option maxHeartbeats 8000000 in
set_option maxRecDepth 8000 in
theorem vchain_s {l : Ch} {K : Nat} (hl : l.length ≤ 1000) (hf : ∀ f ∈ l, Fits K (cv f.2)) (hK : K ≤ 100000000000) : ∃ r : Bool, Spec Try.prog 52 [chV l] (.sc (.bool r)) ∧ (r = true ↔ VG none l) := by
 obtain ⟨r, hr⟩ : ∃ r : Bool, (r = true ↔ VG none l) := by
  by_cases h : VG none l
  ·exact ⟨true, by simp [h]⟩
  ·exact ⟨false, by simp [h]⟩
 refine ⟨r, ?_, hr⟩
 rw [VG_iff] at hr
 have gl := fcs_len l
 unfold chV
 refine qF Try.func52 Try.ntmps52 fun B hB => ?_
 refine qW ?_
 refine SC.loop (fun i : Nat => ⟨[(0, .im (fcs l) l.length), (3, .sc (.int .i64 (i : Nat)))], [], 0, 44⟩)
  (fun i => i ≤ l.length ∧ (∀ k, k < i → ∃ z, (l.getD k (0, some 0)).2 = some z ∧ z ≠ 0) ∧ ∀ k, 0 < k → k < i → (l.getD (k - 1) (0, some 0)).1 < (l.getD k (0, some 0)).1) (fun i => l.length - i) 0 ?_ ?_ ?_
 ·exact qL
 ·exact ⟨znc _, fun k h => by omega, fun k h1 h2 => by omega⟩
 ·rintro i ⟨hi, hI, hJ⟩ K0 hK0
  by_cases hc : i < l.length
  ·have q1 : decide ((i : Int) < (l.length : Int)) = true := decide_eq_true (by omega)
   have gd := fcs_drop hc
   have hfi := hf _ (getD_mem (d := (0, some 0)) hc)
   have c1 := rvalid_c _ K hfi hK
   obtain ⟨nf, lf, hqf⟩ := cfC_two (l.getD i (0, some 0)).2
   rw [hqf] at c1
   have gd' : (fcs l).drop (i * 3) = [.sc (.int .i64 (l.getD i (0, some 0)).1), .sc (.bool nf), .im (lv lf) lf.length] ++ (fcs l).drop ((i + 1) * 3) := by rw [gd, fcC, hqf]
   clear gd
   by_cases hz : ∃ z, (l.getD i (0, some 0)).2 = some z ∧ z ≠ 0
   ·obtain ⟨z, hz1, hz2⟩ := hz
    rw [hz1] at hqf c1 hfi
    have c2 := sign_i z K hfi (by omega)
    rw [show iv z = .ag [.sc (.bool nf), .im (lv lf) lf.length] from congrArg V.ag hqf] at c2
    have c1' : Spec Try.prog 71 [.ag [.sc (.bool nf), .im (lv lf) lf.length]] (.sc (.bool true)) := c1
    clear c1
    have q5 : (z.sign == 0) = false := by rw [beq_eq_false_iff_ne]; exact fun h => hz2 (Int.sign_eq_zero_iff_zero.1 h)
    have hI2 : ∀ k, k < i + 1 → ∃ z, (l.getD k (0, some 0)).2 = some z ∧ z ≠ 0 := fun k hk => by
     rcases Nat.lt_or_ge k i with h3 | h3
     ·exact hI k h3
     ·rw [show k = i by omega]; exact ⟨z, hz1, hz2⟩
    by_cases hi0 : i = 0
    ·have q3 : decide ((i : Int) > 0) = false := decide_eq_false (by omega)
     generalize (l.getD i (0, some 0)).1 = fi at gd'
     refine qWf (Q5 @q1 @q3 @q5 @gd' @gl) ?_
     refine hK0 _ (i + 1) ?_ ⟨by omega, hI2, fun k h1 h2 => by omega⟩ (by omega)
     exact qL
    ·have q3 : decide ((i : Int) > 0) = true := decide_eq_true (by omega)
     have e1 : ((i : Int) - 1).toNat = i - 1 := by omega
     have gp := fcs_drop (l := l) (i := i - 1) (by omega)
     obtain ⟨ng, lg, hqg⟩ := cfC_two (l.getD (i - 1) (0, some 0)).2
     have gp' : (fcs l).drop ((i - 1) * 3) = [.sc (.int .i64 (l.getD (i - 1) (0, some 0)).1), .sc (.bool ng), .im (lv lg) lg.length] ++ (fcs l).drop ((i - 1 + 1) * 3) := by rw [gp, fcC, hqg]
     clear gp
     by_cases hlt : (l.getD (i - 1) (0, some 0)).1 < (l.getD i (0, some 0)).1
     ·have q4 : decide ((l.getD (i - 1) (0, some 0)).1 ≥ (l.getD i (0, some 0)).1) = false := decide_eq_false (by omega)
      have hJ2 : ∀ k, 0 < k → k < i + 1 → (l.getD (k - 1) (0, some 0)).1 < (l.getD k (0, some 0)).1 := fun k h1 h2 => by
       rcases Nat.lt_or_ge k i with h3 | h3
       ·exact hJ k h1 h3
       ·rw [show k = i by omega]; exact hlt
      clear hlt
      generalize (l.getD i (0, some 0)).1 = fi at gd' q4
      generalize (l.getD (i - 1) (0, some 0)).1 = fp at gp' q4
      refine qWf (Q8 @q1 @q3 @q4 @q5 @e1 @gd' @gp' @gl) ?_
      refine hK0 _ (i + 1) ?_ ⟨by omega, hI2, hJ2⟩ (by omega)
      exact qL
     ·have q4 : decide ((l.getD (i - 1) (0, some 0)).1 ≥ (l.getD i (0, some 0)).1) = true := decide_eq_true (by omega)
      have hF : r = false := by cases r with | false => rfl | true => exact absurd ((hr.1 rfl).2.2 i (by omega) hc) hlt
      subst hF
      clear hlt
      generalize (l.getD i (0, some 0)).1 = fi at gd' q4
      generalize (l.getD (i - 1) (0, some 0)).1 = fp at gp' q4
      refine qWf (Q8 @q1 @q3 @q4 @q5 @e1 @gd' @gp' @gl) ?_
      exact qE Try.results52
   ·have hF : r = false := by cases r with | false => rfl | true => exact absurd ((hr.1 rfl).2.1 i hc) hz
    subst hF
    rcases opt_or (l.getD i (0, some 0)).2 with hq | ⟨z, hq⟩
    ·rw [hq] at c1
     have c1' : Spec Try.prog 71 [.ag [.sc (.bool nf), .im (lv lf) lf.length]] (.sc (.bool false)) := c1
     clear c1
     generalize (l.getD i (0, some 0)).1 = fi at gd'
     refine qWf (Q3 @q1 @gd' @gl) ?_
     exact qE Try.results52
    ·have hz0 : z = 0 := by
      rcases Int.lt_trichotomy z 0 with h | h | h
      ·exact absurd ⟨z, hq, by omega⟩ hz
      ·exact h
      ·exact absurd ⟨z, hq, by omega⟩ hz
     subst hz0
     rw [hq] at hqf c1 hfi
     have c2 := sign_i 0 K hfi (by omega)
     rw [show iv 0 = .ag [.sc (.bool nf), .im (lv lf) lf.length] from congrArg V.ag hqf] at c2
     have c1' : Spec Try.prog 71 [.ag [.sc (.bool nf), .im (lv lf) lf.length]] (.sc (.bool true)) := c1
     clear c1
     have q5 : (Int.sign 0 == 0) = true := by decide
     generalize (l.getD i (0, some 0)).1 = fi at gd'
     refine qWf (Q4 @q1 @q5 @gd' @gl) ?_
     exact qE Try.results52
  ·have q1 : decide ((i : Int) < (l.length : Int)) = false := decide_eq_false (by omega)
   have hF : r = true := hr.2 ⟨fun q h => (by cases h), fun k hk => hI k (by omega), fun k h1 h2 => hJ k h1 (by omega)⟩
   subst hF
   refine qWf @q1 ?_
   exact qE Try.results52
end Go.Proofs.Ytdkkgndibagihaa
namespace Go.Proofs.Ytdkkgndibagihaa
open Go.RowKit
def keepF (f : Fc) (r : Ch) : Ch := if cv f.2 = 0 then r else f :: r
def plusL (k : Int) : Ch → Ch → Ch
 | [], [] => []
 | f :: a, [] => keepF f (plusL k a [])
 | [], g :: b => keepF (g.1, some (k * cv g.2)) (plusL k [] b)
 | f :: a, g :: b => if f.1 < g.1 then keepF f (plusL k a (g :: b)) else if g.1 < f.1 then keepF (g.1, some (k * cv g.2)) (plusL k (f :: a) b) else keepF (f.1, some (cv f.2 + k * cv g.2)) (plusL k a b)
termination_by a b => a.length + b.length
theorem keepF_cf (f : Fc) (r : Ch) (n : Int) : cfn (keepF f r) n = (if f.1 = n then cv f.2 else 0) + cfn r n := by
 unfold keepF
 split
 ·rename_i h; rw [h]; simp
 ·rfl
theorem cfn_cons (f : Fc) (r : Ch) (n : Int) : cfn (f :: r) n = (if f.1 = n then cv f.2 else 0) + cfn r n := rfl
theorem plus_cf (k : Int) (a b : Ch) (n : Int) : cfn (plusL k a b) n = cfn a n + k * cfn b n := by
 induction a, b using plusL.induct with
 | case1 => simp [plusL, cfn]
 | case2 f a ih => rw [plusL, keepF_cf, ih, cfn_cons, show cfn [] n = 0 from rfl]; omega
 | case3 g b ih =>
  rw [plusL, keepF_cf, ih, cfn_cons, Int.mul_add, show cfn [] n = 0 from rfl]
  by_cases hn : g.1 = n
  ·rw [if_pos hn, if_pos hn]; show k * cv g.2 + _ = _; omega
  ·rw [if_neg hn, if_neg hn, Int.mul_zero]
 | case4 f a g b h ih => rw [plusL, if_pos h, keepF_cf, ih, cfn_cons f a]; omega
 | case5 f a g b h1 h2 ih =>
  rw [plusL, if_neg h1, if_pos h2, keepF_cf, ih, cfn_cons g b, Int.mul_add]
  by_cases hn : g.1 = n
  ·rw [if_pos hn, if_pos hn]; show k * cv g.2 + _ = _; omega
  ·rw [if_neg hn, if_neg hn, Int.mul_zero]; omega
 | case6 f a g b h1 h2 ih =>
  rw [plusL, if_neg h1, if_neg h2, keepF_cf, ih, cfn_cons f a, cfn_cons g b, Int.mul_add]
  have e : f.1 = g.1 := by omega
  rw [← e]
  by_cases hn : f.1 = n
  ·rw [if_pos hn, if_pos hn, if_pos hn]; show cv f.2 + k * cv g.2 + _ = _; omega
  ·rw [if_neg hn, if_neg hn, if_neg hn, Int.mul_zero]; omega
theorem VG.weak : ∀ {l : Ch} {p q : Option Int}, VG q l → (∀ x, p = some x → ∃ y, q = some y ∧ x ≤ y) → VG p l
 | [], _, _, _, _ => trivial
 | f :: r, p, q, h, hp => ⟨fun x hx => by obtain ⟨y, hy, hle⟩ := hp x hx; have := h.1 y hy; omega, h.2⟩
theorem VG.none {l : Ch} {q : Option Int} (h : VG q l) : VG none l := h.weak fun x hx => by cases hx
theorem keepF_vg {p : Option Int} {f : Fc} {r : Ch} (hp : ∀ q, p = some q → q < f.1) (hf : ∃ z, f.2 = some z) (hr : VG (some f.1) r) : VG p (keepF f r) := by
 unfold keepF
 split
 ·exact hr.weak fun x hx => ⟨f.1, rfl, by have := hp x hx; omega⟩
 ·rename_i h
  obtain ⟨z, hz⟩ := hf
  exact ⟨hp, ⟨z, hz, fun e => h (by rw [hz, e]; rfl)⟩, hr⟩
theorem plus_vg (k : Int) (a b : Ch) : ∀ {p : Option Int}, VG p a → VG p b → VG p (plusL k a b) := by
 induction a, b using plusL.induct with
 | case1 => intro p _ _; rw [plusL]; trivial
 | case2 f a ih =>
  intro p ha _
  rw [plusL]
  obtain ⟨z, hz, _⟩ := ha.2.1
  exact keepF_vg ha.1 ⟨z, hz⟩ (ih ha.2.2 trivial)
 | case3 g b ih =>
  intro p _ hb
  rw [plusL]
  exact keepF_vg hb.1 ⟨_, rfl⟩ (ih trivial hb.2.2)
 | case4 f a g b h ih =>
  intro p ha hb
  rw [plusL, if_pos h]
  obtain ⟨z, hz, _⟩ := ha.2.1
  exact keepF_vg ha.1 ⟨z, hz⟩ (ih ha.2.2 ⟨fun q hq => by cases hq; exact h, hb.2⟩)
 | case5 f a g b h1 h2 ih =>
  intro p ha hb
  rw [plusL, if_neg h1, if_pos h2]
  exact keepF_vg hb.1 ⟨_, rfl⟩ (ih ⟨fun q hq => by cases hq; exact h2, ha.2⟩ hb.2.2)
 | case6 f a g b h1 h2 ih =>
  intro p ha hb
  rw [plusL, if_neg h1, if_neg h2]
  have e : f.1 = g.1 := by omega
  exact keepF_vg ha.1 ⟨_, rfl⟩ (ih ha.2.2 (e ▸ hb.2.2))
theorem plus_all {Q R : Fc → Prop} (k : Int) (a b : Ch) (h1 : ∀ f ∈ a, Q f → R f) (h2 : ∀ g ∈ b, R (g.1, some (k * cv g.2))) (h3 : ∀ f ∈ a, ∀ g ∈ b, R (f.1, some (cv f.2 + k * cv g.2))) (hQ : ∀ f ∈ a, Q f) : ∀ f ∈ plusL k a b, R f := by
 have keep : ∀ {f : Fc} {r : Ch}, R f → (∀ g ∈ r, R g) → ∀ g ∈ keepF f r, R g := by
  intro f r h h'
  unfold keepF
  split
  ·exact h'
  ·intro g hg
   rcases List.mem_cons.1 hg with rfl | hg
   ·exact h
   ·exact h' g hg
 induction a, b using plusL.induct with
 | case1 => rw [plusL]; intro f hf; cases hf
 | case2 f a ih =>
  rw [plusL]
  exact keep (h1 f (by simp) (hQ f (by simp))) (ih (fun g hg => h1 g (by simp [hg])) (fun g hg => by cases hg) (fun f hf g hg => by cases hg) fun g hg => hQ g (by simp [hg]))
 | case3 g b ih =>
  rw [plusL]
  exact keep (h2 g (by simp)) (ih (fun g hg => by cases hg) (fun x hx => h2 x (by simp [hx])) (fun f hf g hg => by cases hf) fun g hg => by cases hg)
 | case4 f a g b h ih =>
  rw [plusL, if_pos h]
  exact keep (h1 f (by simp) (hQ f (by simp))) (ih (fun x hx => h1 x (by simp [hx])) h2 (fun x hx y hy => h3 x (by simp [hx]) y hy) fun x hx => hQ x (by simp [hx]))
 | case5 f a g b hA hB ih =>
  rw [plusL, if_neg hA, if_pos hB]
  exact keep (h2 g (by simp)) (ih h1 (fun x hx => h2 x (by simp [hx])) (fun x hx y hy => h3 x hx y (by simp [hy])) hQ)
 | case6 f a g b hA hB ih =>
  rw [plusL, if_neg hA, if_neg hB]
  exact keep (h3 f (by simp) g (by simp)) (ih (fun x hx => h1 x (by simp [hx])) (fun x hx => h2 x (by simp [hx])) (fun x hx y hy => h3 x (by simp [hx]) y (by simp [hy])) fun x hx => hQ x (by simp [hx]))
theorem keepF_len (f : Fc) (r : Ch) : (keepF f r).length ≤ r.length + 1 := by unfold keepF; split <;> simp
theorem plus_len (k : Int) (a b : Ch) : (plusL k a b).length ≤ a.length + b.length := by
 induction a, b using plusL.induct with
 | case1 => rw [plusL]; simp
 | case2 f a ih => rw [plusL]; have := keepF_len f (plusL k a []); simp at *; omega
 | case3 g b ih => rw [plusL]; have := keepF_len (g.1, some (k * cv g.2)) (plusL k [] b); simp at *; omega
 | case4 f a g b h ih => rw [plusL, if_pos h]; have := keepF_len f (plusL k a (g :: b)); simp at *; omega
 | case5 f a g b h1 h2 ih => rw [plusL, if_neg h1, if_pos h2]; have := keepF_len (g.1, some (k * cv g.2)) (plusL k (f :: a) b); simp at *; omega
 | case6 f a g b h1 h2 ih => rw [plusL, if_neg h1, if_neg h2]; have := keepF_len (f.1, some (cv f.2 + k * cv g.2)) (plusL k a b); simp at *; omega
theorem VG.cf_lt : ∀ {l : Ch} {p n : Int}, VG (some p) l → n ≤ p → cfn l n = 0
 | [], _, _, _, _ => rfl
 | f :: r, p, n, h, hn => by
  have h1 := h.1 p rfl
  rw [cfn, if_neg (by omega), VG.cf_lt h.2.2 (by omega)]; rfl
theorem VG.empty {l : Ch} {p : Option Int} (h : VG p l) : l = [] ↔ ∀ n, cfn l n = 0 := by
 constructor
 ·rintro rfl n; rfl
 ·intro h0
  cases l with
  | nil => rfl
  | cons f r =>
   exfalso
   obtain ⟨z, hz, hz0⟩ := h.2.1
   have h1 := h0 f.1
   rw [cfn, if_pos rfl, VG.cf_lt h.2.2 (Int.le_refl _), hz] at h1
   exact hz0 (by simpa [cv] using h1)
end Go.Proofs.Ytdkkgndibagihaa
namespace Go.Proofs.Ytdkkgndibagihaa
open Go.RowKit
theorem plusL_nil (k : Int) : plusL k [] [] = [] := by rw [plusL]
def PStep (k : Int) (a b : Ch) (i j i' j' : Nat) (id v : Int) : Prop :=
 (j = b.length ∧ i < a.length ∧ i' = i + 1 ∧ j' = j ∧ a.getD i (0, some 0) = (id, some v)) ∨
 (i = a.length ∧ j < b.length ∧ i' = i ∧ j' = j + 1 ∧ (b.getD j (0, some 0)).1 = id ∧ k * cv (b.getD j (0, some 0)).2 = v) ∨
 (i < a.length ∧ j < b.length ∧ (a.getD i (0, some 0)).1 < (b.getD j (0, some 0)).1 ∧ i' = i + 1 ∧ j' = j ∧ a.getD i (0, some 0) = (id, some v)) ∨
 (i < a.length ∧ j < b.length ∧ (b.getD j (0, some 0)).1 < (a.getD i (0, some 0)).1 ∧ i' = i ∧ j' = j + 1 ∧ (b.getD j (0, some 0)).1 = id ∧ k * cv (b.getD j (0, some 0)).2 = v) ∨
 (i < a.length ∧ j < b.length ∧ (b.getD j (0, some 0)).1 = (a.getD i (0, some 0)).1 ∧ i' = i + 1 ∧ j' = j + 1 ∧ (a.getD i (0, some 0)).1 = id ∧ cv (a.getD i (0, some 0)).2 + k * cv (b.getD j (0, some 0)).2 = v)
theorem plus_step (k : Int) {a b : Ch} {i j : Nat} (hi0 : i ≤ a.length) (hj0 : j ≤ b.length) (h : i < a.length ∨ j < b.length) (ha : ∀ f ∈ a, ∃ z, f.2 = some z) :
  ∃ i' j' id v, plusL k (a.drop i) (b.drop j) = keepF (id, some v) (plusL k (a.drop i') (b.drop j')) ∧ i' ≤ a.length ∧ j' ≤ b.length ∧ i + j < i' + j' ∧ PStep k a b i j i' j' id v := by
 have da : ∀ {l : Ch} {i : Nat}, i < l.length → l.drop i = l.getD i (0, some 0) :: l.drop (i + 1) := fun {l i} h => by
  rw [List.drop_eq_getElem_cons h, List.getD_eq_getElem?_getD, zlb h]; rfl
 have hz : ∀ {i : Nat}, i < a.length → ∃ id v, a.getD i (0, some 0) = (id, some v) := fun {i} h => by
  obtain ⟨z, hz⟩ := ha _ (getD_mem (d := (0, some 0)) h)
  exact ⟨(a.getD i (0, some 0)).1, z, by rw [← hz]⟩
 unfold PStep
 rcases Nat.lt_or_ge i a.length with hi | hi
 ·obtain ⟨id, v, ef⟩ := hz hi
  rcases Nat.lt_or_ge j b.length with hj | hj
  ·rw [da hi, da hj]
   rcases Int.lt_trichotomy (a.getD i (0, some 0)).1 (b.getD j (0, some 0)).1 with h1 | h1 | h1
   ·exact ⟨i + 1, j, id, v, by rw [plusL, if_pos h1, ← ef, ← da hj], hi, hj0, by omega, .inr (.inr (.inl ⟨hi, hj, h1, rfl, rfl, ef⟩))⟩
   ·exact ⟨i + 1, j + 1, _, _, by rw [plusL, if_neg (by omega), if_neg (by omega)], hi, hj, by omega, .inr (.inr (.inr (.inr ⟨hi, hj, h1.symm, rfl, rfl, rfl, rfl⟩)))⟩
   ·exact ⟨i, j + 1, _, _, by rw [plusL, if_neg (by omega), if_pos h1, ← da hi], hi0, hj, by omega, .inr (.inr (.inr (.inl ⟨hi, hj, h1, rfl, rfl, rfl, rfl⟩)))⟩
  ·have hjl : j = b.length := by omega
   rw [da hi, List.drop_of_length_le hj]
   exact ⟨i + 1, j, id, v, by rw [plusL, ← ef, List.drop_of_length_le hj], hi, hj0, by omega, .inl ⟨hjl, hi, rfl, rfl, ef⟩⟩
 ·have hil : i = a.length := by omega
  have hj : j < b.length := by omega
  rw [da hj, List.drop_of_length_le hi]
  exact ⟨i, j + 1, _, _, by rw [plusL, List.drop_of_length_le hi], hi0, hj, by omega, .inr (.inl ⟨hil, hj, rfl, rfl, rfl, rfl⟩)⟩
theorem fcs_take (l : Ch) : (fcs l).take (l.length * 3) = fcs l := zla (by rw [fcs_len]; omega)
theorem fcs_snoc (l : Ch) (f : Fc) : fcs l ++ fcC f = fcs (l ++ [f]) := by unfold fcs; simp
set_option maxHeartbeats 8000000 in
set_option maxRecDepth 8000 in
theorem plus_s {a b : Ch} {k : Int} {K : Nat} (hal : a.length ≤ 1000000) (hbl : b.length ≤ 1000000) (ha : ∀ f ∈ a, (∃ z, f.2 = some z) ∧ Fits (2 * K + 1) (cv f.2)) (hb : ∀ f ∈ b, (∃ z, f.2 = some z) ∧ Fits K (cv f.2)) (hk : Fits K k) (hK : K ≤ 100000000000) :
  Spec Try.prog 61 [chV a, chV b, iv k] (chV (plusL k a b)) := by
 have gla := fcs_len a
 have glb := fcs_len b
 unfold chV
 generalize hF : plusL k a b = F
 obtain ⟨nk, lk, ek⟩ := iv_two k
 rw [ek]
 refine qF Try.func61 Try.ntmps61 fun B hB => ?_
 refine qW ?_
 refine SC.loop (fun x : Nat × Nat × Ch => ⟨[(0, .im (fcs a) a.length), (1, .im (fcs b) b.length), (5, .pt 0 0), (7, .sl 1 0 x.2.2.length 3 none), (8, .sc (.int .i64 (x.1 : Nat))), (9, .sc (.int .i64 (x.2.1 : Nat)))], [(1, ⟨86, fcs x.2.2, false⟩), (0, ⟨84, [.sc (.bool nk), .im (lv lk) lk.length], false⟩)], 2, 116⟩)
  (fun x => x.1 ≤ a.length ∧ x.2.1 ≤ b.length ∧ x.2.2.length ≤ x.1 + x.2.1 ∧ x.2.2 ++ plusL k (a.drop x.1) (b.drop x.2.1) = F) (fun x => a.length + b.length - (x.1 + x.2.1)) (0, 0, []) ?_ ?_ ?_
 ·exact qLc
 ·exact ⟨znc _, znc _, znc _, by simpa using hF⟩
 ·rintro ⟨i, j, out⟩ ⟨hi, hj, hol, hI⟩ K0 hK0
  simp only at hi hj hol hI
  have glo := fcs_len out
  by_cases hc : i < a.length ∨ j < b.length
  ·obtain ⟨i', j', id, v, hst, hi', hj', hlt, hcase⟩ := plus_step k hi hj hc (fun f hf => (ha f hf).1)
   rw [hst] at hI
   obtain ⟨nv, lw, ev⟩ := iv_two v
   have hv : Fits (2 * K + 2) v := by
    have hpk : ∀ {j : Nat}, j < b.length → Fits (2 * K + 1) (k * cv (b.getD j (0, some 0)).2) := fun {j} h => fits_sumC (t := 1) (by rw [zna]; exact mul_bound hk (hb _ (getD_mem (d := (0, some 0)) h)).2) (by omega)
    have hpa : ∀ {i : Nat}, i < a.length → Fits (2 * K + 1) (cv (a.getD i (0, some 0)).2) := fun {i} h => (ha _ (getD_mem (d := (0, some 0)) h)).2
    rcases hcase with ⟨h1, h2, h3, h4, h5⟩ | ⟨h1, h2, h3, h4, h5, h6⟩ | ⟨h1, h2, hl, h3, h4, h5⟩ | ⟨h1, h2, hl, h3, h4, h5, h6⟩ | ⟨h1, h2, hl, h3, h4, h5, h6⟩
    ·have := hpa h2; rw [h5] at this; exact this.mono (by omega)
    ·rw [← h6]; exact (hpk h2).mono (by omega)
    ·have := hpa h1; rw [h5] at this; exact this.mono (by omega)
    ·rw [← h6]; exact (hpk h2).mono (by omega)
    ·rw [← h6]; exact (hpa h1).add (hpk h2)
   apply cutC True
   ·intro N
    rcases hcase with ⟨h1, h2, h3, h4, h5⟩ | ⟨h1, h2, h3, h4, h5, h6⟩ | ⟨h1, h2, hl, h3, h4, h5⟩ | ⟨h1, h2, hl, h3, h4, h5, h6⟩ | ⟨h1, h2, hl, h3, h4, h5, h6⟩
    ·have pa : decide ((i : Int) < (a.length : Int)) = true := decide_eq_true (by omega)
     have pj : ((j : Int) == (b.length : Int)) = true := by rw [beq_iff_eq]; omega
     have gda : (fcs a).drop (i * 3) = [.sc (.int .i64 id), .sc (.bool nv), .im (lv lw) lw.length] ++ (fcs a).drop ((i + 1) * 3) := by rw [fcs_drop (by omega), h5, fcC, show cfC (some v) = [.sc (.bool nv), .im (lv lw) lw.length] from V.ag.inj ev]
     refine qWf (Q4 @pa @pj @gda @gla) ?_
     refine SO.weak (s' := ⟨[(108, .ag [.sc (.bool nv), .im (lv lw) lw.length]), (0, .im (fcs a) a.length), (1, .im (fcs b) b.length), (5, .pt 0 0), (7, .sl 1 0 out.length 3 none), (8, .sc (.int .i64 (i' : Nat))), (9, .sc (.int .i64 (j' : Nat))), (10, .pt 2 0)], [(2, ⟨86, [.sc (.int .i64 id), .sc (.bool nv), .im (lv lw) lw.length], false⟩), (1, ⟨86, fcs out, false⟩), (0, ⟨84, [.sc (.bool nk), .im (lv lk) lk.length], false⟩)], 3, 116⟩) ?_ (N () trivial)
     exact qLc
    ·have pa : decide ((i : Int) < (a.length : Int)) = false := decide_eq_false (by omega)
     have pb : decide ((j : Int) < (b.length : Int)) = true := decide_eq_true (by omega)
     have pj : ((j : Int) == (b.length : Int)) = false := by rw [beq_eq_false_iff_ne]; omega
     have pi : ((i : Int) == (a.length : Int)) = true := by rw [beq_iff_eq]; omega
     obtain ⟨nb, lb, eb⟩ := cfC_two (b.getD j (0, some 0)).2
     have gdb : (fcs b).drop (j * 3) = [.sc (.int .i64 (b.getD j (0, some 0)).1), .sc (.bool nb), .im (lv lb) lb.length] ++ (fcs b).drop ((j + 1) * 3) := by rw [fcs_drop (by omega), fcC, eb]
     obtain ⟨⟨zb, hzb⟩, hfb⟩ := hb _ (getD_mem (d := (0, some 0)) (show j < b.length by omega))
     have ezb : iv (cv (b.getD j (0, some 0)).2) = .ag [.sc (.bool nb), .im (lv lb) lb.length] := by rw [hzb] at eb ⊢; exact congrArg V.ag eb
     have c2 := mul_i k _ K hk hfb (by omega)
     rw [h6, ezb, ev, ek] at c2
     rw [h5] at gdb
     refine qWf (Q6 @pa @pb @pj @pi @gdb @glb) ?_
     refine SO.weak (s' := ⟨[(108, .ag [.sc (.bool nv), .im (lv lw) lw.length]), (0, .im (fcs a) a.length), (1, .im (fcs b) b.length), (5, .pt 0 0), (7, .sl 1 0 out.length 3 none), (8, .sc (.int .i64 (i' : Nat))), (9, .sc (.int .i64 (j' : Nat))), (10, .pt 2 0)], [(2, ⟨86, [.sc (.int .i64 id), .sc (.bool nv), .im (lv lw) lw.length], false⟩), (1, ⟨86, fcs out, false⟩), (0, ⟨84, [.sc (.bool nk), .im (lv lk) lk.length], false⟩)], 3, 116⟩) ?_ (N () trivial)
     exact qLc
    ·have pa : decide ((i : Int) < (a.length : Int)) = true := decide_eq_true (by omega)
     have pj : ((j : Int) == (b.length : Int)) = false := by rw [beq_eq_false_iff_ne]; omega
     have pl : decide (id < (b.getD j (0, some 0)).1) = true := decide_eq_true (by rw [h5] at hl; exact hl)
     have gda : (fcs a).drop (i * 3) = [.sc (.int .i64 id), .sc (.bool nv), .im (lv lw) lw.length] ++ (fcs a).drop ((i + 1) * 3) := by rw [fcs_drop (by omega), h5, fcC, show cfC (some v) = [.sc (.bool nv), .im (lv lw) lw.length] from V.ag.inj ev]
     obtain ⟨nb, lb, eb⟩ := cfC_two (b.getD j (0, some 0)).2
     have gdb : (fcs b).drop (j * 3) = [.sc (.int .i64 (b.getD j (0, some 0)).1), .sc (.bool nb), .im (lv lb) lb.length] ++ (fcs b).drop ((j + 1) * 3) := by rw [fcs_drop (by omega), fcC, eb]
     refine qWf (Q7 @pa @pj @pl @gda @gdb @gla @glb) ?_
     refine SO.weak (s' := ⟨[(108, .ag [.sc (.bool nv), .im (lv lw) lw.length]), (0, .im (fcs a) a.length), (1, .im (fcs b) b.length), (5, .pt 0 0), (7, .sl 1 0 out.length 3 none), (8, .sc (.int .i64 (i' : Nat))), (9, .sc (.int .i64 (j' : Nat))), (10, .pt 2 0)], [(2, ⟨86, [.sc (.int .i64 id), .sc (.bool nv), .im (lv lw) lw.length], false⟩), (1, ⟨86, fcs out, false⟩), (0, ⟨84, [.sc (.bool nk), .im (lv lk) lk.length], false⟩)], 3, 116⟩) ?_ (N () trivial)
     exact qLc
    ·have pa : decide ((i : Int) < (a.length : Int)) = true := decide_eq_true (by omega)
     have pj : ((j : Int) == (b.length : Int)) = false := by rw [beq_eq_false_iff_ne]; omega
     have pi : ((i : Int) == (a.length : Int)) = false := by rw [beq_eq_false_iff_ne]; omega
     obtain ⟨na, la, ea⟩ := cfC_two (a.getD i (0, some 0)).2
     have gda : (fcs a).drop (i * 3) = [.sc (.int .i64 (a.getD i (0, some 0)).1), .sc (.bool na), .im (lv la) la.length] ++ (fcs a).drop ((i + 1) * 3) := by rw [fcs_drop (by omega), fcC, ea]
     obtain ⟨nb, lb, eb⟩ := cfC_two (b.getD j (0, some 0)).2
     have gdb : (fcs b).drop (j * 3) = [.sc (.int .i64 (b.getD j (0, some 0)).1), .sc (.bool nb), .im (lv lb) lb.length] ++ (fcs b).drop ((j + 1) * 3) := by rw [fcs_drop (by omega), fcC, eb]
     have pl : decide ((a.getD i (0, some 0)).1 < (b.getD j (0, some 0)).1) = false := decide_eq_false (by omega)
     have pm : decide ((b.getD j (0, some 0)).1 < (a.getD i (0, some 0)).1) = true := decide_eq_true (by omega)
     obtain ⟨⟨zb, hzb⟩, hfb⟩ := hb _ (getD_mem (d := (0, some 0)) (show j < b.length by omega))
     have ezb : iv (cv (b.getD j (0, some 0)).2) = .ag [.sc (.bool nb), .im (lv lb) lb.length] := by rw [hzb] at eb ⊢; exact congrArg V.ag eb
     have c2 := mul_i k _ K hk hfb (by omega)
     rw [h6, ezb, ev, ek] at c2
     rw [h5] at gdb pl pm
     refine qWf (Q9 @pa @pj @pi @pl @pm @gda @gdb @gla @glb) ?_
     refine SO.weak (s' := ⟨[(108, .ag [.sc (.bool nv), .im (lv lw) lw.length]), (0, .im (fcs a) a.length), (1, .im (fcs b) b.length), (5, .pt 0 0), (7, .sl 1 0 out.length 3 none), (8, .sc (.int .i64 (i' : Nat))), (9, .sc (.int .i64 (j' : Nat))), (10, .pt 2 0)], [(2, ⟨86, [.sc (.int .i64 id), .sc (.bool nv), .im (lv lw) lw.length], false⟩), (1, ⟨86, fcs out, false⟩), (0, ⟨84, [.sc (.bool nk), .im (lv lk) lk.length], false⟩)], 3, 116⟩) ?_ (N () trivial)
     exact qLc
    ·have pa : decide ((i : Int) < (a.length : Int)) = true := decide_eq_true (by omega)
     have pj : ((j : Int) == (b.length : Int)) = false := by rw [beq_eq_false_iff_ne]; omega
     have pi : ((i : Int) == (a.length : Int)) = false := by rw [beq_eq_false_iff_ne]; omega
     obtain ⟨na, la, ea⟩ := cfC_two (a.getD i (0, some 0)).2
     have gda : (fcs a).drop (i * 3) = [.sc (.int .i64 (a.getD i (0, some 0)).1), .sc (.bool na), .im (lv la) la.length] ++ (fcs a).drop ((i + 1) * 3) := by rw [fcs_drop (by omega), fcC, ea]
     obtain ⟨nb, lb, eb⟩ := cfC_two (b.getD j (0, some 0)).2
     have gdb : (fcs b).drop (j * 3) = [.sc (.int .i64 (b.getD j (0, some 0)).1), .sc (.bool nb), .im (lv lb) lb.length] ++ (fcs b).drop ((j + 1) * 3) := by rw [fcs_drop (by omega), fcC, eb]
     have pl : decide ((a.getD i (0, some 0)).1 < (b.getD j (0, some 0)).1) = false := decide_eq_false (by omega)
     have pm : decide ((b.getD j (0, some 0)).1 < (a.getD i (0, some 0)).1) = false := decide_eq_false (by omega)
     obtain ⟨⟨zb, hzb⟩, hfb⟩ := hb _ (getD_mem (d := (0, some 0)) (show j < b.length by omega))
     have ezb : iv (cv (b.getD j (0, some 0)).2) = .ag [.sc (.bool nb), .im (lv lb) lb.length] := by rw [hzb] at eb ⊢; exact congrArg V.ag eb
     have c2 := mul_i k _ K hk hfb (by omega)
     have hp := mul_bound hk hfb
     obtain ⟨pr, hpr⟩ : ∃ pr, pr = k * cv (b.getD j (0, some 0)).2 := ⟨_, rfl⟩
     obtain ⟨np, lp, ep⟩ := iv_two pr
     obtain ⟨⟨za, hza⟩, hfa⟩ := ha _ (getD_mem (d := (0, some 0)) (show i < a.length by omega))
     have eza : iv (cv (a.getD i (0, some 0)).2) = .ag [.sc (.bool na), .im (lv la) la.length] := by rw [hza] at ea ⊢; exact congrArg V.ag ea
     have c3 := add_i (cv (a.getD i (0, some 0)).2) pr (2 * K + 1) hfa (by rw [hpr]; exact fits_sumC (t := 1) (by rw [zna]; exact hp) (by omega)) (by omega)
     rw [← hpr] at c2 h6
     rw [ezb, ep, ek] at c2
     rw [h6, eza, ep, ev] at c3
     rw [h5] at gda pl pm
     refine qWf (Q9 @pa @pj @pi @pl @pm @gda @gdb @gla @glb) ?_
     refine SO.weak (s' := ⟨[(108, .ag [.sc (.bool nv), .im (lv lw) lw.length]), (0, .im (fcs a) a.length), (1, .im (fcs b) b.length), (5, .pt 0 0), (7, .sl 1 0 out.length 3 none), (8, .sc (.int .i64 (i' : Nat))), (9, .sc (.int .i64 (j' : Nat))), (10, .pt 2 0)], [(2, ⟨86, [.sc (.int .i64 id), .sc (.bool nv), .im (lv lw) lw.length], false⟩), (1, ⟨86, fcs out, false⟩), (0, ⟨84, [.sc (.bool nk), .im (lv lk) lk.length], false⟩)], 3, 116⟩) ?_ (N () trivial)
     exact qLc
   ·intro _
    clear hcase
    have c1 := sign_i v _ hv (by omega)
    rw [ev] at c1
    by_cases hv0 : v = 0
    ·have q5 : (v.sign != 0) = false := by rw [hv0]; rfl
     have hk' : keepF (id, some v) (plusL k (a.drop i') (b.drop j')) = plusL k (a.drop i') (b.drop j') := by unfold keepF; exact if_pos hv0
     rw [hk'] at hI
     refine qWf @q5 ?_
     refine hK0 _ (i', j', out) ?_ ⟨hi', hj', by show out.length ≤ i' + j'; omega, hI⟩ (by show a.length + b.length - (i' + j') < a.length + b.length - (i + j); omega)
     exact qLc
    ·have q5 : (v.sign != 0) = true := by rw [bne_iff_ne]; exact fun h => hv0 (Int.sign_eq_zero_iff_zero.1 h)
     have hk' : keepF (id, some v) (plusL k (a.drop i') (b.drop j')) = (id, some v) :: plusL k (a.drop i') (b.drop j') := by unfold keepF; exact if_neg hv0
     rw [hk'] at hI
     have et := fcs_take out
     have es : fcs out ++ [.sc (.int .i64 id), .sc (.bool nv), .im (lv lw) lw.length] = fcs (out ++ [(id, some v)]) := by
      rw [← fcs_snoc, fcC, show cfC (some v) = [.sc (.bool nv), .im (lv lw) lw.length] from V.ag.inj ev]
     refine qWf (Q3 @q5 @glo @et) ?_
     rw [es]
     refine hK0 _ (i', j', out ++ [(id, some v)]) (Le.swap 1 4 hB (by omega) (by omega) ?_) ⟨hi', hj', by show (out ++ [(id, some v)]).length ≤ i' + j'; rw [zl1]; simp; omega, by show (out ++ [(id, some v)]) ++ plusL k (a.drop i') (b.drop j') = F; rw [zl6]; exact hI⟩ (by show a.length + b.length - (i' + j') < a.length + b.length - (i + j); omega)
     have el : (out ++ [(id, some v)]).length = out.length + 1 := by simp
     rw [el]
     exact qLc
  ·have q1 : decide ((i : Int) < (a.length : Int)) = false := decide_eq_false (by omega)
   have q2 : decide ((j : Int) < (b.length : Int)) = false := decide_eq_false (by omega)
   have e1 : i = a.length := by omega
   have e2 : j = b.length := by omega
   rw [e1, e2, List.drop_length, List.drop_length, plusL_nil, List.append_nil] at hI
   subst hI
   have ht := fcs_take out
   have hcl := fcs_clo out
   refine qWf (Q2 @q1 @q2) ?_
   refine retQ_ret Try.results61 qS (qSf (Q3 @glo @ht @hcl)) rfl
end Go.Proofs.Ytdkkgndibagihaa
namespace Go.Proofs.Ytdkkgndibagihaa
open Go.RowKit
def aroundL (C : List Cx) (x : Ch) : Ch := x.foldl (fun out f => plusL (cv f.2) out (bOf C f.1)) []
theorem around_take {C : List Cx} {x : Ch} {i : Nat} (h : i < x.length) : aroundL C (x.take (i + 1)) = plusL (cv (x.getD i (0, some 0)).2) (aroundL C (x.take i)) (bOf C (x.getD i (0, some 0)).1) := by
 unfold aroundL
 rw [List.take_succ_eq_append_getElem h, List.foldl_append, List.getD_eq_getElem?_getD, zlb h]
 rfl
structure ArI (C : List Cx) (x : Ch) (K i : Nat) : Prop where
 vg : VG none (aroundL C (x.take i))
 cf : ∀ n, cfn (aroundL C (x.take i)) n = bdn C (x.take i) n
 len : (aroundL C (x.take i)).length ≤ i * 1000
 bd : ∀ f ∈ aroundL C (x.take i), (∃ z, f.2 = some z) ∧ (cv f.2).natAbs ≤ i * (4294967296 ^ K * 4294967296 ^ K)
theorem bOf_ok {C : List Cx} {K : Nat} (hC : CxOk K C) (hV : ∀ y ∈ C, VG none y.b) (id : Int) : (bOf C id).length ≤ 1000 ∧ VG none (bOf C id) ∧ ∀ g ∈ bOf C id, Fits K (cv g.2) := by
 unfold bOf
 cases e : findL C id with
 | none => exact ⟨znc _, trivial, fun g h => by cases h⟩
 | some w => have h1 := hC.all w (findL_mem e).1; exact ⟨h1.len, hV w (findL_mem e).1, h1.cf⟩
theorem ArI.zero (C : List Cx) (x : Ch) (K : Nat) : ArI C x K 0 := by
 refine ⟨?_, fun n => ?_, ?_, fun f h => ?_⟩
 ·rw [zl4]; trivial
 ·rw [zl4]; rfl
 ·rw [zl4]; exact znc _
 ·rw [zl4] at h; cases h
theorem ArI.step {C : List Cx} {x : Ch} {K i : Nat} (h : ArI C x K i) (hi : i < x.length) (hC : CxOk K C) (hV : ∀ y ∈ C, VG none y.b) (hk : Fits K (cv (x.getD i (0, some 0)).2)) : ArI C x K (i + 1) := by
 obtain ⟨h1, h2, h3⟩ := bOf_ok hC hV (x.getD i (0, some 0)).1
 have e := around_take (C := C) hi
 refine ⟨?_, fun n => ?_, ?_, ?_⟩
 ·rw [e]; exact plus_vg _ _ _ h.vg h2
 ·rw [e, plus_cf, h.cf, bdn_take hi]
 ·rw [e]; have := plus_len (cv (x.getD i (0, some 0)).2) (aroundL C (x.take i)) (bOf C (x.getD i (0, some 0)).1); have := h.len; omega
 ·rw [e]
  refine plus_all (Q := fun f => (∃ z, f.2 = some z) ∧ (cv f.2).natAbs ≤ i * (4294967296 ^ K * 4294967296 ^ K)) _ _ _ (fun f _ hf => ⟨hf.1, Nat.le_trans hf.2 (Nat.mul_le_mul_right _ (by omega))⟩) (fun g hg => ⟨⟨_, rfl⟩, ?_⟩) (fun f hf g hg => ⟨⟨_, rfl⟩, ?_⟩) h.bd
  ·show Int.natAbs (_ * _) ≤ _
   rw [Nat.succ_mul]
   exact Nat.le_trans (mul_bound hk (h3 g hg)) (Nat.le_add_left _ _)
  ·show Int.natAbs (_ + _ * _) ≤ _
   rw [Nat.succ_mul]
   exact Nat.le_trans (Int.natAbs_add_le _ _) (Nat.add_le_add (h.bd f hf).2 (mul_bound hk (h3 g hg)))
set_option maxHeartbeats 8000000 in
set_option maxRecDepth 8000 in
theorem around_s {C : List Cx} {x : Ch} {K : Nat} (hC : CxOk K C) (hV : ∀ y ∈ C, VG none y.b) (hl : x.length ≤ 1000) (hx : ∀ f ∈ x, (∃ z, f.2 = some z) ∧ Fits K (cv f.2)) (hK : K ≤ 100000000000) :
  Spec Try.prog 73 [cxV C, chV x] (chV (aroundL C x)) ∧ VG none (aroundL C x) ∧ ∀ n, cfn (aroundL C x) n = bdn C x n := by
 have hall : ∀ i, i ≤ x.length → ArI C x K i := by
  intro i
  induction i with
  | zero => intro _; exact ArI.zero C x K
  | succ i ih => intro h; exact (ih (by omega)).step h hC hV (hx _ (getD_mem (d := (0, some 0)) h)).2
 have hfin := hall x.length (znb _)
 refine ⟨?_, by have := hfin.vg; rwa [List.take_length] at this, fun n => by have := hfin.cf n; rwa [List.take_length] at this⟩
 have glx := fcs_len x
 have hCl := hC.len
 unfold cxV chV
 refine qF Try.func73 Try.ntmps73 fun B hB => ?_
 refine qW ?_
 refine SC.frz 5 (by simp) (y := .im [] 0) (ids := [0]) qS (by omega) (hp' := [(0, ⟨86, [], true⟩)]) qS ?_
 refine SC.loop (fun i : Nat => ⟨[(0, .im (cxs C) C.length), (1, .im (fcs x) x.length), (5, .im (fcs (aroundL C (x.take i))) (aroundL C (x.take i)).length), (6, .sc (.int .i64 (i : Nat)))], [], 1, 36⟩)
  (fun i => i ≤ x.length) (fun i => x.length - i) 0 ?_ ?_ ?_
 ·exact qLc
 ·exact znc _
 ·rintro i hi K0 hK0
  by_cases hc : i < x.length
  ·have q1 : decide ((i : Int) < (x.length : Int)) = true := decide_eq_true (by omega)
   have gd := fcs_drop hc
   have hA := hall i hi
   obtain ⟨hxs, hxf⟩ := hx _ (getD_mem (d := (0, some 0)) hc)
   have e := around_take (C := C) hc
   have c1 := rcfind_s (id := (x.getD i (0, some 0)).1) hCl
   obtain ⟨h1, h2, h3⟩ := bOf_ok hC hV (x.getD i (0, some 0)).1
   have c2 := plus_s (K := K) (by have := hA.len; omega) (by omega) (fun f hf => ⟨(hA.bd f hf).1, fits_sumC (hA.bd f hf).2 (by omega)⟩) (fun f hf => ⟨by obtain ⟨z, hz, _⟩ := h2.mem f hf; exact ⟨z, hz⟩, h3 f hf⟩) hxf hK
   rw [← e] at c2
   have hnext : ∀ s', Le B s' _ → K0 s' := fun s' h => hK0 s' (i + 1) h (by omega) (by omega)
   generalize aroundL C (x.take (i + 1)) = o2 at *
   generalize aroundL C (x.take i) = o1 at *
   have hyb : bOf C (x.getD i (0, some 0)).1 = ((findL C (x.getD i (0, some 0)).1).getD cx0).b := rfl
   rw [hyb] at c2
   generalize (findL C (x.getD i (0, some 0)).1).isSome = fo at c1
   generalize (findL C (x.getD i (0, some 0)).1).getD cx0 = y at c1 c2
   generalize x.getD i (0, some 0) = f at *
   obtain ⟨nf, lf, hqf⟩ := cfC_two f.2
   obtain ⟨z, hz⟩ := hxs
   have ef : iv (cv f.2) = .ag [.sc (.bool nf), .im (lv lf) lf.length] := by rw [hz] at hqf ⊢; exact congrArg V.ag hqf
   rw [ef] at c2
   unfold fcC at gd
   rw [hqf] at gd
   obtain ⟨yi, yd, yb⟩ := y
   unfold chV at c2
   unfold cxC cxV at c1
   simp only at c1 c2
   refine qWf (Q3 @q1 @gd @glx) ?_
   refine hnext _ ?_
   exact qLc
  ·have q1 : decide ((i : Int) < (x.length : Int)) = false := decide_eq_false (by omega)
   have hil : i = x.length := by omega
   subst hil
   rw [List.take_length]
   refine qWf @q1 ?_
   exact qE Try.results73
end Go.Proofs.Ytdkkgndibagihaa
namespace Go.Proofs.Ytdkkgndibagihaa
open Go.RowKit
def Ther (C : List Cx) (b : Ch) : Prop := ∀ f ∈ b, ∃ y, findL C f.1 = some y
def FitsP (C : List Cx) (x : Cx) (e : Int) : Prop :=
 (e = 251 ∧ ¬ (VG none x.b ∧ Ther C x.b)) ∨ ((VG none x.b ∧ Ther C x.b) ∧
  ((e = 260 ∧ ¬ FacesOk C x) ∨ (FacesOk C x ∧ ((e = 252 ∧ ¬ ∀ n, bdn C x.b n = 0) ∨ (e = 0 ∧ ∀ n, bdn C x.b n = 0)))))
theorem FitsP.uniq {C : List Cx} {x : Cx} {e e' : Int} (h : FitsP C x e) (h' : FitsP C x e') : e = e' := by
 rcases h with ⟨h1, h2⟩ | ⟨h2, ⟨h1, h3⟩ | ⟨h3, ⟨h1, h4⟩ | ⟨h1, h4⟩⟩⟩ <;> rcases h' with ⟨k1, k2⟩ | ⟨k2, ⟨k1, k3⟩ | ⟨k3, ⟨k1, k4⟩ | ⟨k1, k4⟩⟩⟩ <;>
  first | omega | exact absurd k2 h2 | exact absurd h2 k2 | exact absurd k3 h3 | exact absurd h3 k3 | exact absurd k4 h4 | exact absurd h4 k4
theorem FitsP.zero {C : List Cx} {x : Cx} {e : Int} (h : FitsP C x e) : e = 0 ↔ FacesOk C x ∧ ∀ n, bdn C x.b n = 0 := by
 rcases h with ⟨h1, h2⟩ | ⟨h2, ⟨h1, h3⟩ | ⟨h3, ⟨h1, h4⟩ | ⟨h1, h4⟩⟩⟩
 ·exact ⟨fun h => by omega, fun h => absurd ⟨h.1.vg, h.1.there⟩ h2⟩
 ·exact ⟨fun h => by omega, fun h => absurd h.1 h3⟩
 ·exact ⟨fun h => by omega, fun h => absurd h.2 h4⟩
 ·exact ⟨fun _ => ⟨h3, h4⟩, fun _ => h1⟩
theorem fits_ex (C : List Cx) (x : Cx) : ∃ e, FitsP C x e := by
 unfold FitsP
 by_cases h1 : VG none x.b ∧ Ther C x.b
 ·by_cases h2 : FacesOk C x
  ·by_cases h3 : ∀ n, bdn C x.b n = 0
   ·exact ⟨0, .inr ⟨h1, .inr ⟨h2, .inr ⟨rfl, h3⟩⟩⟩⟩
   ·exact ⟨252, .inr ⟨h1, .inr ⟨h2, .inl ⟨rfl, h3⟩⟩⟩⟩
  ·exact ⟨260, .inr ⟨h1, .inl ⟨rfl, h2⟩⟩⟩
 ·exact ⟨251, .inl ⟨rfl, h1⟩⟩
set_option maxHeartbeats 8000000 in
set_option maxRecDepth 8000 in
theorem rfits_s {C : List Cx} {x : Cx} {K : Nat} {e : Int} (hC : CxOk K C) (hV : ∀ y ∈ C, VG none y.b) (hx : CxK K x) (hK : K ≤ 100000000000) (he : FitsP C x e) :
  Spec Try.prog 53 [cxV C, .ag (cxC x)] (.sc (.int .i64 e)) := by
 have hCl := hC.len
 obtain ⟨r, c1, hr⟩ := vchain_s hx.len hx.cf hK
 have hxd := hx.dim
 have hbl := hx.len
 have c5 := fun h1 h2 => (around_s (x := x.b) hC hV hx.len h1 h2)
 obtain ⟨id, dim, b⟩ := x
 simp only at c1 hr hxd hbl c5
 have gl := fcs_len b
 unfold chV at c1
 unfold cxV cxC
 simp only
 refine qF Try.func53 Try.ntmps53 fun B hB => ?_
 cases r with
 | false =>
  have he1 : e = 251 := he.uniq (.inl ⟨rfl, fun h => by have := hr.2 h.1; cases this⟩)
  subst he1
  refine qW ?_
  exact qE Try.results53
 | true =>
  have hvg : VG none b := hr.1 rfl
  clear hr
  refine qW ?_
  refine SC.loop (fun i : Nat => ⟨[(0, .im (cxs C) C.length), (3, .pt 0 0), (5, .sc (.int .i64 (i : Nat)))], [(0, ⟨39, [.sc (.int .i64 id), .sc (.int .i64 dim), .im (fcs b) b.length], false⟩)], 1, 73⟩)
   (fun i => i ≤ b.length ∧ ∀ k, k < i → ∃ y, findL C (b.getD k (0, some 0)).1 = some y) (fun i => b.length - i) 0 ?_ ?_ ?_
  ·exact qLc
  ·exact ⟨znc _, fun k h => by omega⟩
  rintro i ⟨hi, hI⟩ K0 hK0
  by_cases hc : i < b.length
  ·have q1 : decide ((i : Int) < (b.length : Int)) = true := decide_eq_true (by omega)
   have gd := fcs_drop hc
   have hm := getD_mem (d := (0, some 0)) hc
   have c2 := rcfind_s (id := (b.getD i (0, some 0)).1) hCl
   obtain ⟨nf, lf, hqf⟩ := cfC_two (b.getD i (0, some 0)).2
   rw [fcC, hqf] at gd
   cases hy : findL C (b.getD i (0, some 0)).1 with
   | none =>
    have he1 : e = 251 := he.uniq (.inl ⟨rfl, fun h => by obtain ⟨y, h1⟩ := h.2 _ hm; rw [hy] at h1; cases h1⟩)
    subst he1
    rw [hy] at c2
    clear hI hy hm he
    generalize (b.getD i (0, some 0)).1 = fi at *
    have c2' : Spec Try.prog 20 [.im (cxs C) C.length, .sc (.int .i64 fi)] (.tu [.ag (cxC cx0), .sc (.bool false)]) := c2
    clear c2
    unfold cxC cx0 fcs at c2'
    simp only [List.flatMap_nil, List.length_nil] at c2'
    refine qWf (Q3 @q1 @gd @gl) ?_
    exact qE Try.results53
   | some y =>
    have hI2 : ∀ k, k < i + 1 → ∃ y, findL C (b.getD k (0, some 0)).1 = some y := fun k hk => by
     rcases Nat.lt_or_ge k i with h3 | h3
     ·exact hI k h3
     ·rw [show k = i by omega]; exact ⟨y, hy⟩
    rw [hy] at c2
    clear hI hy hm
    generalize (b.getD i (0, some 0)).1 = fi at gd c2
    have c2' : Spec Try.prog 20 [.im (cxs C) C.length, .sc (.int .i64 fi)] (.tu [.ag (cxC y), .sc (.bool true)]) := c2
    clear c2
    unfold cxC at c2'
    refine qWf (Q3 @q1 @gd @gl) ?_
    refine hK0 _ (i + 1) ?_ ⟨by omega, hI2⟩ (by omega)
    exact qLc
  have q1 : decide ((i : Int) < (b.length : Int)) = false := decide_eq_false (by omega)
  have hth : Ther C b := fun f hf => by
   obtain ⟨k, hk, rfl⟩ := List.mem_iff_getElem.1 hf
   have := hI k (by omega)
   rwa [List.getD_eq_getElem?_getD, zlb hk] at this
  clear hI
  by_cases hdim : 0 ≤ dim ∧ dim ≤ 3
  ·have q2 : decide (dim < 0) = false := decide_eq_false (by omega)
   have q3 : decide (dim > 3) = false := decide_eq_false (by omega)
   refine qWf (Q3 @q1 @q2 @q3) ?_
   refine SC.loop (fun i : Nat => ⟨[(0, .im (cxs C) C.length), (3, .pt 0 0), (8, .sc (.int .i64 (i : Nat)))], [(0, ⟨39, [.sc (.int .i64 id), .sc (.int .i64 dim), .im (fcs b) b.length], false⟩)], 1, 73⟩)
    (fun i => i ≤ b.length ∧ ∀ k, k < i → ∀ y, findL C (b.getD k (0, some 0)).1 = some y → y.dim = dim - 1) (fun i => b.length - i) 0 ?_ ?_ ?_
   ·exact qLc
   ·exact ⟨znc _, fun k h => by omega⟩
   clear q1 hc hi hK0
   rintro i ⟨hi, hI⟩ K1 hK1
   by_cases hc : i < b.length
   ·have q1 : decide ((i : Int) < (b.length : Int)) = true := decide_eq_true (by omega)
    have gd := fcs_drop hc
    have hm := getD_mem (d := (0, some 0)) hc
    have c2 := rcfind_s (id := (b.getD i (0, some 0)).1) hCl
    obtain ⟨nf, lf, hqf⟩ := cfC_two (b.getD i (0, some 0)).2
    rw [fcC, hqf] at gd
    obtain ⟨y, hy⟩ := hth _ hm
    rw [hy] at c2
    have hyd := (hC.all y (findL_mem hy).1).dim
    by_cases hd : y.dim = dim - 1
    ·have hI2 : ∀ k, k < i + 1 → ∀ y, findL C (b.getD k (0, some 0)).1 = some y → y.dim = dim - 1 := fun k hk w hw => by
      rcases Nat.lt_or_ge k i with h3 | h3
      ·exact hI k h3 w hw
      ·rw [show k = i by omega, hy] at hw; cases hw; exact hd
     have q4 : (y.dim != dim - 1) = false := by rw [hd]; simp
     clear hI hy hm
     generalize (b.getD i (0, some 0)).1 = fi at gd c2
     have c2' : Spec Try.prog 20 [.im (cxs C) C.length, .sc (.int .i64 fi)] (.tu [.ag (cxC y), .sc (.bool true)]) := c2
     clear c2
     unfold cxC at c2'
     refine qWf (Q4 @q1 @gd @gl @q4) ?_
     refine hK1 _ (i + 1) ?_ ⟨by omega, hI2⟩ (by omega)
     exact qLc
    ·have q4 : (y.dim != dim - 1) = true := by rw [bne_iff_ne]; exact hd
     have he1 : e = 260 := he.uniq (.inr ⟨⟨hvg, hth⟩, .inl ⟨rfl, fun h => hd (h.dims _ hm y hy)⟩⟩)
     subst he1
     clear hI hy hm he
     generalize (b.getD i (0, some 0)).1 = fi at gd c2
     have c2' : Spec Try.prog 20 [.im (cxs C) C.length, .sc (.int .i64 fi)] (.tu [.ag (cxC y), .sc (.bool true)]) := c2
     clear c2
     unfold cxC at c2'
     refine qWf (Q4 @q1 @gd @gl @q4) ?_
     exact qE Try.results53
   ·have q1 : decide ((i : Int) < (b.length : Int)) = false := decide_eq_false (by omega)
    have hok : FacesOk C ⟨id, dim, b⟩ := ⟨hvg, hth, hdim, fun f hf y hy => by
     obtain ⟨k, hk, rfl⟩ := List.mem_iff_getElem.1 hf
     have hk' : k < b.length := hk
     have := hI k (by omega) y
     rw [List.getD_eq_getElem?_getD, zlb hk] at this
     exact this hy⟩
    obtain ⟨c6, hv6, hc6⟩ := c5 (fun f hf => ⟨by obtain ⟨z, hz, _⟩ := hvg.mem f hf; exact ⟨z, hz⟩, hx.cf f hf⟩) hK
    have hem := hv6.empty
    simp only [hc6] at hem
    clear hI c5
    generalize aroundL C b = o at *
    unfold cxV chV at c6
    by_cases ho : o = []
    ·have he1 : e = 0 := he.uniq (.inr ⟨⟨hvg, hth⟩, .inr ⟨hok, .inr ⟨rfl, hem.1 ho⟩⟩⟩)
     subst he1
     subst ho
     refine qWf @q1 ?_
     exact qE Try.results53
    ·have he1 : e = 252 := he.uniq (.inr ⟨⟨hvg, hth⟩, .inr ⟨hok, .inl ⟨rfl, fun h => ho (hem.2 h)⟩⟩⟩)
     subst he1
     have hol : 0 < o.length := List.length_pos_iff.2 ho
     have q4 : decide ((o.length : Int) > 0) = true := decide_eq_true (by omega)
     refine qWf (Q2 @q1 @q4) ?_
     exact qE Try.results53
  ·have he1 : e = 260 := he.uniq (.inr ⟨⟨hvg, hth⟩, .inl ⟨rfl, fun h => hdim h.dim⟩⟩)
   subst he1
   by_cases h0 : dim < 0
   ·have q2 : decide (dim < 0) = true := decide_eq_true h0
    refine qWf (Q2 @q1 @q2) ?_
    exact qE Try.results53
   ·have q2 : decide (dim < 0) = false := decide_eq_false h0
    have q3 : decide (dim > 3) = true := decide_eq_true (by omega)
    refine qWf (Q3 @q1 @q2 @q3) ?_
    exact qE Try.results53
end Go.Proofs.Ytdkkgndibagihaa
