/- Texts joined: Ar As Bb Tr Ts Bc Bd Tl Tm Be Au Aw Ax Ay Av Az. -/
import Derived.Lib.AppendZerosOnto
import Derived.Lib.Overlaps
import Derived.Test.YtdkkgndibagihaaVf
import Derived.Test.YtdkkgndibagihaaVi
import Derived.Test.YtdkkgndibagihaaVk
set_option linter.all false
open Nat renaming reduceEqDiff → zn1, reduceLT → zn2, reduceLeDiff → zn3, reduceAdd → zn4, reduceMul → zn5, reduceSub → zn6, reduceBEq → zn7, mul_one → zn8, zero_add → zn9, one_mul → zna, le_refl → znb, zero_le → znc, add_sub_cancel_left → znd, sub_eq_zero_of_le → zne, add_assoc → znf
open Int renaming reduceToNat → zi1, reducePow → zi2
open List renaming length_append → zl1, drop_zero → zl2, take_succ_cons → zl3, take_zero → zl4, getElem?_drop → zl5, append_assoc → zl6, nil_append → zl7, cons_append → zl8, drop_succ_cons → zl9, take_of_length_le → zla, getElem?_eq_getElem → zlb, getElem?_eq_some_iff → zlc, map_cons → zld, map_nil → zle, all_eq_true → zlf
namespace Go.Proofs.Ytdkkgndibagihaa
open Go.RowKit
theorem cfn_gt {q : Int} : ∀ {r : Ch}, VG (some q) r → ∀ {n : Int}, n ≤ q → cfn r n = 0
 | [], _, _, _ => rfl
 | f :: r, hv, n, hn => by
  have h1 := hv.1 q rfl
  rw [cfn, if_neg (by omega), cfn_gt hv.2.2 (by omega)]; rfl
theorem cfn_fits {K : Nat} : ∀ {r : Ch} {p : Option Int}, VG p r → (∀ f ∈ r, Fits K (cv f.2)) → ∀ n, Fits K (cfn r n)
 | [], _, _, _, n => Nat.pow_pos (by omega)
 | f :: r, p, hv, hf, n => by
  rw [cfn]
  by_cases h : f.1 = n
  ·rw [if_pos h, cfn_gt hv.2.2 (by omega), Int.add_zero]; exact hf f List.mem_cons_self
  ·rw [if_neg h, Int.zero_add]; exact cfn_fits hv.2.2 (fun g hg => hf g (List.mem_cons_of_mem _ hg)) n
structure Good (C : List Cx) : Prop where
 val : VAL C
 ok : CxOk 50000000001 C
 cf : ∀ x ∈ C, ∀ f ∈ x.b, Fits (kb (cn C) x.dim.toNat) (cv f.2)
theorem idsL_mem {C : List Cx} {k id : Int} (h : id ∈ idsL C k) : ∃ x ∈ C, x.dim = k ∧ x.id = id := by
 obtain ⟨x, hx, rfl⟩ := List.mem_map.1 h
 have h1 := List.mem_filter.1 hx
 exact ⟨x, h1.1, by simpa using h1.2, rfl⟩
theorem mem_idx {C : List Cx} {x : Cx} (h : x ∈ C) : ∃ i, i < C.length ∧ C.getD i cx0 = x := by
 obtain ⟨i, hi, e⟩ := List.getElem_of_mem h
 exact ⟨i, hi, by rw [List.getD_eq_getElem?_getD, zlb hi]; exact e⟩
theorem VAL.find {C : List Cx} (h : VAL C) {x : Cx} (hx : x ∈ C) : findL C x.id = some x := by
 obtain ⟨i, hi, e⟩ := mem_idx hx
 rw [← e]
 exact findL_some h.srt hi rfl
theorem cbM_mi {C : List Cx} (hG : Good C) (k : Nat) (k' : Int) : MI (cn C k) (idsL C k').length (kb (cn C) k) (cbM C k k') where
 len := by unfold cbM cn; rw [List.length_map]
 row := fun r hr => by
  obtain ⟨id, hid, rfl⟩ := List.mem_map.1 hr
  obtain ⟨x, hx, hd, rfl⟩ := idsL_mem hid
  refine ⟨rowL_len _ _, fun z hz => ?_⟩
  obtain ⟨m, _, rfl⟩ := List.mem_map.1 hz
  have hb : bOf C x.id = x.b := by unfold bOf; rw [hG.val.find hx]; rfl
  rw [hb]
  have h1 := hG.cf x hx
  rw [hd, Int.toNat_natCast] at h1
  exact cfn_fits (hG.val.faces x hx).vg h1 m
def CycF (C : List Cx) (k : Nat) (l : List Int) (F : Ch) : Prop :=
 ∃ L : List (List Int), F = fromL (cyV l L (cn C k)) (idsL C k) ∧ L.length ≤ cn C k ∧ (∀ t s, Fits (2 * ((kb (cn C) k + 1) * fact (cn C k + 1))) (ent2 L s t)) ∧
  ∀ q, q < L.length → ∀ t, t < (idsL C (k - 1)).length → dotI (fun s => ent2 L q s) (fun s => ent2 (cbM C k (k - 1)) s t) (cn C k) = 0
theorem cycle_ex {C : List Cx} (hG : Good C) (hl : C.length ≤ 12) {k : Nat} (hk : k ≤ 2) {l : List Int} (hb : ∀ x ∈ l, -128 ≤ x ∧ x ≤ 127) (hll : l.length ≤ 9223372036854775807) :
  ∃ F, Spec Try.prog 54 [cxV C, .sc (.int .i64 (k : Nat)), .im (bv8 l) l.length] (chV F) ∧ CycF C k l F := by
 have hcs := cn_sum C
 have hbd := kb_bd (n := cn C) (by omega) k hk
 have hM := cbM_mi hG k (k - 1)
 have hck : cn C k ≤ 12 := Nat.le_trans (idsL_len C k) hl
 have hcw : (idsL C (k - 1)).length ≤ 12 := Nat.le_trans (idsL_len C _) hl
 obtain ⟨L, c2, hL, hLl, hz⟩ := rleft_ex hM hbd (by omega) (by omega)
 have c1 := rboundary_s (k := k) (k' := k - 1) hG.ok (fun y hy => (hG.val.faces y hy).vg) (wi64 _ (by omega) (by omega))
 have hfit : ∀ t s, Fits (2 * ((kb (cn C) k + 1) * fact (cn C k + 1))) (ent2 L s t) := fun t s => by
  unfold ent2
  by_cases h1 : s < L.length
  ·by_cases h2 : t < (L.getD s []).length
   ·exact (hL.row _ (getD_mem h1)).2 _ (getD_mem h2)
   ·rw [List.getD_eq_getElem?_getD, List.getElem?_eq_none (by omega)]; exact Nat.pow_pos (by omega)
  ·rw [List.getD_eq_getElem?_getD (l := L), List.getElem?_eq_none (by omega)]; exact Nat.pow_pos (by omega)
 refine ⟨_, cycle_w hG.ok rfl c1 c2 hL hLl (by omega) hb hll, L, rfl, hLl, hfit, hz⟩
theorem fromL_mem : ∀ {v ids : List Int} {f : Fc}, f ∈ fromL v ids → f.1 ∈ ids ∧ ∃ z ∈ v, f.2 = some z ∧ z ≠ 0
 | [], _, f, h => by rw [fromL_nil] at h; cases h
 | _ :: _, [], f, h => by simp [fromL] at h
 | z :: v, n :: ids, f, h => by
  rw [fromL] at h
  by_cases hz : z = 0
  ·rw [if_pos hz] at h
   obtain ⟨h1, w, h2, h3⟩ := fromL_mem h
   exact ⟨List.mem_cons_of_mem _ h1, w, List.mem_cons_of_mem _ h2, h3⟩
  ·rw [if_neg hz] at h
   rcases List.mem_cons.1 h with e | h
   ·subst e; exact ⟨List.mem_cons_self, z, List.mem_cons_self, rfl, hz⟩
   ·obtain ⟨h1, w, h2, h3⟩ := fromL_mem h
    exact ⟨List.mem_cons_of_mem _ h1, w, List.mem_cons_of_mem _ h2, h3⟩
theorem CycF.fits {C : List Cx} {k : Nat} {l : List Int} {F : Ch} (h : CycF C k l F) (hb : ∀ x ∈ l, -128 ≤ x ∧ x ≤ 127) (hc : cn C k ≤ 1000) : (∀ f ∈ F, Fits (kb (cn C) (k + 1)) (cv f.2)) ∧ F.length ≤ cn C k ∧ ∀ f ∈ F, f.1 ∈ idsL C k := by
 obtain ⟨L, rfl, h1, h2, _⟩ := h
 refine ⟨fun f hf => ?_, ?_, fun f hf => (fromL_mem hf).1⟩
 ·obtain ⟨_, z, hz, e, _⟩ := fromL_mem hf
  obtain ⟨t, ht, rfl⟩ := List.mem_map.1 hz
  rw [e]
  have hne : cn C k ≠ 0 := fun h0 => by
   have h3 := (fromL_mem hf).1
   rw [show idsL C k = [] from List.eq_nil_of_length_eq_zero h0] at h3; cases h3
  rw [kb, if_neg hne]
  exact cy_fits hb (fun s => h2 t s) (by unfold cyN; omega)
 ·refine Nat.le_trans (fromL_len _ _) (Nat.le_of_eq ?_)
  unfold cyV; exact mkR_len
structure Rwc where
 dim : Nat
 id : Nat
 f : List Int
structure RwcOk (x : Rwc) : Prop where
 dim : x.dim < 256
 id : x.id < 256
 f : ∀ z ∈ x.f, -128 ≤ z ∧ z ≤ 127
 len : x.f.length ≤ 9223372036854775807
def rwC (x : Rwc) : List V := [.sc (.int .u8 x.dim), .sc (.int .u8 x.id), .im (bv8 x.f) x.f.length]
def cellL (x : Rwc) (F : Ch) : Cx := ⟨(x.id % 32 : Nat) - 2, (x.dim % 4 : Nat), if x.dim % 4 = 0 then [] else F⟩
def CellF (C : List Cx) (x : Rwc) (y : Cx) : Prop := ∃ F, y = cellL x F ∧ (x.dim % 4 = 0 ∨ CycF C (x.dim % 4 - 1) x.f F)
set_option maxHeartbeats 8000000 in
theorem cell_ex {C : List Cx} (hG : Good C) (hl : C.length ≤ 12) {x : Rwc} (hx : RwcOk x) : ∃ y, Spec Try.prog 29 [cxV C, .ag (rwC x)] (.ag (cxC y)) ∧ CellF C x y := by
 obtain ⟨xd, xi, xf⟩ := x
 have h1 := hx.dim
 have h2 := hx.id
 simp only at h1 h2
 have wi := wi64 (xi : Int) (by omega) (by omega)
 have wd := wi64 (xd : Int) (by omega) (by omega)
 unfold cxV rwC
 by_cases hd : xd % 4 = 0
 ·refine ⟨cellL ⟨xd, xi, xf⟩ [], ?_, [], rfl, .inl hd⟩
  refine qF Try.func29 Try.ntmps29 fun B hB => ?_
  have q1 : decide (0 < (xd : Int) % 4) = false := decide_eq_false (by omega)
  refine qWf (Q3 @wi @wd @q1) ?_
  refine retQ_ret Try.results29 qS qS ?_
  simp [cxC, cellL, hd, fcs]
  omega
 ·obtain ⟨F, c1, hF⟩ := cycle_ex hG hl (k := xd % 4 - 1) (by omega) hx.f hx.len
  rw [show ((xd % 4 - 1 : Nat) : Int) = (xd : Int) % 4 - 1 by omega] at c1
  refine ⟨cellL ⟨xd, xi, xf⟩ F, ?_, F, rfl, .inr hF⟩
  have q1 : decide (0 < (xd : Int) % 4) = true := decide_eq_true (by omega)
  have ec : cxC (cellL ⟨xd, xi, xf⟩ F) = [.sc (.int .i64 ((xi : Int) % 32 - 2)), .sc (.int .i64 ((xd : Int) % 4)), .im (fcs F) F.length] := by simp [cxC, cellL, hd]
  rw [ec]
  clear hF ec hx
  unfold cxV chV at c1
  simp only at c1
  have gb := bv8_len xf
  refine qF Try.func29 Try.ntmps29 fun B hB => ?_
  refine qWf (Q4 @wi @wd @q1 @gb) ?_
  exact qE Try.results29
theorem CellF.ok {C : List Cx} {x : Rwc} {y : Cx} (h : CellF C x y) (hG : Good C) (hl : C.length ≤ 12) (hx : RwcOk x) : CxK 50000000001 y ∧ ∀ f ∈ y.b, Fits (kb (cn C) y.dim.toNat) (cv f.2) := by
 obtain ⟨F, rfl, hF⟩ := h
 have h1 := hx.dim
 have h2 := hx.id
 have hcs := cn_sum C
 by_cases hd : x.dim % 4 = 0
 ·have e : (cellL x F).b = [] := by unfold cellL; rw [if_pos hd]
  refine ⟨⟨?_, ?_, ?_, ?_, ?_⟩, ?_⟩
  ·unfold I64 cellL; simp only; omega
  ·unfold cellL; simp only; omega
  ·rw [e]; exact znc _
  ·rw [e]; intro f hf; cases hf
  ·rw [e]; intro f hf; cases hf
  ·rw [e]; intro f hf; cases hf
 ·have hF := hF.resolve_left hd
  have hck : cn C (x.dim % 4 - 1) ≤ 12 := Nat.le_trans (idsL_len C _) hl
  obtain ⟨h3, h4, h5⟩ := hF.fits hx.f (by omega)
  have e : (cellL x F).b = F := by unfold cellL; rw [if_neg hd]
  have ed : (cellL x F).dim.toNat = x.dim % 4 - 1 + 1 := by unfold cellL; simp only [Int.toNat_natCast]; omega
  have hbd := kb_bd (n := cn C) (by omega) (x.dim % 4 - 1) (by omega)
  have hkb : kb (cn C) (x.dim % 4 - 1 + 1) ≤ 50000000001 := by
   rw [kb]
   split
   ·omega
   ·omega
  refine ⟨⟨?_, ?_, ?_, ?_, ?_⟩, ?_⟩
  ·unfold I64 cellL; simp only; omega
  ·unfold cellL; simp only; omega
  ·rw [e]; omega
  ·rw [e]
   intro f hf
   obtain ⟨z, hz, _, e2⟩ := idsL_mem (h5 f hf)
   rw [← e2]; exact (hG.ok.all z hz).id
  ·rw [e]; exact fun f hf => (h3 f hf).mono hkb
  ·rw [e, ed]; exact h3
theorem Good.ins {C : List Cx} {y : Cx} (hG : Good C) (hl : C.length ≤ 12) (h1 : CxK 50000000001 y) (h2 : ∀ f ∈ y.b, Fits (kb (cn C) y.dim.toNat) (cv f.2)) (hn : findL C y.id = none) (hf : FacesOk C y) (hc : ∀ n, bdn C y.b n = 0) : Good (insL C y) where
 val := hG.val.ins hn hf hc (by omega)
 ok := ⟨by rw [ins_len]; omega, fun z hz => by
  rcases mem_ins.1 hz with e | e
  ·rw [e]; exact h1
  ·exact hG.ok.all z e⟩
 cf := fun z hz f hfz => by
  have hm := kb_mono (cn_ins C y) z.dim.toNat
  rcases mem_ins.1 hz with e | e
  ·subst e; exact (h2 f hfz).mono hm
  ·exact (hG.cf z e f hfz).mono hm
theorem Good.nil : Good [] where
 val := ⟨znc _, fun i j h1 h2 => absurd h2 (Nat.not_lt_zero _), fun x h => (by cases h), fun x h => (by cases h)⟩
 ok := ⟨znc _, fun x h => (by cases h)⟩
 cf := fun x h => by cases h
end Go.Proofs.Ytdkkgndibagihaa
namespace Go.Proofs.Ytdkkgndibagihaa
open Go.RowKit
theorem rwC_len (x : Rwc) : (rwC x).length = 3 := rfl
def rwcs (l : List Rwc) : List V := l.flatMap rwC
theorem rwcs_len (l : List Rwc) : (rwcs l).length = 3 * l.length := fm_len rwC_len l
theorem rwcs_drop {l : List Rwc} {i : Nat} (h : i < l.length) : (rwcs l).drop (i * 3) = rwC (l.getD i ⟨0, 0, []⟩) ++ (rwcs l).drop ((i + 1) * 3) := fm_drop rwC_len _ h
def stepC (C : List Cx) (y : Cx) (e : Int) : List Cx := if insE C y e = 0 then insL C y else C
inductive MkC : List Cx → List Rwc → List Cx → Prop
 | nil (C : List Cx) : MkC C [] C
 | cons {C F : List Cx} {x : Rwc} {xs : List Rwc} {y : Cx} {e : Int} (h1 : Spec Try.prog 29 [cxV C, .ag (rwC x)] (.ag (cxC y)))
   (h2 : Spec Try.prog 31 [cxV C, .ag (cxC y)] (insV C y e)) (h3 : MkC (stepC C y e) xs F) : MkC C (x :: xs) F
theorem mkc_ex : ∀ {xs : List Rwc} {C : List Cx}, (∀ x ∈ xs, RwcOk x) → Good C → C.length + xs.length ≤ 12 → ∃ F, MkC C xs F ∧ Good F ∧ F.length ≤ 12
 | [], C, _, hG, hl => ⟨C, .nil C, hG, by simpa using hl⟩
 | x :: xs, C, hx, hG, hl => by
  rw [List.length_cons] at hl
  have hx1 := hx x List.mem_cons_self
  obtain ⟨y, c1, hy⟩ := cell_ex hG (by omega) hx1
  obtain ⟨h1, h2⟩ := hy.ok hG (by omega) hx1
  obtain ⟨e, he⟩ := fits_ex C y
  have he1 : e = 0 ∨ e = 251 ∨ e = 252 ∨ e = 260 := by
   rcases he with ⟨h, _⟩ | ⟨_, ⟨h, _⟩ | ⟨_, ⟨h, _⟩ | ⟨h, _⟩⟩⟩ <;> omega
  have c2 := rinsert_s hG.ok (fun z hz => (hG.val.faces z hz).vg) h1 (by omega) he he1
  have hS : Good (stepC C y e) ∧ (stepC C y e).length ≤ C.length + 1 := by
   unfold stepC
   by_cases h0 : insE C y e = 0
   ·rw [if_pos h0, ins_len]
    unfold insE at h0
    by_cases hf : (findL C y.id).isSome = true
    ·rw [if_pos hf] at h0; omega
    ·rw [if_neg hf] at h0
     have e0 : e = 0 := by
      by_cases h3 : e = 0
      ·exact h3
      ·rw [if_pos h3] at h0; exact h0
     obtain ⟨h4, h5⟩ := he.zero.1 e0
     have hn : findL C y.id = none := by simpa using hf
     exact ⟨hG.ins (by omega) h1 h2 hn h4 h5, znb _⟩
   ·rw [if_neg h0]; exact ⟨hG, by omega⟩
  obtain ⟨F, h6, h7, h8⟩ := mkc_ex (xs := xs) (C := stepC C y e) (fun z hz => hx z (List.mem_cons_of_mem _ hz)) hS.1 (by omega)
  exact ⟨F, .cons c1 c2 h6, h7, h8⟩
set_option maxHeartbeats 8000000 in
theorem made_w {l : List Rwc} {F : List Cx} (hl : l.length ≤ 9223372036854775807) (h : MkC [] (l.take 12) F) : Spec Try.prog 44 [.im (rwcs l) l.length, .sc (.int .i64 12)] (cxV F) := by
 have gl := rwcs_len l
 unfold cxV
 refine qF Try.func44 Try.ntmps44 fun B hB => ?_
 refine qW ?_
 refine SC.loop (fun x : Nat × List Cx => ⟨[(0, .im (rwcs l) l.length), (1, .sc (.int .i64 12)), (5, .im (cxs x.2) x.2.length), (6, .sc (.int .i64 (x.1 : Nat)))], [], 1, 36⟩)
  (fun x => x.1 ≤ l.length ∧ x.1 ≤ 12 ∧ MkC x.2 ((l.take 12).drop x.1) F) (fun x => 12 - x.1) (0, []) ?_ ?_ ?_
 ·refine Le.trans (Le.frz (y := .im [] 0) (ids := [0]) 5 (show 5 < 36 by omega) qS) ?_
  (refine Le.of [0] hB (by first | exact ⟨znc _, fun _ _ => znc _⟩ | (constructor <;> (try simp) <;> (try omega))) ?_ ?_ <;> (repeat' (first | exact leSl_nil | exact leHp_nil | refine leSl_cons qT ?_ ?_ | refine leHp_cons qT ?_ ?_ | exact VLe.junk _ | exact VLe.refl rfl | exact VLe.nil_sl _ _ _ | exact VLe.int (by first | rfl | omega | (dsimp only; omega)) | exact VLe.bool rfl | exact VLe.sl rfl (by first | rfl | omega | (dsimp only; omega) | (simp; done)) | exact VLe.cap rfl (by first | rfl | omega | (dsimp only; omega) | (simp; done)) | exact VLe.im rfl rfl | exact HLe.new rfl | exact HLe.same rfl (LLe.refl rfl) | refine HLe.same rfl ?_ | exact LLe.nil _ | exact LLe.refl rfl | exact LLe.cl rfl qS | exact LLe.clR rfl qS | refine LLe.cons ?_ ?_)))
 ·exact ⟨znc _, znc _, h⟩
 rintro ⟨i, C⟩ ⟨hi, hi2, hM⟩ K0 hK0
 simp only at hi hi2 hM
 have glC := cxs_len C
 have hlt : (l.take 12).length = min 12 l.length := List.length_take
 by_cases hc : i < l.length
 ·have q1 : decide ((i : Int) < (l.length : Int)) = true := decide_eq_true (by omega)
  by_cases hc2 : i < 12
  ·have q2 : decide ((i : Int) < 12) = true := decide_eq_true (by omega)
   have gd := rwcs_drop hc
   have hdr : (l.take 12).drop i = l.getD i ⟨0, 0, []⟩ :: (l.take 12).drop (i + 1) := by
    rw [List.drop_eq_getElem_cons (by omega), List.getElem_take, List.getD_eq_getElem?_getD, zlb hc]; rfl
   rw [hdr] at hM
   generalize l.getD i ⟨0, 0, []⟩ = x at *
   cases hM with
   | @cons _ _ _ _ y e c1 c2 h3 =>
   clear hdr
   obtain ⟨xd, xi, xf⟩ := x
   obtain ⟨yi, yd, yb⟩ := y
   unfold stepC at h3
   unfold insV at c2
   generalize insE C ⟨yi, yd, yb⟩ e = r at *
   unfold rwC at c1 gd
   unfold cxV cxC at c1 c2
   simp only [zl8, zl7] at c1 c2 gd
   have gb := bv8_len xf
   have g2 : i * 3 < (rwcs l).length := by omega
   by_cases h0 : r = 0
   ·have q3 : (r == 0) = true := by rw [beq_iff_eq]; exact h0
    rw [if_pos h0] at c2 h3
    generalize insL C ⟨yi, yd, yb⟩ = C' at *
    refine qWf (Q9 @q1 @q2 @q3 @gd @gl @g2 @gb @glC @gD) ?_
    refine hK0 _ (i + 1, C') ?_ ⟨hc, hc2, h3⟩ (by show 12 - (i + 1) < 12 - i; omega)
    exact qLc
   ·have q3 : (r == 0) = false := by rw [beq_eq_false_iff_ne]; exact h0
    rw [if_neg h0] at c2 h3
    refine qWf (Q9 @q1 @q2 @q3 @gd @gl @g2 @gb @glC @gD) ?_
    refine hK0 _ (i + 1, C) ?_ ⟨hc, hc2, h3⟩ (by show 12 - (i + 1) < 12 - i; omega)
    exact qLc
  ·have q2 : decide ((i : Int) < 12) = false := decide_eq_false (by omega)
   rw [List.drop_of_length_le (by omega)] at hM
   cases hM
   refine qWf (Q2 @q1 @q2) ?_
   exact qE Try.results44
 ·have q1 : decide ((i : Int) < (l.length : Int)) = false := decide_eq_false (by omega)
  rw [List.drop_of_length_le (by omega)] at hM
  cases hM
  refine qWf @q1 ?_
  exact qE Try.results44
theorem made_ex {l : List Rwc} (hl : l.length ≤ 9223372036854775807) (hx : ∀ x ∈ l, RwcOk x) : ∃ C, Spec Try.prog 44 [.im (rwcs l) l.length, .sc (.int .i64 12)] (cxV C) ∧ Good C ∧ C.length ≤ 12 := by
 obtain ⟨F, h1, h2, h3⟩ := mkc_ex (xs := l.take 12) (C := []) (fun x h => hx x (List.mem_of_mem_take h)) Good.nil (by rw [List.length_take, List.length_nil]; omega)
 exact ⟨F, made_w hl h1, h2, h3⟩
end Go.Proofs.Ytdkkgndibagihaa
namespace Go.Proofs.Ytdkkgndibagihaa
open Go.RowKit
theorem clonech_s {l : Ch} (hl : l.length ≤ 1000) : Spec Try.prog 55 [chV l] (chV l) := by
 have gl := fcs_len l
 have h1 := fcs_one l
 have gt : (fcs l).take (l.length * 3) = fcs l := zla (by omega)
 have gc := fcs_clo l
 unfold chV
 refine qF Try.func55 Try.ntmps55 fun B hB => ?_
 by_cases h0 : l = []
 ·subst h0
  simp only [show fcs [] = [] from rfl, List.length_nil]
  refine qW ?_
  refine SO.nilq qS qS qS qS fun b => ?_
  cases b
  ·refine qW ?_
   exact qE Try.results55
  ·refine qW ?_
   exact qE Try.results55
 ·have hp : 0 < l.length := List.length_pos_iff.2 h0
  refine qWf (Q3 @gl @h1 @gt) ?_
  exact retQ_ret Try.results55 qS (qSf (Q3 @gl @gt @gc)) rfl
theorem clonecx_s {C : List Cx} (nx : Nat) (hl : C.length ≤ 1000) : Inl Try.prog 57 [cxV C] [] nx (.sl nx 0 C.length 3 none) [(nx, ⟨39, cxs C, false⟩)] (nx + 1) := by
 have gl := cxs_len C
 have h1 := cxs_one C
 have gt : (cxs C).take (C.length * 3) = cxs C := zla (by omega)
 have gc := cxs_clo C
 unfold cxV
 refine Inl.run Try.func57 rfl Try.ntmps57 (by simp) qT fun B hB => ?_
 by_cases h0 : C = []
 ·subst h0
  simp only [show cxs [] = [] from rfl, List.length_nil]
  refine qW ?_
  refine SO.nilq qS qS qS qS fun b => ?_
  cases b
  ·refine qW ?_
   exact retI_ret Try.results57 qS (Le.newSlice hB (Nat.le_succ _) qS qS rfl)
  ·refine qW ?_
   exact retI_ret Try.results57 qS (Le.nilSlice hB qS)
 ·have hp : 0 < C.length := List.length_pos_iff.2 h0
  refine qWf (Q3 @gl @h1 @gt) ?_
  exact retI_ret Try.results57 qS (Le.newSlice hB (Nat.le_succ _) qS qS gc)
end Go.Proofs.Ytdkkgndibagihaa
namespace Go.Proofs.Ytdkkgndibagihaa
open Go.RowKit
section
variable {P : Program} {B : Base}
theorem SC.capOf {cs : List Code} {Q : Exit → SS → Prop} {sl : List (Nat × V)} {hp : List (Nat × Blk)} {nx nt : Nat} {t id off len z : Nat} (hcs : cs ≠ []) (hg : get sl t = .sl id off len z none)
  (k : ∀ c, len ≤ c → c ≤ maxLen → SC P B cs Q ⟨(t, .sl id off len z (some c)) :: sl, hp, nx, nt⟩) : SC P B cs Q ⟨sl, hp, nx, nt⟩ := by
 cases cs with
 | nil => exact absurd rfl hcs
 | cons c0 cs =>
  intro S rho A a w hr
  have h := hr.slots t
  rw [show get (⟨sl, hp, nx, nt⟩ : SS).sl t = .sl id off len z none from hg] at h
  have key : ∀ c, R S rho w A (.sl id off len z (some c)) (a.eval (.tmp t)) → Rel B S rho A ⟨(t, .sl id off len z (some c)) :: sl, hp, nx, nt⟩ a w := fun c hc => by
   refine ⟨fun t' => ?_, hr.mem, hr.alt, hr.nt, hr.defs⟩
   show R S rho w A (if t' = t then _ else get sl t') _
   by_cases e : t' = t
   ·subst e; rw [if_pos rfl]; exact hc
   ·rw [if_neg e]; exact hr.slots t'
  generalize hv : a.eval (.tmp t) = v at h key
  cases h with
  | @sl _ _ _ _ _ c _ h1 h2 h3 h4 h5 => exact k c h2 h3 S rho A a w (key c (.sl h1 h2 h3 (fun k hk => by cases hk; rfl) h5))
  | sln h1 => exact k 0 (znb _) (znc _) S rho A a w (key 0 (.sln fun k hk => by cases hk; rfl))
theorem Le.junk {sl : List (Nat × V)} {hp : List (Nat × Blk)} {nx nt : Nat} {t id off len z c m : Nat} {ty : TypeId} {cs : List V} {fz : Bool} (hg : get sl t = .sl id off len z (some c)) (hc : 0 < c) (hb : hget hp id = some ⟨ty, cs, fz⟩) (hm : cs.length + m ≤ off + c * z) :
  Le B ⟨sl, hp, nx, nt⟩ ⟨sl, (id, ⟨ty, cs ++ List.replicate m .junk, fz⟩) :: hp, nx, nt⟩ := by
 intro S rho A a w hr
 have h := hr.slots t
 rw [show get (⟨sl, hp, nx, nt⟩ : SS).sl t = .sl id off len z (some c) from hg] at h
 generalize a.eval (.tmp t) = v at h
 have old := hr.mem
 have key : A id ∧ szAt w (rho id) (.n (off + c * z)) := by
  cases h with
  | sl h1 h2 h3 h4 h5 => have e := h4 c rfl; subst e; exact ⟨h1, h5⟩
  | sln h1 => have := h1 c rfl; omega
 obtain ⟨hA, hsz⟩ := key
 obtain ⟨cells, h1, h2⟩ := old.cells id _ hb hA
 obtain ⟨cells', e', f', h3, h4⟩ := hsz
 rw [h1] at h3
 cases h3
 have hold : ∀ i k, hget ((id, (⟨ty, cs ++ List.replicate m .junk, fz⟩ : Blk)) :: hp) i = some k → (i = id ∧ k = ⟨ty, cs ++ List.replicate m .junk, fz⟩) ∨ hget hp i = some k := fun i k hk => by
  simp only [hget] at hk
  by_cases e : i = id
  ·rw [if_pos e] at hk; cases hk; exact .inl ⟨e, rfl⟩
  ·rw [if_neg e] at hk; exact .inr hk
 have hany : ∀ i k, hget ((id, (⟨ty, cs ++ List.replicate m .junk, fz⟩ : Blk)) :: hp) i = some k → ∃ k', hget hp i = some k' ∧ k'.fz = k.fz := fun i k hk => by
  rcases hold i k hk with ⟨rfl, rfl⟩ | h
  ·exact ⟨_, hb, rfl⟩
  ·exact ⟨k, h, rfl⟩
 refine ⟨S, rho, A, hr.slots, ⟨fun i k hk hAi => ?_, fun i k hk hAi hf => ?_, fun i k hk hAi => ?_, fun i j k k' hk hk' hAi hAj e => ?_, old.slt, old.sub, old.base, old.frame, old.keep⟩, hr.alt, hr.nt, hr.defs⟩
 ·rcases hold i k hk with ⟨rfl, rfl⟩ | h
  ·refine ⟨cells, h1, fun j x hx => ?_⟩
   rcases Nat.lt_or_ge j cs.length with hj | hj
   ·rw [List.getElem?_append_left hj] at hx
    exact h2 j x hx
   ·have hlt := (List.getElem?_eq_some_iff.1 hx).1
    rw [zl1, List.length_replicate] at hlt
    rw [List.getElem?_append_right hj, List.getElem?_replicate, if_pos (by omega)] at hx
    cases hx
    exact ⟨cells[j]'(by omega), Array.getElem?_eq_getElem (by omega), .junk _⟩
  ·exact old.cells i k h hAi
 ·obtain ⟨k', h5, h6⟩ := hany i k hk
  exact old.fz i k' h5 hAi (h6.trans hf)
 ·obtain ⟨k', h5, _⟩ := hany i k hk
  exact old.own i k' h5 hAi
 ·obtain ⟨k1, h5, _⟩ := hany i k hk
  obtain ⟨k2, h6, _⟩ := hany j k' hk'
  exact old.inj i j k1 k2 h5 h6 hAi hAj e
theorem SOps.out {ops : Array Oper} {Q : Exit → SS → Prop} {o : Oper} {l : List Oper} {s s' : SS} {x : V} {f : Eff} (hd : dstOk o.dst s.nt = true) (hg : guardV ops s.sl o.guard = some true)
  (h : ∀ S rho A a w, Rel B S rho A s a w → OutN B S rho A s.hp s.nx w ((execOp a.eval o).run P w) x f) (hs : (⟨putS s.sl o.dst x, f.heap s.nx s.hp, f.next s.nx, s.nt⟩ : SS) = s') (k : SOps P B ops l Q s') : SOps P B ops (o :: l) Q s := by
 subst hs
 intro S rho A a w hr
 have hw := guard_sound hr.slots hg
 refine wpList_step fun K hK => ?_
 rw [if_pos hw]
 obtain ⟨v, w', rho', A', h1, h2, h3, h4, h5, h6⟩ := h S rho A a w hr
 have := hK _ _ (k S rho' A' (a.put o.dst v) w' (hr.put hd h2 h3 h4 h5 h6))
 unfold Oper.wp
 rcases h1 with h1 | ⟨h1, rfl⟩ <;> rw [h1] <;> exact this
theorem append_room {S : Nat → Prop} {rho : Nat → Nat} {A : Nat → Prop} {w : World} {hp : List (Nat × Blk)} {nx : Nat} (hm : Mem B S rho A hp w) {t ty : TypeId} {x : V} {vs vx : Value} {id n z c by' m : Nat} {k : Blk} {e : TypeId} {zc : List Value} {ys : List V}
  (hk : mkOf P t = some (e, by', zc)) (hsrc : srcV hp x = some (ys, m)) (hyl : ys.length = m * zc.length) (hone : ys.all V.one = true) (hg : hget hp id = some k) (hz : z = zc.length) (hfz : k.fz = false) (hty : k.ty = e) (hle : n * z ≤ k.cs.length)
  (hc0 : 0 < c) (hm0 : ¬ m = 0) (hroom : n + m ≤ c) (hs : R S rho w A (.sl id 0 n z (some c)) vs) (hx : R S rho w A x vx) :
  Out B S rho A hp nx w ((Builtin.append_ #[t, t] ty #[vs, vx]).run P w) (.sl id 0 (n + m) z (some c)) (.set id ⟨e, k.cs.take (n * z) ++ ys ++ k.cs.drop ((n + m) * z), false⟩) := by
 obtain ⟨i, zv, h1, h2, h3, rfl, rfl, h6, h7, h8⟩ := mkOf_und hk
 obtain ⟨a, c', us, rfl, hAll, hcell, hmc, hcm, hn0⟩ := src_sound hm hsrc hx
 have hul : us.length = m * i.size := by rw [← hAll.1, hyl, h6]
 have h1v : ∀ v ∈ us, v.oneCell' = true := by
  intro v hv
  obtain ⟨j, hj⟩ := List.mem_iff_getElem?.1 hv
  have hlt : j < ys.length := by rw [hAll.1]; exact (List.getElem?_eq_some_iff.1 hj).1
  exact one_sound (List.all_eq_true.1 hone _ (List.getElem_mem hlt)) (hAll.2 j _ v (zlb hlt) hj)
 have hne : 0 < m → ys ≠ [] := by
  intro hpos e'
  rw [e'] at hyl
  have : 1 * 1 ≤ m * zv.cells.toList.length := Nat.mul_le_mul hpos (by omega)
  simp at hyl this; omega
 have hz' : z = i.size := by omega
 cases hs with
 | sln hcap => have := hcap c rfl; omega
 | @sl _ _ _ _ _ c1' _ hid hl hmx hcap hz0 =>
  have hce := hcap c rfl
  subst hce
  obtain ⟨cells, c1, c2, c3⟩ := (hm.cells id k hg hid).all
  obtain ⟨cells', d1, d2⟩ := hm.cells id k hg hid
  rw [c1] at d1
  cases d1
  have hAllo : All S rho A w (k.cs.take (n * z)) (cells.toList.take (n * z)) := by
   have := c3.take (n * z)
   rwa [List.take_take, Nat.min_eq_left hle] at this
  have hnsz : n * z ≤ cells.size := by omega
  have hcsz : c1' * z ≤ cells.size := by
   obtain ⟨ce, e', f', g1, g2⟩ := hz0
   rw [c1] at g1
   simp only [Option.some.injEq, Obj.cells.injEq] at g1
   obtain ⟨rfl, _, _⟩ := g1
   omega
  obtain ⟨ad, rfl, hcd⟩ := hcell (hne (by omega))
  have hfit : n * i.size + us.length ≤ cells.size := by
   rw [hul, ← Nat.add_mul, ← hz']; exact Nat.le_trans (Nat.mul_le_mul_right _ hroom) hcsz
  have hr := run_append_room (P := P) w t ty e i h1 h2 (rho id) n c1' cells (hty ▸ c1) ad m c' us hul hcd h1v hroom hfit
  have hnew := hAllo.append hAll
  have hsum : (n + m) * z = n * i.size + us.length := by rw [hul, ← Nat.add_mul, hz']
  have hL : (k.cs.take (n * z) ++ ys).length = n * i.size + us.length := by rw [zl1, List.length_take, hyl, hul, ← hz', Nat.min_eq_left hle, hz]
  have hL2 : (cells.toList.take (n * i.size) ++ us).length = n * i.size + us.length := by rw [zl1, List.length_take, Nat.min_eq_left (by rw [← hz']; simpa using hnsz)]
  rw [hz'] at hnew
  obtain ⟨m1, m2, m3⟩ := hm.setRow hg hid hfz c1 (cs' := k.cs.take (n * z) ++ ys ++ k.cs.drop ((n + m) * z)) (arr' := cells.toList.take (n * i.size) ++ us ++ cells.toList.drop (n * i.size + us.length)) (by simp; omega) (fun j y hj => by
   rcases Nat.lt_or_ge j (n * i.size + us.length) with hlt | hge
   ·rw [List.getElem?_append_left (by rw [hL]; exact hlt), hz'] at hj
    have hlt2 : j < (cells.toList.take (n * i.size) ++ us).length := by rw [hL2]; exact hlt
    refine ⟨_, ?_, hnew.2 j y _ hj (zlb hlt2)⟩
    rw [List.getElem?_append, if_pos hlt2, ← zlb hlt2]
   ·rw [List.getElem?_append_right (by rw [hL]; exact hge), hL, zl5, hsum, Nat.add_sub_cancel' hge] at hj
    obtain ⟨u, hu, hR⟩ := d2 j y hj
    refine ⟨u, ?_, hR⟩
    rw [List.getElem?_append_right (by rw [hL2]; exact hge), hL2, zl5, Nat.add_sub_cancel' hge]
    simpa using hu)
  rw [hty] at m1
  exact ⟨_, _, rho, A, hr, m1, m3, fun j hj => .inl hj, m2, .sl hid hroom hmx (fun q hq => by cases hq; rfl) ((m3 id hid).2.2 _ hz0)⟩
theorem SO.appendRoom {ops : Array Oper} {l : List Oper} {cs : List Code} {Q : Exit → SS → Prop} {s s' : SS} {t : TypeId} {p q : Operand} {d : Option Tmp} {ty : TypeId} {pos : String} {after : Array Edge} {gd : Option (Nat × Bool)} {id n z c by' m : Nat} {kb : Blk} {e : TypeId} {zc : List Value} {ys : List V}
  (hgd : guardV ops s.sl gd = some true ∧ dstOk d s.nt = true) (hp : evS s.sl p = .sl id 0 n z (some c)) (hk : mkOf P t = some (e, by', zc)) (hsrc : srcV s.hp (evS s.sl q) = some (ys, m)) (hg : hget s.hp id = some kb)
  (hone : ys.all V.one = true) (hc : ys.length = m * zc.length ∧ z = zc.length ∧ kb.fz = false ∧ kb.ty = e ∧ n * z ≤ kb.cs.length ∧ 0 < c ∧ ¬ m = 0 ∧ n + m ≤ c)
  (hs : (⟨putS s.sl d (.sl id 0 (n + m) z (some c)), hset s.hp id ⟨e, kb.cs.take (n * z) ++ ys ++ kb.cs.drop ((n + m) * z), false⟩, s.nx, s.nt⟩ : SS) = s') (k : SO P B ops l cs Q s') :
  SO P B ops (⟨d, .call ⟨.builtin .append, #[p, q], #[t, t]⟩, ty, pos, after, gd⟩ :: l) cs Q s := by
 refine SOps.out (x := .sl id 0 (n + m) z (some c)) (f := .set id ⟨e, kb.cs.take (n * z) ++ ys ++ kb.cs.drop ((n + m) * z), false⟩) hgd.2 hgd.1 (fun S rho A a w hr => ?_) hs k
 obtain ⟨c1, c2, c3, c4, c5, c6, c7, c8⟩ := hc
 have e1 := ev_sound hr.mem.tab hr.slots p
 have e2 := ev_sound hr.mem.tab hr.slots q
 rw [hp] at e1
 have h := append_room (nx := s.nx) hr.mem (ty := ty) hk hsrc c1 hone hg c2 c3 c4 c5 c6 c7 c8 e1 e2
 have h2 := Out.toN h
 simpa [execOp, resolve, invoke, builtin] using h2
end
end Go.Proofs.Ytdkkgndibagihaa
namespace Go.Proofs.Ytdkkgndibagihaa
open Go.RowKit
theorem qU {G R : Prop} (r : R) (h : Hd R → G := by intro k; (repeat (first | refine DO.nil (by kernel_rfl) ?_ | (with_reducible refine qO ?_) | ((first | apply SO.call | apply DO.call); (iterate 3 exact qS); (first | apply SCall.ofX | apply DCall.ofX); assumption; exact qS) | ((with_reducible first | apply wa | apply wb | apply wc | apply wd); exact qS; (first | refine pT ?_ | refine pF ?_ | fail_if_success with_reducible refine pA ?_)) | (with_reducible apply SC.ops))); exact k.h) : G := h ⟨r⟩
theorem qUf {F G R : Prop} (f : F) (r : R) (h : F → Hd R → G := by intro f k; (repeat (first | refine DO.nil (by kernel_rfl) ?_ | (with_reducible refine qO ?_) | ((first | apply SO.call | apply DO.call); (iterate 3 exact qSf f); (first | apply SCall.ofX | apply DCall.ofX); assumption; exact qSf f) | ((with_reducible first | apply wa | apply wb | apply wc | apply wd); exact qSf f; (first | refine pT ?_ | refine pF ?_ | fail_if_success with_reducible refine pA ?_)) | (with_reducible apply SC.ops))); exact k.h) : G := h f ⟨r⟩
theorem qSi {p : Prop} (h : p := by simp (disch := omega) only [go_sem, ↓reduceIte, zn1, zn2, zn3, zn4, zn5, zn6, reduceCtorEq, zn7, zi1, zi2, if_pos, if_neg, Int.reduceAdd, zn8, zna, Nat.zero_mul, Nat.add_zero, zn9, Nat.sub_zero, zl2, zl4, zl3, zl9, zl7, zl8, List.append_nil, List.take_length, List.take_nil, List.drop_nil, List.length_nil, List.length_set, List.length_replicate, List.flatten_nil, List.flatten_cons, Bool.not_true, Bool.not_false, Bool.false_eq_true, Bool.or_true, Bool.true_or, Bool.or_false, Bool.or_self, bne_self_eq_false, beq_self_eq_true, Int.reduceBEq, Int.reduceBNe] <;> rfl) : p := h
theorem qSif {F p : Prop} (f : F) (h : F → p := by intro f; simp (disch := omega) only [go_sem, ↓reduceIte, zn1, zn2, zn3, zn4, zn5, zn6, reduceCtorEq, zn7, zi1, zi2, if_pos, if_neg, Int.reduceAdd, zn8, zna, Nat.zero_mul, Nat.add_zero, zn9, Nat.sub_zero, zl2, zl4, zl3, zl9, zl7, zl8, List.append_nil, List.take_length, List.take_nil, List.drop_nil, List.length_nil, List.length_set, List.length_replicate, List.flatten_nil, List.flatten_cons, Bool.not_true, Bool.not_false, Bool.false_eq_true, Bool.or_true, Bool.true_or, Bool.or_false, Bool.or_self, bne_self_eq_false, beq_self_eq_true, f, Int.reduceBEq, Int.reduceBNe] <;> rfl) : p := h f
theorem qUif {F G R : Prop} (f : F) (r : R) (h : F → Hd R → G := by intro f k; (repeat (first | refine DO.nil (by kernel_rfl) ?_ | (with_reducible refine qO ?_) | ((first | apply SO.call | apply DO.call); (iterate 3 exact qSif f); (first | apply SCall.ofX | apply DCall.ofX); assumption; exact qSif f) | ((with_reducible first | apply wa | apply wb | apply wc | apply wd); exact qSif f; (first | refine pT ?_ | refine pF ?_ | fail_if_success with_reducible refine pA ?_)) | (with_reducible apply SC.ops))); exact k.h) : G := h f ⟨r⟩
theorem qWi {G R : Prop} (r : R) (h : Hd R → G := by intro k; (repeat (first | refine DO.nil (by kernel_rfl) ?_ | (with_reducible refine qO ?_) | ((first | apply SO.call | apply DO.call); (iterate 3 exact qSi); (first | apply SCall.ofX | apply DCall.ofX); assumption; exact qSi) | ((with_reducible first | apply wa | apply wb | apply wc | apply wd); exact qSi; (first | refine pT ?_ | refine pF ?_ | fail_if_success with_reducible refine pA ?_)) | ((with_reducible refine SC.draw Tab.mixed ?_ ?_); (focus (first | rfl | exact qSi))) | (with_reducible apply SC.ops))); exact k.h) : G := h ⟨r⟩
theorem qWif {F G R : Prop} (f : F) (r : R) (h : F → Hd R → G := by intro f k; (repeat (first | refine DO.nil (by kernel_rfl) ?_ | (with_reducible refine qO ?_) | ((first | apply SO.call | apply DO.call); (iterate 3 exact qSif f); (first | apply SCall.ofX | apply DCall.ofX); assumption; exact qSif f) | ((with_reducible first | apply wa | apply wb | apply wc | apply wd); exact qSif f; (first | refine pT ?_ | refine pF ?_ | fail_if_success with_reducible refine pA ?_)) | ((with_reducible refine SC.draw Tab.mixed ?_ ?_); (focus (first | rfl | exact qSif f))) | (with_reducible apply SC.ops))); exact k.h) : G := h f ⟨r⟩
theorem orT (p : Prop) : (p ∨ True) = True := or_true p
section
variable {P : Program} {B : Base}
theorem SO.capOf {ops : Array Oper} {l : List Oper} {cs : List Code} {Q : Exit → SS → Prop} {sl : List (Nat × V)} {hp : List (Nat × Blk)} {nx nt : Nat} (t : Nat) {id off len z : Nat} (hg : get sl t = .sl id off len z none)
  (k : ∀ c, len ≤ c → c ≤ maxLen → SO P B ops l cs Q ⟨(t, .sl id off len z (some c)) :: sl, hp, nx, nt⟩) : SO P B ops l cs Q ⟨sl, hp, nx, nt⟩ := by
 intro S rho A a w hr
 have h := hr.slots t
 rw [show get (⟨sl, hp, nx, nt⟩ : SS).sl t = .sl id off len z none from hg] at h
 have key : ∀ c, R S rho w A (.sl id off len z (some c)) (a.eval (.tmp t)) → Rel B S rho A ⟨(t, .sl id off len z (some c)) :: sl, hp, nx, nt⟩ a w := fun c hc => by
  refine ⟨fun t' => ?_, hr.mem, hr.alt, hr.nt, hr.defs⟩
  show R S rho w A (if t' = t then _ else get sl t') _
  by_cases e : t' = t
  ·subst e; rw [if_pos rfl]; exact hc
  ·rw [if_neg e]; exact hr.slots t'
 generalize hv : a.eval (.tmp t) = v at h key
 cases h with
 | @sl _ _ _ _ _ c _ h1 h2 h3 h4 h5 => exact k c h2 h3 S rho A a w (key c (.sl h1 h2 h3 (fun k hk => by cases hk; rfl) h5))
 | sln h1 => exact k 0 (znb _) (znc _) S rho A a w (key 0 (.sln fun k hk => by cases hk; rfl))
theorem SO.weakL {ops : Array Oper} {l : List Oper} {cs : List Code} {Q : Exit → SS → Prop} {s s' : SS} (h : Le B s s') (k : SO P B ops l cs Q s') : SO P B ops l cs Q s := fun S rho A a w hr => let ⟨S', rho', A', hr'⟩ := h S rho A a w hr; k S' rho' A' a w hr'
theorem Out.seg {S : Nat → Prop} {rho : Nat → Nat} {A : Nat → Prop} {w : World} {hp : List (Nat × Blk)} {nx : Nat} (hm : Mem B S rho A hp w) {id : Nat} {k : Blk} (hk : hget hp id = some k) (ha : A id) (hfz : k.fz = false) {cells : Array Value} (c1 : w.heap[rho id]? = some (.cells cells k.ty (0, 0)))
  {ys : List V} {us : List Value} (hAll : All S rho A w ys us) {off : Nat} (hle : off + us.length ≤ k.cs.length) {r : Result Value} {v : Value} {x : V} (hr : r = .ok v (w.setRow (rho id) (cells.toList.take off ++ us ++ cells.toList.drop (off + us.length)).toArray))
  (hx : ∀ w', R S rho w' A x v) : Out B S rho A hp nx w r x (.set id ⟨k.ty, setAll k.cs off ys, false⟩) := by
 obtain ⟨cells', c1', c2, c3⟩ := (hm.cells id k hk ha).all
 rw [c1] at c1'
 simp only [Option.some.injEq, Obj.cells.injEq] at c1'
 obtain ⟨rfl, _, _⟩ := c1'
 have hset := c3.setAll hAll (off := off) (by simp; omega)
 obtain ⟨m1, m2, m3⟩ := hm.setRow hk ha hfz c1 (cs' := setAll k.cs off ys) (arr' := cells.toList.take off ++ us ++ cells.toList.drop (off + us.length)) (by simp; omega) (fun j y hj => by
  have hlt : j < k.cs.length := by rw [← setAll_length ys k.cs off]; exact (List.getElem?_eq_some_iff.1 hj).1
  have hs2 : j < ((cells.toList.take k.cs.length).take off ++ us ++ (cells.toList.take k.cs.length).drop (off + us.length)).length := by
   rw [← hset.1, setAll_length]; exact hlt
  refine ⟨_, ?_, hset.2 j y _ hj (zlb hs2)⟩
  rw [← zlb hs2]
  simp only [List.getElem?_append, List.getElem?_take, zl5, zl1, List.length_take]
  simp only [Array.length_toList]
  have e2 : min off cells.size = off := by omega
  have e3 : min off (min k.cs.length cells.size) = off := by omega
  simp only [e2, e3]
  by_cases hi : j < off + us.length
  ·simp only [hi, if_true]
   by_cases hj2 : j < off
   ·simp only [hj2, if_true]; rw [if_pos hlt]
   ·simp only [hj2, if_false]
  ·simp only [hi, if_false]
   rw [if_pos (by omega)])
 exact ⟨_, _, rho, A, hr, m1, m3, fun _ h => .inl h, m2, hx _⟩
theorem run_copyZ (w : World) (dT sT ty elem : TypeId) (g o dLen dCap : Nat) (a : Addr) (sLen sCap z : Nat) (cur : Array Value) (t : TypeId) (cs : List Value)
  (hu : P.underlying dT = some (.slice elem)) (hz : szOf P elem = some z) (hg : w.heap[g]? = some (.cells cur t (0, 0))) (hn : cs.length = Nat.min sLen dLen * z)
  (hsrc : ∀ j v, cs[j]? = some v → w.cell? (a.add j) = some v) (hfit : o + cs.length ≤ cur.size) (h1 : ∀ v ∈ cs, v.oneCell' = true) :
  (Builtin.copy_ #[dT, sT] ty #[.slice (some ⟨g, o, none⟩) dLen dCap, .slice (some a) sLen sCap]).run P w = .ok (goInt (Nat.min sLen dLen)) (w.setRow g (cur.toList.take o ++ cs ++ cur.toList.drop (o + cs.length)).toArray) := by
 have hst := run_storeCells_at P g o t cs 0 cur w hg (by simpa using hfit) h1
 simp only [Nat.add_zero] at hst
 have hf := run_firstCells_some (P := P) w z (Nat.min sLen dLen) a sLen sCap cs hn hsrc
 simp only [Builtin.copy_, List.getElem?_toArray, List.getElem?_cons_zero, List.getElem?_cons_succ, Sem.run_bind, run_underlying hu, Builtin.lenOf, Sem.run_pure, Result.andThen_ok, run_sizeOf hz, hf, hst]
theorem copy_z {S : Nat → Prop} {rho : Nat → Nat} {A : Nat → Prop} {w : World} {hp : List (Nat × Blk)} {nx : Nat} (hm : Mem B S rho A hp w) {t t' ty : TypeId} {d x : V} {vd vx : Value} {id off dlen z : Nat} {cap : Option Nat} {e : TypeId} {k : Blk} {ys : List V} {m n : Nat}
  (hd0 : d = .sl id off dlen z cap) (hs : slOf P t = some (e, z)) (hsrc : srcV hp x = some (ys, m)) (hk : hget hp id = some k) (hn : min m dlen = n) (hc : n * z ≤ ys.length ∧ k.fz = false ∧ off + dlen * z ≤ k.cs.length ∧ (ys.take (n * z)).all V.one = true ∧ 0 < n ∧ 0 < z)
  (hd : R S rho w A d vd) (hx : R S rho w A x vx) : Out B S rho A hp nx w ((Builtin.copy_ #[t, t'] ty #[vd, vx]).run P w) (.sc (.int .i64 (n : Nat))) (.set id ⟨k.ty, setAll k.cs off (ys.take (n * z)), false⟩) := by
 subst hd0
 obtain ⟨hyl, hfz, hle, hone, hpos, hz0⟩ := hc
 obtain ⟨hu, hz⟩ := slOf_und hs
 obtain ⟨a, c', us, rfl, hAll, hcell, hmc, hcm, hn0⟩ := src_sound hm hsrc hx
 cases hd with
 | sln hcap => omega
 | sl hid hl hmx hcap hzz =>
  rename_i c
  have hp1 : 1 * 1 ≤ n * z := Nat.mul_le_mul hpos hz0
  have hyne : ys ≠ [] := by intro e'; rw [e'] at hyl; simp at hyl; omega
  obtain ⟨ad, rfl, hcd⟩ := hcell hyne
  obtain ⟨cells, c1, c2, c3⟩ := (hm.cells id k hk hid).all
  have hlen : (us.take (n * z)).length = n * z := by rw [List.length_take, ← hAll.1]; omega
  have h1v : ∀ v ∈ us.take (n * z), v.oneCell' = true := by
   intro v hv
   obtain ⟨j, hj⟩ := List.mem_iff_getElem?.1 hv
   have hA2 := hAll.take (n * z)
   have hlt : j < (ys.take (n * z)).length := by rw [hA2.1]; exact (List.getElem?_eq_some_iff.1 hj).1
   exact one_sound (List.all_eq_true.1 hone _ (List.getElem_mem hlt)) (hA2.2 j _ v (zlb hlt) hj)
  have hnd : n * z ≤ dlen * z := Nat.mul_le_mul_right _ (by omega)
  have hr := run_copyZ (P := P) w t t' ty e (rho id) off dlen c ad m c' z cells k.ty (us.take (n * z)) hu hz c1 (by rw [hlen]; show _ = min m dlen * z; rw [hn]) (fun j v hj => by
   rw [List.getElem?_take] at hj
   split at hj
   ·exact hcd j v hj
   ·cases hj) (by rw [hlen]; omega) h1v
  rw [show Nat.min m dlen = n from hn] at hr
  exact Out.seg hm hk hid hfz c1 (hAll.take (n * z)) (by rw [hlen]; omega) hr (fun _ => .sc _)
theorem SO.copyZ {ops : Array Oper} {l : List Oper} {cs : List Code} {Q : Exit → SS → Prop} {s s' : SS} {t t' : TypeId} {p q : Operand} {d : Option Tmp} {ty : TypeId} {pos : String} {after : Array Edge} {gd : Option (Nat × Bool)} (n : Nat) {id off dlen z m : Nat} {cap : Option Nat} {kb : Blk} {e : TypeId} {ys : List V}
  (hgd : guardV ops s.sl gd = some true ∧ dstOk d s.nt = true) (hp : evS s.sl p = .sl id off dlen z cap) (hs : slOf P t = some (e, z)) (hsrc : srcV s.hp (evS s.sl q) = some (ys, m)) (hg : hget s.hp id = some kb) (hn : min m dlen = n)
  (hc : n * z ≤ ys.length ∧ kb.fz = false ∧ off + dlen * z ≤ kb.cs.length ∧ (ys.take (n * z)).all V.one = true ∧ 0 < n ∧ 0 < z)
  (hs' : (⟨putS s.sl d (.sc (.int .i64 (n : Nat))), hset s.hp id ⟨kb.ty, setAll kb.cs off (ys.take (n * z)), false⟩, s.nx, s.nt⟩ : SS) = s') (k : SO P B ops l cs Q s') :
  SO P B ops (⟨d, .call ⟨.builtin .copy, #[p, q], #[t, t']⟩, ty, pos, after, gd⟩ :: l) cs Q s := by
 refine SOps.out (x := .sc (.int .i64 (n : Nat))) (f := .set id ⟨kb.ty, setAll kb.cs off (ys.take (n * z)), false⟩) hgd.2 hgd.1 (fun S rho A a w hr => ?_) hs' k
 have e1 := ev_sound hr.mem.tab hr.slots p
 have e2 := ev_sound hr.mem.tab hr.slots q
 have h := copy_z (nx := s.nx) hr.mem (t' := t') (ty := ty) hp hs hsrc hg hn hc e1 e2
 have h2 := Out.toN h
 simpa [execOp, resolve, invoke, builtin] using h2
theorem clear_z {S : Nat → Prop} {rho : Nat → Nat} {A : Nat → Prop} {w : World} {hp : List (Nat × Blk)} {nx : Nat} (hm : Mem B S rho A hp w) {t ty : TypeId} {d : V} {vd : Value} {id off n z by' : Nat} {cap : Option Nat} {e : TypeId} {k : Blk} {zc : List Value}
  (hd0 : d = .sl id off n z cap) (hs : mkOf P t = some (e, by', zc)) (hk : hget hp id = some k) (hc : z = zc.length ∧ k.fz = false ∧ off + n * z ≤ k.cs.length ∧ (zc.map V.sc).all V.one = true ∧ 0 < n) (hd : R S rho w A d vd) :
  Out B S rho A hp nx w ((Builtin.clear_ #[t] ty #[vd]).run P w) (.tu []) (.set id ⟨k.ty, setAll k.cs off (reps n (zc.map .sc)), false⟩) := by
 subst hd0
 obtain ⟨hz1, hfz, hle, hone, hpos⟩ := hc
 obtain ⟨i, zv, hu, g2, g3, rfl, rfl, g6, g7, g8⟩ := mkOf_und hs
 have hzo : zeroOf P e = some zv := by simp [zeroOf, g2, g3]
 cases hd with
 | sln hcap => omega
 | sl hid hl hmx hcap hz0' =>
  rename_i c
  obtain ⟨cells, c1, c2, c3⟩ := (hm.cells id k hk hid).all
  have hAll := reps_sound (S := S) (rho := rho) (A := A) (w := w) (zs := zv.cells) (by omega) n
  have hlen : (madeCells zv.cells (n * zv.cells.size)).toList.length = n * z := by simp [madeCells, hz1]
  have h1v : ∀ v ∈ (madeCells zv.cells (n * zv.cells.size)).toList, v.oneCell' = true := by
   intro v hv
   obtain ⟨j, hj⟩ := List.mem_iff_getElem?.1 hv
   have hzp : 0 < zv.cells.size := by omega
   simp only [madeCells, Array.getElem?_toList] at hj
   simp at hj
   obtain ⟨u, _, hu'⟩ := hj
   have hmod : u % zv.cells.size < zv.cells.size := Nat.mod_lt _ hzp
   have hv2 : v = zv.cells[u % zv.cells.size]'hmod := by rw [← hu', getElem!_pos zv.cells _ hmod]
   subst hv2
   have := List.all_eq_true.1 hone (.sc (zv.cells[u % zv.cells.size]'hmod)) (List.mem_map.2 ⟨_, by simp, rfl⟩)
   exact one_sound this (R.sc (S := S) (rho := rho) (A := A) (w := w) _)
  have hst := run_storeCells_at P (rho id) off k.ty (madeCells zv.cells (n * zv.cells.size)).toList 0 cells w c1 (by rw [hlen]; omega) h1v
  simp only [Nat.add_zero] at hst
  have hzc : (Builtin.zeroCells zv.cells n).toList = (madeCells zv.cells (n * zv.cells.size)).toList := rfl
  obtain ⟨m, rfl⟩ : ∃ m, n = m + 1 := ⟨n - 1, by omega⟩
  have hr : (Builtin.clear_ #[t] ty #[.slice (some ⟨rho id, off, none⟩) (m + 1) c]).run P w = .ok (.tuple #[]) (w.setRow (rho id) (cells.toList.take off ++ (madeCells zv.cells ((m + 1) * zv.cells.size)).toList ++ cells.toList.drop (off + (madeCells zv.cells ((m + 1) * zv.cells.size)).toList.length)).toArray) := by
   simp only [Builtin.clear_, List.getElem?_toArray, List.getElem?_cons_zero, Sem.run_bind, run_underlying hu, Sem.run_pure, Result.andThen_ok, run_zeroValue hzo, hzc, hst]
  exact Out.seg hm hk hid hfz c1 hAll (by rw [hlen]; exact hle) hr (fun _ => .tu rfl (fun i x u hx => by simp at hx))
theorem SO.clearZ {ops : Array Oper} {l : List Oper} {cs : List Code} {Q : Exit → SS → Prop} {s s' : SS} {t : TypeId} {p : Operand} {d : Option Tmp} {ty : TypeId} {pos : String} {after : Array Edge} {gd : Option (Nat × Bool)} {id off n z by' : Nat} {cap : Option Nat} {kb : Blk} {e : TypeId} {zc : List Value}
  (hgd : guardV ops s.sl gd = some true ∧ dstOk d s.nt = true) (hp : evS s.sl p = .sl id off n z cap) (hs : mkOf P t = some (e, by', zc)) (hg : hget s.hp id = some kb)
  (hc : z = zc.length ∧ kb.fz = false ∧ off + n * z ≤ kb.cs.length ∧ (zc.map V.sc).all V.one = true ∧ 0 < n)
  (hs' : (⟨putS s.sl d (.tu []), hset s.hp id ⟨kb.ty, setAll kb.cs off (reps n (zc.map .sc)), false⟩, s.nx, s.nt⟩ : SS) = s') (k : SO P B ops l cs Q s') :
  SO P B ops (⟨d, .call ⟨.builtin .clear, #[p], #[t]⟩, ty, pos, after, gd⟩ :: l) cs Q s := by
 refine SOps.out (x := .tu []) (f := .set id ⟨kb.ty, setAll kb.cs off (reps n (zc.map .sc)), false⟩) hgd.2 hgd.1 (fun S rho A a w hr => ?_) hs' k
 have e1 := ev_sound hr.mem.tab hr.slots p
 have h := clear_z (nx := s.nx) hr.mem (ty := ty) hp hs hg hc e1
 have h2 := Out.toN h
 simpa [execOp, resolve, invoke, builtin] using h2
theorem append_growZ {S : Nat → Prop} {rho : Nat → Nat} {A : Nat → Prop} {w : World} {hp : List (Nat × Blk)} {nx : Nat} (hm : Mem B S rho A hp w) (hnx : ¬ A nx) {t tn ty : TypeId} {vs : Value} {kq : IntKind} {id n z c by' m : Nat} {k : Blk} {e : TypeId} {zc : List Value}
  (hk : mkOf P t = some (e, by', zc)) (hi : isIntT P tn = true) (hg : hget hp id = some k) (hz : z = zc.length) (hle : n * z ≤ k.cs.length) (hlim : n + m < 1125899906842624) (hby : (n + m) * by' ≤ 140737488355328)
  (hn : 0 < n + c) (hm0 : 0 < m) (hgrow : c < n + m) (hs : R S rho w A (.sl id 0 n z (some c)) vs) :
  Out B S rho A hp nx w ((Builtin.append_ #[t, tn] ty #[vs, .int kq (m : Nat)]).run P w) (.sl nx 0 (n + m) z none) (.new ⟨e, k.cs.take (n * z) ++ reps m (zc.map .sc), false⟩) := by
 obtain ⟨i, zv, h1, h2, h3, rfl, rfl, h6, h7, h8⟩ := mkOf_und hk
 obtain ⟨kn, hkn⟩ : ∃ kn, P.underlying tn = some (.int kn) := by
  unfold isIntT at hi
  split at hi
  ·exact ⟨_, ‹_›⟩
  ·cases hi
 have hz' : z = i.size := by omega
 have hAll := reps_sound (S := S) (rho := rho) (A := A) (w := w) (zs := zv.cells) (by omega) m
 have hzc : ∀ n, (Builtin.zeroCells zv.cells n).size = n * i.size := by intro n; rw [size_zeroCells, h7]
 have hzm : ∀ n, Builtin.zeroCells zv.cells n = madeCells zv.cells (n * zv.cells.size) := fun n => rfl
 cases hs with
 | sln hcap => have := hcap c rfl; omega
 | @sl _ _ _ _ _ c1' _ hid hl hmx hcap hz0 =>
  have hce := hcap c rfl
  subst hce
  obtain ⟨cells, c1, c2, c3⟩ := (hm.cells id k hg hid).all
  have hAllo : All S rho A w (k.cs.take (n * z)) (cells.toList.take (n * z)) := by
   have := c3.take (n * z)
   rwa [List.take_take, Nat.min_eq_left hle] at this
  have hnsz : n * z ≤ cells.size := by omega
  have holds : ∀ j v, (cells.toList.take (n * z))[j]? = some v → w.cell? ((⟨rho id, 0, none⟩ : Addr).add j) = some v := by
   intro j v hv
   rw [addrAdd, cell_of_row w (rho id) _ cells _ _ c1]
   rw [List.getElem?_take] at hv
   split at hv
   ·simpa using hv
   ·cases hv
  have hfo := run_firstCells_some (P := P) w.drew i.size n ⟨rho id, 0, none⟩ n c1' (cells.toList.take (n * z)) (by simp; rw [← hz']; omega) (by simpa using holds)
  have hmb : m * i.bytes ≤ (n + m) * i.bytes := Nat.mul_le_mul_right _ (by omega)
  have hr := Lib.run_append_grow_zeros (P := P) w t tn ty e i zv kq kn h1 hkn h2 h3 (some ⟨rho id, 0, none⟩) n c1' (cells.toList.take (n * z)) hfo m hm0 h8 (by omega) (by omega) (by omega) (growslice_fits (by omega) hby)
  have hge := grownCap_ge w (n + m) c1' e
  refine grown_sound hm hnx (rest := (Builtin.zeroCells zv.cells (grownCap w (n + m) c1' e - (n + m))).toList) (hAllo.append hAll) (c := grownCap w (n + m) c1' e) (l := n + m) ?_ (by omega) (grownCap_le_maxLen w (n + m) c1' e (by unfold maxLen; omega)) ?_
  ·rw [← hzm, hr]; congr 3; apply Array.ext'; simp
  ·have e2 := hzc (grownCap w (n + m) c1' e - (n + m))
   have e3 := hzc m
   have e4 : min (n * i.size) cells.size = n * i.size := by rw [← hz']; omega
   rw [← hzm]
   simp [e2, e3, hz', e4, ← Nat.add_mul]
   rw [← znf, show n + m + (grownCap w (n + m) c1' e - (n + m)) = grownCap w (n + m) c1' e by omega]; exact znb _
theorem SO.appendGrowZ {ops : Array Oper} {l : List Oper} {cs : List Code} {Q : Exit → SS → Prop} {s s' : SS} {t tn : TypeId} {p q : Operand} {d : Option Tmp} {ty : TypeId} {pos : String} {after : Array Edge} {gd : Option (Nat × Bool)} (m : Nat) {kq : IntKind} {id n z c by' : Nat} {kb : Blk} {e : TypeId} {zc : List Value}
  (hgd : guardV ops s.sl gd = some true ∧ dstOk d s.nt = true) (hp : evS s.sl p = .sl id 0 n z (some c)) (hq : evS s.sl q = .sc (.int kq (m : Nat))) (hk : mkOf P t = some (e, by', zc)) (hi : isIntT P tn = true) (hg : hget s.hp id = some kb)
  (hc : z = zc.length ∧ n * z ≤ kb.cs.length ∧ n + m < 1125899906842624 ∧ (n + m) * by' ≤ 140737488355328 ∧ 0 < n + c ∧ 0 < m ∧ c < n + m)
  (hs : (⟨putS s.sl d (.sl s.nx 0 (n + m) z none), (s.nx, ⟨e, kb.cs.take (n * z) ++ reps m (zc.map .sc), false⟩) :: s.hp, s.nx + 1, s.nt⟩ : SS) = s') (k : SO P B ops l cs Q s') :
  SO P B ops (⟨d, .call ⟨.builtin .append, #[p, q], #[t, tn]⟩, ty, pos, after, gd⟩ :: l) cs Q s := by
 refine SOps.out (x := .sl s.nx 0 (n + m) z none) (f := .new ⟨e, kb.cs.take (n * z) ++ reps m (zc.map .sc), false⟩) hgd.2 hgd.1 (fun S rho A a w hr => ?_) hs k
 obtain ⟨c1, c2, c3, c4, c5, c6, c7⟩ := hc
 have e1 := ev_sound hr.mem.tab hr.slots p
 have e2 := ev_sound hr.mem.tab hr.slots q
 rw [hp] at e1
 rw [hq] at e2
 have e3 : a.eval q = .int kq (m : Nat) := by generalize a.eval q = u at e2 ⊢; cases e2; rfl
 have h := append_growZ (nx := s.nx) hr.mem (fun h => by have := hr.alt _ h; omega) (ty := ty) (kq := kq) hk hi hg c1 c2 c3 c4 c5 c6 c7 e1
 rw [← e3] at h
 have h2 := Out.toN h
 simpa [execOp, resolve, invoke, builtin] using h2
theorem append_none {S : Nat → Prop} {rho : Nat → Nat} {A : Nat → Prop} {w : World} {hp : List (Nat × Blk)} {nx : Nat} (hm : Mem B S rho A hp w) {t ty : TypeId} {x : V} {vs vx : Value} {id off n z : Nat} {cap : Option Nat} {e : TypeId}
  (hk : slOf P t = some (e, z)) (hsrc : srcV hp x = some ([], 0)) (hs : R S rho w A (.sl id off n z cap) vs) (hx : R S rho w A x vx) : Out B S rho A hp nx w ((Builtin.append_ #[t, t] ty #[vs, vx]).run P w) (.sl id off n z cap) .none := by
 obtain ⟨hu, hz⟩ := slOf_und hk
 obtain ⟨a, c', us, rfl, hAll, hcell, hmc, hcm, hn0⟩ := src_sound hm hsrc hx
 have hf : (Builtin.firstCells z 0 (.slice a 0 c')).run P w = .ok #[] w := by
  cases a with
  | none => exact run_firstCells_none (P := P) w z 0 0 c'
  | some ad => exact run_firstCells_some (P := P) w z 0 ad 0 c' [] (by simp) (by simp)
 have key : ∀ b c, n ≤ c → vs = .slice b n c → (Builtin.append_ #[t, t] ty #[vs, .slice a 0 c']).run P w = .ok vs w := by
  rintro b c hle rfl
  cases b <;> simp [Builtin.append_, run_underlying hu, run_sizeOf hz, Builtin.lenOf, hle, hf, storeCells]
 refine Out.val hm ?_ hs
 cases hs with
 | sl h1 h2 h3 h4 h5 => exact key _ _ h2 rfl
 | sln h => exact key _ _ (znb _) rfl
theorem SO.appendNone {ops : Array Oper} {l : List Oper} {cs : List Code} {Q : Exit → SS → Prop} {s s' : SS} {t : TypeId} {p q : Operand} {d : Option Tmp} {ty : TypeId} {pos : String} {after : Array Edge} {gd : Option (Nat × Bool)} {id off n z : Nat} {cap : Option Nat} {e : TypeId}
  (hgd : guardV ops s.sl gd = some true ∧ dstOk d s.nt = true) (hp : evS s.sl p = .sl id off n z cap) (hk : slOf P t = some (e, z)) (hsrc : srcV s.hp (evS s.sl q) = some ([], 0))
  (hs : (⟨putS s.sl d (.sl id off n z cap), s.hp, s.nx, s.nt⟩ : SS) = s') (k : SO P B ops l cs Q s') :
  SO P B ops (⟨d, .call ⟨.builtin .append, #[p, q], #[t, t]⟩, ty, pos, after, gd⟩ :: l) cs Q s := by
 refine SOps.out (x := .sl id off n z cap) (f := .none) hgd.2 hgd.1 (fun S rho A a w hr => ?_) hs k
 have e1 := ev_sound hr.mem.tab hr.slots p
 have e2 := ev_sound hr.mem.tab hr.slots q
 rw [hp] at e1
 have h := append_none (nx := s.nx) hr.mem (ty := ty) hk hsrc e1 e2
 have h2 := Out.toN h
 simpa [execOp, resolve, invoke, builtin] using h2
theorem append_ty {w : World} {t t' ty e e' : TypeId} {z : Nat} (hu : P.underlying t = some (.slice e)) (hz : szOf P e = some z) (hu' : P.underlying t' = some (.slice e')) (x y : Value) : (Builtin.append_ #[t, t'] ty #[x, y]).run P w = (Builtin.append_ #[t, t] ty #[x, y]).run P w := by
 cases x <;> simp [Builtin.append_, run_underlying hu, run_underlying hu', run_sizeOf hz]
theorem SO.appendT {ops : Array Oper} {l : List Oper} {cs : List Code} {Q : Exit → SS → Prop} {s s' : SS} {t t' : TypeId} {p q : Operand} {d : Option Tmp} {ty : TypeId} {pos : String} {after : Array Edge} {gd : Option (Nat × Bool)} {e e' : TypeId} {z z' : Nat} {y : V} {f : Eff}
  (hgd : guardV ops s.sl gd = some true ∧ dstOk d s.nt = true) (hk : slOf P t = some (e, z)) (hk' : slOf P t' = some (e', z')) (h : exAppend P s.hp s.nx t (evS s.sl p) (evS s.sl q) = some (y, f))
  (hs : (⟨putS s.sl d y, f.heap s.nx s.hp, f.next s.nx, s.nt⟩ : SS) = s') (k : SO P B ops l cs Q s') :
  SO P B ops (⟨d, .call ⟨.builtin .append, #[p, q], #[t, t']⟩, ty, pos, after, gd⟩ :: l) cs Q s := by
 refine SOps.out (x := y) (f := f) hgd.2 hgd.1 (fun S rho A a w hr => ?_) hs k
 have e1 := ev_sound hr.mem.tab hr.slots p
 have e2 := ev_sound hr.mem.tab hr.slots q
 have h0 := append_sound (nx := s.nx) hr.mem (fun h => by have := hr.alt _ h; omega) (ty := ty) h e1 e2
 rw [← append_ty (slOf_und hk).1 (slOf_und hk).2 (slOf_und hk').1] at h0
 have h2 := Out.toN h0
 simpa [execOp, resolve, invoke, builtin] using h2
theorem SO.overlaps {ops : Array Oper} {l : List Oper} {cs : List Code} {Q : Exit → SS → Prop} {s s' : SS} {f : Nat} {ts : Array TypeId} {p q : Operand} {d : Option Tmp} {ty : TypeId} {pos : String} {after : Array Edge} {gd : Option (Nat × Bool)} {fn : Func} {tS tR e : TypeId} {ia oa la za ib ob lb zb : Nat} {ca cb : Option Nat} {ka kb : Blk}
  (hf : P.funcs[f]? = some fn) (hname : (fn.name == "runtime.NumGoroutine") = false) (hb : fn.body.isNone = true) (hnx : Extern.findNext fn = none) (he : Extern.find fn = some (Extern.SlicesOverlaps.overlaps #[tS, tS] #[tR])) (ht : slOf P tS = some (e, zb))
  (hgd : guardV ops s.sl gd = some true ∧ dstOk d s.nt = true) (hp : evS s.sl p = .sl ia oa la za ca) (hq : evS s.sl q = .sl ib ob lb zb cb) (ha : hget s.hp ia = some ka) (hb' : hget s.hp ib = some kb) (hne : ia ≠ ib) (hl : 0 < kb.cs.length)
  (hs : (⟨putS s.sl d (.sc (.bool false)), s.hp, s.nx, s.nt⟩ : SS) = s') (k : SO P B ops l cs Q s') :
  SO P B ops (⟨d, .call ⟨.value (.func f), #[p, q], ts⟩, ty, pos, after, gd⟩ :: l) cs Q s := by
 refine SOps.out (x := .sc (.bool false)) (f := .none) hgd.2 hgd.1 (fun S rho A a w hr => ?_) hs k
 obtain ⟨hu, hz⟩ := slOf_und ht
 have e1 := ev_sound hr.mem.tab hr.slots p
 have e2 := ev_sound hr.mem.tab hr.slots q
 rw [hp] at e1
 rw [hq] at e2
 have key : (Extern.SlicesOverlaps.overlaps #[tS, tS] #[tR] #[a.eval p, a.eval q]).run P w = .ok (.bool false) w := by
  generalize a.eval p = u at e1
  generalize a.eval q = v at e2
  have nil : ∀ (x y : Option Addr) (m n : Nat) (c c' : Nat), x = none ∨ y = none → (Extern.SlicesOverlaps.overlaps #[tS, tS] #[tR] #[.slice x m c, .slice y n c']).run P w = .ok (.bool false) w := by
   intro x y m n c c' h
   have h0 : Sem.run P (α := Value) (do
     let some t := (#[tS, tS] : Array TypeId)[0]? | stuck "slices.overlaps: no parameter types"
     let .slice elem ← underlying t | stuck "slices.overlaps: slice type expected"
     let _size ← sizeOf elem
     pure (Value.bool false)) w = .ok (.bool false) w := by simp [run_underlying hu, run_sizeOf hz]
   cases x with
   | none => cases y <;> exact h0
   | some _ => cases y with
    | none => exact h0
    | some _ => simp at h
  cases e1 with
  | sln _ => cases e2 <;> exact nil _ _ _ _ _ _ (.inl rfl)
  | sl hia _ _ _ _ =>
   cases e2 with
   | sln _ => exact nil _ _ _ _ _ _ (.inr rfl)
   | sl hib _ _ _ _ =>
    obtain ⟨c1, h1, h2⟩ := hr.mem.cells ia ka ha hia
    obtain ⟨c2, h3, h4⟩ := hr.mem.cells ib kb hb' hib
    have hbne : rho ia ≠ rho ib := fun e => hne (hr.mem.inj ia ib ka kb ha hb' hia hib e)
    have hsz : c2.size ≠ 0 := by
     have := arr_size ⟨c2, h3, h4⟩ h3
     omega
    refine Lib.run_overlaps_apart w tS tR e hu zb (fun w => run_sizeOf hz) _ _ _ _ _ _ hbne ka.ty kb.ty c1.size c2.size ?_ ?_ hsz ?_ ?_
    ·simp [World.shape?, h1]
    ·simp [World.shape?, h3]
    ·simp [World.frozen?, h1]
    ·simp [World.frozen?, h1]
 have hrun : (execOp a.eval ⟨d, .call ⟨.value (.func f), #[p, q], ts⟩, ty, pos, after, gd⟩).run P w = .ok (.value (.bool false)) w := by
  simp only [execOp, resolve, Act.eval, Deferred.ofValue, Sem.run_bind, Sem.run_pure, Result.andThen_ok, invoke]
  have := run_callFunc_extern hf hname hb hnx he #[a.eval p, a.eval q] w
  rw [key] at this
  simpa using this
 exact ⟨.bool false, w, rho, A, .inl hrun, hr.mem, fun _ h => ⟨h, rfl, fun _ h => h⟩, fun _ h => .inl h, fun _ _ => rfl, .sc _⟩
end
end Go.Proofs.Ytdkkgndibagihaa
namespace Go.Proofs.Ytdkkgndibagihaa
open Go.RowKit
section
variable {P : Program}
theorem NewX.ofQ {f : Nat} {args : List V} {k : Blk} {len z : Nat} (hc : k.cs.all clo = true) (hz : k.fz = false) (hI : InlQ P f args [] 0 fun y hp' nx' => ∃ q, q < nx' ∧ y = .sl q 0 len z none ∧ hp' = [(q, k)]) : NewX P f args k (fun id => .sl id 0 len z none) false := by
 refine ⟨rx_sl 0 len z none, ?_⟩
 intro S w vs hS hT hargs
 have hm : Mem ⟨w, S, fun _ => False, fun _ => 0, fun _ => False, []⟩ S (fun _ => 0) (fun _ => False) [] w := {
  cells := fun id k hk => by cases hk
  fz := fun id k hk => by cases hk
  own := fun id k hk => by cases hk
  inj := fun id id' k k' hk => by cases hk
  slt := hS
  sub := fun _ h => h
  base := fun _ h => .inl h
  frame := ⟨rfl, rfl, rfl, znb _, fun _ _ _ => rfl, fun _ _ => rfl, fun _ _ h => h, hS, hT⟩
  keep := fun id h => h.elim }
 refine (hI.callsI hm (fun _ h => h.elim) (vs := vs) hargs).mono ?_
 rintro e w' ⟨v, rfl, x, hp', nx', S', rho', A', ⟨q, hq, rfl, rfl⟩, h1, h2, h3, h4, h5⟩
 have hL : ∀ b, ¬ (Base.inner S (fun _ => 0) (fun _ => False) [] w).L b := by
  rintro b ⟨i, kk, hi, ha, hr⟩
  cases hi
 have hk : hget [(q, k)] q = some k := by simp [hget]
 refine ⟨v, rfl, ⟨h3.frame.os, h3.frame.tape, h3.frame.output, h3.frame.size, fun b hb => h3.frame.block b hb (hL b)⟩, ?_⟩
 cases h5 with
 | sln h => exact .inr fun S rho w A id => .sln h
 | sl h0 hl' hm' hcp hz0 =>
  refine .inl ⟨rho' q, S', ?_, fun c hc' => ⟨rfl, ?_⟩, h3.fz q k hk h0 hz, ?_, .sl rfl hl' hm' hcp hz0⟩
  ·exact (h3.own q k hk h0).elim (fun h => h) (fun h => (hL _ h).elim)
  ·rcases h3.base c hc' with h | h | h
   ·exact .inl h
   ·exact .inr ⟨h, h3.slt c hc'⟩
   ·exact (hL _ h).elim
  ·obtain ⟨cells, c1, c2⟩ := h3.cells q k hk h0
   refine ⟨cells, c1, fun i x hx => ?_⟩
   obtain ⟨u, hu, hr⟩ := c2 i x hx
   exact ⟨u, hu, (clo_sound (List.all_eq_true.1 hc x (List.mem_of_getElem? hx)) hr).rho⟩
end
theorem setAll_seg : ∀ (ys cs : List V) (off : Nat), off + ys.length ≤ cs.length → setAll cs off ys = cs.take off ++ ys ++ cs.drop (off + ys.length)
 | [], cs, off, h => by simp [setAll]
 | y :: ys, cs, off, h => by
  rw [List.length_cons] at h
  rw [setAll, setAll_seg ys _ _ (by rw [List.length_set]; omega), List.length_cons]
  have e1 : (cs.set off y).take (off + 1) = cs.take off ++ [y] := by
   rw [List.take_succ_eq_append_getElem (by rw [List.length_set]; omega), List.getElem_set_self, List.take_set_of_le (znb _)]
  have e2 : (cs.set off y).drop (off + 1 + ys.length) = cs.drop (off + (ys.length + 1)) := by
   rw [List.drop_set_of_lt (by omega), show off + 1 + ys.length = off + (ys.length + 1) by omega]
  rw [e1, e2]; simp
theorem seg_fwd {A R Y Z : List V} {a b : Nat} (ha : A.length = a) (hb : a + Y.length = b) (hr : R.length = Y.length + Z.length) : setAll (setAll (A ++ R) a Y) b Z = A ++ Y ++ Z := by
 subst ha; subst hb
 rw [setAll_seg Y (A ++ R) A.length (by rw [zl1]; omega)]
 have e1 : (A ++ R).take A.length = A := List.take_left
 have e2 : (A ++ R).drop (A.length + Y.length) = R.drop Y.length := by rw [List.drop_append, List.drop_of_length_le (by omega), zl7]; congr 1; omega
 rw [e1, e2, setAll_seg Z _ _ (by simp; omega)]
 have e3 : (A ++ Y ++ R.drop Y.length).take (A.length + Y.length) = A ++ Y := by rw [← zl1]; exact List.take_left
 have e4 : (A ++ Y ++ R.drop Y.length).drop (A.length + Y.length + Z.length) = [] := List.drop_of_length_le (by simp; omega)
 rw [e3, e4, List.append_nil]
theorem seg_bwd {L Y D : List V} {a b : Nat} (hb : a + Y.length = b) (hl : L.length = b + D.length) : setAll (setAll L b D) a Y = L.take a ++ Y ++ D := by
 subst hb
 rw [setAll_seg D _ _ (by omega), List.drop_of_length_le (l := L) (by omega), List.append_nil, setAll_seg _ _ _ (by simp; omega)]
 have e1 : (L.take (a + Y.length) ++ D).take a = L.take a := by rw [List.take_append_of_le_length (by simp; omega), List.take_take, Nat.min_eq_left (by omega)]
 have e2 : (L.take (a + Y.length) ++ D).drop (a + Y.length) = D := by
  have : (L.take (a + Y.length)).length = a + Y.length := by rw [List.length_take]; omega
  conv => lhs; arg 1; rw [← this]
  exact List.drop_left
 rw [e1, e2]
def insAt (C : List Cx) (i : Nat) (x : Cx) : List Cx := C.take i ++ x :: C.drop i
theorem insAt_len {C : List Cx} {i : Nat} (h : i ≤ C.length) (x : Cx) : (insAt C i x).length = C.length + 1 := by unfold insAt; simp; omega
theorem cxs_insAt (C : List Cx) (i : Nat) (x : Cx) : cxs (insAt C i x) = (cxs C).take (i * 3) ++ cxC x ++ (cxs C).drop (i * 3) := by
 have e1 : (cxs C).take (i * 3) = cxs (C.take i) := fm_take cxC_len C i
 have e2 : (cxs C).drop (i * 3) = cxs (C.drop i) := fm_dropL cxC_len C i
 rw [e1, e2]; unfold insAt cxs; simp
def InsQ (C : List Cx) (i : Nat) (x : Cx) : V → List (Nat × Blk) → Nat → Prop := fun y hp' nx' => ∃ q c, q < nx' ∧ y = .sl q 0 (C.length + 1) 3 c ∧ hp' = [(q, ⟨39, cxs (insAt C i x), false⟩)]
set_option maxHeartbeats 4000000 in
set_option maxRecDepth 8000 in
theorem insert_w {C : List Cx} {x : Cx} {i : Nat} (hl : C.length ≤ 1000) (hi : i ≤ C.length) : InlQ Try.prog 56 [.sl 1 0 C.length 3 none, .sc (.int .i64 (i : Nat)), .sl 2 0 1 3 (some 1)]
  [(2, ⟨39, cxC x, false⟩), (1, ⟨39, cxs C, false⟩)] 3 (InsQ C i x) := by
 have gl := cxs_len C
 have h1 := cxs_one C
 have gc := cxs_clo C
 have gi := insAt_len hi x
 have gL := cxs_len (insAt C i x)
 have eL := cxs_insAt C i x
 have gx : (cxC x).length = 3 := rfl
 have ox : (cxC x).all V.one = true := rfl
 have tx : (cxC x).take 3 = cxC x := rfl
 rw [gi] at gL
 refine InlQ.run Try.func56 rfl Try.ntmps56 (by simp) qT fun B hB => ?_
 refine SC.capOf (t := 0) (by simp) qS fun c hc hcm => ?_
 have b0 : decide ((i : Int) ≤ (C.length : Int)) = true := decide_eq_true (by omega)
 by_cases h0 : i = C.length
 ·subst h0
  have gt : (cxs C).take (C.length * 3) = cxs C := zla (by omega)
  have gd : (cxs C).drop (C.length * 3) = [] := List.drop_of_length_le (by omega)
  have e0 : cxs C ++ cxC x = cxs (insAt C C.length x) := by rw [eL, gt, gd, List.append_nil]
  have fin : InsQ C C.length x (.sl 3 0 (C.length + 1) 3 none) [(3, ⟨39, cxs (insAt C C.length x), false⟩)] 4 := ⟨3, none, by omega, rfl, rfl⟩
  by_cases hn : C.length = 0
  ·refine qWf (Q4 @b0 @gl @h1 @gt) ?_
   refine SO.appendT qS qS qS (qSf (Q6 @gl @gt @h1 @gx @ox @tx)) (qSf @e0) ?_
   refine qW ?_
   refine retIQ_ret _ _ _ Try.results56 qS fin ?_
   exact qM
  ·refine qWf (Q4 @b0 @gl @h1 @gt) ?_
   refine SO.appendT qS qS qS (qSf (Q6 @gl @gt @h1 @gx @ox @tx)) (qSf @e0) ?_
   refine qW ?_
   refine retIQ_ret _ _ _ Try.results56 qS fin ?_
   exact qM
 ·have b1 : ((i : Int) == (C.length : Int)) = false := by rw [beq_eq_false_iff_ne]; omega
  have m1 : (C.length : Int) + ((1 : Nat) : Int) - (i : Int) = ((C.length + 1 - i : Nat) : Int) := by omega
  have m2 : ((i : Int) + ((1 : Nat) : Int)).toNat = i + 1 := by omega
  have m3 : ((C.length : Int) + ((1 : Nat) : Int)).toNat = C.length + 1 := by omega
  have gj : (cxs C ++ [V.junk, V.junk, V.junk]).length = 3 * C.length + 3 := by rw [zl1, gl]; rfl
  have gdl : ((cxs C).drop (i * 3)).length = (C.length - i) * 3 := by rw [List.length_drop, gl]; omega
  have gtd : ((cxs C).drop (i * 3)).take ((C.length - i) * 3) = (cxs C).drop (i * 3) := zla (by omega)
  have gta : ((cxs C).take (i * 3)).length = i * 3 := by rw [List.length_take, gl]; omega
  have gda : ((cxs C).drop (i * 3)).all V.one = true := List.all_eq_true.2 fun y hy => List.all_eq_true.1 h1 y (List.mem_of_mem_drop hy)
  have eG : setAll (setAll ((cxs C).take (i * 3) ++ reps (C.length + 1 - i) [V.sc (Value.int IntKind.i64 0), V.sc (Value.int IntKind.i64 0), V.sc (Value.slice none 0 0)]) (i * 3) (cxC x)) ((i + 1) * 3) ((cxs C).drop (i * 3)) = cxs (insAt C i x) := by
   rw [eL]; refine seg_fwd gta (by rw [gx]; omega) ?_
   rw [gx, gdl, reps_eq]; simp; omega
  have eS : (((cxs C ++ [V.junk, V.junk, V.junk]).drop (i * 3)).take ((C.length + 1 - i) * 3)).take ((C.length - i) * 3) = (cxs C).drop (i * 3) := by
   rw [List.take_take, Nat.min_eq_left (by omega), List.drop_append_of_le_length (by omega), List.take_append_of_le_length (by omega), gtd]
  have eR : setAll (setAll (cxs C ++ [V.junk, V.junk, V.junk]) ((i + 1) * 3) ((cxs C).drop (i * 3))) (i * 3) (cxC x) = cxs (insAt C i x) := by
   rw [eL, seg_bwd (by rw [gx]; omega) (by rw [gj, gdl]; omega), List.take_append_of_le_length (by omega)]
  have m4 : i + (C.length + 1 - i) = C.length + 1 := by omega
  have fin2 : ∀ q cap nx, q < nx → InsQ C i x (.sl q 0 (C.length + 1) 3 cap) [(q, ⟨39, cxs (insAt C i x), false⟩)] nx := fun q cap nx h => ⟨q, cap, h, rfl, rfl⟩
  by_cases h2 : c < C.length + 1
  ·have b2 : decide ((c : Int) < (C.length : Int) + ((1 : Nat) : Int)) = true := decide_eq_true (by omega)
   refine qWf (Q6 @b0 @b1 @b2 @gl @h1 @m1) ?_
   refine SO.appendGrowZ (C.length + 1 - i) qS qS qS qS (by kernel_rfl) qS ?_ (qSf @m4) ?_
   ·refine ⟨rfl, ?_, ?_, ?_, ?_, ?_, ?_⟩ <;> first | omega | (show i * 3 ≤ (cxs C).length; omega)
   refine qWf (Q2 @m2 @orT) ?_
   refine SO.copyZ 1 qS qS qS (qSf (Q2 @gx @tx)) qS (by omega) ?_ qS ?_
   ·refine ⟨znb 3, rfl, ?_, ox, by omega, by omega⟩
    show i * 3 + (C.length + 1 - i) * 3 ≤ ((cxs C).take (i * 3) ++ reps (C.length + 1 - i) _).length
    rw [zl1, gta, reps_eq]; simp
   refine qUf (Q2 @m2 @orT) ?_
   refine SC.drawT 8 (by simp only [zl3, zl4]; rfl) (by simp only [zl9, zl2]; rfl) Tab.mixed ?_ (by kernel_rfl) ?_
   ·simp (disch := omega) only [go_sem, ↓reduceIte, zn1, zn2, zn3, zn4, zn5, zn6, reduceCtorEq, zn7, zi1, zi2, if_pos, if_neg, Int.reduceAdd, zn8, zna, Nat.zero_mul, Nat.add_zero, zn9, Nat.sub_zero, zl2, zl4, zl3, zl9, zl7, zl8, List.append_nil, List.take_length, List.take_nil, List.drop_nil, List.length_nil, List.length_set, List.length_replicate, List.flatten_nil, List.flatten_cons, Bool.not_true, Bool.not_false, Bool.false_eq_true, Bool.or_true, Bool.true_or, Bool.or_false, Bool.or_self, bne_self_eq_false, beq_self_eq_true]
    intro id q hq
    repeat' (split at hq)
    all_goals first | omega | cases hq
   refine qWf (Q2 @m2 @orT) ?_
   show SO _ _ _ _ _ _ _
   refine SO.copyZ (C.length - i) qS qS qS (qSf @gl) qS (by omega) ?_ qS ?_
   ·rw [gtd]
    refine ⟨by omega, rfl, ?_, by rw [gtd]; exact gda, by omega, by omega⟩
    show (i + 1) * 3 + (C.length + 1 - (i + 1)) * 3 ≤ (setAll ((cxs C).take (i * 3) ++ reps (C.length + 1 - i) _) _ _).length
    rw [setAll_length, zl1, gta, reps_eq]; simp; omega
   refine qW ?_
   refine retIQ_ret _ _ _ Try.results56 qS (fin2 3 none 4 (by omega)) ?_
   rw [gtd, gtd, tx, eG]
   exact qM
  ·have b2 : decide ((c : Int) < (C.length : Int) + ((1 : Nat) : Int)) = false := decide_eq_false (by omega)
   refine qWf (Q8 @b0 @b1 @b2 @gl @h1 @m2 @m3 @orT) ?_
   refine SO.overlaps (tS := 24) (tR := 4) Try.func80 (by kernel_rfl) (by kernel_rfl) (by kernel_rfl) (by kernel_rfl) qS qS qS qS qS qS (by decide) ?_ qS ?_
   ·show 0 < (cxs C).length; omega
   refine qU ?_
   refine SC.weak (by simp) (Le.junk (t := 0) (m := 3) qS ?_ qS ?_) ?_
   ·omega
   ·show (cxs C).length + 3 ≤ 0 + c * 3; omega
   refine SC.drawT 8 (by simp only [zl3, zl4]; rfl) (by simp only [zl9, zl2]; rfl) Tab.mixed ?_ (by kernel_rfl) ?_
   ·simp (disch := omega) only [go_sem, ↓reduceIte, zn1, zn2, zn3, zn4, zn5, zn6, reduceCtorEq, zn7, zi1, zi2, if_pos, if_neg, Int.reduceAdd, zn8, zna, Nat.zero_mul, Nat.add_zero, zn9, Nat.sub_zero, zl2, zl4, zl3, zl9, zl7, zl8, List.append_nil, List.take_length, List.take_nil, List.drop_nil, List.length_nil, List.length_set, List.length_replicate, List.flatten_nil, List.flatten_cons, Bool.not_true, Bool.not_false, Bool.false_eq_true, Bool.or_true, Bool.true_or, Bool.or_false, Bool.or_self, bne_self_eq_false, beq_self_eq_true]
    intro id q hq
    repeat' (split at hq)
    all_goals first | omega | cases hq
   refine qWf (Q2 @m2 @orT) ?_
   show SO _ _ _ _ _ _ _
   refine SO.copyZ (C.length - i) qS qS qS (qSf @gj) qS (by omega) ?_ qS ?_
   ·rw [eS]
    refine ⟨?_, rfl, ?_, gda, by omega, by omega⟩
    ·simp only [List.length_take, List.length_drop, gj]; omega
    ·show (i + 1) * 3 + (C.length + 1 - (i + 1)) * 3 ≤ (cxs C ++ _).length
     rw [gj]; omega
   refine qWf (Q2 @m2 @orT) ?_
   refine SO.copyZ 1 qS qS qS (qSf (Q2 @gx @tx)) qS (by omega) ?_ qS ?_
   ·refine ⟨znb 3, rfl, ?_, ox, by omega, by omega⟩
    show i * 3 + (C.length + 1 - i) * 3 ≤ (setAll (cxs C ++ _) _ _).length
    rw [setAll_length, gj]; omega
   refine qWf @m2 ?_
   refine retIQ_ret _ _ _ Try.results56 qS (fin2 1 (some c) 3 (by omega)) ?_
   rw [eS, tx, eR]
   exact qM
end Go.Proofs.Ytdkkgndibagihaa
namespace Go.Proofs.Ytdkkgndibagihaa
open Go.RowKit
def delAt (C : List Cx) (i : Nat) : List Cx := C.take i ++ C.drop (i + 1)
theorem cxs_delAt (C : List Cx) (i : Nat) : cxs (delAt C i) = (cxs C).take (i * 3) ++ (cxs C).drop ((i + 1) * 3) := by
 have e1 : (cxs C).take (i * 3) = cxs (C.take i) := fm_take cxC_len C i
 have e2 : (cxs C).drop ((i + 1) * 3) = cxs (C.drop (i + 1)) := fm_dropL cxC_len C (i + 1)
 rw [e1, e2]; unfold delAt cxs; simp
theorem seg_end {L Z : List V} {b : Nat} (h : b + Z.length = L.length) : setAll L b Z = L.take b ++ Z := by
 rw [setAll_seg _ _ _ (by omega), List.drop_of_length_le (by omega), List.append_nil]
def DelQ (C : List Cx) (i : Nat) : V → List (Nat × Blk) → Nat → Prop := fun y hp' nx' => ∃ q c Z, q < nx' ∧ y = .sl q 0 (C.length - 1) 3 c ∧ hp' = [(q, ⟨39, cxs (delAt C i) ++ Z, false⟩)]
set_option maxHeartbeats 4000000 in
theorem delete_w {C : List Cx} {i : Nat} (hl : C.length ≤ 1000) (hi : i < C.length) : InlQ Try.prog 58 [.sl 0 0 C.length 3 none, .sc (.int .i64 (i : Nat)), .sc (.int .i64 ((i : Nat) + 1))]
  [(0, ⟨39, cxs C, false⟩)] 1 (DelQ C i) := by
 have gl := cxs_len C
 have h1 := cxs_one C
 have gc := cxs_clo C
 have eL := cxs_delAt C i
 refine InlQ.run Try.func58 rfl Try.ntmps58 (by simp) qT fun B hB => ?_
 refine SC.capOf (t := 0) (by simp) qS fun c hc hcm => ?_
 have b1 : ((i : Int) == (i : Int) + 1) = false := by rw [beq_eq_false_iff_ne]; omega
 have m2 : ((i : Int) + 1).toNat = i + 1 := by omega
 have gdl : ((cxs C).drop ((i + 1) * 3)).length = (C.length - (i + 1)) * 3 := by rw [List.length_drop, gl]; omega
 have gtd : ((cxs C).drop ((i + 1) * 3)).take ((C.length - (i + 1)) * 3) = (cxs C).drop ((i + 1) * 3) := zla (by omega)
 have gta : ((cxs C).take (i * 3)).length = i * 3 := by rw [List.length_take, gl]; omega
 have gda : ((cxs C).drop ((i + 1) * 3)).all V.one = true := List.all_eq_true.2 fun y hy => List.all_eq_true.1 h1 y (List.mem_of_mem_drop hy)
 have z2 : C.length - (C.length - 1) = 1 := by omega
 by_cases hn : i + 1 = C.length
 ·have z0 : C.length - (i + 1) = 0 := by omega
  have z1 : C.length - i = 1 := by omega
  have eE : (cxs C).take (i * 3) = cxs (delAt C i) := by rw [eL, List.drop_of_length_le (by omega), List.append_nil]
  refine qUf (Q5 @b1 @gl @h1 @m2 @orT) ?_
  refine SC.drawT 6 (by simp only [zl3, zl4]; rfl) (by simp only [zl9, zl2]; rfl) Tab.mixed ?_ (by kernel_rfl) ?_
  ·simp (disch := omega) only [go_sem, ↓reduceIte, zn1, zn2, zn3, zn4, zn5, zn6, reduceCtorEq, zn7, zi1, zi2, if_pos, if_neg, Int.reduceAdd, zn8, zna, Nat.zero_mul, Nat.add_zero, zn9, Nat.sub_zero, zl2, zl4, zl3, zl9, zl7, zl8, List.append_nil, List.take_length, List.take_nil, List.drop_nil, List.length_nil, List.length_set, List.length_replicate, List.flatten_nil, List.flatten_cons, Bool.not_true, Bool.not_false, Bool.false_eq_true, Bool.or_true, Bool.true_or, Bool.or_false, Bool.or_self, bne_self_eq_false, beq_self_eq_true]
   intro id q hq
   repeat' (split at hq)
   all_goals first | omega | cases hq
  refine qWf (Q2 @m2 @orT) ?_
  show SO _ _ _ _ _ _ _
  refine SO.appendNone qS qS qS (qSf @z0) qS ?_
  refine qWf (Q3 @m2 @orT @z1) ?_
  refine SO.clearZ qS qS qS qS ?_ qS ?_
  ·exact ⟨rfl, rfl, by show i * 3 + 1 * 3 ≤ (cxs C).length; omega, rfl, by omega⟩
  refine qWf (Q2 @m2 @orT) ?_
  refine retIQ_ret _ _ _ Try.results58 qS (⟨0, some c, _, by omega, by rw [← hn, Nat.add_sub_cancel], rfl⟩ : DelQ C i (.sl 0 0 i 3 (some c)) [(0, ⟨39, cxs (delAt C i) ++ reps 1 [V.sc (Value.int IntKind.i64 0), V.sc (Value.int IntKind.i64 0), V.sc (Value.slice none 0 0)], false⟩)] 1) ?_
  rw [seg_end (by show i * 3 + 3 = (cxs C).length; omega), eE]
  exact qM
 ·have z1 : C.length - (i + (C.length - (i + 1))) = 1 := by omega
  have m5 : i + (C.length - (i + 1)) = C.length - 1 := by omega
  have gL : ((cxs C).take (i * 3) ++ (cxs C).drop ((i + 1) * 3) ++ (cxs C).drop ((C.length - 1) * 3)).length = 3 * C.length := by simp only [zl1, gta, gdl, List.length_drop, gl]; omega
  have eE : (((cxs C).take (i * 3) ++ (cxs C).drop ((i + 1) * 3) ++ (cxs C).drop ((C.length - 1) * 3))).take ((C.length - 1) * 3) = cxs (delAt C i) := by
   rw [eL, List.take_append_of_le_length (by simp only [zl1, gta, gdl]; omega), zla (by simp only [zl1, gta, gdl]; omega)]
  refine qUf (Q5 @b1 @gl @h1 @m2 @orT) ?_
  refine SC.drawT 6 (by simp only [zl3, zl4]; rfl) (by simp only [zl9, zl2]; rfl) Tab.mixed ?_ (by kernel_rfl) ?_
  ·simp (disch := omega) only [go_sem, ↓reduceIte, zn1, zn2, zn3, zn4, zn5, zn6, reduceCtorEq, zn7, zi1, zi2, if_pos, if_neg, Int.reduceAdd, zn8, zna, Nat.zero_mul, Nat.add_zero, zn9, Nat.sub_zero, zl2, zl4, zl3, zl9, zl7, zl8, List.append_nil, List.take_length, List.take_nil, List.drop_nil, List.length_nil, List.length_set, List.length_replicate, List.flatten_nil, List.flatten_cons, Bool.not_true, Bool.not_false, Bool.false_eq_true, Bool.or_true, Bool.true_or, Bool.or_false, Bool.or_self, bne_self_eq_false, beq_self_eq_true]
   intro id q hq
   repeat' (split at hq)
   all_goals first | omega | cases hq
  refine qWf (Q2 @m2 @orT) ?_
  show SO _ _ _ _ _ _ _
  refine SO.appendRoom qS qS qS (qSf @gl) qS ?_ ?_ (qSf (Q2 @m5 @gtd)) ?_
  ·rw [gtd]; exact gda
  ·rw [gtd]; exact ⟨gdl, rfl, rfl, rfl, by show i * 3 ≤ (cxs C).length; omega, by omega, by omega, by omega⟩
  refine qWf (Q4 @m2 @orT @z1 @z2) ?_
  refine SO.clearZ qS qS qS qS ?_ qS ?_
  ·refine ⟨rfl, rfl, ?_, rfl, by omega⟩
   show (C.length - 1) * 3 + 1 * 3 ≤ List.length _
   rw [gL]; omega
  refine qWf (Q2 @m2 @orT) ?_
  refine retIQ_ret _ _ _ Try.results58 qS (⟨0, some c, _, by omega, rfl, rfl⟩ : DelQ C i (.sl 0 0 (C.length - 1) 3 (some c)) [(0, ⟨39, cxs (delAt C i) ++ reps 1 [V.sc (Value.int IntKind.i64 0), V.sc (Value.int IntKind.i64 0), V.sc (Value.slice none 0 0)], false⟩)] 1) ?_
  rw [seg_end (by rw [gL]; show (C.length - 1) * 3 + 3 = _; omega), eE]
  exact qM
end Go.Proofs.Ytdkkgndibagihaa
namespace Go.Proofs.Ytdkkgndibagihaa
open Go.RowKit
variable {P : Program}
theorem retIQ.mono {fn : Func} {B : Base} {Q Q' : V → List (Nat × Blk) → Nat → Prop} (h : ∀ y hp nx, Q y hp nx → Q' y hp nx) {e : Exit} {s : SS} (hr : retIQ P fn B Q e s) : retIQ P fn B Q' e s := by
 cases e <;> first | exact hr.elim | exact (let ⟨y, x, hp, nx, h1, h2, h3⟩ := hr; ⟨y, x, hp, nx, h1, h _ _ _ h2, h3⟩)
theorem InlQ.mono {f : Nat} {args : List V} {hp : List (Nat × Blk)} {nx : Nat} {Q Q' : V → List (Nat × Blk) → Nat → Prop} (hI : InlQ P f args hp nx Q) (h : ∀ y hp nx, Q y hp nx → Q' y hp nx) : InlQ P f args hp nx Q' := by
 obtain ⟨fn, c, h1, h2, h3, h4⟩ := hI
 refine ⟨fn, c, h1, h2, h3, h4.imp (fun h4 B hB => SWp.mono (h4 B hB) fun e s => retIQ.mono h) ?_⟩
 rintro ⟨s1, rest, h5, h6⟩
 exact ⟨s1, rest, h5, fun B hB => SWp.mono (h6 B hB) fun e s => retIQ.mono h⟩
theorem AppC.of {f id : Nat} {ys : List V} {k k' : Blk} {off len z : Nat} {cap : Option Nat} (hl : 0 < len) (hfz : k'.fz = false) (hsc2 : ∀ y ∈ k'.cs, ∃ v, y = .sc v)
  (hI : ∀ nx, id < nx → InlQ P f ys [(id, k)] nx fun y hp' nx' => ∃ q, q < nx' ∧ y = .sl q off len z cap ∧ hp' = [(q, k')]) : AppC P f ys id k off len z cap k' := by
 intro B S rho A w vs m hm hA hv
 have hb : ∀ j, A j → j < m + id + 1 := fun j hj => by have := hA j hj; omega
 refine ((hI (m + id + 1) (by omega)).callsI hm hb hv).mono ?_
 rintro e w' ⟨v, rfl, x, hp', nx', S', rho', A', ⟨q, hq, rfl, rfl⟩, h1, h2, h3, h4, h5⟩
 have hk : hget [(q, k')] q = some k' := by simp [hget]
 have hL : ∀ b, (Base.inner S rho A [(id, k)] w).L b → A id ∧ rho id = b := by
  rintro b ⟨i, kk, hi, ha, hr⟩
  simp only [hget] at hi
  split at hi
  ·rename_i e; subst e; exact ⟨ha, hr⟩
  ·cases hi
 cases h5 with
 | sln h => omega
 | sl h0 hl' hm' hc hz =>
  refine ⟨_, rho' q, rfl, ⟨h3.frame.os, h3.frame.tape, h3.frame.output, h3.frame.size, fun b hb hn => h3.frame.block b hb (fun h => hn (hL b h)), hm.innerSz h3.frame⟩, fun b hb => (h1 b hb).2, (h3.own q k' hk h0).imp (fun h => h) (hL _), fun h => h3.fz q k' hk h0 hfz (h1 _ h).1, ?_, .sl rfl hl' hm' hc hz⟩
  obtain ⟨cells, c1, c2⟩ := h3.cells q k' hk h0
  refine ⟨cells, c1, fun i x hx => ?_⟩
  obtain ⟨u, hu, hr⟩ := c2 i x hx
  obtain ⟨v, rfl⟩ := hsc2 x (List.mem_of_getElem? hx)
  cases hr
  exact ⟨_, hu, .sc _⟩
section
variable {B : Base} {s : SS}
end
end Go.Proofs.Ytdkkgndibagihaa
namespace Go.Proofs.Ytdkkgndibagihaa
open Go.RowKit
variable {P : Program} {B : Base}
theorem only_true : ∀ x : V, Only (fun _ => True) x
 | .sc v => .sc v
 | .ag cs => .ag fun x _ => only_true x
 | .tu cs => .tu fun x _ => only_true x
 | .pt _ _ => .pt trivial
 | .sl _ _ _ _ _ => .sl trivial
 | .im cs n => .im cs n
 | .pi cs => .pi cs
 | .fn _ a b => .fn (fun x _ => only_true x) (fun x _ => only_true x)
 | .mp _ _ _ _ => .mp trivial
 | .junk => .junk
theorem onlyH_true : ∀ l : List (Nat × Blk), OnlyH (fun _ => True) l
 | [] => trivial
 | _ :: r => ⟨fun y _ => only_true y, onlyH_true r⟩
theorem restH_self (l : List (Nat × Blk)) : restH l l = [] := by
 have h : ∀ i, hasId (restH l l) i = false := fun i => by rw [hasId_rest]; cases hasId l i <;> rfl
 cases e : restH l l with
 | nil => rfl
 | cons p r =>
  have := h p.1
  rw [e] at this
  simp [hasId] at this
theorem SInlQ.all {ops : Array Oper} {l : List Oper} {cs : List Code} {Q : Exit → SS → Prop} {f : Nat} {ys : List V} {d : Option Nat} {hp : List (Nat × Blk)} {nx nt : Nat} {sl : List (Nat × V)} {C : V → List (Nat × Blk) → Nat → Prop} (hI : InlQ P f ys hp nx C)
  (k : ∀ x hp' nx', C x hp' nx' → SO P B ops l cs Q ⟨putS sl d x, hp', nx', nt⟩) : SInlQ P B f ys d ops l cs Q ⟨sl, hp, nx, nt⟩ := by
 have hr : ∀ i : Nat, True → hasId (restH hp hp) i = false := fun i _ => by rw [restH_self]; rfl
 refine ⟨hp, C, fun _ _ h => h, hI, fun x hp' nx' hC => ⟨(only_true x).mono hr, (onlyH_true hp').mono hr, ?_⟩⟩
 have := k x hp' nx' hC
 show SO P B ops l cs Q ⟨putS sl d x, hp' ++ restH hp hp, nx', nt⟩
 rwa [restH_self, List.append_nil]
theorem NewP.ofQ {f : Nat} {args : List V} {k : Blk} {len z : Nat} (hsc : ∀ y ∈ k.cs, ∃ v, y = .sc v) (hI : InlQ P f args [] 0 fun y hp' nx' => ∃ q, q < nx' ∧ y = .sl q 0 len z none ∧ hp' = [(q, k)]) : NewP P f args k 0 len z none := by
 refine ⟨rx_sl 0 len z none, ?_⟩
 intro S w vs hS hT hargs
 have hm : Mem ⟨w, S, fun _ => False, fun _ => 0, fun _ => False, []⟩ S (fun _ => 0) (fun _ => False) [] w := {
  cells := fun id k hk => by cases hk
  fz := fun id k hk => by cases hk
  own := fun id k hk => by cases hk
  inj := fun id id' k k' hk => by cases hk
  slt := hS
  sub := fun _ h => h
  base := fun _ h => .inl h
  frame := ⟨rfl, rfl, rfl, znb _, fun _ _ _ => rfl, fun _ _ => rfl, fun _ _ h => h, hS, hT⟩
  keep := fun id h => h.elim }
 refine (hI.callsI hm (fun _ h => h.elim) (vs := vs) hargs).mono ?_
 rintro e w' ⟨v, rfl, x, hp', nx', S', rho', A', ⟨q, hq, rfl, rfl⟩, h1, h2, h3, h4, h5⟩
 have hL : ∀ b, ¬ (Base.inner S (fun _ => 0) (fun _ => False) [] w).L b := by
  rintro b ⟨i, kk, hi, ha, hr⟩
  cases hi
 have hk : hget [(q, k)] q = some k := by simp [hget]
 refine ⟨v, rfl, ⟨h3.frame.os, h3.frame.tape, h3.frame.output, h3.frame.size, fun b hb => h3.frame.block b hb (hL b)⟩, ?_⟩
 cases h5 with
 | sln h => exact .inr fun S rho w A id => .sln h
 | sl h0 hl' hm' hc hz =>
  refine .inl ⟨rho' q, fun _ => False, ?_, fun _ h => h.elim, fun h => h, ?_, .sl rfl hl' hm' hc hz⟩
  ·exact (h3.own q k hk h0).elim (fun h => h) (fun h => (hL _ h).elim)
  ·obtain ⟨cells, c1, c2⟩ := h3.cells q k hk h0
   refine ⟨cells, c1, fun i x hx => ?_⟩
   obtain ⟨u, hu, hr⟩ := c2 i x hx
   obtain ⟨v, rfl⟩ := hsc x (List.mem_of_getElem? hx)
   cases hr
   exact ⟨_, hu, .sc _⟩
end Go.Proofs.Ytdkkgndibagihaa
namespace Go.Proofs.Ytdkkgndibagihaa
open Go.RowKit
theorem facesL_fits {C : List Cx} {x : Cx} {e : Int} (h : FitsP C x e) : facesL C x = if e = 251 ∨ e = 260 then e else 0 := by
 have hz := @faces_zero C x
 have key : (facesL C x = 251 ∧ ¬ (VG none x.b ∧ Ther C x.b)) ∨ ((VG none x.b ∧ Ther C x.b) ∧ (facesL C x = 0 ∨ facesL C x = 260)) := by
  unfold facesL
  have he : (if x.dim < 0 ∨ 3 < x.dim then (260 : Int) else 0) = 0 ∨ (if x.dim < 0 ∨ 3 < x.dim then (260 : Int) else 0) = 260 := by split <;> simp
  rcases facesG_eq (C := C) (d := x.dim) (l := x.b) (p := none) he with ⟨h1, h2⟩ | ⟨h2, ⟨h3, h4⟩ | ⟨h3, h4⟩⟩
  ·exact .inl ⟨h1, h2⟩
  ·exact .inr ⟨h2, .inl h3⟩
  ·exact .inr ⟨h2, .inr h3⟩
 rcases h with ⟨h1, h2⟩ | ⟨h2, ⟨h1, h3⟩ | ⟨h3, ⟨h1, h4⟩ | ⟨h1, h4⟩⟩⟩
 ·rcases key with ⟨k1, k2⟩ | ⟨k1, _⟩
  ·rw [k1, if_pos (.inl h1), h1]
  ·exact absurd k1 h2
 ·rcases key with ⟨k1, k2⟩ | ⟨k1, k2 | k2⟩
  ·exact absurd h2 k2
  ·exact absurd (hz.1 k2) h3
  ·rw [k2, if_pos (.inr h1), h1]
 ·rw [hz.2 h3, if_neg (by omega)]
 ·rw [hz.2 h3, if_neg (by omega)]
theorem clonecx_q {C : List Cx} (hl : C.length ≤ 1000) : NewX Try.prog 57 [cxV C] ⟨39, cxs C, false⟩ (fun id => .sl id 0 C.length 3 none) false :=
 NewX.ofQ (cxs_clo C) rfl (InlQ.mono (clonecx_s 0 hl).toQ fun y hp nx h => ⟨0, by omega, h.1, h.2.1⟩)
set_option maxHeartbeats 8000000 in
set_option maxRecDepth 8000 in
theorem insert_s {C : List Cx} {x : Cx} {K : Nat} {e : Int} (hs : Srt C) (hC : CxOk K C) (hx : CxK K x) (hK : K ≤ 100000000000) (he : FitsP C x e) :
  Spec Try.prog 30 [cxV C, .ag (cxC x)] (insV C x e) := by
 have hCl := hC.len
 have c1 := place_s (id := x.id) hs hCl
 have c2 := faces_s hs hC hx hK
 rw [facesL_fits he] at c2
 have ef : decide (lbn C x.id < C.length ∧ (C.getD (lbn C x.id) cx0).id = x.id) = (findL C x.id).isSome := by
  rw [find_lbn hs]
  by_cases h : lbn C x.id < C.length ∧ (C.getD (lbn C x.id) cx0).id = x.id
  ·rw [decide_eq_true h, if_pos h]; rfl
  ·rw [decide_eq_false h, if_neg h]; rfl
 rw [ef] at c1
 have c3 := fun h => closed_s (l := x.b) hs hC hx.len h hK
 have c4 := clonech_s hx.len
 have c5 := clonecx_q hCl
 have hE : (insE C x e = 253 ∧ (findL C x.id).isSome = true) ∨ (findL C x.id).isSome = false ∧ ((insE C x e = e ∧ e ≠ 0) ∨ (e = 0 ∧ ((insE C x e = 2 ∧ 400 ≤ C.length) ∨ (insE C x e = 0 ∧ ¬ 400 ≤ C.length)))) := by
  unfold insE
  cases (findL C x.id).isSome with
  | true => exact .inl ⟨rfl, rfl⟩
  | false =>
   refine .inr ⟨rfl, ?_⟩
   by_cases h : e = 0
   ·rw [if_neg (by simp), if_neg (by omega)]
    refine .inr ⟨h, ?_⟩
    by_cases h2 : 400 ≤ C.length
    ·exact .inl ⟨if_pos h2, h2⟩
    ·exact .inr ⟨if_neg h2, h2⟩
   ·rw [if_neg (by simp), if_pos h]; exact .inl ⟨rfl, h⟩
 have c6 := insert_w (x := x) hCl (lbn_le C x.id)
 have hfin : cxs (insAt C (lbn C x.id) x) = cxs (insL C x) := rfl
 have hlen : (insL C x).length = C.length + 1 := ins_len C x
 have hl2 : insAt C (lbn C x.id) x = insL C x := rfl
 unfold insV
 generalize hie : insE C x e = ie at hE ⊢
 have hcl : FacesOk C x → ∀ f ∈ x.b, (∃ z, f.2 = some z) ∧ Fits K (cv f.2) := fun h f hf => ⟨(h.vg.mem f hf).imp fun z hz => hz.1, hx.cf f hf⟩
 rcases hE with ⟨rfl, hu⟩ | ⟨hu, hE⟩
 ·rw [hu] at c1
  rw [if_neg (by omega)]
  clear c2 c3 c4 c5 c6 hlen hl2 hfin hcl
  obtain ⟨id, dim, b⟩ := x
  simp only at c1 ⊢
  generalize lbn C id = at_ at *
  unfold cxV cxC at *
  simp only at c1 ⊢
  refine qF Try.func30 Try.ntmps30 fun B hB => ?_
  refine qW ?_
  exact qE Try.results30
 rw [hu] at c1
 rcases he with ⟨h1, h2⟩ | ⟨h2, ⟨h1, h3⟩ | ⟨h3, ⟨h1, h4⟩ | ⟨h1, h4⟩⟩⟩
 ·rw [if_pos (.inl h1)] at c2
  have hie2 : ie = 251 := by omega
  subst hie2; subst h1
  rw [if_neg (by omega)]
  clear c3 hcl
  clear c6 c5 hlen hl2 hfin
  obtain ⟨id, dim, b⟩ := x
  simp only at c1 c2 c4 ⊢
  generalize lbn C id = at_ at *
  unfold cxV chV cxC at *
  simp only at c1 c2 c4 ⊢
  refine qF Try.func30 Try.ntmps30 fun B hB => ?_
  refine qW ?_
  exact qE Try.results30
 ·rw [if_pos (.inr h1)] at c2
  have hie2 : ie = 260 := by omega
  subst hie2; subst h1
  rw [if_neg (by omega)]
  clear c3 hcl
  clear c6 c5 hlen hl2 hfin
  obtain ⟨id, dim, b⟩ := x
  simp only at c1 c2 c4 ⊢
  generalize lbn C id = at_ at *
  unfold cxV chV cxC at *
  simp only at c1 c2 c4 ⊢
  refine qF Try.func30 Try.ntmps30 fun B hB => ?_
  refine qW ?_
  exact qE Try.results30
 ·rw [if_neg (by omega)] at c2
  have hie2 : ie = 252 := by omega
  obtain ⟨r, c3', hr⟩ := c3 (hcl h3)
  have hr2 : r = false := by
   cases r with
   | false => rfl
   | true => exact absurd (hr.1 rfl) h4
  subst hr2; subst hie2; subst h1
  rw [if_neg (by omega)]
  clear c3 hcl hr
  clear c6 c5 hlen hl2 hfin
  obtain ⟨id, dim, b⟩ := x
  simp only at c1 c2 c3' c4 ⊢
  generalize lbn C id = at_ at *
  unfold cxV chV cxC at *
  simp only at c1 c2 c3' c4 ⊢
  refine qF Try.func30 Try.ntmps30 fun B hB => ?_
  refine qW ?_
  exact qE Try.results30
 ·rw [if_neg (by omega)] at c2
  obtain ⟨r, c3', hr⟩ := c3 (hcl h3)
  have hr2 : r = true := hr.2 h4
  subst hr2; subst h1
  clear c3 hcl hr
  rcases hE with ⟨_, h0⟩ | ⟨_, ⟨hi2, h5⟩ | ⟨hi2, h5⟩⟩
  ·exact absurd rfl h0
  ·have q4 : decide ((C.length : Int) ≥ 400) = true := decide_eq_true (by omega)
   subst hi2
   rw [if_neg (by omega)]
   clear c6 c5 hlen hl2 hfin
   obtain ⟨id, dim, b⟩ := x
   simp only at c1 c2 c3' c4 ⊢
   generalize lbn C id = at_ at *
   unfold cxV chV cxC at *
   simp only at c1 c2 c3' c4 ⊢
   refine qF Try.func30 Try.ntmps30 fun B hB => ?_
   refine qWf @q4 ?_
   exact qE Try.results30
  ·have q4 : decide ((C.length : Int) ≥ 400) = false := decide_eq_false (by omega)
   subst hi2
   rw [if_pos rfl]
   have eV : cxV (insL C x) = .im (cxs (insL C x)) (C.length + 1) := by unfold cxV; rw [hlen]
   rw [eV]
   clear eV
   have gL := cxs_len (insL C x)
   rw [hlen] at gL
   unfold InsQ at c6
   rw [hl2] at c6
   have hcC := cxs_clo (insL C x)
   generalize insL C x = L at *
   clear hl2 hfin hlen
   obtain ⟨id, dim, b⟩ := x
   simp only at c1 c2 c3' c4 c6 ⊢
   generalize lbn C id = at_ at *
   unfold cxV chV cxC at *
   simp only at c1 c2 c3' c4 c5 c6 ⊢
   refine qF Try.func30 Try.ntmps30 fun B hB => ?_
   refine qUf @q4 ?_
   refine SC.drawT 5 (by simp only [zl3, zl4]; rfl) (by simp only [zl9, zl2]; rfl) Tab.mixed ?_ (by kernel_rfl) ?_
   ·simp (disch := omega) only [go_sem, ↓reduceIte, zn1, zn2, zn3, zn4, zn5, zn6, reduceCtorEq, zn7, zi1, zi2, if_pos, if_neg, Int.reduceAdd, zn8, zna, Nat.zero_mul, Nat.add_zero, zn9, Nat.sub_zero, zl2, zl4, zl3, zl9, zl7, zl8, List.append_nil, List.take_length, List.take_nil, List.drop_nil, List.length_nil, List.length_set, List.length_replicate, List.flatten_nil, List.flatten_cons, Bool.not_true, Bool.not_false, Bool.false_eq_true, Bool.or_true, Bool.true_or, Bool.or_false, Bool.or_self, bne_self_eq_false, beq_self_eq_true]
    intro id q hq
    repeat' (split at hq)
    all_goals first | omega | cases hq
   refine DO.run qT ?_
   refine DO.callN Tab.go57 qS qS ?_
   refine DNew.ofX c5 rfl qT ?_
   refine qW ?_
   show SO _ _ _ _ _ _ _
   refine SO.weakL (s' := ⟨[(36, .sl 1 0 C.length 3 none), (37, .sc (.int .i64 (at_ : Nat))), (39, .sl 2 0 1 3 (some 1))], [(2, ⟨39, [.sc (.int .i64 id), .sc (.int .i64 dim), .im (fcs b) b.length], false⟩), (1, ⟨39, cxs C, false⟩)], 3, 41⟩) ?_ ?_
   ·exact qLc
   refine SO.inlQ qS (by rfl) qS qS (SInlQ.all c6 ?_)
   rintro y hp' nx' ⟨q, c, hq, rfl, rfl⟩
   have gt : (cxs L).take ((C.length + 1) * 3) = cxs L := zla (by omega)
   refine qW ?_
   exact retQ_ret Try.results30 qS (qSf (Q3 @gL @gt @hcC)) rfl
end Go.Proofs.Ytdkkgndibagihaa
namespace Go.Proofs.Ytdkkgndibagihaa
open Go.RowKit
def bxV (n : Nat) : List V := (List.range n).map fun j => .sc (.int .i64 (j : Nat))
theorem bxV_succ (n : Nat) : bxV (n + 1) = bxV n ++ [.sc (.int .i64 (n : Nat))] := by simp [bxV, List.range_succ]
theorem bxV_get {n j : Nat} (h : j < n) : (bxV n)[j]? = some (.sc (.int .i64 (j : Nat))) := by simp [bxV, h]
theorem idsL_nodup : ∀ {C : List Cx} (k : Int), C.Pairwise (fun a b => a.id < b.id) → (idsL C k).Nodup
 | C, k, h => by
  unfold idsL
  rw [List.Nodup, List.pairwise_map]
  exact (h.filter _).imp fun h => by omega
theorem Srt.pw {C : List Cx} (h : Srt C) : C.Pairwise (fun a b => a.id < b.id) := by
 rw [List.pairwise_iff_getElem]
 intro i j hi hj hij
 have := h i j hij hj
 rw [List.getD_eq_getElem?_getD, List.getD_eq_getElem?_getD, zlb hi, zlb hj] at this
 exact this
theorem bx_put {ids : List Int} (hn : ids.Nodup) {i : Nat} (hi : i < ids.length) : mputK (ids.take i) (ids.getD i 0) = ids.take (i + 1) ∧ mputV (ids.take i) (bxV i) (ids.getD i 0) (.sc (.int .i64 (i : Nat))) = bxV (i + 1) := by
 have hk : kix (ids.take i) (ids.getD i 0) = none := kix_none.2 fun h => by
  obtain ⟨j, hj, e⟩ := List.getElem_of_mem h
  rw [List.length_take] at hj
  rw [List.getElem_take, List.getD_eq_getElem?_getD, zlb hi] at e
  have := (List.getElem_inj hn).1 (show ids[j] = ids[i] from e)
  omega
 constructor
 ·unfold mputK
  rw [hk, List.take_add_one, zlb hi, List.getD_eq_getElem?_getD, zlb hi]; rfl
 ·unfold mputV
  rw [hk, bxV_succ]
theorem bx_get {ids : List Int} (hn : ids.Nodup) (id : Int) : (∃ j, j < ids.length ∧ ids.getD j 0 = id ∧ mget ids (bxV ids.length) id = some (.sc (.int .i64 (j : Nat)))) ∨ (id ∉ ids ∧ mget ids (bxV ids.length) id = none) := by
 by_cases h : id ∈ ids
 ·obtain ⟨j, hj, e⟩ := List.getElem_of_mem h
  refine .inl ⟨j, hj, by rw [List.getD_eq_getElem?_getD, zlb hj]; exact e, ?_⟩
  unfold mget
  rw [kix_of hn (show ids[j]? = some id by rw [zlb hj, e]), Option.bind_some, bxV_get hj]
 ·refine .inr ⟨h, ?_⟩
  unfold mget
  rw [kix_none.2 h]; rfl
theorem VMap.mp {f : Nat → Nat} {D : Nat → Prop} {id id' b : Nat} {ks : List Int} {vs : List V} (h : f id' = id) (hD : D id') : VMap f D (.mp id b ks vs) (.mp id' b ks vs) := by
 intro S rho A w v hx
 subst h
 cases hx with
 | mp h hb hm hk hl hx => exact R.mp (S := S) (rho := fun i => rho (f i)) (w := w) ⟨hD, h⟩ hb hm hk hl fun i x e h1 h2 => (hx i x e h1 h2).mono (fun _ h => ⟨h, rfl⟩) (fun _ h => h.elim)
def pbT (C : List Cx) (k : Int) (ids : List Int) : List (List Int) := (C.filter fun x => decide (x.dim = k)).map fun x => rowL x.b ids
theorem pbT_cb {C : List Cx} (hV : VAL C) (k k' : Int) : pbT C k (idsL C k') = cbM C k k' := by
 unfold pbT cbM
 generalize idsL C k' = ids
 unfold idsL
 rw [List.map_map]
 refine List.map_congr_left fun x hx => ?_
 have h := List.mem_filter.1 hx
 show rowL x.b _ = rowL (bOf C x.id) _
 unfold bOf
 rw [hV.find h.1]; rfl
theorem pbT_take {C : List Cx} {i : Nat} (h : i < C.length) (k : Int) (ids : List Int) : pbT (C.take (i + 1)) k ids = pbT (C.take i) k ids ++ if (C.getD i cx0).dim = k then [rowL (C.getD i cx0).b ids] else [] := by
 rw [take_getD h]
 unfold pbT
 rw [List.filter_append, List.map_append]
 congr 1
 by_cases hd : (C.getD i cx0).dim = k
 ·rw [if_pos hd, List.filter_cons_of_pos (by simpa using hd)]; rfl
 ·rw [if_neg hd, List.filter_cons_of_neg (by simpa using hd)]; rfl
theorem rowR_step {x : Ch} {ids : List Int} {j t : Nat} {z : Int} (hv : VG none x) (hn : ids.Nodup) (hj : j < x.length) (ht : t < ids.length) (he : ids.getD t 0 = (x.getD j (0, some 0)).1) (hz : cv (x.getD j (0, some 0)).2 = z) : (rowR x ids j 0).set t z = rowR x ids (j + 1) 0 :=
 ilist_ext (by rw [List.length_set, rowR_len, rowR_len]) fun u hu => by
  rw [List.length_set, rowR_len] at hu
  have h1 := cfn_once hv hj
  have h2 := fun n => cfn_take hj n
  unfold rowR
  rw [mkR_get hu, List.getD_eq_getElem?_getD, if_neg (by omega), h2, hz]
  by_cases e : t = u
  ·subst e
   rw [List.getElem?_set_self (by rw [mkR_len]; exact ht), he, h1, if_pos rfl, Int.zero_add]; rfl
  ·rw [List.getElem?_set_ne e, ← List.getD_eq_getElem?_getD, mkR_get hu, if_neg (by omega), if_neg, Int.add_zero]
   intro h
   rw [← he, List.getD_eq_getElem?_getD, List.getD_eq_getElem?_getD, zlb ht, zlb hu] at h
   exact e ((List.getElem_inj hn).1 (show ids[t] = ids[u] from h))
theorem rowR_skip {x : Ch} {ids : List Int} {j : Nat} (hj : j < x.length) (he : (x.getD j (0, some 0)).1 ∉ ids) : rowR x ids j 0 = rowR x ids (j + 1) 0 := by
 unfold rowR
 refine mkR_congr fun t ht => ?_
 rw [if_neg (by omega), if_neg (by omega), cfn_take hj, if_neg, Int.add_zero]
 intro h
 exact he (h ▸ getD_mem ht)
theorem rowR_end (x : Ch) (ids : List Int) : rowR x ids x.length 0 = rowL x ids :=
 ilist_ext (by rw [rowR_len, rowL_len]) fun t ht => by
  rw [rowR_len] at ht
  unfold rowR rowL
  rw [mkR_get ht, if_neg (by omega), List.take_length, List.getD_eq_getElem?_getD (l := ids.map (cfn x)), List.getElem?_map, getD_get' (d := 0) ht]; rfl
set_option maxHeartbeats 16000000 in
set_option maxRecDepth 8000 in
theorem boundary_s {C : List Cx} {K : Nat} {k k' : Int} (hC : CxOk K C) (hV : VAL C) (hk : IntKind.i64.wrap (k - 1) = k') : Spec Try.prog 17 [cxV C, .sc (.int .i64 k)] (mat (idsL C k').length (cbM C k k')) := by
 have hCl := hC.len
 have c2 := cells_s (k := k') hCl
 have hw := idsL_len C k'
 have hnd := idsL_nodup k' hV.srt.pw
 have gln := nsC_len (idsL C k')
 have gl := cxs_len C
 have hfin := pbT_cb hV k k'
 generalize cbM C k k' = M at *
 generalize idsL C k' = ids at *
 unfold nsV at c2
 unfold mat
 unfold cxV at *
 refine qF Try.func17 Try.ntmps17 fun B hB => ?_
 refine qWf (Q2 @hk @gln) ?_
 refine SO.mapMk qS qS fun mb hmb => ?_
 refine qWf (Q2 @hk @gln) ?_
 refine SC.loop (fun i : Nat => ⟨[(0, .im (cxs C) C.length), (1, .sc (.int .i64 k)), (4, .pt 0 0), (5, .mp 1 mb (ids.take i) (bxV i)), (20, .im (nsC ids) ids.length), (21, .sc (.int .i64 (ids.length : Nat))), (22, .sc (.int .i64 (i : Nat)))], [(0, ⟨34, [.sc (.int .i64 0), .sc (.int .i64 0), .sc (.slice none 0 0)], false⟩)], 2, 80⟩)
  (fun i => i ≤ ids.length) (fun i => ids.length - i) 0 ?_ ?_ ?_
 ·exact qLc
 ·exact znc _
 rintro i hi K0 hK0
 by_cases hc : i < ids.length
 ·have q1 : decide ((i : Int) < (ids.length : Int)) = true := decide_eq_true (by omega)
  have gi := nsC_get hc
  obtain ⟨p1, p2⟩ := bx_put hnd hc
  refine qWf (Q4 @q1 @gi @gln @gD) ?_
  refine SO.mapPut qS Tab.mp81 qS qS qS hmb rfl qS ?_
  rw [p1, p2]
  refine qW ?_
  refine hK0 _ (i + 1) ?_ (by omega) (by omega)
  exact qLc
 have q1 : decide ((i : Int) < (ids.length : Int)) = false := decide_eq_false (by omega)
 have hie : i = ids.length := by omega
 rw [hie, List.take_length]
 have q2 : decide ((ids.length : Int) < (ids.length : Int)) = false := decide_eq_false (by omega)
 have glx : (bxV ids.length).length = ids.length := by simp [bxV]
 clear hK0 q1
 refine qWf (Q2 @q2 @glx) ?_
 refine SC.loop (fun i : Nat => ⟨[(0, .im (cxs C) C.length), (1, .sc (.int .i64 k)), (4, .pt 0 0), (5, .mp 1 mb ids (bxV ids.length)), (8, .pt 2 0), (34, .im (cxs C) C.length), (35, .sc (.int .i64 (C.length : Nat))), (36, .sc (.int .i64 (i : Nat)))], [(2, ⟨34, [.sc (.int .i64 0), .sc (.int .i64 (ids.length : Nat)), .sl 3 0 (pbT (C.take i) k ids).length 1 none], false⟩), (3, ⟨80, imR ids.length (rI (pbT (C.take i) k ids)), false⟩), (0, ⟨34, [.sc (.int .i64 0), .sc (.int .i64 0), .sc (.slice none 0 0)], false⟩)], 4, 80⟩)
  (fun i => i ≤ C.length) (fun i => C.length - i) 0 ?_ ?_ ?_
 ·have e0 : imR ids.length (rI (pbT (C.take 0) k ids)) = [] := rfl
  have e1 : (pbT (C.take 0) k ids).length = 0 := rfl
  simp only [e0, e1]
  refine nilRow (pre := [.sc (.int .i64 0), .sc (.int .i64 (ids.length : Nat))]) 2 3 hB qS rfl (by omega) ?_ (znc _) ?_
  ·exact ⟨⟨by omega, by omega, by omega, by simp, by simp (disch := omega) only [go_sem, ↓reduceIte, zn1, zn2, zn3, zn4, zn5, zn6, reduceCtorEq, zn7, zi1, zi2, if_pos, if_neg, Int.reduceAdd, zn8, zna, Nat.zero_mul, Nat.add_zero, zn9, Nat.sub_zero, zl2, zl4, zl3, zl9, zl7, zl8, List.append_nil, List.take_length, List.take_nil, List.drop_nil, List.length_nil, List.length_set, List.length_replicate, List.flatten_nil, List.flatten_cons, Bool.not_true, Bool.not_false, Bool.false_eq_true, Bool.or_true, Bool.true_or, Bool.or_false, Bool.or_self, bne_self_eq_false, beq_self_eq_true] <;> rfl, rfl⟩, trivial⟩
  ·(repeat' (first | exact trivial | refine mapSl_cons qS ?_ ?_ | exact VMap.junk _ | exact VMap.sc _ | exact VMap.clo rfl | exact VMap.sl rfl (by omega) | exact VMap.cap rfl (by omega) | exact VMap.pt rfl (by omega) | exact VMap.nil_sl _ _ _ | exact VMap.int (by first | rfl | omega | (dsimp only; omega))))
   exact VMap.mp rfl (by omega)
 ·exact znc _
 clear hc hi hie
 clear i
 intro i hi K0 hK0
 by_cases hc : i < C.length
 ·have q1 : decide ((i : Int) < (C.length : Int)) = true := decide_eq_true (by omega)
  have gd := cxs_drop hc
  have hT := pbT_take hc k ids
  have hx := hC.get hc
  have hvx := (hV.faces _ (getD_mem (d := cx0) hc)).vg
  generalize C.getD i cx0 = x at *
  obtain ⟨xi, xd, xb⟩ := x
  have g2 : i * 3 < (cxs C).length := by omega
  have glb := fcs_len xb
  unfold cxC at gd
  have hxl := hx.len
  simp only [zl8, zl7] at gd hT hvx hxl
  by_cases hd : xd = k
  ·have q3 : (xd != k) = false := by rw [hd]; exact bne_self_eq_false k
   rw [if_pos hd] at hT
   refine qWf (Q7 @q1 @gd @gl @g2 @glb @q3 @glx) ?_
   refine SC.loop (fun j : Nat => ⟨[(0, .im (cxs C) C.length), (1, .sc (.int .i64 k)), (4, .pt 0 0), (5, .mp 1 mb ids (bxV ids.length)), (8, .pt 2 0), (34, .im (cxs C) C.length), (35, .sc (.int .i64 (C.length : Nat))), (36, .sc (.int .i64 (i : Nat))), (11, .sl 5 0 ids.length 2 none), (48, .im (fcs xb) xb.length), (49, .sc (.int .i64 (xb.length : Nat))), (50, .sc (.int .i64 (j : Nat)))], [(5, ⟨84, ivR (rowR xb ids j 0), false⟩), (2, ⟨34, [.sc (.int .i64 0), .sc (.int .i64 (ids.length : Nat)), .sl 3 0 (pbT (C.take i) k ids).length 1 none], false⟩), (3, ⟨80, imR ids.length (rI (pbT (C.take i) k ids)), false⟩), (0, ⟨34, [.sc (.int .i64 0), .sc (.int .i64 0), .sc (.slice none 0 0)], false⟩)], 6, 80⟩)
    (fun j => j ≤ xb.length) (fun j => xb.length - j) 0 ?_ ?_ ?_
   ·(refine Le.of [] hB (by first | exact ⟨znc _, fun _ _ => znc _⟩ | (constructor <;> (try simp) <;> (try omega))) ?_ ?_ <;> (repeat' (first | exact leSl_nil | exact leHp_nil | refine leSl_cons qT ?_ ?_ | refine leHp_cons qT ?_ ?_ | exact VLe.junk _ | exact VLe.refl rfl | exact VLe.nil_sl _ _ _ | exact VLe.int (by first | rfl | omega | (dsimp only; omega)) | exact VLe.bool rfl | exact VLe.sl rfl (by first | rfl | omega | (dsimp only; omega) | (simp; done)) | exact VLe.cap rfl (by first | rfl | omega | (dsimp only; omega) | (simp; done)) | exact VLe.im rfl rfl | exact HLe.new rfl | exact HLe.same rfl (LLe.refl rfl) | refine HLe.same rfl ?_ | exact LLe.nil _ | exact LLe.refl rfl | exact LLe.cl rfl qS | exact LLe.clR rfl qS | refine LLe.cons ?_ ?_)))
    ·exact LLe_zer _ (by unfold rowR; exact ilist_ext (by rw [mkR_len, List.length_replicate]) fun j hj => by rw [mkR_len] at hj; rw [mkR_get hj, if_neg (by omega), zl4, cfn_nil, List.getD_eq_getElem?_getD, List.getElem?_replicate]; simp [hj])
    ·exact LLe.cl rfl (imR_clo _ _)
   ·exact znc _
   rintro j hj K1 hK1
   by_cases hc2 : j < xb.length
   ·have r1 : decide ((j : Int) < (xb.length : Int)) = true := decide_eq_true (by omega)
    have gf := fcs_drop hc2
    obtain ⟨nf, lf, hqf⟩ := cfC_two (xb.getD j (0, some 0)).2
    obtain ⟨z, hz, _⟩ := (VG_iff.1 hvx).2.1 j hc2
    have ez : ivC z = [.sc (.bool nf), .im (lv lf) lf.length] := by rw [hz] at hqf; exact hqf
    have ecv : cv (xb.getD j (0, some 0)).2 = z := by rw [hz]; rfl
    rw [fcC, hqf] at gf
    have hst := fun t ht he => rowR_step (t := t) hvx hnd hc2 ht he ecv
    have hsk := rowR_skip (ids := ids) hc2
    generalize (xb.getD j (0, some 0)).1 = fi at *
    simp only [zl8, zl7] at gf
    have glR := ivR_len (rowR xb ids j 0)
    rw [rowR_len] at glR
    have gc := ivR_clo (rowR xb ids (j + 1) 0)
    rcases bx_get hnd fi with ⟨t, ht, he, gm⟩ | ⟨hno, gm⟩
    ·have hst := hst t ht he
     have gsR := ivR_set (l := rowR xb ids j 0) (i := t) z (by rw [rowR_len]; exact ht)
     rw [hst, ez] at gsR
     generalize rowR xb ids j 0 = r0 at *
     have g5 : t * 2 < (ivR r0).length := by omega
     refine qWf (Q8 @r1 @gf @glb @gm @gsR @glR @g5 @gD) ?_
     refine hK1 _ (j + 1) ?_ (by omega) (by omega)
     (refine Le.of [] hB (by first | exact ⟨znc _, fun _ _ => znc _⟩ | (constructor <;> (try simp) <;> (try omega))) ?_ ?_ <;> (repeat' (first | exact leSl_nil | exact leHp_nil | refine leSl_cons qT ?_ ?_ | refine leHp_cons qT ?_ ?_ | exact VLe.junk _ | exact VLe.refl rfl | exact VLe.nil_sl _ _ _ | exact VLe.int (by first | rfl | omega | (dsimp only; omega)) | exact VLe.bool rfl | exact VLe.sl rfl (by first | rfl | omega | (dsimp only; omega) | (simp; done)) | exact VLe.cap rfl (by first | rfl | omega | (dsimp only; omega) | (simp; done)) | exact VLe.im rfl rfl | exact HLe.new rfl | exact HLe.same rfl (LLe.refl rfl) | refine HLe.same rfl ?_ | exact LLe.nil _ | exact LLe.refl rfl | exact LLe.cl rfl qS | exact LLe.clR rfl qS | refine LLe.cons ?_ ?_)))
     ·exact LLe.cl rfl gc
     ·exact LLe.cl rfl (imR_clo _ _)
    ·rw [hsk hno] at *
     refine qWf (Q5 @r1 @gf @glb @gm @gD) ?_
     refine hK1 _ (j + 1) ?_ (by omega) (by omega)
     (refine Le.of [] hB (by first | exact ⟨znc _, fun _ _ => znc _⟩ | (constructor <;> (try simp) <;> (try omega))) ?_ ?_ <;> (repeat' (first | exact leSl_nil | exact leHp_nil | refine leSl_cons qT ?_ ?_ | refine leHp_cons qT ?_ ?_ | exact VLe.junk _ | exact VLe.refl rfl | exact VLe.nil_sl _ _ _ | exact VLe.int (by first | rfl | omega | (dsimp only; omega)) | exact VLe.bool rfl | exact VLe.sl rfl (by first | rfl | omega | (dsimp only; omega) | (simp; done)) | exact VLe.cap rfl (by first | rfl | omega | (dsimp only; omega) | (simp; done)) | exact VLe.im rfl rfl | exact HLe.new rfl | exact HLe.same rfl (LLe.refl rfl) | refine HLe.same rfl ?_ | exact LLe.nil _ | exact LLe.refl rfl | exact LLe.cl rfl qS | exact LLe.clR rfl qS | refine LLe.cons ?_ ?_)))
     ·exact LLe.cl rfl gc
     ·exact LLe.cl rfl (imR_clo _ _)
   ·have r1 : decide ((xb.length : Int) < (xb.length : Int)) = false := decide_eq_false (by omega)
    rw [show j = xb.length by omega, rowR_end]
    have hpl : (pbT (C.take i) k ids).length ≤ i := by
     unfold pbT
     rw [List.length_map]
     exact Nat.le_trans (List.length_filter_le _ _) (by rw [List.length_take]; omega)
    have gM3 := imI_len ids.length (pbT (C.take i) k ids)
    have gM2 := imRone ids.length (rI (pbT (C.take i) k ids))
    have gM := imR_clo ids.length (rI (pbT (C.take i) k ids))
    have gM4 : (imR ids.length (rI (pbT (C.take i) k ids))).take (pbT (C.take i) k ids).length = imR ids.length (rI (pbT (C.take i) k ids)) := zla (by omega)
    have glw := ivR_len (rowL xb ids)
    rw [rowL_len] at glw
    have gtw : (ivR (rowL xb ids)).take (ids.length * 2) = ivR (rowL xb ids) := zla (by omega)
    have gcw := ivR_clo (rowL xb ids)
    have hK2 : ∀ s' : SS, _ → K0 s' := fun s' h => hK0 s' (i + 1) h (by omega) (by omega)
    rw [hT, rI_snoc, imR_snoc, zl1, List.length_singleton] at hK2
    generalize pbT (C.take i) k ids = T at *
    generalize imR ids.length (rI T) = M0 at *
    generalize ivR (rowL xb ids) = R0 at *
    refine qWf (Q4 @r1 @gM2 @gM3 @gM4) ?_
    refine hK2 _ ?_
    refine appRow (pre := [.sc (.int .i64 0), .sc (.int .i64 (ids.length : Nat))]) (y := .im R0 ids.length) (ids := [5]) 2 3 7 hB qS qS (qSf (Q3 @gtw @gcw @glw)) rfl gM rfl (by omega) (by omega) (by simp) (by simp) ?_ (znc _) ?_
    ·exact ⟨⟨by omega, by omega, by omega, by simp, by simp (disch := omega) only [go_sem, ↓reduceIte, zn1, zn2, zn3, zn4, zn5, zn6, reduceCtorEq, zn7, zi1, zi2, if_pos, if_neg, Int.reduceAdd, zn8, zna, Nat.zero_mul, Nat.add_zero, zn9, Nat.sub_zero, zl2, zl4, zl3, zl9, zl7, zl8, List.append_nil, List.take_length, List.take_nil, List.drop_nil, List.length_nil, List.length_set, List.length_replicate, List.flatten_nil, List.flatten_cons, Bool.not_true, Bool.not_false, Bool.false_eq_true, Bool.or_true, Bool.true_or, Bool.or_false, Bool.or_self, bne_self_eq_false, beq_self_eq_true] <;> rfl, rfl⟩, trivial⟩
    ·(repeat' (first | exact trivial | refine mapSl_cons qS ?_ ?_ | exact VMap.junk _ | exact VMap.sc _ | exact VMap.clo rfl | exact VMap.sl rfl (by omega) | exact VMap.cap rfl (by omega) | exact VMap.pt rfl (by omega) | exact VMap.nil_sl _ _ _ | exact VMap.int (by first | rfl | omega | (dsimp only; omega))))
     exact VMap.mp rfl (by omega)
  ·have q3 : (xd != k) = true := bne_iff_ne.2 hd
   rw [if_neg hd, List.append_nil] at hT
   refine qWf (Q6 @q1 @gd @gl @g2 @glb @q3) ?_
   refine hK0 _ (i + 1) ?_ (by omega) (by omega)
   rw [hT]
   (refine Le.of [] hB (by first | exact ⟨znc _, fun _ _ => znc _⟩ | (constructor <;> (try simp) <;> (try omega))) ?_ ?_ <;> (repeat' (first | exact leSl_nil | exact leHp_nil | refine leSl_cons qT ?_ ?_ | refine leHp_cons qT ?_ ?_ | exact VLe.junk _ | exact VLe.refl rfl | exact VLe.nil_sl _ _ _ | exact VLe.int (by first | rfl | omega | (dsimp only; omega)) | exact VLe.bool rfl | exact VLe.sl rfl (by first | rfl | omega | (dsimp only; omega) | (simp; done)) | exact VLe.cap rfl (by first | rfl | omega | (dsimp only; omega) | (simp; done)) | exact VLe.im rfl rfl | exact HLe.new rfl | exact HLe.same rfl (LLe.refl rfl) | refine HLe.same rfl ?_ | exact LLe.nil _ | exact LLe.refl rfl | exact LLe.cl rfl qS | exact LLe.clR rfl qS | refine LLe.cons ?_ ?_)))
   exact LLe.cl rfl (imR_clo _ _)
 ·have q1 : decide ((i : Int) < (C.length : Int)) = false := decide_eq_false (by omega)
  rw [show i = C.length by omega, List.take_length, hfin]
  have q1 : decide ((C.length : Int) < (C.length : Int)) = false := decide_eq_false (by omega)
  have gM := imR_clo ids.length (rI M)
  have gM3 := imI_len ids.length M
  have gM4 : (imR ids.length (rI M)).take M.length = imR ids.length (rI M) := zla (by omega)
  generalize imR ids.length (rI M) = M0 at *
  refine qWf @q1 ?_
  exact retQ_ret Try.results17 (qSf (Q3 @gM @gM4 @gM3)) (qSf (Q3 @gM @gM4 @gM3)) rfl
end Go.Proofs.Ytdkkgndibagihaa
namespace Go.Proofs.Ytdkkgndibagihaa
open Go.RowKit
theorem dI_cong {f g f' g' : Nat → Int} : ∀ {n : Nat}, (∀ m, m < n → f m = f' m ∧ g m = g' m) → dotI f g n = dotI f' g' n
 | 0, _ => rfl
 | n + 1, h => by rw [dotI, dotI, dI_cong fun m hm => h m (by omega), (h n (by omega)).1, (h n (by omega)).2]
def bS (g : Int → Int) : Ch → Int
 | [] => 0
 | f :: r => cv f.2 * g f.1 + bS g r
theorem bdn_bS (C : List Cx) (n : Int) : ∀ b : Ch, bdn C b n = bS (fun id => cfn (bOf C id) n) b
 | [] => rfl
 | f :: r => by rw [bdn, bS, bdn_bS C n r]
theorem cbM_ent {C : List Cx} (hV : VAL C) {k k' : Int} {i j : Nat} (hi : i < (idsL C k).length) (hj : j < (idsL C k').length) : ent2 (cbM C k k') i j = cfn (bOf C ((idsL C k).getD i 0)) ((idsL C k').getD j 0) := by
 unfold ent2 cbM
 rw [List.getD_eq_getElem?_getD (l := List.map _ (idsL C k)), List.getElem?_map, getD_get' (d := 0) hi]
 show (rowL (bOf C ((idsL C k).getD i 0)) (idsL C k')).getD j 0 = _
 unfold rowL
 rw [List.getD_eq_getElem?_getD, List.getElem?_map, getD_get' (d := 0) hj]; rfl
end Go.Proofs.Ytdkkgndibagihaa
namespace Go.Proofs.Ytdkkgndibagihaa
open Go.RowKit
theorem dI_swap {c : Nat → Int} {L : Nat → Nat → Int} {g : Nat → Int} {n : Nat} : ∀ {m : Nat}, dotI (fun t => dotI c (fun s => L s t) n) g m = dotI c (fun s => dotI (fun t => L s t) g m) n
 | 0 => (by
  show (0 : Int) = _
  refine (Eq.symm ?_)
  have : ∀ n, dotI c (fun s => dotI (fun t => L s t) g 0) n = 0 := fun n => by
   induction n with
   | zero => rfl
   | succ n ih => rw [dotI, ih]; show 0 + c n * 0 = 0; omega
  exact this n)
 | m + 1 => by
  rw [dotI, dI_swap (m := m)]
  have : ∀ n, dotI c (fun s => dotI (fun t => L s t) g m) n + dotI c (fun s => L s m) n * g m = dotI c (fun s => dotI (fun t => L s t) g (m + 1)) n := fun n => by
   induction n with
   | zero => show 0 + 0 * g m = 0; omega
   | succ n ih =>
    rw [dotI, dotI, dotI, ← ih, show dotI (fun t => L n t) g (m + 1) = dotI (fun t => L n t) g m + L n m * g m from rfl]
    rw [Int.add_mul, Int.mul_add, Int.mul_assoc]
    omega
  exact this n
theorem bS_fromL (g : Int → Int) : ∀ {v ids : List Int}, v.length = ids.length → bS g (fromL v ids) = dotI (fun t => v.getD t 0) (fun t => g (ids.getD t 0)) ids.length
 | [], [], _ => rfl
 | [], _ :: _, h => by simp at h
 | _ :: _, [], h => by simp at h
 | z :: v, n :: ids, h => by
  have h' : v.length = ids.length := by simpa using h
  have key : ∀ (v ids : List Int) m, dotI (fun t => (z :: v).getD t 0) (fun t => g ((n :: ids).getD t 0)) (m + 1) = z * g n + dotI (fun t => v.getD t 0) (fun t => g (ids.getD t 0)) m := fun v ids m => by
   induction m with
   | zero => show 0 + z * g n = z * g n + 0; omega
   | succ m ih =>
    rw [dotI, ih, dotI]
    show z * g n + _ + v.getD m 0 * g (ids.getD m 0) = _
    omega
  rw [List.length_cons, key, ← bS_fromL g h', fromL]
  by_cases hz : z = 0
  ·rw [if_pos hz, hz, Int.zero_mul, Int.zero_add]
  ·rw [if_neg hz]; rfl
theorem fromL_vg : ∀ {v ids : List Int} {p : Option Int}, ids.Pairwise (· < ·) → (∀ q, p = some q → ∀ n ∈ ids, q < n) → VG p (fromL v ids)
 | [], _, _, _, _ => by rw [fromL_nil]; trivial
 | _ :: _, [], _, _, _ => by simp [fromL, VG]
 | z :: v, n :: ids, p, hs, hp => by
  rw [List.pairwise_cons] at hs
  rw [fromL]
  by_cases hz : z = 0
  ·rw [if_pos hz]; exact fromL_vg hs.2 fun q hq m hm => hp q hq m (List.mem_cons_of_mem _ hm)
  ·rw [if_neg hz]
   exact ⟨fun q hq => hp q hq n List.mem_cons_self, ⟨z, rfl, hz⟩, fromL_vg hs.2 fun q hq m hm => by cases hq; exact hs.1 m hm⟩
theorem idsL_sorted {C : List Cx} (h : Srt C) (k : Int) : (idsL C k).Pairwise (· < ·) := by
 unfold idsL
 rw [List.pairwise_map]
 exact h.pw.filter _
theorem cfn_none {b : Ch} {n : Int} (h : ∀ f ∈ b, f.1 ≠ n) : cfn b n = 0 := by
 induction b with
 | nil => rfl
 | cons f r ih => rw [cfn, if_neg (h f List.mem_cons_self), ih fun g hg => h g (List.mem_cons_of_mem _ hg)]; rfl
theorem CycF.closed {C : List Cx} {k : Nat} {l : List Int} {F : Ch} (h : CycF C k l F) (hV : VAL C) (n : Int) : bdn C F n = 0 := by
 obtain ⟨L, rfl, h1, _, h3⟩ := h
 have hlen : (cyV l L (cn C k)).length = (idsL C k).length := by unfold cyV; exact mkR_len
 rw [bdn_bS, bS_fromL _ hlen]
 rw [dI_cong (f' := fun t => dotI (cyF l) (fun s => ent2 L s t) (cyN l L)) (g' := fun t => cfn (bOf C ((idsL C k).getD t 0)) n) fun t ht => ⟨by unfold cyV; exact mkR_get ht, rfl⟩, dI_swap]
 have hz : ∀ s, s < cyN l L → dotI (fun t => ent2 L s t) (fun t => cfn (bOf C ((idsL C k).getD t 0)) n) (idsL C k).length = 0 := fun s hs => by
  have hsL : s < L.length := by unfold cyN at hs; omega
  by_cases hn : n ∈ idsL C (k - 1)
  ·obtain ⟨c, hc, e⟩ := List.getElem_of_mem hn
   have ec : (idsL C (k - 1)).getD c 0 = n := by rw [List.getD_eq_getElem?_getD, zlb hc]; exact e
   refine Eq.trans ?_ (h3 s hsL c hc)
   exact dI_cong fun t ht => ⟨rfl, by rw [cbM_ent hV ht hc, ec]⟩
  ·have h0 : ∀ m, dotI (fun t => ent2 L s t) (fun t => cfn (bOf C ((idsL C k).getD t 0)) n) m = 0 ∨ (idsL C k).length < m := fun m => by
    induction m with
    | zero => exact .inl rfl
    | succ m ih =>
     rcases Nat.lt_or_ge (idsL C k).length (m + 1) with h | h
     ·exact .inr h
     ·left
      rw [dotI, ih.resolve_right (by omega)]
      obtain ⟨x, hx, hd, he⟩ := idsL_mem (getD_mem (d := 0) (show m < (idsL C k).length by omega))
      have hb : bOf C ((idsL C k).getD m 0) = x.b := by rw [← he]; unfold bOf; rw [hV.find hx]; rfl
      rw [hb, cfn_none fun f hf e => hn ?_, Int.mul_zero]; rfl
      obtain ⟨y, hy⟩ := (hV.faces x hx).there f hf
      have h4 := (hV.faces x hx).dims f hf y hy
      obtain ⟨hm, hid⟩ := findL_mem hy
      rw [← e, ← hid]
      exact List.mem_map.2 ⟨y, List.mem_filter.2 ⟨hm, by simpa [hd] using h4⟩, rfl⟩
   exact (h0 _).resolve_right (by omega)
 have : ∀ m, m ≤ cyN l L → dotI (cyF l) (fun s => dotI (fun t => ent2 L s t) (fun t => cfn (bOf C ((idsL C k).getD t 0)) n) (idsL C k).length) m = 0 := fun m hm => by
  induction m with
  | zero => rfl
  | succ m ih => rw [dotI, ih (by omega), hz m (by omega), Int.mul_zero]; rfl
 exact this _ (znb _)
theorem CellF.fits {C : List Cx} {x : Rwc} {y : Cx} (h : CellF C x y) (hV : VAL C) : FacesOk C y ∧ ∀ n, bdn C y.b n = 0 := by
 obtain ⟨F, rfl, hF⟩ := h
 by_cases hd : x.dim % 4 = 0
 ·have e : (cellL x F).b = [] := by unfold cellL; rw [if_pos hd]
  refine ⟨⟨?_, ?_, ?_, ?_⟩, ?_⟩
  ·rw [e]; trivial
  ·rw [e]; intro f hf; cases hf
  ·unfold cellL; simp only; omega
  ·rw [e]; intro f hf; cases hf
  ·rw [e]; intro n; rfl
 ·have hF := hF.resolve_left hd
  have e : (cellL x F).b = F := by unfold cellL; rw [if_neg hd]
  have hcl := hF.closed hV
  have hmem : ∀ f ∈ F, f.1 ∈ idsL C ((x.dim % 4 - 1 : Nat) : Int) := by
   obtain ⟨L, rfl, _⟩ := hF
   exact fun f hf => (fromL_mem hf).1
  have hvg : VG none F := by
   obtain ⟨L, rfl, _⟩ := hF
   exact fromL_vg (idsL_sorted hV.srt _) fun q hq => by cases hq
  refine ⟨⟨by rw [e]; exact hvg, ?_, ?_, ?_⟩, by rw [e]; exact hcl⟩
  ·rw [e]
   intro f hf
   obtain ⟨z, hz, _, h2⟩ := idsL_mem (hmem f hf)
   exact ⟨z, by rw [← h2]; exact hV.find hz⟩
  ·unfold cellL; simp only; omega
  ·rw [e]
   intro f hf y hy
   obtain ⟨z, hz, h1, h2⟩ := idsL_mem (hmem f hf)
   rw [← h2, hV.find hz] at hy
   cases hy
   rw [h1]
   unfold cellL
   simp only
   omega
end Go.Proofs.Ytdkkgndibagihaa
namespace Go.Proofs.Ytdkkgndibagihaa
end Go.Proofs.Ytdkkgndibagihaa
namespace Go.Proofs.Ytdkkgndibagihaa
open Go.RowKit
def useF (b : Ch) (id : Int) : Bool := b.any fun f => decide (f.1 = id)
def usesL (C : List Cx) (id : Int) : Bool := C.any fun x => useF x.b id
theorem useF_take {b : Ch} {k : Nat} (h : k < b.length) (id : Int) : useF (b.take (k + 1)) id = (useF (b.take k) id || decide ((b.getD k (0, some 0)).1 = id)) := by
 unfold useF
 rw [List.take_add_one, zlb h, List.any_append, List.getD_eq_getElem?_getD, zlb h]
 simp
theorem usesL_take {C : List Cx} {i : Nat} (h : i < C.length) (id : Int) : usesL (C.take (i + 1)) id = (usesL (C.take i) id || useF (C.getD i cx0).b id) := by
 unfold usesL
 rw [take_getD h, List.any_append]
 simp
theorem useF_mem {b : Ch} {k : Nat} (h : k < b.length) {id : Int} (he : (b.getD k (0, some 0)).1 = id) : useF b id = true := List.any_eq_true.2 ⟨_, getD_mem h, decide_eq_true he⟩
theorem usesL_mem {C : List Cx} {i : Nat} (h : i < C.length) {id : Int} (he : useF (C.getD i cx0).b id = true) : usesL C id = true := List.any_eq_true.2 ⟨_, getD_mem h, he⟩
def remL (C : List Cx) (id : Int) : List Cx := C.filter fun x => decide (x.id ≠ id)
def remE (C : List Cx) (id : Int) : Int := if (findL C id).isSome then (if usesL C id then 253 else 0) else 250
def remV (C : List Cx) (id : Int) : V := .tu [cxV (if remE C id = 0 then remL C id else []), .sc (.int .i64 (remE C id))]
theorem cxs_snoc (C : List Cx) (x : Cx) : cxs C ++ cxC x = cxs (C ++ [x]) := by unfold cxs; simp
end Go.Proofs.Ytdkkgndibagihaa
namespace Go.Proofs.Ytdkkgndibagihaa
theorem findL_no {C : List Cx} {id : Int} (h : findL C id = none) {x : Cx} (hx : x ∈ C) : x.id ≠ id := by
 unfold findL at h
 have := List.find?_eq_none.1 h x hx
 simpa using this
theorem rem_mem {C : List Cx} {id : Int} {z : Cx} : z ∈ remL C id ↔ z ∈ C ∧ z.id ≠ id := by
 unfold remL
 rw [List.mem_filter]
 simp
theorem srt_of_pw {C : List Cx} (h : C.Pairwise (fun a b => a.id < b.id)) : Srt C := fun i j hij hj => by
 rw [List.getD_eq_getElem?_getD, List.getD_eq_getElem?_getD, zlb hj, zlb (by omega)]
 exact List.pairwise_iff_getElem.1 h i j (by omega) hj hij
theorem Srt.rem {C : List Cx} (h : Srt C) (id : Int) : Srt (remL C id) := srt_of_pw (h.pw.filter _)
theorem find_rem {C : List Cx} (hs : Srt C) {id n : Int} (hn : n ≠ id) : findL (remL C id) n = findL C n := by
 have find : ∀ {D : List Cx}, Srt D → ∀ {x : Cx}, x ∈ D → findL D x.id = some x := fun {D} hD {x} hx => by
  obtain ⟨i, hi, e⟩ := mem_idx hx
  rw [← e]; exact findL_some hD hi rfl
 cases e : findL C n with
 | none =>
  cases e2 : findL (remL C id) n with
  | none => rfl
  | some y =>
   obtain ⟨h1, h2⟩ := findL_mem e2
   exact absurd h2 (findL_no e (rem_mem.1 h1).1)
 | some y =>
  obtain ⟨h1, h2⟩ := findL_mem e
  rw [← h2]
  exact find (hs.rem id) (rem_mem.2 ⟨h1, by rw [h2]; exact hn⟩)
theorem VAL.rem {C : List Cx} (hV : VAL C) {id : Int} (hu : usesL C id = false) : VAL (remL C id) := by
 have hno : ∀ x ∈ C, ∀ f ∈ x.b, f.1 ≠ id := fun x hx f hf e => by
  rw [Bool.eq_false_iff] at hu
  exact hu (List.any_eq_true.2 ⟨x, hx, List.any_eq_true.2 ⟨f, hf, decide_eq_true e⟩⟩)
 refine ⟨Nat.le_trans (List.length_filter_le _ _) hV.len, hV.srt.rem id, fun x hx => ?_, fun x hx n => ?_⟩
 ·have hC := (rem_mem.1 hx).1
  have hF := hV.faces x hC
  refine ⟨hF.vg, fun f hf => ?_, hF.dim, fun f hf y hy => ?_⟩
  ·rw [find_rem hV.srt (hno x hC f hf)]; exact hF.there f hf
  ·rw [find_rem hV.srt (hno x hC f hf)] at hy; exact hF.dims f hf y hy
 ·have hC := (rem_mem.1 hx).1
  have key : ∀ b : Ch, (∀ f ∈ b, f.1 ≠ id) → bdn (remL C id) b n = bdn C b n := fun b => by
   induction b with
   | nil => intro _; rfl
   | cons f r ih =>
    intro hb
    rw [bdn, bdn, ih fun g hg => hb g (List.mem_cons_of_mem _ hg)]
    unfold bOf
    rw [find_rem hV.srt (hb f List.mem_cons_self)]
  rw [key _ (hno x hC)]
  exact hV.closed x hC n
end Go.Proofs.Ytdkkgndibagihaa
