/- Texts joined: Au Aw Ax Ay Av Az Ba Bf At Bg Gl Op Bh Tt Bi Bj. -/
import Derived.WalkKit
import Derived.ProofKit
import Derived.OpenShut
import Derived.Carry
import Derived.Test.YtdkkgndibagihaaVb
import Derived.Test.YtdkkgndibagihaaVe
import Derived.Test.YtdkkgndibagihaaVf
import Derived.Test.YtdkkgndibagihaaVi
import Derived.Test.YtdkkgndibagihaaVl
set_option linter.all false
open Nat renaming reduceEqDiff → zn1, reduceLT → zn2, reduceLeDiff → zn3, reduceAdd → zn4, reduceMul → zn5, reduceSub → zn6, reduceBEq → zn7, mul_one → zn8, zero_add → zn9, one_mul → zna, le_refl → znb, zero_le → znc, add_sub_cancel_left → znd, sub_eq_zero_of_le → zne, add_assoc → znf
open Int renaming reduceToNat → zi1, reducePow → zi2
open List renaming length_append → zl1, drop_zero → zl2, take_succ_cons → zl3, take_zero → zl4, getElem?_drop → zl5, append_assoc → zl6, nil_append → zl7, cons_append → zl8, drop_succ_cons → zl9, take_of_length_le → zla, getElem?_eq_getElem → zlb, getElem?_eq_some_iff → zlc, map_cons → zld, map_nil → zle, all_eq_true → zlf
namespace Go.Proofs.Ytdkkgndibagihaa
open Go.RowKit
def bxV (n : Nat) : List V := (List.range n).map fun j => .sc (.int .i64 (j : Nat))
theorem bxV_succ (n : Nat) : bxV (n + 1) = bxV n ++ [.sc (.int .i64 (n : Nat))] := by simp [bxV, List.range_succ]
theorem bxV_get {n j : Nat} (h : j < n) : (bxV n)[j]? = some (.sc (.int .i64 (j : Nat))) := by simp [bxV, h]
theorem idsL_nodup : ∀ {C : List Cx} (k : Int), C.Pairwise (fun a b => a.id < b.id) → (idsL C k).Nodup
 | C, k, h => by
  unfold idsL
  rw [List.Nodup, List.pairwise_map]
  exact (h.filter _).imp fun h => by omega
theorem Srt.pw {C : List Cx} (h : Srt C) : C.Pairwise (fun a b => a.id < b.id) := by
 rw [List.pairwise_iff_getElem]
 intro i j hi hj hij
 have := h i j hij hj
 rw [List.getD_eq_getElem?_getD, List.getD_eq_getElem?_getD, zlb hi, zlb hj] at this
 exact this
theorem bx_put {ids : List Int} (hn : ids.Nodup) {i : Nat} (hi : i < ids.length) : mputK (ids.take i) (ids.getD i 0) = ids.take (i + 1) ∧ mputV (ids.take i) (bxV i) (ids.getD i 0) (.sc (.int .i64 (i : Nat))) = bxV (i + 1) := by
 have hk : kix (ids.take i) (ids.getD i 0) = none := kix_none.2 fun h => by
  obtain ⟨j, hj, e⟩ := List.getElem_of_mem h
  rw [List.length_take] at hj
  rw [List.getElem_take, List.getD_eq_getElem?_getD, zlb hi] at e
  have := (List.getElem_inj hn).1 (show ids[j] = ids[i] from e)
  omega
 constructor
 ·unfold mputK
  rw [hk, List.take_add_one, zlb hi, List.getD_eq_getElem?_getD, zlb hi]; rfl
 ·unfold mputV
  rw [hk, bxV_succ]
theorem bx_get {ids : List Int} (hn : ids.Nodup) (id : Int) : (∃ j, j < ids.length ∧ ids.getD j 0 = id ∧ mget ids (bxV ids.length) id = some (.sc (.int .i64 (j : Nat)))) ∨ (id ∉ ids ∧ mget ids (bxV ids.length) id = none) := by
 by_cases h : id ∈ ids
 ·obtain ⟨j, hj, e⟩ := List.getElem_of_mem h
  refine .inl ⟨j, hj, by rw [List.getD_eq_getElem?_getD, zlb hj]; exact e, ?_⟩
  unfold mget
  rw [kix_of hn (show ids[j]? = some id by rw [zlb hj, e]), Option.bind_some, bxV_get hj]
 ·refine .inr ⟨h, ?_⟩
  unfold mget
  rw [kix_none.2 h]; rfl
theorem VMap.mp {f : Nat → Nat} {D : Nat → Prop} {id id' b : Nat} {ks : List Int} {vs : List V} (h : f id' = id) (hD : D id') : VMap f D (.mp id b ks vs) (.mp id' b ks vs) := by
 intro S rho A w v hx
 subst h
 cases hx with
 | mp h hb hm hk hl hx => exact R.mp (S := S) (rho := fun i => rho (f i)) (w := w) ⟨hD, h⟩ hb hm hk hl fun i x e h1 h2 => (hx i x e h1 h2).mono (fun _ h => ⟨h, rfl⟩) (fun _ h => h.elim)
def pbT (C : List Cx) (k : Int) (ids : List Int) : List (List Int) := (C.filter fun x => decide (x.dim = k)).map fun x => rowL x.b ids
theorem pbT_cb {C : List Cx} (hV : VAL C) (k k' : Int) : pbT C k (idsL C k') = cbM C k k' := by
 unfold pbT cbM
 generalize idsL C k' = ids
 unfold idsL
 rw [List.map_map]
 refine List.map_congr_left fun x hx => ?_
 have h := List.mem_filter.1 hx
 show rowL x.b _ = rowL (bOf C x.id) _
 unfold bOf
 rw [hV.find h.1]; rfl
theorem pbT_take {C : List Cx} {i : Nat} (h : i < C.length) (k : Int) (ids : List Int) : pbT (C.take (i + 1)) k ids = pbT (C.take i) k ids ++ if (C.getD i cx0).dim = k then [rowL (C.getD i cx0).b ids] else [] := by
 rw [take_getD h]
 unfold pbT
 rw [List.filter_append, List.map_append]
 congr 1
 by_cases hd : (C.getD i cx0).dim = k
 ·rw [if_pos hd, List.filter_cons_of_pos (by simpa using hd)]; rfl
 ·rw [if_neg hd, List.filter_cons_of_neg (by simpa using hd)]; rfl
theorem rowR_step {x : Ch} {ids : List Int} {j t : Nat} {z : Int} (hv : VG none x) (hn : ids.Nodup) (hj : j < x.length) (ht : t < ids.length) (he : ids.getD t 0 = (x.getD j (0, some 0)).1) (hz : cv (x.getD j (0, some 0)).2 = z) : (rowR x ids j 0).set t z = rowR x ids (j + 1) 0 :=
 ilist_ext (by rw [List.length_set, rowR_len, rowR_len]) fun u hu => by
  rw [List.length_set, rowR_len] at hu
  have h1 := cfn_once hv hj
  have h2 := fun n => cfn_take hj n
  unfold rowR
  rw [mkR_get hu, List.getD_eq_getElem?_getD, if_neg (by omega), h2, hz]
  by_cases e : t = u
  ·subst e
   rw [List.getElem?_set_self (by rw [mkR_len]; exact ht), he, h1, if_pos rfl, Int.zero_add]; rfl
  ·rw [List.getElem?_set_ne e, ← List.getD_eq_getElem?_getD, mkR_get hu, if_neg (by omega), if_neg, Int.add_zero]
   intro h
   rw [← he, List.getD_eq_getElem?_getD, List.getD_eq_getElem?_getD, zlb ht, zlb hu] at h
   exact e ((List.getElem_inj hn).1 (show ids[t] = ids[u] from h))
theorem rowR_skip {x : Ch} {ids : List Int} {j : Nat} (hj : j < x.length) (he : (x.getD j (0, some 0)).1 ∉ ids) : rowR x ids j 0 = rowR x ids (j + 1) 0 := by
 unfold rowR
 refine mkR_congr fun t ht => ?_
 rw [if_neg (by omega), if_neg (by omega), cfn_take hj, if_neg, Int.add_zero]
 intro h
 exact he (h ▸ getD_mem ht)
theorem rowR_end (x : Ch) (ids : List Int) : rowR x ids x.length 0 = rowL x ids :=
 ilist_ext (by rw [rowR_len, rowL_len]) fun t ht => by
  rw [rowR_len] at ht
  unfold rowR rowL
  rw [mkR_get ht, if_neg (by omega), List.take_length, List.getD_eq_getElem?_getD (l := ids.map (cfn x)), List.getElem?_map, getD_get' (d := 0) ht]; rfl
set_option maxHeartbeats 16000000 in
set_option maxRecDepth 8000 in
theorem boundary_s {C : List Cx} {K : Nat} {k k' : Int} (hC : CxOk K C) (hV : VAL C) (hk : IntKind.i64.wrap (k - 1) = k') : Spec Try.prog 17 [cxV C, .sc (.int .i64 k)] (mat (idsL C k').length (cbM C k k')) := by
 have hCl := hC.len
 have c2 := cells_s (k := k') hCl
 have hw := idsL_len C k'
 have hnd := idsL_nodup k' hV.srt.pw
 have gln := nsC_len (idsL C k')
 have gl := cxs_len C
 have hfin := pbT_cb hV k k'
 generalize cbM C k k' = M at *
 generalize idsL C k' = ids at *
 unfold nsV at c2
 unfold mat
 unfold cxV at *
 refine qF Try.func17 Try.ntmps17 fun B hB => ?_
 refine qWf (Q2 @hk @gln) ?_
 refine SO.mapMk qS qS fun mb hmb => ?_
 refine qWf (Q2 @hk @gln) ?_
 refine SC.loop (fun i : Nat => ⟨[(0, .im (cxs C) C.length), (1, .sc (.int .i64 k)), (4, .pt 0 0), (5, .mp 1 mb (ids.take i) (bxV i)), (20, .im (nsC ids) ids.length), (21, .sc (.int .i64 (ids.length : Nat))), (22, .sc (.int .i64 (i : Nat)))], [(0, ⟨34, [.sc (.int .i64 0), .sc (.int .i64 0), .sc (.slice none 0 0)], false⟩)], 2, 80⟩)
  (fun i => i ≤ ids.length) (fun i => ids.length - i) 0 ?_ ?_ ?_
 ·exact qLc
 ·exact znc _
 rintro i hi K0 hK0
 by_cases hc : i < ids.length
 ·have q1 : decide ((i : Int) < (ids.length : Int)) = true := decide_eq_true (by omega)
  have gi := nsC_get hc
  obtain ⟨p1, p2⟩ := bx_put hnd hc
  refine qWf (Q4 @q1 @gi @gln @gD) ?_
  refine SO.mapPut qS Tab.mp81 qS qS qS hmb rfl qS ?_
  rw [p1, p2]
  refine qW ?_
  refine hK0 _ (i + 1) ?_ (by omega) (by omega)
  exact qLc
 have q1 : decide ((i : Int) < (ids.length : Int)) = false := decide_eq_false (by omega)
 have hie : i = ids.length := by omega
 rw [hie, List.take_length]
 have q2 : decide ((ids.length : Int) < (ids.length : Int)) = false := decide_eq_false (by omega)
 have glx : (bxV ids.length).length = ids.length := by simp [bxV]
 clear hK0 q1
 refine qWf (Q2 @q2 @glx) ?_
 refine SC.loop (fun i : Nat => ⟨[(0, .im (cxs C) C.length), (1, .sc (.int .i64 k)), (4, .pt 0 0), (5, .mp 1 mb ids (bxV ids.length)), (8, .pt 2 0), (34, .im (cxs C) C.length), (35, .sc (.int .i64 (C.length : Nat))), (36, .sc (.int .i64 (i : Nat)))], [(2, ⟨34, [.sc (.int .i64 0), .sc (.int .i64 (ids.length : Nat)), .sl 3 0 (pbT (C.take i) k ids).length 1 none], false⟩), (3, ⟨80, imR ids.length (rI (pbT (C.take i) k ids)), false⟩), (0, ⟨34, [.sc (.int .i64 0), .sc (.int .i64 0), .sc (.slice none 0 0)], false⟩)], 4, 80⟩)
  (fun i => i ≤ C.length) (fun i => C.length - i) 0 ?_ ?_ ?_
 ·have e0 : imR ids.length (rI (pbT (C.take 0) k ids)) = [] := rfl
  have e1 : (pbT (C.take 0) k ids).length = 0 := rfl
  simp only [e0, e1]
  refine nilRow (pre := [.sc (.int .i64 0), .sc (.int .i64 (ids.length : Nat))]) 2 3 hB qS rfl (by omega) ?_ (znc _) ?_
  ·exact ⟨⟨by omega, by omega, by omega, by simp, by simp (disch := omega) only [go_sem, ↓reduceIte, zn1, zn2, zn3, zn4, zn5, zn6, reduceCtorEq, zn7, zi1, zi2, if_pos, if_neg, Int.reduceAdd, zn8, zna, Nat.zero_mul, Nat.add_zero, zn9, Nat.sub_zero, zl2, zl4, zl3, zl9, zl7, zl8, List.append_nil, List.take_length, List.take_nil, List.drop_nil, List.length_nil, List.length_set, List.length_replicate, List.flatten_nil, List.flatten_cons, Bool.not_true, Bool.not_false, Bool.false_eq_true, Bool.or_true, Bool.true_or, Bool.or_false, Bool.or_self, bne_self_eq_false, beq_self_eq_true] <;> rfl, rfl⟩, trivial⟩
  ·(repeat' (first | exact trivial | refine mapSl_cons qS ?_ ?_ | exact VMap.junk _ | exact VMap.sc _ | exact VMap.clo rfl | exact VMap.sl rfl (by omega) | exact VMap.cap rfl (by omega) | exact VMap.pt rfl (by omega) | exact VMap.nil_sl _ _ _ | exact VMap.int (by first | rfl | omega | (dsimp only; omega))))
   exact VMap.mp rfl (by omega)
 ·exact znc _
 clear hc hi hie
 clear i
 intro i hi K0 hK0
 by_cases hc : i < C.length
 ·have q1 : decide ((i : Int) < (C.length : Int)) = true := decide_eq_true (by omega)
  have gd := cxs_drop hc
  have hT := pbT_take hc k ids
  have hx := hC.get hc
  have hvx := (hV.faces _ (getD_mem (d := cx0) hc)).vg
  generalize C.getD i cx0 = x at *
  obtain ⟨xi, xd, xb⟩ := x
  have g2 : i * 3 < (cxs C).length := by omega
  have glb := fcs_len xb
  unfold cxC at gd
  have hxl := hx.len
  simp only [zl8, zl7] at gd hT hvx hxl
  by_cases hd : xd = k
  ·have q3 : (xd != k) = false := by rw [hd]; exact bne_self_eq_false k
   rw [if_pos hd] at hT
   refine qWf (Q7 @q1 @gd @gl @g2 @glb @q3 @glx) ?_
   refine SC.loop (fun j : Nat => ⟨[(0, .im (cxs C) C.length), (1, .sc (.int .i64 k)), (4, .pt 0 0), (5, .mp 1 mb ids (bxV ids.length)), (8, .pt 2 0), (34, .im (cxs C) C.length), (35, .sc (.int .i64 (C.length : Nat))), (36, .sc (.int .i64 (i : Nat))), (11, .sl 5 0 ids.length 2 none), (48, .im (fcs xb) xb.length), (49, .sc (.int .i64 (xb.length : Nat))), (50, .sc (.int .i64 (j : Nat)))], [(5, ⟨84, ivR (rowR xb ids j 0), false⟩), (2, ⟨34, [.sc (.int .i64 0), .sc (.int .i64 (ids.length : Nat)), .sl 3 0 (pbT (C.take i) k ids).length 1 none], false⟩), (3, ⟨80, imR ids.length (rI (pbT (C.take i) k ids)), false⟩), (0, ⟨34, [.sc (.int .i64 0), .sc (.int .i64 0), .sc (.slice none 0 0)], false⟩)], 6, 80⟩)
    (fun j => j ≤ xb.length) (fun j => xb.length - j) 0 ?_ ?_ ?_
   ·(refine Le.of [] hB (by first | exact ⟨znc _, fun _ _ => znc _⟩ | (constructor <;> (try simp) <;> (try omega))) ?_ ?_ <;> (repeat' (first | exact leSl_nil | exact leHp_nil | refine leSl_cons qT ?_ ?_ | refine leHp_cons qT ?_ ?_ | exact VLe.junk _ | exact VLe.refl rfl | exact VLe.nil_sl _ _ _ | exact VLe.int (by first | rfl | omega | (dsimp only; omega)) | exact VLe.bool rfl | exact VLe.sl rfl (by first | rfl | omega | (dsimp only; omega) | (simp; done)) | exact VLe.cap rfl (by first | rfl | omega | (dsimp only; omega) | (simp; done)) | exact VLe.im rfl rfl | exact HLe.new rfl | exact HLe.same rfl (LLe.refl rfl) | refine HLe.same rfl ?_ | exact LLe.nil _ | exact LLe.refl rfl | exact LLe.cl rfl qS | exact LLe.clR rfl qS | refine LLe.cons ?_ ?_)))
    ·exact LLe_zer _ (by unfold rowR; exact ilist_ext (by rw [mkR_len, List.length_replicate]) fun j hj => by rw [mkR_len] at hj; rw [mkR_get hj, if_neg (by omega), zl4, cfn_nil, List.getD_eq_getElem?_getD, List.getElem?_replicate]; simp [hj])
    ·exact LLe.cl rfl (imR_clo _ _)
   ·exact znc _
   rintro j hj K1 hK1
   by_cases hc2 : j < xb.length
   ·have r1 : decide ((j : Int) < (xb.length : Int)) = true := decide_eq_true (by omega)
    have gf := fcs_drop hc2
    obtain ⟨nf, lf, hqf⟩ := cfC_two (xb.getD j (0, some 0)).2
    obtain ⟨z, hz, _⟩ := (VG_iff.1 hvx).2.1 j hc2
    have ez : ivC z = [.sc (.bool nf), .im (lv lf) lf.length] := by rw [hz] at hqf; exact hqf
    have ecv : cv (xb.getD j (0, some 0)).2 = z := by rw [hz]; rfl
    rw [fcC, hqf] at gf
    have hst := fun t ht he => rowR_step (t := t) hvx hnd hc2 ht he ecv
    have hsk := rowR_skip (ids := ids) hc2
    generalize (xb.getD j (0, some 0)).1 = fi at *
    simp only [zl8, zl7] at gf
    have glR := ivR_len (rowR xb ids j 0)
    rw [rowR_len] at glR
    have gc := ivR_clo (rowR xb ids (j + 1) 0)
    rcases bx_get hnd fi with ⟨t, ht, he, gm⟩ | ⟨hno, gm⟩
    ·have hst := hst t ht he
     have gsR := ivR_set (l := rowR xb ids j 0) (i := t) z (by rw [rowR_len]; exact ht)
     rw [hst, ez] at gsR
     generalize rowR xb ids j 0 = r0 at *
     have g5 : t * 2 < (ivR r0).length := by omega
     refine qWf (Q8 @r1 @gf @glb @gm @gsR @glR @g5 @gD) ?_
     refine hK1 _ (j + 1) ?_ (by omega) (by omega)
     (refine Le.of [] hB (by first | exact ⟨znc _, fun _ _ => znc _⟩ | (constructor <;> (try simp) <;> (try omega))) ?_ ?_ <;> (repeat' (first | exact leSl_nil | exact leHp_nil | refine leSl_cons qT ?_ ?_ | refine leHp_cons qT ?_ ?_ | exact VLe.junk _ | exact VLe.refl rfl | exact VLe.nil_sl _ _ _ | exact VLe.int (by first | rfl | omega | (dsimp only; omega)) | exact VLe.bool rfl | exact VLe.sl rfl (by first | rfl | omega | (dsimp only; omega) | (simp; done)) | exact VLe.cap rfl (by first | rfl | omega | (dsimp only; omega) | (simp; done)) | exact VLe.im rfl rfl | exact HLe.new rfl | exact HLe.same rfl (LLe.refl rfl) | refine HLe.same rfl ?_ | exact LLe.nil _ | exact LLe.refl rfl | exact LLe.cl rfl qS | exact LLe.clR rfl qS | refine LLe.cons ?_ ?_)))
     ·exact LLe.cl rfl gc
     ·exact LLe.cl rfl (imR_clo _ _)
    ·rw [hsk hno] at *
     refine qWf (Q5 @r1 @gf @glb @gm @gD) ?_
     refine hK1 _ (j + 1) ?_ (by omega) (by omega)
     (refine Le.of [] hB (by first | exact ⟨znc _, fun _ _ => znc _⟩ | (constructor <;> (try simp) <;> (try omega))) ?_ ?_ <;> (repeat' (first | exact leSl_nil | exact leHp_nil | refine leSl_cons qT ?_ ?_ | refine leHp_cons qT ?_ ?_ | exact VLe.junk _ | exact VLe.refl rfl | exact VLe.nil_sl _ _ _ | exact VLe.int (by first | rfl | omega | (dsimp only; omega)) | exact VLe.bool rfl | exact VLe.sl rfl (by first | rfl | omega | (dsimp only; omega) | (simp; done)) | exact VLe.cap rfl (by first | rfl | omega | (dsimp only; omega) | (simp; done)) | exact VLe.im rfl rfl | exact HLe.new rfl | exact HLe.same rfl (LLe.refl rfl) | refine HLe.same rfl ?_ | exact LLe.nil _ | exact LLe.refl rfl | exact LLe.cl rfl qS | exact LLe.clR rfl qS | refine LLe.cons ?_ ?_)))
     ·exact LLe.cl rfl gc
     ·exact LLe.cl rfl (imR_clo _ _)
   ·have r1 : decide ((xb.length : Int) < (xb.length : Int)) = false := decide_eq_false (by omega)
    rw [show j = xb.length by omega, rowR_end]
    have hpl : (pbT (C.take i) k ids).length ≤ i := by
     unfold pbT
     rw [List.length_map]
     exact Nat.le_trans (List.length_filter_le _ _) (by rw [List.length_take]; omega)
    have gM3 := imI_len ids.length (pbT (C.take i) k ids)
    have gM2 := imRone ids.length (rI (pbT (C.take i) k ids))
    have gM := imR_clo ids.length (rI (pbT (C.take i) k ids))
    have gM4 : (imR ids.length (rI (pbT (C.take i) k ids))).take (pbT (C.take i) k ids).length = imR ids.length (rI (pbT (C.take i) k ids)) := zla (by omega)
    have glw := ivR_len (rowL xb ids)
    rw [rowL_len] at glw
    have gtw : (ivR (rowL xb ids)).take (ids.length * 2) = ivR (rowL xb ids) := zla (by omega)
    have gcw := ivR_clo (rowL xb ids)
    have hK2 : ∀ s' : SS, _ → K0 s' := fun s' h => hK0 s' (i + 1) h (by omega) (by omega)
    rw [hT, rI_snoc, imR_snoc, zl1, List.length_singleton] at hK2
    generalize pbT (C.take i) k ids = T at *
    generalize imR ids.length (rI T) = M0 at *
    generalize ivR (rowL xb ids) = R0 at *
    refine qWf (Q4 @r1 @gM2 @gM3 @gM4) ?_
    refine hK2 _ ?_
    refine appRow (pre := [.sc (.int .i64 0), .sc (.int .i64 (ids.length : Nat))]) (y := .im R0 ids.length) (ids := [5]) 2 3 7 hB qS qS (qSf (Q3 @gtw @gcw @glw)) rfl gM rfl (by omega) (by omega) (by simp) (by simp) ?_ (znc _) ?_
    ·exact ⟨⟨by omega, by omega, by omega, by simp, by simp (disch := omega) only [go_sem, ↓reduceIte, zn1, zn2, zn3, zn4, zn5, zn6, reduceCtorEq, zn7, zi1, zi2, if_pos, if_neg, Int.reduceAdd, zn8, zna, Nat.zero_mul, Nat.add_zero, zn9, Nat.sub_zero, zl2, zl4, zl3, zl9, zl7, zl8, List.append_nil, List.take_length, List.take_nil, List.drop_nil, List.length_nil, List.length_set, List.length_replicate, List.flatten_nil, List.flatten_cons, Bool.not_true, Bool.not_false, Bool.false_eq_true, Bool.or_true, Bool.true_or, Bool.or_false, Bool.or_self, bne_self_eq_false, beq_self_eq_true] <;> rfl, rfl⟩, trivial⟩
    ·(repeat' (first | exact trivial | refine mapSl_cons qS ?_ ?_ | exact VMap.junk _ | exact VMap.sc _ | exact VMap.clo rfl | exact VMap.sl rfl (by omega) | exact VMap.cap rfl (by omega) | exact VMap.pt rfl (by omega) | exact VMap.nil_sl _ _ _ | exact VMap.int (by first | rfl | omega | (dsimp only; omega))))
     exact VMap.mp rfl (by omega)
  ·have q3 : (xd != k) = true := bne_iff_ne.2 hd
   rw [if_neg hd, List.append_nil] at hT
   refine qWf (Q6 @q1 @gd @gl @g2 @glb @q3) ?_
   refine hK0 _ (i + 1) ?_ (by omega) (by omega)
   rw [hT]
   (refine Le.of [] hB (by first | exact ⟨znc _, fun _ _ => znc _⟩ | (constructor <;> (try simp) <;> (try omega))) ?_ ?_ <;> (repeat' (first | exact leSl_nil | exact leHp_nil | refine leSl_cons qT ?_ ?_ | refine leHp_cons qT ?_ ?_ | exact VLe.junk _ | exact VLe.refl rfl | exact VLe.nil_sl _ _ _ | exact VLe.int (by first | rfl | omega | (dsimp only; omega)) | exact VLe.bool rfl | exact VLe.sl rfl (by first | rfl | omega | (dsimp only; omega) | (simp; done)) | exact VLe.cap rfl (by first | rfl | omega | (dsimp only; omega) | (simp; done)) | exact VLe.im rfl rfl | exact HLe.new rfl | exact HLe.same rfl (LLe.refl rfl) | refine HLe.same rfl ?_ | exact LLe.nil _ | exact LLe.refl rfl | exact LLe.cl rfl qS | exact LLe.clR rfl qS | refine LLe.cons ?_ ?_)))
   exact LLe.cl rfl (imR_clo _ _)
 ·have q1 : decide ((i : Int) < (C.length : Int)) = false := decide_eq_false (by omega)
  rw [show i = C.length by omega, List.take_length, hfin]
  have q1 : decide ((C.length : Int) < (C.length : Int)) = false := decide_eq_false (by omega)
  have gM := imR_clo ids.length (rI M)
  have gM3 := imI_len ids.length M
  have gM4 : (imR ids.length (rI M)).take M.length = imR ids.length (rI M) := zla (by omega)
  generalize imR ids.length (rI M) = M0 at *
  refine qWf @q1 ?_
  exact retQ_ret Try.results17 (qSf (Q3 @gM @gM4 @gM3)) (qSf (Q3 @gM @gM4 @gM3)) rfl
end Go.Proofs.Ytdkkgndibagihaa
namespace Go.Proofs.Ytdkkgndibagihaa
open Go.RowKit
theorem dI_cong {f g f' g' : Nat → Int} : ∀ {n : Nat}, (∀ m, m < n → f m = f' m ∧ g m = g' m) → dotI f g n = dotI f' g' n
 | 0, _ => rfl
 | n + 1, h => by rw [dotI, dotI, dI_cong fun m hm => h m (by omega), (h n (by omega)).1, (h n (by omega)).2]
theorem dI_add {f f' g : Nat → Int} : ∀ {n : Nat}, dotI (fun m => f m + f' m) g n = dotI f g n + dotI f' g n
 | 0 => rfl
 | n + 1 => by rw [dotI, dotI, dotI, dI_add, Int.add_mul]; omega
theorem dI_zero {f g : Nat → Int} : ∀ {n : Nat}, (∀ m, m < n → f m = 0) → dotI f g n = 0
 | 0, _ => rfl
 | n + 1, h => by rw [dotI, dI_zero fun m hm => h m (by omega), h n (by omega), Int.zero_mul]; rfl
theorem dI_one {f g : Nat → Int} {t : Nat} : ∀ {n : Nat}, t < n → (∀ m, m < n → m ≠ t → f m = 0) → dotI f g n = f t * g t
 | 0, h, _ => absurd h (Nat.not_lt_zero _)
 | n + 1, h, h0 => by
  rw [dotI]
  by_cases e : t = n
  ·subst e
   rw [dI_zero fun m hm => h0 m (by omega) (by omega), Int.zero_add]
  ·rw [dI_one (by omega) fun m hm hne => h0 m (by omega) hne, h0 n (by omega) (fun h => e h.symm), Int.zero_mul, Int.add_zero]
def bS (g : Int → Int) : Ch → Int
 | [] => 0
 | f :: r => cv f.2 * g f.1 + bS g r
theorem bdn_bS (C : List Cx) (n : Int) : ∀ b : Ch, bdn C b n = bS (fun id => cfn (bOf C id) n) b
 | [] => rfl
 | f :: r => by rw [bdn, bS, bdn_bS C n r]
theorem sum_ids {ids : List Int} (hn : ids.Nodup) (g : Int → Int) : ∀ {b : Ch}, (∀ f ∈ b, f.1 ∈ ids) → dotI (fun m => cfn b (ids.getD m 0)) (fun m => g (ids.getD m 0)) ids.length = bS g b
 | [], _ => dI_zero fun m _ => rfl
 | f :: r, h => by
  obtain ⟨t, ht, e⟩ := List.getElem_of_mem (h f List.mem_cons_self)
  have et : ids.getD t 0 = f.1 := by rw [List.getD_eq_getElem?_getD, zlb ht]; exact e
  rw [bS, ← sum_ids hn g fun q hq => h q (List.mem_cons_of_mem _ hq)]
  rw [show (fun m => cfn (f :: r) (ids.getD m 0)) = fun m => (if f.1 = ids.getD m 0 then cv f.2 else 0) + cfn r (ids.getD m 0) from rfl, dI_add]
  rw [dI_one (f := fun m => if f.1 = ids.getD m 0 then cv f.2 else 0) ht fun m hm hne => ?_, et, if_pos rfl]
  refine if_neg fun h2 => hne ?_
  rw [← et, List.getD_eq_getElem?_getD, List.getD_eq_getElem?_getD, zlb ht, zlb hm] at h2
  exact ((List.getElem_inj hn).1 (show ids[t] = ids[m] from h2)).symm
theorem cbM_ent {C : List Cx} (hV : VAL C) {k k' : Int} {i j : Nat} (hi : i < (idsL C k).length) (hj : j < (idsL C k').length) : ent2 (cbM C k k') i j = cfn (bOf C ((idsL C k).getD i 0)) ((idsL C k').getD j 0) := by
 unfold ent2 cbM
 rw [List.getD_eq_getElem?_getD (l := List.map _ (idsL C k)), List.getElem?_map, getD_get' (d := 0) hi]
 show (rowL (bOf C ((idsL C k).getD i 0)) (idsL C k')).getD j 0 = _
 unfold rowL
 rw [List.getD_eq_getElem?_getD, List.getElem?_map, getD_get' (d := 0) hj]; rfl
theorem bd_sq {C : List Cx} (hV : VAL C) {k : Int} {i j : Nat} (hi : i < (idsL C k).length) (hj : j < (idsL C (k - 1 - 1)).length) :
  dotI (fun m => ent2 (cbM C k (k - 1)) i m) (fun m => ent2 (cbM C (k - 1) (k - 1 - 1)) m j) (idsL C (k - 1)).length = 0 := by
 obtain ⟨x, hx, hd, he⟩ := idsL_mem (getD_mem (d := 0) hi)
 have hb : bOf C ((idsL C k).getD i 0) = x.b := by rw [← he]; unfold bOf; rw [hV.find hx]; rfl
 have hF := hV.faces x hx
 have hin : ∀ f ∈ x.b, f.1 ∈ idsL C (k - 1) := fun f hf => by
  obtain ⟨y, hy⟩ := hF.there f hf
  have h1 := hF.dims f hf y hy
  obtain ⟨hm, hid⟩ := findL_mem hy
  rw [← hid]
  exact List.mem_map.2 ⟨y, List.mem_filter.2 ⟨hm, by simpa [hd] using h1⟩, rfl⟩
 rw [dI_cong (f' := fun m => cfn x.b ((idsL C (k - 1)).getD m 0)) (g' := fun m => cfn (bOf C ((idsL C (k - 1)).getD m 0)) ((idsL C (k - 1 - 1)).getD j 0)) fun m hm => ⟨by rw [cbM_ent hV hi hm, hb], cbM_ent hV hm hj⟩]
 rw [sum_ids (idsL_nodup _ hV.srt.pw) (fun id => cfn (bOf C id) ((idsL C (k - 1 - 1)).getD j 0)) hin, ← bdn_bS]
 exact hV.closed x hx _
end Go.Proofs.Ytdkkgndibagihaa
namespace Go.Proofs.Ytdkkgndibagihaa
open Go.RowKit
theorem dI_swap {c : Nat → Int} {L : Nat → Nat → Int} {g : Nat → Int} {n : Nat} : ∀ {m : Nat}, dotI (fun t => dotI c (fun s => L s t) n) g m = dotI c (fun s => dotI (fun t => L s t) g m) n
 | 0 => (by
  show (0 : Int) = _
  refine (Eq.symm ?_)
  have : ∀ n, dotI c (fun s => dotI (fun t => L s t) g 0) n = 0 := fun n => by
   induction n with
   | zero => rfl
   | succ n ih => rw [dotI, ih]; show 0 + c n * 0 = 0; omega
  exact this n)
 | m + 1 => by
  rw [dotI, dI_swap (m := m)]
  have : ∀ n, dotI c (fun s => dotI (fun t => L s t) g m) n + dotI c (fun s => L s m) n * g m = dotI c (fun s => dotI (fun t => L s t) g (m + 1)) n := fun n => by
   induction n with
   | zero => show 0 + 0 * g m = 0; omega
   | succ n ih =>
    rw [dotI, dotI, dotI, ← ih, show dotI (fun t => L n t) g (m + 1) = dotI (fun t => L n t) g m + L n m * g m from rfl]
    rw [Int.add_mul, Int.mul_add, Int.mul_assoc]
    omega
  exact this n
theorem bS_fromL (g : Int → Int) : ∀ {v ids : List Int}, v.length = ids.length → bS g (fromL v ids) = dotI (fun t => v.getD t 0) (fun t => g (ids.getD t 0)) ids.length
 | [], [], _ => rfl
 | [], _ :: _, h => by simp at h
 | _ :: _, [], h => by simp at h
 | z :: v, n :: ids, h => by
  have h' : v.length = ids.length := by simpa using h
  have key : ∀ (v ids : List Int) m, dotI (fun t => (z :: v).getD t 0) (fun t => g ((n :: ids).getD t 0)) (m + 1) = z * g n + dotI (fun t => v.getD t 0) (fun t => g (ids.getD t 0)) m := fun v ids m => by
   induction m with
   | zero => show 0 + z * g n = z * g n + 0; omega
   | succ m ih =>
    rw [dotI, ih, dotI]
    show z * g n + _ + v.getD m 0 * g (ids.getD m 0) = _
    omega
  rw [List.length_cons, key, ← bS_fromL g h', fromL]
  by_cases hz : z = 0
  ·rw [if_pos hz, hz, Int.zero_mul, Int.zero_add]
  ·rw [if_neg hz]; rfl
theorem fromL_vg : ∀ {v ids : List Int} {p : Option Int}, ids.Pairwise (· < ·) → (∀ q, p = some q → ∀ n ∈ ids, q < n) → VG p (fromL v ids)
 | [], _, _, _, _ => by rw [fromL_nil]; trivial
 | _ :: _, [], _, _, _ => by simp [fromL, VG]
 | z :: v, n :: ids, p, hs, hp => by
  rw [List.pairwise_cons] at hs
  rw [fromL]
  by_cases hz : z = 0
  ·rw [if_pos hz]; exact fromL_vg hs.2 fun q hq m hm => hp q hq m (List.mem_cons_of_mem _ hm)
  ·rw [if_neg hz]
   exact ⟨fun q hq => hp q hq n List.mem_cons_self, ⟨z, rfl, hz⟩, fromL_vg hs.2 fun q hq m hm => by cases hq; exact hs.1 m hm⟩
theorem idsL_sorted {C : List Cx} (h : Srt C) (k : Int) : (idsL C k).Pairwise (· < ·) := by
 unfold idsL
 rw [List.pairwise_map]
 exact h.pw.filter _
theorem cfn_none {b : Ch} {n : Int} (h : ∀ f ∈ b, f.1 ≠ n) : cfn b n = 0 := by
 induction b with
 | nil => rfl
 | cons f r ih => rw [cfn, if_neg (h f List.mem_cons_self), ih fun g hg => h g (List.mem_cons_of_mem _ hg)]; rfl
theorem CycF.closed {C : List Cx} {k : Nat} {l : List Int} {F : Ch} (h : CycF C k l F) (hV : VAL C) (n : Int) : bdn C F n = 0 := by
 obtain ⟨L, rfl, h1, _, h3⟩ := h
 have hlen : (cyV l L (cn C k)).length = (idsL C k).length := by unfold cyV; exact mkR_len
 rw [bdn_bS, bS_fromL _ hlen]
 rw [dI_cong (f' := fun t => dotI (cyF l) (fun s => ent2 L s t) (cyN l L)) (g' := fun t => cfn (bOf C ((idsL C k).getD t 0)) n) fun t ht => ⟨by unfold cyV; exact mkR_get ht, rfl⟩, dI_swap]
 have hz : ∀ s, s < cyN l L → dotI (fun t => ent2 L s t) (fun t => cfn (bOf C ((idsL C k).getD t 0)) n) (idsL C k).length = 0 := fun s hs => by
  have hsL : s < L.length := by unfold cyN at hs; omega
  by_cases hn : n ∈ idsL C (k - 1)
  ·obtain ⟨c, hc, e⟩ := List.getElem_of_mem hn
   have ec : (idsL C (k - 1)).getD c 0 = n := by rw [List.getD_eq_getElem?_getD, zlb hc]; exact e
   refine Eq.trans ?_ (h3 s hsL c hc)
   exact dI_cong fun t ht => ⟨rfl, by rw [cbM_ent hV ht hc, ec]⟩
  ·have h0 : ∀ m, dotI (fun t => ent2 L s t) (fun t => cfn (bOf C ((idsL C k).getD t 0)) n) m = 0 ∨ (idsL C k).length < m := fun m => by
    induction m with
    | zero => exact .inl rfl
    | succ m ih =>
     rcases Nat.lt_or_ge (idsL C k).length (m + 1) with h | h
     ·exact .inr h
     ·left
      rw [dotI, ih.resolve_right (by omega)]
      obtain ⟨x, hx, hd, he⟩ := idsL_mem (getD_mem (d := 0) (show m < (idsL C k).length by omega))
      have hb : bOf C ((idsL C k).getD m 0) = x.b := by rw [← he]; unfold bOf; rw [hV.find hx]; rfl
      rw [hb, cfn_none fun f hf e => hn ?_, Int.mul_zero]; rfl
      obtain ⟨y, hy⟩ := (hV.faces x hx).there f hf
      have h4 := (hV.faces x hx).dims f hf y hy
      obtain ⟨hm, hid⟩ := findL_mem hy
      rw [← e, ← hid]
      exact List.mem_map.2 ⟨y, List.mem_filter.2 ⟨hm, by simpa [hd] using h4⟩, rfl⟩
   exact (h0 _).resolve_right (by omega)
 have : ∀ m, m ≤ cyN l L → dotI (cyF l) (fun s => dotI (fun t => ent2 L s t) (fun t => cfn (bOf C ((idsL C k).getD t 0)) n) (idsL C k).length) m = 0 := fun m hm => by
  induction m with
  | zero => rfl
  | succ m ih => rw [dotI, ih (by omega), hz m (by omega), Int.mul_zero]; rfl
 exact this _ (znb _)
theorem CellF.fits {C : List Cx} {x : Rwc} {y : Cx} (h : CellF C x y) (hV : VAL C) : FacesOk C y ∧ ∀ n, bdn C y.b n = 0 := by
 obtain ⟨F, rfl, hF⟩ := h
 by_cases hd : x.dim % 4 = 0
 ·have e : (cellL x F).b = [] := by unfold cellL; rw [if_pos hd]
  refine ⟨⟨?_, ?_, ?_, ?_⟩, ?_⟩
  ·rw [e]; trivial
  ·rw [e]; intro f hf; cases hf
  ·unfold cellL; simp only; omega
  ·rw [e]; intro f hf; cases hf
  ·rw [e]; intro n; rfl
 ·have hF := hF.resolve_left hd
  have e : (cellL x F).b = F := by unfold cellL; rw [if_neg hd]
  have hcl := hF.closed hV
  have hmem : ∀ f ∈ F, f.1 ∈ idsL C ((x.dim % 4 - 1 : Nat) : Int) := by
   obtain ⟨L, rfl, _⟩ := hF
   exact fun f hf => (fromL_mem hf).1
  have hvg : VG none F := by
   obtain ⟨L, rfl, _⟩ := hF
   exact fromL_vg (idsL_sorted hV.srt _) fun q hq => by cases hq
  refine ⟨⟨by rw [e]; exact hvg, ?_, ?_, ?_⟩, by rw [e]; exact hcl⟩
  ·rw [e]
   intro f hf
   obtain ⟨z, hz, _, h2⟩ := idsL_mem (hmem f hf)
   exact ⟨z, by rw [← h2]; exact hV.find hz⟩
  ·unfold cellL; simp only; omega
  ·rw [e]
   intro f hf y hy
   obtain ⟨z, hz, h1, h2⟩ := idsL_mem (hmem f hf)
   rw [← h2, hV.find hz] at hy
   cases hy
   rw [h1]
   unfold cellL
   simp only
   omega
end Go.Proofs.Ytdkkgndibagihaa
namespace Go.Proofs.Ytdkkgndibagihaa
theorem eulL_ins (C : List Cx) (x : Cx) : eulL (insL C x) = eulL C + (if x.dim.tmod 2 = 0 then 1 else -1) := by
 have h := eulL_app (C.take (lbn C x.id)) (C.drop (lbn C x.id))
 rw [List.take_append_drop] at h
 unfold insL
 rw [eulL_app, eulL, h]
 omega
theorem topL_ins (C : List Cx) (x : Cx) : topL (insL C x) = max (topL C) x.dim := by
 have h := topL_app (C.take (lbn C x.id)) (C.drop (lbn C x.id))
 rw [List.take_append_drop] at h
 unfold insL
 rw [topL_app, topL, h]
 omega
theorem cn_total : ∀ {C : List Cx}, (∀ x ∈ C, 0 ≤ x.dim ∧ x.dim ≤ 3) → cn C 0 + cn C 1 + cn C 2 + cn C 3 = C.length ∧ eulL C = (cn C 0 : Int) - cn C 1 + cn C 2 - cn C 3
 | [], _ => ⟨rfl, rfl⟩
 | x :: C, h => by
  obtain ⟨h1, h2⟩ := cn_total (C := C) fun y hy => h y (List.mem_cons_of_mem _ hy)
  have hx := h x List.mem_cons_self
  rw [cn_cons, cn_cons, cn_cons, cn_cons, List.length_cons, eulL, h2]
  have hd : x.dim = 0 ∨ x.dim = 1 ∨ x.dim = 2 ∨ x.dim = 3 := by omega
  rcases hd with e | e | e | e <;> rw [e] <;> constructor <;> simp <;> omega
theorem topL_le {C : List Cx} {x : Cx} (h : x ∈ C) : x.dim ≤ topL C := by
 induction C with
 | nil => cases h
 | cons y r ih =>
  rw [topL]
  rcases List.mem_cons.1 h with e | e
  ·subst e; omega
  ·have := ih e; omega
theorem topL_mem : ∀ {C : List Cx}, C ≠ [] → (∀ x ∈ C, 0 ≤ x.dim) → ∃ x ∈ C, x.dim = topL C
 | [], h, _ => absurd rfl h
 | y :: r, _, h => by
  have hy := h y List.mem_cons_self
  rw [topL]
  by_cases hr : r = []
  ·subst hr
   exact ⟨y, List.mem_cons_self, by rw [topL]; omega⟩
  ·obtain ⟨x, hx, e⟩ := topL_mem hr fun z hz => h z (List.mem_cons_of_mem _ hz)
   rcases Int.lt_or_le y.dim (topL r) with h1 | h1
   ·exact ⟨x, List.mem_cons_of_mem _ hx, by omega⟩
   ·exact ⟨y, List.mem_cons_self, by omega⟩
theorem top_law {C : List Cx} (h : ∀ x ∈ C, 0 ≤ x.dim ∧ x.dim ≤ 3) : (topL C < 0 ↔ C.length = 0) ∧ (topL C < 0 ∨ 0 < (idsL C (topL C)).length) ∧ (idsL C (topL C + 1)).length = 0 := by
 refine ⟨⟨fun h1 => ?_, fun h1 => ?_⟩, ?_, ?_⟩
 ·cases C with
  | nil => rfl
  | cons x r => have h2 := topL_le (C := x :: r) (x := x) List.mem_cons_self; have := (h x List.mem_cons_self).1; omega
 ·rw [List.length_eq_zero_iff.1 h1]; decide
 ·by_cases hc : C = []
  ·left; rw [hc]; decide
  ·right
   obtain ⟨x, hx, e⟩ := topL_mem hc fun z hz => (h z hz).1
   exact List.length_pos_of_mem (List.mem_map.2 ⟨x, List.mem_filter.2 ⟨hx, by simpa using e⟩, rfl⟩)
 ·refine List.length_eq_zero_iff.2 (List.eq_nil_iff_forall_not_mem.2 fun n hn => ?_)
  obtain ⟨x, hx, hd, _⟩ := idsL_mem hn
  have := topL_le hx
  omega
end Go.Proofs.Ytdkkgndibagihaa
namespace Go.Proofs.Ytdkkgndibagihaa
open Go.RowKit
def useF (b : Ch) (id : Int) : Bool := b.any fun f => decide (f.1 = id)
def usesL (C : List Cx) (id : Int) : Bool := C.any fun x => useF x.b id
theorem useF_take {b : Ch} {k : Nat} (h : k < b.length) (id : Int) : useF (b.take (k + 1)) id = (useF (b.take k) id || decide ((b.getD k (0, some 0)).1 = id)) := by
 unfold useF
 rw [List.take_add_one, zlb h, List.any_append, List.getD_eq_getElem?_getD, zlb h]
 simp
theorem usesL_take {C : List Cx} {i : Nat} (h : i < C.length) (id : Int) : usesL (C.take (i + 1)) id = (usesL (C.take i) id || useF (C.getD i cx0).b id) := by
 unfold usesL
 rw [take_getD h, List.any_append]
 simp
theorem useF_mem {b : Ch} {k : Nat} (h : k < b.length) {id : Int} (he : (b.getD k (0, some 0)).1 = id) : useF b id = true := List.any_eq_true.2 ⟨_, getD_mem h, decide_eq_true he⟩
theorem usesL_mem {C : List Cx} {i : Nat} (h : i < C.length) {id : Int} (he : useF (C.getD i cx0).b id = true) : usesL C id = true := List.any_eq_true.2 ⟨_, getD_mem h, he⟩
set_option maxHeartbeats 8000000 in
theorem ruses_s {C : List Cx} {K : Nat} {id : Int} (hC : CxOk K C) : Spec Try.prog 34 [cxV C, .sc (.int .i64 id)] (.sc (.bool (usesL C id))) := by
 have hCl := hC.len
 have gl := cxs_len C
 unfold cxV
 generalize hr : usesL C id = r
 refine qF Try.func34 Try.ntmps34 fun B hB => ?_
 refine qW ?_
 refine SC.loop (fun i : Nat => ⟨[(0, .im (cxs C) C.length), (1, .sc (.int .i64 id)), (5, .sc (.int .i64 (i : Nat)))], [], 0, 34⟩) (fun i => i ≤ C.length ∧ usesL (C.take i) id = false) (fun i => C.length - i) 0 ?_ ?_ ?_
 ·exact qLc
 ·exact ⟨znc _, rfl⟩
 rintro i ⟨hi, hI⟩ K0 hK0
 by_cases hc : i < C.length
 ·have q1 : decide ((i : Int) < (C.length : Int)) = true := decide_eq_true (by omega)
  have gd := cxs_drop hc
  have hx := (hC.get hc).len
  have hT := usesL_take hc id
  have hM := usesL_mem (id := id) hc
  generalize C.getD i cx0 = x at *
  obtain ⟨xi, xd, xb⟩ := x
  have g2 : i * 3 < (cxs C).length := by omega
  have glb := fcs_len xb
  unfold cxC at gd
  simp only [zl8, zl7] at gd hT hM hx
  refine qWf (Q5 @q1 @gd @gl @g2 @glb) ?_
  refine SC.loop (fun j : Nat => ⟨[(0, .im (cxs C) C.length), (1, .sc (.int .i64 id)), (5, .sc (.int .i64 (i : Nat))), (6, .sc (.int .i64 (j : Nat)))], [], 0, 34⟩) (fun j => j ≤ xb.length ∧ useF (xb.take j) id = false) (fun j => xb.length - j) 0 ?_ ?_ ?_
  ·exact qLc
  ·exact ⟨znc _, rfl⟩
  rintro j ⟨hj, hJ⟩ K1 hK1
  by_cases hc2 : j < xb.length
  ·have q2 : decide ((j : Int) < (xb.length : Int)) = true := decide_eq_true (by omega)
   have gf := fcs_drop hc2
   have hT2 := useF_take hc2 id
   have hM2 := useF_mem (id := id) hc2
   obtain ⟨nf, lf, hqf⟩ := cfC_two (xb.getD j (0, some 0)).2
   rw [fcC, hqf] at gf
   generalize (xb.getD j (0, some 0)).1 = fi at *
   have g3 : j * 3 < (fcs xb).length := by omega
   simp only [zl8, zl7] at gf
   by_cases he : fi = id
   ·have q3 : (fi == id) = true := by rw [beq_iff_eq]; exact he
    have hr1 : r = true := by rw [← hr]; exact hM (hM2 he)
    rw [hr1]
    refine qWf (Q10 @q1 @q2 @q3 @gd @gl @g2 @gf @glb @g3 @gD) ?_
    exact qE Try.results34
   ·have q3 : (fi == id) = false := by rw [beq_eq_false_iff_ne]; exact he
    refine qWf (Q10 @q1 @q2 @q3 @gd @gl @g2 @gf @glb @g3 @gD) ?_
    refine hK1 _ (j + 1) ?_ ⟨by omega, by rw [hT2, hJ, decide_eq_false he]; rfl⟩ (by omega)
    exact qLc
  ·have q2 : decide ((j : Int) < (xb.length : Int)) = false := decide_eq_false (by omega)
   rw [zla (by omega)] at hJ
   refine qWf (Q6 @q1 @q2 @gd @gl @g2 @glb) ?_
   refine hK0 _ (i + 1) ?_ ⟨by omega, by rw [hT, hI, hJ]; rfl⟩ (by omega)
   exact qLc
 ·have q1 : decide ((i : Int) < (C.length : Int)) = false := decide_eq_false (by omega)
  rw [zla (by omega)] at hI
  rw [hI] at hr
  subst hr
  refine qWf @q1 ?_
  exact qE Try.results34
def remL (C : List Cx) (id : Int) : List Cx := C.filter fun x => decide (x.id ≠ id)
def remE (C : List Cx) (id : Int) : Int := if (findL C id).isSome then (if usesL C id then 253 else 0) else 250
def remV (C : List Cx) (id : Int) : V := .tu [cxV (if remE C id = 0 then remL C id else []), .sc (.int .i64 (remE C id))]
theorem remL_take {C : List Cx} {i : Nat} (h : i < C.length) (id : Int) : remL (C.take (i + 1)) id = remL (C.take i) id ++ if (C.getD i cx0).id = id then [] else [C.getD i cx0] := by
 rw [take_getD h]
 unfold remL
 rw [List.filter_append]
 congr 1
 by_cases hd : (C.getD i cx0).id = id
 ·rw [if_pos hd, List.filter_cons_of_neg (by simpa using hd)]; rfl
 ·rw [if_neg hd, List.filter_cons_of_pos (by simpa using hd)]; rfl
theorem cxs_snoc (C : List Cx) (x : Cx) : cxs C ++ cxC x = cxs (C ++ [x]) := by unfold cxs; simp
set_option maxHeartbeats 8000000 in
theorem rremove_s {C : List Cx} {K : Nat} {id : Int} (hC : CxOk K C) : Spec Try.prog 35 [cxV C, .sc (.int .i64 id)] (remV C id) := by
 have hCl := hC.len
 have gl := cxs_len C
 have c1 := rcfind_s (id := id) hCl
 have c2 := ruses_s (id := id) hC
 unfold remV remE
 generalize hF : remL C id = F
 generalize usesL C id = r at *
 generalize (findL C id).isSome = fo at *
 generalize (findL C id).getD cx0 = y at *
 obtain ⟨yi, yd, yb⟩ := y
 unfold cxC cxV at c1
 unfold cxV at *
 simp only at c1
 cases fo with
 | false =>
  refine qF Try.func35 Try.ntmps35 fun B hB => ?_
  refine qW ?_
  exact qE Try.results35
 | true =>
  cases r with
  | true =>
   refine qF Try.func35 Try.ntmps35 fun B hB => ?_
   refine qW ?_
   exact qE Try.results35
  | false =>
   have eg : (.tu [.im (cxs (if (if (true = true) then (if (false = true) then (253 : Int) else 0) else 250) = 0 then F else [])) (if (if (true = true) then (if (false = true) then (253 : Int) else 0) else 250) = 0 then F else []).length, .sc (.int .i64 (if (true = true) then (if (false = true) then 253 else 0) else 250))] : V) = .tu [.im (cxs F) F.length, .sc (.int .i64 0)] := by simp
   rw [eg]
   clear eg
   refine qF Try.func35 Try.ntmps35 fun B hB => ?_
   refine qW ?_
   refine SC.loop (fun x : Nat × List Cx => ⟨[(0, .im (cxs C) C.length), (1, .sc (.int .i64 id)), (8, .sl 1 0 x.2.length 3 none), (9, .sc (.int .i64 (x.1 : Nat)))], [(1, ⟨39, cxs x.2, false⟩)], 2, 43⟩)
    (fun x => x.1 ≤ C.length ∧ x.2.length ≤ x.1 ∧ x.2 = remL (C.take x.1) id) (fun x => C.length - x.1) (0, []) ?_ ?_ ?_
   ·exact qLc
   ·exact ⟨znc _, znc _, rfl⟩
   rintro ⟨i, out⟩ ⟨hi, hol, hO⟩ K0 hK0
   simp only at hi hol hO
   have glo := cxs_len out
   by_cases hc : i < C.length
   ·have q1 : decide ((i : Int) < (C.length : Int)) = true := decide_eq_true (by omega)
    have gd := cxs_drop hc
    have hT := remL_take hc id
    generalize C.getD i cx0 = x at *
    have es := cxs_snoc out x
    obtain ⟨xi, xd, xb⟩ := x
    have g2 : i * 3 < (cxs C).length := by omega
    have glb := fcs_len xb
    have et : (cxs out).take (out.length * 3) = cxs out := zla (by omega)
    unfold cxC at gd es
    simp only [zl8, zl7] at gd hT es
    by_cases he : xi = id
    ·have q3 : (xi != id) = false := by rw [he]; exact bne_self_eq_false id
     rw [if_pos he, List.append_nil] at hT
     refine qWf (Q6 @q1 @q3 @gd @gl @g2 @gD) ?_
     refine hK0 _ (i + 1, out) ?_ ⟨hc, by show out.length ≤ i + 1; omega, by show out = _; rw [hT]; exact hO⟩ (by show C.length - (i + 1) < C.length - i; omega)
     exact qLc
    ·have q3 : (xi != id) = true := bne_iff_ne.2 he
     rw [if_neg he] at hT
     have el : (out ++ [(⟨xi, xd, xb⟩ : Cx)]).length = out.length + 1 := by simp
     refine qWf (Q9 @q1 @q3 @gd @gl @g2 @glo @et @glb @gD) ?_
     rw [es]
     refine hK0 _ (i + 1, out ++ [⟨xi, xd, xb⟩]) (Le.swap 1 3 hB (by omega) (by omega) ?_) ⟨hc, by show (out ++ [_]).length ≤ i + 1; rw [el]; omega, by show out ++ [_] = _; rw [hT, hO]⟩ (by show C.length - (i + 1) < C.length - i; omega)
     rw [el]
     exact qLc
   ·have q1 : decide ((i : Int) < (C.length : Int)) = false := decide_eq_false (by omega)
    rw [zla (by omega), hF] at hO
    subst hO
    have ht : (cxs out).take (out.length * 3) = cxs out := zla (by omega)
    have hcl := cxs_clo out
    refine qWf @q1 ?_
    exact retQ_ret Try.results35 qS (qSf (Q3 @glo @ht @hcl)) rfl
end Go.Proofs.Ytdkkgndibagihaa
namespace Go.Proofs.Ytdkkgndibagihaa
theorem srt_ext : ∀ {A B : List Cx}, A.Pairwise (fun a b => a.id < b.id) → B.Pairwise (fun a b => a.id < b.id) → (∀ x, x ∈ A ↔ x ∈ B) → A = B
 | [], [], _, _, _ => rfl
 | [], b :: B, _, _, h => absurd ((h b).2 List.mem_cons_self) List.not_mem_nil
 | a :: A, [], _, _, h => absurd ((h a).1 List.mem_cons_self) List.not_mem_nil
 | a :: A, b :: B, hA, hB, h => by
  rw [List.pairwise_cons] at hA hB
  have e : a = b := by
   rcases List.mem_cons.1 ((h a).1 List.mem_cons_self) with e | e
   ·exact e
   ·rcases List.mem_cons.1 ((h b).2 List.mem_cons_self) with e2 | e2
    ·exact e2.symm
    ·have h1 := hB.1 a e
     have h2 := hA.1 b e2
     omega
  subst e
  rw [srt_ext hA.2 hB.2 fun x => ?_]
  constructor
  ·intro hx
   rcases List.mem_cons.1 ((h x).1 (List.mem_cons_of_mem _ hx)) with e | e
   ·subst e; have := hA.1 x hx; omega
   ·exact e
  ·intro hx
   rcases List.mem_cons.1 ((h x).2 (List.mem_cons_of_mem _ hx)) with e | e
   ·subst e; have := hB.1 x hx; omega
   ·exact e
theorem findL_no {C : List Cx} {id : Int} (h : findL C id = none) {x : Cx} (hx : x ∈ C) : x.id ≠ id := by
 unfold findL at h
 have := List.find?_eq_none.1 h x hx
 simpa using this
theorem rem_ins {C : List Cx} {x : Cx} (h : findL C x.id = none) : remL (insL C x) x.id = C := by
 have key : ∀ l : List Cx, (∀ z ∈ l, z ∈ C) → l.filter (fun z => decide (z.id ≠ x.id)) = l := fun l hl => List.filter_eq_self.2 fun z hz => decide_eq_true (findL_no h (hl z hz))
 unfold remL insL
 rw [List.filter_append, List.filter_cons_of_neg (by simp), key _ fun z hz => List.mem_of_mem_take hz, key _ fun z hz => List.mem_of_mem_drop hz, List.take_append_drop]
theorem ins_comm {C : List Cx} {a b : Cx} (hs : Srt C) (ha : findL C a.id = none) (hb : findL C b.id = none) (hab : a.id ≠ b.id) : insL (insL C a) b = insL (insL C b) a := by
 have h1 : findL (insL C a) b.id = none := by rw [findL_ins ha, if_neg fun h => hab h.symm]; exact hb
 have h2 : findL (insL C b) a.id = none := by rw [findL_ins hb, if_neg hab]; exact ha
 refine srt_ext ((hs.ins ha).ins h1).pw ((hs.ins hb).ins h2).pw fun x => ?_
 rw [mem_ins, mem_ins, mem_ins, mem_ins]
 constructor <;> rintro (h | h | h) <;> simp [h]
theorem uses_ins {C : List Cx} {x : Cx} (hV : VAL C) (h : findL C x.id = none) (hx : FacesOk C x) : usesL (insL C x) x.id = false := by
 rw [Bool.eq_false_iff]
 intro hu
 obtain ⟨z, hz, hu⟩ := List.any_eq_true.1 hu
 obtain ⟨f, hf, he⟩ := List.any_eq_true.1 hu
 have he : f.1 = x.id := of_decide_eq_true he
 have hF : FacesOk C z := by
  rcases mem_ins.1 hz with e | e
  ·rw [e]; exact hx
  ·exact hV.faces z e
 obtain ⟨y, hy⟩ := hF.there f hf
 rw [he, h] at hy
 cases hy
theorem rem_mem {C : List Cx} {id : Int} {z : Cx} : z ∈ remL C id ↔ z ∈ C ∧ z.id ≠ id := by
 unfold remL
 rw [List.mem_filter]
 simp
theorem srt_of_pw {C : List Cx} (h : C.Pairwise (fun a b => a.id < b.id)) : Srt C := fun i j hij hj => by
 rw [List.getD_eq_getElem?_getD, List.getD_eq_getElem?_getD, zlb hj, zlb (by omega)]
 exact List.pairwise_iff_getElem.1 h i j (by omega) hj hij
theorem Srt.rem {C : List Cx} (h : Srt C) (id : Int) : Srt (remL C id) := srt_of_pw (h.pw.filter _)
theorem find_rem {C : List Cx} (hs : Srt C) {id n : Int} (hn : n ≠ id) : findL (remL C id) n = findL C n := by
 have find : ∀ {D : List Cx}, Srt D → ∀ {x : Cx}, x ∈ D → findL D x.id = some x := fun {D} hD {x} hx => by
  obtain ⟨i, hi, e⟩ := mem_idx hx
  rw [← e]; exact findL_some hD hi rfl
 cases e : findL C n with
 | none =>
  cases e2 : findL (remL C id) n with
  | none => rfl
  | some y =>
   obtain ⟨h1, h2⟩ := findL_mem e2
   exact absurd h2 (findL_no e (rem_mem.1 h1).1)
 | some y =>
  obtain ⟨h1, h2⟩ := findL_mem e
  rw [← h2]
  exact find (hs.rem id) (rem_mem.2 ⟨h1, by rw [h2]; exact hn⟩)
theorem VAL.rem {C : List Cx} (hV : VAL C) {id : Int} (hu : usesL C id = false) : VAL (remL C id) := by
 have hno : ∀ x ∈ C, ∀ f ∈ x.b, f.1 ≠ id := fun x hx f hf e => by
  rw [Bool.eq_false_iff] at hu
  exact hu (List.any_eq_true.2 ⟨x, hx, List.any_eq_true.2 ⟨f, hf, decide_eq_true e⟩⟩)
 refine ⟨Nat.le_trans (List.length_filter_le _ _) hV.len, hV.srt.rem id, fun x hx => ?_, fun x hx n => ?_⟩
 ·have hC := (rem_mem.1 hx).1
  have hF := hV.faces x hC
  refine ⟨hF.vg, fun f hf => ?_, hF.dim, fun f hf y hy => ?_⟩
  ·rw [find_rem hV.srt (hno x hC f hf)]; exact hF.there f hf
  ·rw [find_rem hV.srt (hno x hC f hf)] at hy; exact hF.dims f hf y hy
 ·have hC := (rem_mem.1 hx).1
  have key : ∀ b : Ch, (∀ f ∈ b, f.1 ≠ id) → bdn (remL C id) b n = bdn C b n := fun b => by
   induction b with
   | nil => intro _; rfl
   | cons f r ih =>
    intro hb
    rw [bdn, bdn, ih fun g hg => hb g (List.mem_cons_of_mem _ hg)]
    unfold bOf
    rw [find_rem hV.srt (hb f List.mem_cons_self)]
  rw [key _ (hno x hC)]
  exact hV.closed x hC n
end Go.Proofs.Ytdkkgndibagihaa
namespace Go.Proofs.Ytdkkgndibagihaa
theorem lbn_found {C : List Cx} {id : Int} (hs : Srt C) {y : Cx} (h : findL C id = some y) : lbn C id < C.length ∧ C.getD (lbn C id) cx0 = y ∧ y.id = id := by
 have e := find_lbn (C := C) (id := id) hs
 rw [h] at e
 by_cases hc : lbn C id < C.length ∧ (C.getD (lbn C id) cx0).id = id
 ·rw [if_pos hc] at e
  cases e
  exact ⟨hc.1, rfl, hc.2⟩
 ·rw [if_neg hc] at e; cases e
theorem rem_idx {C : List Cx} {id : Int} (hs : Srt C) {y : Cx} (h : findL C id = some y) : remL C id = C.take (lbn C id) ++ C.drop (lbn C id + 1) := by
 obtain ⟨h1, h2, h3⟩ := lbn_found hs h
 have eC : C = C.take (lbn C id) ++ y :: C.drop (lbn C id + 1) := by
  conv => lhs; rw [← List.take_append_drop (lbn C id) C]
  congr 1
  rw [List.drop_eq_getElem_cons h1]
  rw [List.getD_eq_getElem?_getD, zlb h1] at h2
  exact congrArg (· :: _) h2
 generalize hk : lbn C id = k at *
 have ht : (C.take k).filter (fun z => decide (z.id ≠ id)) = C.take k := List.filter_eq_self.2 fun z hz => decide_eq_true (by
  obtain ⟨i, hi, e⟩ := mem_idx hz
  rw [List.length_take] at hi
  have e2 : C.getD i cx0 = z := by
   rw [← e, List.getD_eq_getElem?_getD, List.getD_eq_getElem?_getD, List.getElem?_take, if_pos (by omega)]
  have := lbn_lt (C := C) (id := id) (i := i) (by omega)
  rw [e2] at this
  omega)
 have hd : (C.drop (k + 1)).filter (fun z => decide (z.id ≠ id)) = C.drop (k + 1) := List.filter_eq_self.2 fun z hz => decide_eq_true (by
  obtain ⟨i, hi, e⟩ := mem_idx hz
  rw [List.length_drop] at hi
  have e2 : C.getD (k + 1 + i) cx0 = z := by
   rw [← e, List.getD_eq_getElem?_getD, List.getD_eq_getElem?_getD, zl5]
  have := hs k (k + 1 + i) (by omega) (by omega)
  rw [e2, h2, h3] at this
  omega)
 have : remL C id = (C.take k ++ y :: C.drop (k + 1)).filter (fun z => decide (z.id ≠ id)) := by unfold remL; rw [← eC]
 rw [this, List.filter_append, List.filter_cons_of_neg (by simp [h3]), ht, hd]
theorem rem_len {C : List Cx} {id : Int} (hs : Srt C) {y : Cx} (h : findL C id = some y) : (remL C id).length + 1 = C.length := by
 obtain ⟨h1, _, _⟩ := lbn_found hs h
 rw [rem_idx hs h, zl1, List.length_take, List.length_drop]
 omega
end Go.Proofs.Ytdkkgndibagihaa
namespace Go.Proofs.Ytdkkgndibagihaa
open Go.RowKit
set_option maxHeartbeats 8000000 in
set_option maxRecDepth 8000 in
theorem remove_s {C : List Cx} {K : Nat} {id : Int} (hs : Srt C) (hC : CxOk K C) : Spec Try.prog 33 [cxV C, .sc (.int .i64 id)] (remV C id) := by
 have hCl := hC.len
 have c1 := place_s (id := id) hs hCl
 have gl := cxs_len C
 have ef : decide (lbn C id < C.length ∧ (C.getD (lbn C id) cx0).id = id) = (findL C id).isSome := by
  rw [find_lbn hs]
  by_cases h : lbn C id < C.length ∧ (C.getD (lbn C id) cx0).id = id
  ·rw [decide_eq_true h, if_pos h]; rfl
  ·rw [decide_eq_false h, if_neg h]; rfl
 rw [ef] at c1
 have hE : (remE C id = 250 ∧ (findL C id).isSome = false) ∨ (findL C id).isSome = true ∧ ((remE C id = 253 ∧ usesL C id = true) ∨ (remE C id = 0 ∧ usesL C id = false)) := by
  unfold remE
  cases (findL C id).isSome with
  | false => exact .inl ⟨rfl, rfl⟩
  | true => refine .inr ⟨rfl, ?_⟩; cases usesL C id <;> simp
 have hrem : (findL C id).isSome = true → remL C id = delAt C (lbn C id) ∧ lbn C id < C.length := fun h => by
  obtain ⟨y, hy⟩ := Option.isSome_iff_exists.1 h
  exact ⟨rem_idx hs hy, (lbn_found hs hy).1⟩
 unfold remV
 rcases hE with ⟨e1, e2⟩ | ⟨e2, hE⟩
 ·rw [e1, if_neg (by omega)]
  rw [e2] at c1
  generalize lbn C id = at_ at c1
  unfold cxV at *
  refine qF Try.func33 Try.ntmps33 fun B hB => ?_
  refine qW ?_
  exact qE Try.results33
 obtain ⟨h1, h2⟩ := hrem e2
 clear hrem
 rw [e2] at c1
 have c5 := fun nx => clonecx_s (C := C) nx hCl
 have c6 := delete_w hCl h2
 rw [h1]
 have hlen : (delAt C (lbn C id)).length = C.length - 1 := by unfold delAt; simp; omega
 have gL := cxs_len (delAt C (lbn C id))
 have hcC := cxs_clo (delAt C (lbn C id))
 rw [hlen] at gL
 unfold DelQ at c6
 generalize delAt C (lbn C id) = L at *
 clear h1 ef
 generalize lbn C id = at_ at *
 generalize hie : remE C id = ie at *
 clear hie e2
 unfold cxV at *
 refine qF Try.func33 Try.ntmps33 fun B hB => ?_
 refine qW ?_
 refine SC.loop (fun i : Nat => ⟨[(0, .im (cxs C) C.length), (1, .sc (.int .i64 id)), (6, .sc (.int .i64 (at_ : Nat))), (20, .im (cxs C) C.length), (21, .sc (.int .i64 (C.length : Nat))), (22, .sc (.int .i64 (i : Nat)))], [], 0, 45⟩) (fun i => i ≤ C.length ∧ usesL (C.take i) id = false) (fun i => C.length - i) 0 ?_ ?_ ?_
 ·exact qLc
 ·exact ⟨znc _, rfl⟩
 rintro i ⟨hi, hI⟩ K0 hK0
 by_cases hc : i < C.length
 ·have q1 : decide ((i : Int) < (C.length : Int)) = true := decide_eq_true (by omega)
  have gd := cxs_drop hc
  have hx := (hC.get hc).len
  have hT := usesL_take hc id
  have hM := usesL_mem (id := id) hc
  generalize C.getD i cx0 = x at *
  obtain ⟨xi, xd, xb⟩ := x
  have g2 : i * 3 < (cxs C).length := by omega
  have glb := fcs_len xb
  unfold cxC at gd
  simp only [zl8, zl7] at gd hT hM hx
  refine qWf (Q5 @q1 @gd @gl @g2 @glb) ?_
  refine SC.loop (fun j : Nat => ⟨[(0, .im (cxs C) C.length), (1, .sc (.int .i64 id)), (6, .sc (.int .i64 (at_ : Nat))), (20, .im (cxs C) C.length), (21, .sc (.int .i64 (C.length : Nat))), (22, .sc (.int .i64 (i : Nat))), (27, .im (fcs xb) xb.length), (28, .sc (.int .i64 (xb.length : Nat))), (29, .sc (.int .i64 (j : Nat)))], [], 0, 45⟩) (fun j => j ≤ xb.length ∧ useF (xb.take j) id = false) (fun j => xb.length - j) 0 ?_ ?_ ?_
  ·exact qLc
  ·exact ⟨znc _, rfl⟩
  rintro j ⟨hj, hJ⟩ K1 hK1
  by_cases hc2 : j < xb.length
  ·have q2 : decide ((j : Int) < (xb.length : Int)) = true := decide_eq_true (by omega)
   have gf := fcs_drop hc2
   have hT2 := useF_take hc2 id
   have hM2 := useF_mem (id := id) hc2
   obtain ⟨nf, lf, hqf⟩ := cfC_two (xb.getD j (0, some 0)).2
   rw [fcC, hqf] at gf
   generalize (xb.getD j (0, some 0)).1 = fi at *
   have g3 : j * 3 < (fcs xb).length := by omega
   simp only [zl8, zl7] at gf
   by_cases he : fi = id
   ·have q3 : (fi == id) = true := by rw [beq_iff_eq]; exact he
    have hr1 : usesL C id = true := hM (hM2 he)
    have hie : ie = 253 := by
     rcases hE with ⟨h, _⟩ | ⟨_, h⟩
     ·exact h
     ·rw [hr1] at h; cases h
    subst hie
    rw [if_neg (by omega)]
    refine qWf (Q10 @q1 @q2 @q3 @gd @gl @g2 @gf @glb @g3 @gD) ?_
    exact qE Try.results33
   ·have q3 : (fi == id) = false := by rw [beq_eq_false_iff_ne]; exact he
    refine qWf (Q10 @q1 @q2 @q3 @gd @gl @g2 @gf @glb @g3 @gD) ?_
    refine hK1 _ (j + 1) ?_ ⟨by omega, by rw [hT2, hJ, decide_eq_false he]; rfl⟩ (by omega)
    exact qLc
  ·have q2 : decide ((j : Int) < (xb.length : Int)) = false := decide_eq_false (by omega)
   rw [zla (by omega)] at hJ
   refine qWf (Q6 @q1 @q2 @gd @gl @g2 @glb) ?_
   refine hK0 _ (i + 1) ?_ ⟨by omega, by rw [hT, hI, hJ]; rfl⟩ (by omega)
   exact qLc
 ·have q1 : decide ((i : Int) < (C.length : Int)) = false := decide_eq_false (by omega)
  rw [zla (by omega)] at hI
  have hie : ie = 0 := by
   rcases hE with ⟨_, h⟩ | ⟨h, _⟩
   ·rw [hI] at h; cases h
   ·exact h
  subst hie
  rw [if_pos rfl, hlen]
  refine qWf @q1 ?_
  refine SO.inl qS (by rfl) qS qS (SInl.of (c5 0) (by simp (disch := omega) only [go_sem, ↓reduceIte, zn1, zn2, zn3, zn4, zn5, zn6, reduceCtorEq, zn7, zi1, zi2, if_pos, if_neg, Int.reduceAdd, zn8, zna, Nat.zero_mul, Nat.add_zero, zn9, Nat.sub_zero, zl2, zl4, zl3, zl9, zl7, zl8, List.append_nil, List.take_length, List.take_nil, List.drop_nil, List.length_nil, List.length_set, List.length_replicate, List.flatten_nil, List.flatten_cons, Bool.not_true, Bool.not_false, Bool.false_eq_true, Bool.or_true, Bool.true_or, Bool.or_false, Bool.or_self, bne_self_eq_false, beq_self_eq_true]) (by simp (disch := omega) only [go_sem, ↓reduceIte, zn1, zn2, zn3, zn4, zn5, zn6, reduceCtorEq, zn7, zi1, zi2, if_pos, if_neg, Int.reduceAdd, zn8, zna, Nat.zero_mul, Nat.add_zero, zn9, Nat.sub_zero, zl2, zl4, zl3, zl9, zl7, zl8, List.append_nil, List.take_length, List.take_nil, List.drop_nil, List.length_nil, List.length_set, List.length_replicate, List.flatten_nil, List.flatten_cons, Bool.not_true, Bool.not_false, Bool.false_eq_true, Bool.or_true, Bool.true_or, Bool.or_false, Bool.or_self, bne_self_eq_false, beq_self_eq_true]; exact only_true _) (by simp (disch := omega) only [go_sem, ↓reduceIte, zn1, zn2, zn3, zn4, zn5, zn6, reduceCtorEq, zn7, zi1, zi2, if_pos, if_neg, Int.reduceAdd, zn8, zna, Nat.zero_mul, Nat.add_zero, zn9, Nat.sub_zero, zl2, zl4, zl3, zl9, zl7, zl8, List.append_nil, List.take_length, List.take_nil, List.drop_nil, List.length_nil, List.length_set, List.length_replicate, List.flatten_nil, List.flatten_cons, Bool.not_true, Bool.not_false, Bool.false_eq_true, Bool.or_true, Bool.true_or, Bool.or_false, Bool.or_self, bne_self_eq_false, beq_self_eq_true]; exact onlyH_true _) qS qS ?_)
  refine qW ?_
  refine SO.inlQ qS (by rfl) qS qS (SInlQ.all c6 ?_)
  rintro y hp' nx' ⟨q, c, Z, hq, rfl, rfl⟩
  have gt : (cxs L ++ Z).take ((C.length - 1) * 3) = cxs L := by rw [List.take_append_of_le_length (by omega), zla (by omega)]
  have gT : (cxs L ++ Z).length = 3 * (C.length - 1) + Z.length := by rw [zl1, gL]
  refine qW ?_
  exact retQ_ret Try.results33 qS (qSf (Q3 @gT @gt @hcC)) rfl
end Go.Proofs.Ytdkkgndibagihaa
namespace Go.Proofs.Ytdkkgndibagihaa
open Go.RowKit
structure PlainCh (K : Nat) (l : Ch) : Prop where
 len : l.length ≤ 1000
 cf : ∀ f ∈ l, ∃ z, f.2 = some z ∧ Fits K z
set_option maxHeartbeats 4000000 in
theorem rsamechain_s {K : Nat} {l : Ch} (h : PlainCh K l) (hK : K ≤ 100000000000) : Spec Try.prog 21 [chV l, chV l] (.sc (.bool true)) := by
 have gl := fcs_len l
 have hl := h.len
 unfold chV
 refine qF Try.func21 Try.ntmps21 fun B hB => ?_
 refine qW ?_
 refine SC.loop (fun i : Nat => ⟨[(0, .im (fcs l) l.length), (1, .im (fcs l) l.length), (5, .sc (.int .i64 (i : Nat)))], [], 0, 42⟩) (fun i => i ≤ l.length) (fun i => l.length - i) 0 ?_ ?_ ?_
 ·exact qLc
 ·exact znc _
 rintro i hi K0 hK0
 by_cases hc : i < l.length
 ·have q1 : decide ((i : Int) < (l.length : Int)) = true := decide_eq_true (by omega)
  have gd := fcs_drop hc
  obtain ⟨z, hz, hf⟩ := h.cf _ (getD_mem (d := (0, some 0)) hc)
  have hs := fits_short hf (by omega)
  have c1 := same_i z z hs hs
  rw [decide_eq_true rfl] at c1
  rw [fcC, hz] at gd
  have gd' : (fcs l).drop (i * 3) = [.sc (.int .i64 (l.getD i (0, some 0)).1), .sc (.bool (decide (z < 0))), .im (lv (limbsOf z.natAbs)) (limbsOf z.natAbs).length] ++ (fcs l).drop ((i + 1) * 3) := gd
  clear gd
  generalize (l.getD i (0, some 0)).1 = fi at *
  have g2 : i * 3 < (fcs l).length := by omega
  unfold iv sv at c1
  simp only [zl8, zl7] at gd'
  refine qWf (Q5 @q1 @gd' @gl @g2 @gD) ?_
  refine hK0 _ (i + 1) ?_ (by omega) (by omega)
  exact qLc
 ·have q1 : decide ((i : Int) < (l.length : Int)) = false := decide_eq_false (by omega)
  refine qWf @q1 ?_
  exact qE Try.results21
set_option maxHeartbeats 4000000 in
theorem rsame25_s {K : Nat} {C : List Cx} (hl : C.length ≤ 1000) (h : ∀ x ∈ C, PlainCh K x.b) (hK : K ≤ 100000000000) : Spec Try.prog 32 [cxV C, cxV C] (.sc (.bool true)) := by
 have gl := cxs_len C
 unfold cxV
 refine qF Try.func32 Try.ntmps32 fun B hB => ?_
 refine qW ?_
 refine SC.loop (fun i : Nat => ⟨[(0, .im (cxs C) C.length), (1, .im (cxs C) C.length), (5, .sc (.int .i64 (i : Nat)))], [], 0, 55⟩) (fun i => i ≤ C.length) (fun i => C.length - i) 0 ?_ ?_ ?_
 ·exact qLc
 ·exact znc _
 rintro i hi K0 hK0
 by_cases hc : i < C.length
 ·have q1 : decide ((i : Int) < (C.length : Int)) = true := decide_eq_true (by omega)
  have gd := cxs_drop hc
  have hp := h _ (getD_mem (d := cx0) hc)
  have c1 := rsamechain_s hp hK
  have hpl := hp.len
  generalize C.getD i cx0 = x at *
  obtain ⟨xi, xd, xb⟩ := x
  have g2 : i * 3 < (cxs C).length := by omega
  have glb := fcs_len xb
  unfold chV at c1
  unfold cxC at gd
  simp only [zl8, zl7] at c1 gd hpl
  refine qWf (Q6 @q1 @gd @gl @g2 @glb @gD) ?_
  refine hK0 _ (i + 1) ?_ (by omega) (by omega)
  exact qLc
 ·have q1 : decide ((i : Int) < (C.length : Int)) = false := decide_eq_false (by omega)
  refine qWf @q1 ?_
  exact qE Try.results32
set_option maxHeartbeats 4000000 in
theorem ints_s {l : List Int} (hl : l.length ≤ 1000) : Spec Try.prog 13 [nsV l, nsV l] (.sc (.bool true)) := by
 have gl := nsC_len l
 unfold nsV
 refine qF Try.func13 Try.ntmps13 fun B hB => ?_
 refine qW ?_
 refine SC.loop (fun i : Nat => ⟨[(0, .im (nsC l) l.length), (1, .im (nsC l) l.length), (5, .sc (.int .i64 (i : Nat)))], [], 0, 26⟩) (fun i => i ≤ l.length) (fun i => l.length - i) 0 ?_ ?_ ?_
 ·exact qLc
 ·exact znc _
 rintro i hi K0 hK0
 by_cases hc : i < l.length
 ·have q1 : decide ((i : Int) < (l.length : Int)) = true := decide_eq_true (by omega)
  have gi := nsC_get hc
  refine qWf (Q4 @q1 @gi @gl @gD) ?_
  refine hK0 _ (i + 1) ?_ (by omega) (by omega)
  exact qLc
 ·have q1 : decide ((i : Int) < (l.length : Int)) = false := decide_eq_false (by omega)
  refine qWf @q1 ?_
  exact qE Try.results13
end Go.Proofs.Ytdkkgndibagihaa
namespace Go.Proofs.Ytdkkgndibagihaa
open Go.RowKit
def okXB (x : Cx) : Bool := decide (-1000 ≤ x.id) && decide (x.id ≤ 1000) && decide (-1000 ≤ x.dim) && decide (x.dim ≤ 1000) && decide (x.b.length ≤ 10) && x.b.all fun f => decide (-1000 ≤ f.1) && decide (f.1 ≤ 1000) && decide ((cv f.2).natAbs ≤ 1000)
theorem okXB_s {x : Cx} (h : okXB x = true) : CxK 1 x := by
 simp only [okXB, Bool.and_eq_true, decide_eq_true_eq, zlf] at h
 obtain ⟨⟨⟨⟨⟨h1, h2⟩, h3⟩, h4⟩, h5⟩, h6⟩ := h
 exact ⟨⟨by omega, by omega⟩, ⟨by omega, by omega⟩, by omega, fun f hf => ⟨by have := h6 f hf; omega, by have := h6 f hf; omega⟩, fun f hf => by have := (h6 f hf).2; unfold Fits; omega⟩
def okCB (C : List Cx) : Bool := decide (C.length ≤ 10) && C.all okXB
theorem okCB_s {C : List Cx} (h : okCB C = true) : CxOk 1 C := by
 simp only [okCB, Bool.and_eq_true, decide_eq_true_eq, zlf] at h
 exact ⟨by omega, fun x hx => okXB_s (h.2 x hx)⟩
def srtB : List Cx → Bool
 | [] => true
 | x :: r => (r.all fun y => decide (x.id < y.id)) && srtB r
theorem srtB_pw : ∀ {C : List Cx}, srtB C = true ↔ C.Pairwise (fun a b => a.id < b.id)
 | [] => by simp [srtB]
 | x :: r => by rw [srtB, Bool.and_eq_true, srtB_pw, List.pairwise_cons, zlf]; simp
theorem srtB_s {C : List Cx} : srtB C = true ↔ Srt C := srtB_pw.trans ⟨srt_of_pw, Srt.pw⟩
def closedB (C : List Cx) (b : Ch) : Bool := (b.flatMap fun f => (bOf C f.1).map (·.1)).all fun n => decide (bdn C b n = 0)
theorem bdn_no {C : List Cx} {n : Int} : ∀ {b : Ch}, (∀ f ∈ b, ∀ g ∈ bOf C f.1, g.1 ≠ n) → bdn C b n = 0
 | [], _ => rfl
 | f :: r, h => by
  show cv f.2 * cfn (bOf C f.1) n + bdn C r n = 0
  rw [bdn_no fun g hg => h g (List.mem_cons_of_mem _ hg), cfn_none (h f List.mem_cons_self), Int.mul_zero]; rfl
theorem closedB_s {C : List Cx} {b : Ch} : closedB C b = true ↔ ∀ n, bdn C b n = 0 := by
 unfold closedB
 rw [zlf]
 constructor
 ·intro h n
  by_cases hn : n ∈ b.flatMap fun f => (bOf C f.1).map (·.1)
  ·exact of_decide_eq_true (h n hn)
  ·exact bdn_no fun f hf g hg e => hn (List.mem_flatMap.2 ⟨f, hf, List.mem_map.2 ⟨g, hg, e⟩⟩)
 ·intro h n _; exact decide_eq_true (h n)
def fitsB (C : List Cx) (x : Cx) : Int := if facesL C x = 0 then (if closedB C x.b then 0 else 252) else facesL C x
theorem fitsB_s (C : List Cx) (x : Cx) : FitsP C x (fitsB C x) := by
 obtain ⟨e, he⟩ := fits_ex C x
 have h := facesL_fits he
 have h0 := @faces_zero C x
 suffices hs : fitsB C x = e by rw [hs]; exact he
 unfold fitsB
 rcases he with ⟨h1, h2⟩ | ⟨h2, ⟨h1, h3⟩ | ⟨h3, ⟨h1, h4⟩ | ⟨h1, h4⟩⟩⟩
 ·rw [if_pos (.inl h1)] at h; rw [if_neg (by omega), h]
 ·rw [if_pos (.inr h1)] at h; rw [if_neg (by omega), h]
 ·rw [if_pos (h0.2 h3), if_neg (fun h => h4 (closedB_s.1 h))]; omega
 ·rw [if_pos (h0.2 h3), if_pos (closedB_s.2 h4)]; omega
def valB (C : List Cx) : Bool := decide (C.length ≤ 400) && srtB C && C.all fun x => decide (fitsB C x = 0)
theorem valB_s {C : List Cx} : valB C = true ↔ VAL C := by
 unfold valB
 rw [Bool.and_eq_true, Bool.and_eq_true, decide_eq_true_eq, zlf, srtB_s]
 constructor
 ·rintro ⟨⟨h1, h2⟩, h3⟩
  have h4 := fun x hx => (FitsP.zero (fitsB_s C x)).1 (of_decide_eq_true (h3 x hx))
  exact ⟨h1, h2, fun x hx => (h4 x hx).1, fun x hx => (h4 x hx).2⟩
 ·intro h
  exact ⟨⟨h.len, h.srt⟩, fun x hx => decide_eq_true ((FitsP.zero (fitsB_s C x)).2 ⟨h.faces x hx, h.closed x hx⟩)⟩
def inlS (f : Nat) : Bool := f == 38
theorem ev_san {f : Nat} {ys : List V} {x : V} (h : runV Try.prog (fun _ _ => none) (exX Try.prog (fun _ _ => none) (fun _ => false) 200) f ys = some x) : Spec Try.prog f ys x := Spec.eval (K := fun _ _ => none) (fun _ _ _ h => by cases h) 200 (fun _ => false) h
theorem evn_san {f : Nat} {ys : List V} {x : V} (h : runV Try.prog (fun _ _ => none) (exX Try.prog (fun _ _ => none) inlS 200) f ys = some x) : Spec Try.prog f ys x := Spec.eval (K := fun _ _ => none) (fun _ _ _ h => by cases h) 200 inlS h
theorem ins_san {C : List Cx} {x : Cx} {a b r : V} (h1 : srtB C = true) (h2 : okCB C = true) (h3 : okXB x = true) (ha : cxV C = a) (hb : .ag (cxC x) = b) (hr : insV C x (fitsB C x) = r) : Spec Try.prog 30 [a, b] r := by
 subst ha; subst hb; subst hr
 exact insert_s (srtB_s.1 h1) (okCB_s h2) (okXB_s h3) (by omega) (fitsB_s C x)
theorem rem_san {C : List Cx} {id : Int} {a r : V} (h1 : srtB C = true) (h2 : okCB C = true) (ha : cxV C = a) (hr : remV C id = r) : Spec Try.prog 33 [a, .sc (.int .i64 id)] r := by
 subst ha; subst hr
 exact remove_s (srtB_s.1 h1) (okCB_s h2)
theorem bd_san {C : List Cx} {k k' : Int} {a r : V} (h1 : valB C = true) (h2 : okCB C = true) (ha : cxV C = a) (hk : IntKind.i64.wrap (k - 1) = k') (hr : mat (idsL C k').length (cbM C k k') = r) : Spec Try.prog 17 [a, .sc (.int .i64 k)] r := by
 subst ha; subst hr
 exact boundary_s (okCB_s h2) (valB_s.1 h1) hk
theorem val_san {C : List Cx} {a : V} {r : Bool} (h2 : okCB C = true) (ha : cxV C = a) (hr : valB C = r) : Spec Try.prog 26 [a] (.sc (.bool r)) := by
 subst ha
 obtain ⟨r', c, h⟩ := cvalid_s (okCB_s h2) (by omega)
 have : r' = r := by
  rw [← hr]
  cases hb : valB C with
  | true => exact h.2 (valB_s.1 hb)
  | false => cases r' with
   | false => rfl
   | true => rw [valB_s.2 (h.1 rfl)] at hb; cases hb
 rw [← this]; exact c
theorem find_san {C : List Cx} {id : Int} {a r : V} (h1 : srtB C = true) (h2 : okCB C = true) (ha : cxV C = a) (hr : (.tu [.ag (cxC ((findL C id).getD cx0)), .sc (.bool (findL C id).isSome)]) = r) : Spec Try.prog 19 [a, .sc (.int .i64 id)] r := by
 subst ha; subst hr
 exact cfind_s (srtB_s.1 h1) (okCB_s h2).len
set_option maxHeartbeats 8000000 in
set_option maxRecDepth 8000 in
theorem sanity_s : Spec Try.prog 11 [] (.sc (.bool true)) := by
 have c1 : Spec Try.prog 39 [.sc (.int .i64 1)] (.ag [.sc (.int .i64 1), .sc (.int .i64 0), .im [] 0]) := ev_san (by kernel_rfl)
 have c2 : Spec Try.prog 39 [.sc (.int .i64 2)] (.ag [.sc (.int .i64 2), .sc (.int .i64 0), .im [] 0]) := ev_san (by kernel_rfl)
 have c3 : Spec Try.prog 40 [.im [.sc (.int .i64 1), .sc (.int .i64 1)] 2] (.im [.sc (.int .i64 1), .sc (.bool false), .im [.sc (.int .u32 1)] 1] 1) := ev_san (by kernel_rfl)
 have c4 : Spec Try.prog 40 [.im [.sc (.int .i64 7), .sc (.int .i64 1)] 2] (.im [.sc (.int .i64 7), .sc (.bool false), .im [.sc (.int .u32 1)] 1] 1) := ev_san (by kernel_rfl)
 have c5 : Spec Try.prog 40 [.im [.sc (.int .i64 3), .sc (.int .i64 1)] 2] (.im [.sc (.int .i64 3), .sc (.bool false), .im [.sc (.int .u32 1)] 1] 1) := ev_san (by kernel_rfl)
 have c6 : Spec Try.prog 40 [.im [.sc (.int .i64 2), .sc (.int .i64 1), .sc (.int .i64 1), .sc (.int .i64 1)] 4] (.im [.sc (.int .i64 2), .sc (.bool false), .im [.sc (.int .u32 1)] 1, .sc (.int .i64 1), .sc (.bool false), .im [.sc (.int .u32 1)] 1] 2) := ev_san (by kernel_rfl)
 have c7 : Spec Try.prog 41 [.sc (.int .i64 3), .sc (.int .i64 1), .sc (.int .i64 2)] (.ag [.sc (.int .i64 3), .sc (.int .i64 1), .im [.sc (.int .i64 1), .sc (.bool true), .im [.sc (.int .u32 1)] 1, .sc (.int .i64 2), .sc (.bool false), .im [.sc (.int .u32 1)] 1] 2]) := ev_san (by kernel_rfl)
 have c8 : Spec Try.prog 42 [] (.im [.sc (.int .i64 1), .sc (.int .i64 0), .im [] 0, .sc (.int .i64 2), .sc (.int .i64 0), .im [] 0, .sc (.int .i64 3), .sc (.int .i64 1), .im [.sc (.int .i64 1), .sc (.bool true), .im [.sc (.int .u32 1)] 1, .sc (.int .i64 2), .sc (.bool false), .im [.sc (.int .u32 1)] 1] 2] 3) := ev_san (by kernel_rfl)
 have c9 : Spec Try.prog 30 [.im [.sc (.int .i64 1), .sc (.int .i64 0), .im [] 0, .sc (.int .i64 2), .sc (.int .i64 0), .im [] 0] 2, .ag [.sc (.int .i64 3), .sc (.int .i64 1), .im [.sc (.int .i64 1), .sc (.bool true), .im [.sc (.int .u32 1)] 1, .sc (.int .i64 2), .sc (.bool false), .im [.sc (.int .u32 1)] 1] 2]] (.tu [.im [.sc (.int .i64 1), .sc (.int .i64 0), .im [] 0, .sc (.int .i64 2), .sc (.int .i64 0), .im [] 0, .sc (.int .i64 3), .sc (.int .i64 1), .im [.sc (.int .i64 1), .sc (.bool true), .im [.sc (.int .u32 1)] 1, .sc (.int .i64 2), .sc (.bool false), .im [.sc (.int .u32 1)] 1] 2] 3, .sc (.int .i64 0)]) := ins_san (C := [⟨1, 0, []⟩, ⟨2, 0, []⟩]) (x := ⟨3, 1, [(1, some (-1)), (2, some 1)]⟩) (by kernel_rfl) (by kernel_rfl) (by kernel_rfl) (by kernel_rfl) (by kernel_rfl) (by kernel_rfl)
 have c10 : Spec Try.prog 30 [.im [.sc (.int .i64 1), .sc (.int .i64 0), .im [] 0, .sc (.int .i64 2), .sc (.int .i64 0), .im [] 0] 2, .ag [.sc (.int .i64 1), .sc (.int .i64 0), .im [] 0]] (.tu [.im [] 0, .sc (.int .i64 253)]) := ins_san (C := [⟨1, 0, []⟩, ⟨2, 0, []⟩]) (x := ⟨1, 0, []⟩) (by kernel_rfl) (by kernel_rfl) (by kernel_rfl) (by kernel_rfl) (by kernel_rfl) (by kernel_rfl)
 have c11 : Spec Try.prog 30 [.im [.sc (.int .i64 1), .sc (.int .i64 0), .im [] 0] 1, .ag [.sc (.int .i64 3), .sc (.int .i64 1), .im [.sc (.int .i64 7), .sc (.bool false), .im [.sc (.int .u32 1)] 1] 1]] (.tu [.im [] 0, .sc (.int .i64 251)]) := ins_san (C := [⟨1, 0, []⟩]) (x := ⟨3, 1, [(7, some 1)]⟩) (by kernel_rfl) (by kernel_rfl) (by kernel_rfl) (by kernel_rfl) (by kernel_rfl) (by kernel_rfl)
 have c12 : Spec Try.prog 30 [.im [.sc (.int .i64 1), .sc (.int .i64 0), .im [] 0] 1, .ag [.sc (.int .i64 3), .sc (.int .i64 2), .im [.sc (.int .i64 1), .sc (.bool false), .im [.sc (.int .u32 1)] 1] 1]] (.tu [.im [] 0, .sc (.int .i64 260)]) := ins_san (C := [⟨1, 0, []⟩]) (x := ⟨3, 2, [(1, some 1)]⟩) (by kernel_rfl) (by kernel_rfl) (by kernel_rfl) (by kernel_rfl) (by kernel_rfl) (by kernel_rfl)
 have c13 : Spec Try.prog 30 [.im [.sc (.int .i64 1), .sc (.int .i64 0), .im [] 0, .sc (.int .i64 2), .sc (.int .i64 0), .im [] 0, .sc (.int .i64 3), .sc (.int .i64 1), .im [.sc (.int .i64 1), .sc (.bool true), .im [.sc (.int .u32 1)] 1, .sc (.int .i64 2), .sc (.bool false), .im [.sc (.int .u32 1)] 1] 2] 3, .ag [.sc (.int .i64 4), .sc (.int .i64 2), .im [.sc (.int .i64 3), .sc (.bool false), .im [.sc (.int .u32 1)] 1] 1]] (.tu [.im [] 0, .sc (.int .i64 252)]) := ins_san (C := [⟨1, 0, []⟩, ⟨2, 0, []⟩, ⟨3, 1, [(1, some (-1)), (2, some 1)]⟩]) (x := ⟨4, 2, [(3, some 1)]⟩) (by kernel_rfl) (by kernel_rfl) (by kernel_rfl) (by kernel_rfl) (by kernel_rfl) (by kernel_rfl)
 have c14 : Spec Try.prog 30 [.im [.sc (.int .i64 1), .sc (.int .i64 0), .im [] 0, .sc (.int .i64 2), .sc (.int .i64 0), .im [] 0] 2, .ag [.sc (.int .i64 9), .sc (.int .i64 4), .im [] 0]] (.tu [.im [] 0, .sc (.int .i64 260)]) := ins_san (C := [⟨1, 0, []⟩, ⟨2, 0, []⟩]) (x := ⟨9, 4, []⟩) (by kernel_rfl) (by kernel_rfl) (by kernel_rfl) (by kernel_rfl) (by kernel_rfl) (by kernel_rfl)
 have c15 : Spec Try.prog 30 [.im [.sc (.int .i64 1), .sc (.int .i64 0), .im [] 0, .sc (.int .i64 2), .sc (.int .i64 0), .im [] 0] 2, .ag [.sc (.int .i64 9), .sc (.int .i64 1), .im [.sc (.int .i64 2), .sc (.bool false), .im [.sc (.int .u32 1)] 1, .sc (.int .i64 1), .sc (.bool false), .im [.sc (.int .u32 1)] 1] 2]] (.tu [.im [] 0, .sc (.int .i64 251)]) := ins_san (C := [⟨1, 0, []⟩, ⟨2, 0, []⟩]) (x := ⟨9, 1, [(2, some 1), (1, some 1)]⟩) (by kernel_rfl) (by kernel_rfl) (by kernel_rfl) (by kernel_rfl) (by kernel_rfl) (by kernel_rfl)
 have c16 : Spec Try.prog 33 [.im [.sc (.int .i64 1), .sc (.int .i64 0), .im [] 0, .sc (.int .i64 3), .sc (.int .i64 1), .im [.sc (.int .i64 1), .sc (.bool false), .im [.sc (.int .u32 1)] 1] 1] 2, .sc (.int .i64 1)] (.tu [.im [] 0, .sc (.int .i64 253)]) := rem_san (C := [⟨1, 0, []⟩, ⟨3, 1, [(1, some 1)]⟩]) (by kernel_rfl) (by kernel_rfl) (by kernel_rfl) (by kernel_rfl)
 have c17 : Spec Try.prog 33 [.im [.sc (.int .i64 1), .sc (.int .i64 0), .im [] 0, .sc (.int .i64 3), .sc (.int .i64 1), .im [.sc (.int .i64 1), .sc (.bool false), .im [.sc (.int .u32 1)] 1] 1] 2, .sc (.int .i64 3)] (.tu [.im [.sc (.int .i64 1), .sc (.int .i64 0), .im [] 0] 1, .sc (.int .i64 0)]) := rem_san (C := [⟨1, 0, []⟩, ⟨3, 1, [(1, some 1)]⟩]) (by kernel_rfl) (by kernel_rfl) (by kernel_rfl) (by kernel_rfl)
 have c18 : Spec Try.prog 33 [.im [.sc (.int .i64 1), .sc (.int .i64 0), .im [] 0, .sc (.int .i64 3), .sc (.int .i64 1), .im [.sc (.int .i64 1), .sc (.bool false), .im [.sc (.int .u32 1)] 1] 1] 2, .sc (.int .i64 5)] (.tu [.im [] 0, .sc (.int .i64 250)]) := rem_san (C := [⟨1, 0, []⟩, ⟨3, 1, [(1, some 1)]⟩]) (by kernel_rfl) (by kernel_rfl) (by kernel_rfl) (by kernel_rfl)
 have c19 : Spec Try.prog 32 [.im [.sc (.int .i64 1), .sc (.int .i64 0), .im [] 0, .sc (.int .i64 2), .sc (.int .i64 0), .im [] 0, .sc (.int .i64 3), .sc (.int .i64 1), .im [.sc (.int .i64 1), .sc (.bool true), .im [.sc (.int .u32 1)] 1, .sc (.int .i64 2), .sc (.bool false), .im [.sc (.int .u32 1)] 1] 2] 3, .im [.sc (.int .i64 1), .sc (.int .i64 0), .im [] 0, .sc (.int .i64 2), .sc (.int .i64 0), .im [] 0, .sc (.int .i64 3), .sc (.int .i64 1), .im [.sc (.int .i64 1), .sc (.bool true), .im [.sc (.int .u32 1)] 1, .sc (.int .i64 2), .sc (.bool false), .im [.sc (.int .u32 1)] 1] 2] 3] (.sc (.bool true)) := ev_san (by kernel_rfl)
 have c20 : Spec Try.prog 32 [.im [.sc (.int .i64 1), .sc (.int .i64 0), .im [] 0] 1, .im [.sc (.int .i64 1), .sc (.int .i64 0), .im [] 0] 1] (.sc (.bool true)) := ev_san (by kernel_rfl)
 have c21 : Spec Try.prog 17 [.im [.sc (.int .i64 1), .sc (.int .i64 0), .im [] 0, .sc (.int .i64 2), .sc (.int .i64 0), .im [] 0, .sc (.int .i64 3), .sc (.int .i64 1), .im [.sc (.int .i64 1), .sc (.bool true), .im [.sc (.int .u32 1)] 1, .sc (.int .i64 2), .sc (.bool false), .im [.sc (.int .u32 1)] 1] 2] 3, .sc (.int .i64 1)] (.ag [.sc (.int .i64 1), .sc (.int .i64 2), .im [.im [.sc (.bool true), .im [.sc (.int .u32 1)] 1, .sc (.bool false), .im [.sc (.int .u32 1)] 1] 2] 1]) := bd_san (C := [⟨1, 0, []⟩, ⟨2, 0, []⟩, ⟨3, 1, [(1, some (-1)), (2, some 1)]⟩]) (k' := 0) (by kernel_rfl) (by kernel_rfl) (by kernel_rfl) (by decide) (by kernel_rfl)
 have c22 : Spec Try.prog 17 [.im [.sc (.int .i64 1), .sc (.int .i64 0), .im [] 0, .sc (.int .i64 2), .sc (.int .i64 0), .im [] 0, .sc (.int .i64 3), .sc (.int .i64 1), .im [.sc (.int .i64 1), .sc (.bool true), .im [.sc (.int .u32 1)] 1, .sc (.int .i64 2), .sc (.bool false), .im [.sc (.int .u32 1)] 1] 2] 3, .sc (.int .i64 0)] (.ag [.sc (.int .i64 2), .sc (.int .i64 0), .im [.im [] 0, .im [] 0] 2]) := bd_san (C := [⟨1, 0, []⟩, ⟨2, 0, []⟩, ⟨3, 1, [(1, some (-1)), (2, some 1)]⟩]) (k' := (-1)) (by kernel_rfl) (by kernel_rfl) (by kernel_rfl) (by decide) (by kernel_rfl)
 have c23 : Spec Try.prog 17 [.im [.sc (.int .i64 1), .sc (.int .i64 0), .im [] 0, .sc (.int .i64 2), .sc (.int .i64 0), .im [] 0, .sc (.int .i64 3), .sc (.int .i64 1), .im [.sc (.int .i64 1), .sc (.bool true), .im [.sc (.int .u32 1)] 1, .sc (.int .i64 2), .sc (.bool false), .im [.sc (.int .u32 1)] 1] 2] 3, .sc (.int .i64 2)] (.ag [.sc (.int .i64 0), .sc (.int .i64 1), .im [] 0]) := bd_san (C := [⟨1, 0, []⟩, ⟨2, 0, []⟩, ⟨3, 1, [(1, some (-1)), (2, some 1)]⟩]) (k' := 1) (by kernel_rfl) (by kernel_rfl) (by kernel_rfl) (by decide) (by kernel_rfl)
 have c24 : Spec Try.prog 43 [.sc (.int .i64 1), .sc (.int .i64 2), .im [.sc (.int .i64 (-1)), .sc (.int .i64 1)] 2] (.ag [.sc (.int .i64 1), .sc (.int .i64 2), .im [.im [.sc (.bool true), .im [.sc (.int .u32 1)] 1, .sc (.bool false), .im [.sc (.int .u32 1)] 1] 2] 1]) := evn_san (by kernel_rfl)
 have c25 : Spec Try.prog 38 [.sc (.int .i64 2), .sc (.int .i64 0)] (.ag [.sc (.int .i64 2), .sc (.int .i64 0), .im [.im [] 0, .im [] 0] 2]) := ev_san (by kernel_rfl)
 have c26 : Spec Try.prog 38 [.sc (.int .i64 0), .sc (.int .i64 1)] (.ag [.sc (.int .i64 0), .sc (.int .i64 1), .im [] 0]) := ev_san (by kernel_rfl)
 have c27 : Spec Try.prog 16 [.ag [.sc (.int .i64 1), .sc (.int .i64 2), .im [.im [.sc (.bool true), .im [.sc (.int .u32 1)] 1, .sc (.bool false), .im [.sc (.int .u32 1)] 1] 2] 1], .ag [.sc (.int .i64 1), .sc (.int .i64 2), .im [.im [.sc (.bool true), .im [.sc (.int .u32 1)] 1, .sc (.bool false), .im [.sc (.int .u32 1)] 1] 2] 1]] (.sc (.bool true)) := ev_san (by kernel_rfl)
 have c28 : Spec Try.prog 16 [.ag [.sc (.int .i64 2), .sc (.int .i64 0), .im [.im [] 0, .im [] 0] 2], .ag [.sc (.int .i64 2), .sc (.int .i64 0), .im [.im [] 0, .im [] 0] 2]] (.sc (.bool true)) := ev_san (by kernel_rfl)
 have c29 : Spec Try.prog 16 [.ag [.sc (.int .i64 0), .sc (.int .i64 1), .im [] 0], .ag [.sc (.int .i64 0), .sc (.int .i64 1), .im [] 0]] (.sc (.bool true)) := ev_san (by kernel_rfl)
 have c30 : Spec Try.prog 22 [.im [.sc (.int .i64 1), .sc (.int .i64 0), .im [] 0, .sc (.int .i64 2), .sc (.int .i64 0), .im [] 0, .sc (.int .i64 3), .sc (.int .i64 1), .im [.sc (.int .i64 1), .sc (.bool true), .im [.sc (.int .u32 1)] 1, .sc (.int .i64 2), .sc (.bool false), .im [.sc (.int .u32 1)] 1] 2] 3] (.sc (.int .i64 1)) := ev_san (by kernel_rfl)
 have c31 : Spec Try.prog 24 [.im [.sc (.int .i64 1), .sc (.int .i64 0), .im [] 0, .sc (.int .i64 2), .sc (.int .i64 0), .im [] 0, .sc (.int .i64 3), .sc (.int .i64 1), .im [.sc (.int .i64 1), .sc (.bool true), .im [.sc (.int .u32 1)] 1, .sc (.int .i64 2), .sc (.bool false), .im [.sc (.int .u32 1)] 1] 2] 3] (.sc (.int .i64 1)) := ev_san (by kernel_rfl)
 have c32 : Spec Try.prog 22 [.im [] 0] (.sc (.int .i64 0)) := ev_san (by kernel_rfl)
 have c33 : Spec Try.prog 24 [.im [] 0] (.sc (.int .i64 (-1))) := ev_san (by kernel_rfl)
 have c34 : Spec Try.prog 26 [.im [] 0] (.sc (.bool true)) := val_san (C := []) (by kernel_rfl) (by kernel_rfl) (by kernel_rfl)
 have c35 : Spec Try.prog 26 [.im [.sc (.int .i64 1), .sc (.int .i64 0), .im [] 0, .sc (.int .i64 2), .sc (.int .i64 0), .im [] 0, .sc (.int .i64 3), .sc (.int .i64 1), .im [.sc (.int .i64 1), .sc (.bool true), .im [.sc (.int .u32 1)] 1, .sc (.int .i64 2), .sc (.bool false), .im [.sc (.int .u32 1)] 1] 2] 3] (.sc (.bool true)) := val_san (C := [⟨1, 0, []⟩, ⟨2, 0, []⟩, ⟨3, 1, [(1, some (-1)), (2, some 1)]⟩]) (by kernel_rfl) (by kernel_rfl) (by kernel_rfl)
 have c36 : Spec Try.prog 26 [.im [.sc (.int .i64 2), .sc (.int .i64 0), .im [] 0, .sc (.int .i64 1), .sc (.int .i64 0), .im [] 0] 2] (.sc (.bool false)) := val_san (C := [⟨2, 0, []⟩, ⟨1, 0, []⟩]) (by kernel_rfl) (by kernel_rfl) (by kernel_rfl)
 have c37 : Spec Try.prog 26 [.im [.sc (.int .i64 3), .sc (.int .i64 1), .im [.sc (.int .i64 1), .sc (.bool true), .im [.sc (.int .u32 1)] 1, .sc (.int .i64 2), .sc (.bool false), .im [.sc (.int .u32 1)] 1] 2] 1] (.sc (.bool false)) := val_san (C := [⟨3, 1, [(1, some (-1)), (2, some 1)]⟩]) (by kernel_rfl) (by kernel_rfl) (by kernel_rfl)
 have c38 : Spec Try.prog 19 [.im [.sc (.int .i64 1), .sc (.int .i64 0), .im [] 0, .sc (.int .i64 2), .sc (.int .i64 0), .im [] 0, .sc (.int .i64 3), .sc (.int .i64 1), .im [.sc (.int .i64 1), .sc (.bool true), .im [.sc (.int .u32 1)] 1, .sc (.int .i64 2), .sc (.bool false), .im [.sc (.int .u32 1)] 1] 2] 3, .sc (.int .i64 3)] (.tu [.ag [.sc (.int .i64 3), .sc (.int .i64 1), .im [.sc (.int .i64 1), .sc (.bool true), .im [.sc (.int .u32 1)] 1, .sc (.int .i64 2), .sc (.bool false), .im [.sc (.int .u32 1)] 1] 2], .sc (.bool true)]) := find_san (C := [⟨1, 0, []⟩, ⟨2, 0, []⟩, ⟨3, 1, [(1, some (-1)), (2, some 1)]⟩]) (by kernel_rfl) (by kernel_rfl) (by kernel_rfl) (by kernel_rfl)
 have c39 : Spec Try.prog 19 [.im [.sc (.int .i64 1), .sc (.int .i64 0), .im [] 0, .sc (.int .i64 2), .sc (.int .i64 0), .im [] 0, .sc (.int .i64 3), .sc (.int .i64 1), .im [.sc (.int .i64 1), .sc (.bool true), .im [.sc (.int .u32 1)] 1, .sc (.int .i64 2), .sc (.bool false), .im [.sc (.int .u32 1)] 1] 2] 3, .sc (.int .i64 4)] (.tu [.ag [.sc (.int .i64 0), .sc (.int .i64 0), .im [] 0], .sc (.bool false)]) := find_san (C := [⟨1, 0, []⟩, ⟨2, 0, []⟩, ⟨3, 1, [(1, some (-1)), (2, some 1)]⟩]) (by kernel_rfl) (by kernel_rfl) (by kernel_rfl) (by kernel_rfl)
 refine qF Try.func11 Try.ntmps11 fun B hB => ?_
 refine qWi ?_
 exact retQ_ret Try.results11 (by first | rfl | (simp (disch := omega) only [go_sem, ↓reduceIte, zn1, zn2, zn3, zn4, zn5, zn6, reduceCtorEq, zn7, zi1, zi2, if_pos, if_neg, Int.reduceAdd, zn8, zna, Nat.zero_mul, Nat.add_zero, zn9, Nat.sub_zero, zl2, zl4, zl3, zl9, zl7, zl8, List.append_nil, List.take_length, List.take_nil, List.drop_nil, List.length_nil, List.length_set, List.length_replicate, List.flatten_nil, List.flatten_cons, Bool.not_true, Bool.not_false, Bool.false_eq_true, Bool.or_true, Bool.true_or, Bool.or_false, Bool.or_self, bne_self_eq_false, beq_self_eq_true] <;> rfl)) (by first | rfl | (simp (disch := omega) only [go_sem, ↓reduceIte, zn1, zn2, zn3, zn4, zn5, zn6, reduceCtorEq, zn7, zi1, zi2, if_pos, if_neg, Int.reduceAdd, zn8, zna, Nat.zero_mul, Nat.add_zero, zn9, Nat.sub_zero, zl2, zl4, zl3, zl9, zl7, zl8, List.append_nil, List.take_length, List.take_nil, List.drop_nil, List.length_nil, List.length_set, List.length_replicate, List.flatten_nil, List.flatten_cons, Bool.not_true, Bool.not_false, Bool.false_eq_true, Bool.or_true, Bool.true_or, Bool.or_false, Bool.or_self, bne_self_eq_false, beq_self_eq_true] <;> rfl)) rfl
end Go.Proofs.Ytdkkgndibagihaa
namespace Go.Proofs.Ytdkkgndibagihaa
open Go.ChangeShapes Go.WideShapes Go.ChangeAt Go.RowKit
section
variable {H : Type} {enc : TypeId × Value → H} {P : Program} {W W' : World}
theorem trodAll_below (hl : laidOutB P = true) (hb : Below W.heap.size W W') : ∀ {ts : List TypeId} {vs : List Value} {ds : List (DataW H)} {ps : List MemPlace}, (ts.all fun t => P.readableRec t && decide (t < P.types.size)) = true → (∀ x ∈ ps, x.block < W.heap.size) →
  DataW.TrodAll enc P W 0 (fun _ => true) true ts vs ds ps → DataW.TrodAll enc P W' 0 (fun b => decide (b < W.heap.size)) true ts vs ds ps
 | [], vs, ds, ps, _, _, h => by obtain ⟨rfl, rfl, rfl⟩ := trodAll_nil h; exact trodAll_mk0
 | t :: ts, vs, ds, ps, hr, hlt, h => by
  obtain ⟨v, vs', d, ds', p, q, rfl, rfl, rfl, h1, h2⟩ := trodAll_cons h
  simp only [List.all_cons, Bool.and_eq_true, decide_eq_true_eq] at hr
  exact trodAll_cons_mk (Below.trod hl hr.1.1 hr.1.2 h1 hb fun x hx => hlt x (List.mem_append.2 (.inl hx))) (trodAll_below hl hb hr.2 (fun x hx => hlt x (List.mem_append.2 (.inr hx))) h2)
theorem law_post {f : Func} {s : ChangeSpec} {args : Array Value} {ds gs : List (DataW H)} {before : List MemPlace} {tb : TypeId} (hl : laidOutB P = true) (hr : (f.params.toList.all fun t => P.readableRec t && decide (t < P.types.size)) = true) (hres : f.resultTypes = #[tb])
  (htb : P.underlying tb = some .bool) (hvars : s.vars = []) (hs : s.fn H ds = { results := [.lit (.bool true)], args := ds }) (hW : DataW.Whole enc P f.params.toList s.vars false W args.toList ds gs before) (hb : Below W.heap.size W W') :
  s.post enc P f false true false false W args (.bool true) W' := by
 have hW' := hW
 obtain ⟨p, q, hA, hV, rfl, hz, hn⟩ := hW
 have hlt := hW'.lt
 rw [hvars] at hV
 obtain ⟨rfl, rfl⟩ := trodVars_none hV
 have e : s.fn H (ds ++ []) = { results := [.lit (.bool true)], args := ds } := by rw [List.append_nil]; exact hs
 refine ⟨ds, [], p ++ [], [], p, [], hW', ?_, ?_, ?_, hb.frame _, fun h => by cases h⟩
 ·rw [e, hres]; exact trodAll_mk1 (shut_bool htb true)
 ·rw [e]; exact trodAll_below hl hb hr (fun x hx => hlt x (List.mem_append.2 (.inl hx))) hA
 ·rw [e, hvars]; exact rfl
theorem Rc.sc (S : Nat → Prop) (w : World) (v : Value) : Rc S w (.sc v) v := R.sc v
theorem Rc.scs (S : Nat → Prop) (w : World) (l : List Value) : Rc S w (.ag (l.map .sc)) (.agg l.toArray) :=
 R.ag (by simp) fun i x u hx hu => by
  rw [List.getElem?_map] at hx
  rw [List.getElem?_toArray] at hu
  rw [hu] at hx
  cases hx; exact .sc _
theorem AllC.nil (S : Nat → Prop) (w : World) : AllC S w [] [] := ⟨rfl, fun i x u hx => by simp at hx⟩
theorem AllC.cons {S : Nat → Prop} {w : World} {x : V} {v : Value} {xs : List V} {vs : List Value} (h : Rc S w x v) (k : AllC S w xs vs) : AllC S w (x :: xs) (v :: vs) :=
 ⟨by simp [k.1], fun i y u hy hu => by
  cases i with
  | zero => simp at hy hu; subst hy; subst hu; exact h
  | succ i => simp at hy hu; exact k.2 i y u hy hu⟩
theorem Spec.law {f : Nat} {xs : List V} {args : Array Value} (h : Spec P f xs (.sc (.bool true))) (ht : TabOK (fun b => b < W.heap.size) W) (ha : AllC (fun b => b < W.heap.size) W xs args.toList) : Calls P f args W fun e W' => e = .returned (.bool true) ∧ Below W.heap.size W W' := by
 refine (h _ W args (fun _ h => h) ht ha).mono ?_
 rintro e W' ⟨v, rfl, hg, hx⟩
 have : v = .bool true := by
  generalize hq : V.sc (.bool true) = q at hx
  cases hx <;> cases hq
  rfl
 exact ⟨by rw [this], hg.os, hg.tape, hg.output, hg.size, hg.block⟩
theorem u8_wf (n : Int) (h : (Lit.int .u8 n).wf = true) : 0 ≤ n ∧ n ≤ (255 : Nat) := by
 have h1 : IntKind.u8.min = 0 := rfl
 have h2 : IntKind.u8.max = 255 := rfl
 simp [Lit.wf] at h
 omega
end
end Go.Proofs.Ytdkkgndibagihaa
namespace Go.Proofs.Ytdkkgndibagihaa
open Go.ChangeShapes Go.WideShapes Go.ChangeAt Go.RowKit
inductive Shp where
 | int (k : IntKind) | bool | str
 | arr (n : Nat) (s : Shp)
 | slc (s : Shp)
 | st (l : List Shp)
mutual
/-- the cells of a value of the shape, as trees -/
def Shp.Rep : Shp → List V → Prop
 | .int k, ys => ∃ n : Int, ys = [.sc (.int k n)] ∧ (Lit.int k n).wf = true
 | .bool, ys => ∃ b, ys = [.sc (.bool b)]
 | .str, ys => ∃ s : ByteArray, ys = [.sc (.string s)] ∧ s.size ≤ maxLen
 | .arr n s, ys => ∃ yss : List (List V), yss.length = n ∧ ys = yss.flatten ∧ ∀ z ∈ yss, s.Rep z
 | .slc s, ys => ∃ yss : List (List V), yss.length ≤ maxLen ∧ ys = [.im yss.flatten yss.length] ∧ ∀ z ∈ yss, s.Rep z
 | .st l, ys => Shp.Reps l ys
def Shp.Reps : List Shp → List V → Prop
 | [], ys => ys = []
 | s :: r, ys => ∃ a b, ys = a ++ b ∧ s.Rep a ∧ Shp.Reps r b
end
mutual
/-- the type has the shape -/
def Shp.ok (P : Program) : Shp → TypeId → Bool
 | .int k, t => match P.underlying t with
  | some (.int k') => k' == k && P.cellsOf t == 1
  | _ => false
 | .bool, t => match P.underlying t with
  | some .bool => P.cellsOf t == 1
  | _ => false
 | .str, t => match P.underlying t with
  | some .string => P.cellsOf t == 1
  | _ => false
 | .arr n s, t => match P.underlying t with
  | some (.array m e) => m == n && s.ok P e && P.cellsOf t == n * P.cellsOf e
  | _ => false
 | .slc s, t => match P.underlying t with
  | some (.slice e) => s.ok P e && P.cellsOf t == 1
  | _ => false
 | .st l, t => match P.underlying t with
  | some (.struct fs) => Shp.oks P l fs.toList 0 (P.cellsOf t)
  | _ => false
def Shp.oks (P : Program) : List Shp → List Field → Nat → Nat → Bool
 | [], fs, off, n => fs.isEmpty && off == n
 | s :: r, fs, off, n => match fs with
  | f :: fs => f.offset == off && s.ok P f.type && Shp.oks P r fs (off + P.cellsOf f.type) n
  | [] => false
end
section
variable {S : Nat → Prop} {w : World}
theorem AllC.append {xs ys : List V} {vs us : List Value} (h : AllC S w xs vs) (k : AllC S w ys us) : AllC S w (xs ++ ys) (vs ++ us) := by
 refine ⟨by simp [h.1, k.1], fun i x u hx hu => ?_⟩
 have hl := h.1
 rw [List.getElem?_append] at hx hu
 by_cases hi : i < xs.length
 ·rw [if_pos hi] at hx; rw [if_pos (by omega)] at hu
  exact h.2 i x u hx hu
 ·rw [if_neg hi] at hx; rw [if_neg (by omega), ← hl] at hu
  exact k.2 _ x u hx hu
theorem AllC.rows {Q : List V → Prop} {sz : Nat} : ∀ (n : Nat) (cs : List Value), cs.length = n * sz → (∀ i, i < n → ∃ ys, Q ys ∧ AllC S w ys ((cs.drop (i * sz)).take sz)) → ∃ yss : List (List V), yss.length = n ∧ (∀ z ∈ yss, Q z) ∧ AllC S w yss.flatten cs
 | 0, cs, hl, _ => by
  have : cs = [] := List.eq_nil_of_length_eq_zero (by simpa using hl)
  subst this
  exact ⟨[], rfl, fun z hz => by simp at hz, AllC.nil _ _⟩
 | n + 1, cs, hl, h => by
  obtain ⟨ys, hq, ha⟩ := h 0 (by omega)
  rw [Nat.zero_mul, zl2] at ha
  have hl' : cs.length = n * sz + sz := by rw [hl, Nat.add_mul, zna]
  obtain ⟨yss, h1, h2, h3⟩ := AllC.rows (Q := Q) (sz := sz) n (cs.drop sz) (by simp [hl']) fun i hi => by
   obtain ⟨zs, hz, hb⟩ := h (i + 1) (by omega)
   refine ⟨zs, hz, ?_⟩
   rwa [List.drop_drop, show sz + i * sz = (i + 1) * sz by rw [Nat.add_mul]; omega]
  refine ⟨ys :: yss, by simp [h1], fun z hz => ?_, ?_⟩
  ·rcases List.mem_cons.1 hz with rfl | hz
   ·exact hq
   ·exact h2 z hz
  ·have := ha.append h3
   rwa [List.take_append_drop] at this
end
theorem addr_add (a : Addr) (i j : Nat) : (a.add i).add j = a.add (i + j) := by
 unfold Addr.add
 by_cases hj : j = 0
 ·subst hj; simp
 ·by_cases hi : i = 0
  ·subst hi; simp
  ·rw [if_neg hj, if_neg hi, if_neg (by omega)]; simp; omega
section
variable {H : Type} {enc : TypeId × Value → H} {P : Program} {w : World} {base : Nat} {sp : Nat → Bool} {held : Bool}
mutual
theorem open_rep : ∀ (s : Shp) {t : TypeId} {fuel : Nat} {cs : List Value} {x : DataW H × List MemPlace}, s.ok P t = true → DataW.trod enc P w base sp held fuel t cs = some x → cs.length = P.cellsOf t ∧ ∃ ys, s.Rep ys ∧ AllC (fun b => b < w.heap.size) w ys cs
 | .int k, t, fuel, cs, x, ho, h => by
  simp only [Shp.ok] at ho
  split at ho
  ·rename_i k' hu
   simp only [Bool.and_eq_true, beq_iff_eq] at ho
   obtain ⟨rfl, hc⟩ := ho
   obtain ⟨n, rfl, _, hw⟩ := DataW.trod_int hu h
   exact ⟨hc.symm, _, ⟨n, rfl, hw⟩, AllC.cons (Rc.sc _ _ _) (AllC.nil _ _)⟩
  ·cases ho
 | .bool, t, fuel, cs, x, ho, h => by
  simp only [Shp.ok] at ho
  split at ho
  ·rename_i hu
   simp only [beq_iff_eq] at ho
   obtain ⟨n, rfl, _⟩ := DataW.trod_bool hu h
   exact ⟨ho.symm, _, ⟨n, rfl⟩, AllC.cons (Rc.sc _ _ _) (AllC.nil _ _)⟩
  ·cases ho
 | .str, t, fuel, cs, x, ho, h => by
  simp only [Shp.ok] at ho
  split at ho
  ·rename_i hu
   simp only [beq_iff_eq] at ho
   obtain ⟨n, rfl, _, hl⟩ := DataW.trod_string hu h
   exact ⟨ho.symm, _, ⟨n, rfl, hl⟩, AllC.cons (Rc.sc _ _ _) (AllC.nil _ _)⟩
  ·cases ho
 | .arr n s, t, fuel, cs, x, ho, h => by
  simp only [Shp.ok] at ho
  split at ho
  ·rename_i m e hu
   simp only [Bool.and_eq_true, beq_iff_eq] at ho
   obtain ⟨⟨rfl, ho⟩, hc⟩ := ho
   obtain ⟨xs, q, _, _, hl, hn, hel⟩ := DataW.trod_array hu h
   refine ⟨hl, ?_⟩
   obtain ⟨yss, h1, h2, h3⟩ := AllC.rows (S := fun b => b < w.heap.size) (w := w) (Q := s.Rep) m cs (by rw [hl, hc]) fun i hi => by
    have := hel i hi
    rw [zlb (by omega)] at this
    exact (open_rep s ho this).2
   exact ⟨_, ⟨yss, h1, rfl, h2⟩, h3⟩
  ·cases ho
 | .slc s, t, fuel, cs, x, ho, h => by
  simp only [Shp.ok] at ho
  split at ho
  ·rename_i e hu
   simp only [Bool.and_eq_true, beq_iff_eq] at ho
   obtain ⟨ho, hc⟩ := ho
   rcases DataW.trod_slice hu h with ⟨rfl, _⟩ | ⟨a, len, cap, elems, rest, n, _, rfl, _, hb, hl, hm, hlen, hel, _, _⟩
   ·exact ⟨hc.symm, _, ⟨[], by simp, rfl, fun z hz => by simp at hz⟩, AllC.cons (.im0 (znb _) (by unfold maxLen; omega) (fun _ => rfl)) (AllC.nil _ _)⟩
   ·refine ⟨hc.symm, ?_⟩
    obtain ⟨f, hf⟩ : ∃ f : Nat → Value, f = fun i => (w.cell? (a.add i)).getD undef := ⟨_, rfl⟩
    have each : ∀ i, i < len → w.cells? base (a.add (i * P.cellsOf e)) (P.cellsOf e) = some ((((List.range (len * P.cellsOf e)).map f).drop (i * P.cellsOf e)).take (P.cellsOf e)) ∧ ∃ y, DataW.trod enc P w base sp held n e ((((List.range (len * P.cellsOf e)).map f).drop (i * P.cellsOf e)).take (P.cellsOf e)) = some y := by
     intro i hi
     have h1 := hel i hi
     rw [zlb (by omega), Option.bind_eq_some_iff] at h1
     obtain ⟨cs', h2, h3⟩ := h1
     obtain ⟨_, h4, h5⟩ := World.cells?_some h2
     have hle : i * P.cellsOf e + P.cellsOf e ≤ len * P.cellsOf e := by
      have := Nat.mul_le_mul_right (P.cellsOf e) (show i + 1 ≤ len by omega)
      rwa [Nat.add_mul, zna] at this
     have he : cs' = (((List.range (len * P.cellsOf e)).map f).drop (i * P.cellsOf e)).take (P.cellsOf e) := by
      refine List.ext_getElem? fun j => ?_
      rw [List.getElem?_take]
      split
      ·rename_i hj
       have h6 := h5 j hj
       rw [addr_add] at h6
       rw [zl5, List.getElem?_map, List.getElem?_range (by omega), Option.map_some, hf]
       simp only
       rw [h6, zlb (by omega)]; rfl
      ·rw [List.getElem?_eq_none (by omega)]
     rw [← he]
     exact ⟨h2, _, h3⟩
    obtain ⟨yss, h1, h2, h3⟩ := AllC.rows (S := fun b => b < w.heap.size) (w := w) (Q := s.Rep) (sz := P.cellsOf e) len ((List.range (len * P.cellsOf e)).map f) (by simp) fun i hi => by
     obtain ⟨_, y, hy⟩ := each i hi
     exact (open_rep s ho hy).2
    refine ⟨_, ⟨yss, by omega, rfl, h2⟩, AllC.cons ?_ (AllC.nil _ _)⟩
    rw [h1]
    by_cases h0 : yss.flatten = []
    ·rw [h0]; exact .im0 hl hm (fun h => by cases h)
    ·have hpos : 0 < len * P.cellsOf e := by
      have h4 := h3.1
      simp only [List.length_map, List.length_range] at h4
      rw [← h4]
      exact List.length_pos_iff.2 h0
     have cell : ∀ i, i < len * P.cellsOf e → w.cell? (a.add i) = some (f i) := by
      intro i hi
      have hsz : 0 < P.cellsOf e := Nat.pos_of_ne_zero fun h => by rw [h, Nat.mul_zero] at hpos; omega
      have hd : i / P.cellsOf e < len := (Nat.div_lt_iff_lt_mul hsz).2 hi
      obtain ⟨h4, _⟩ := each (i / P.cellsOf e) hd
      obtain ⟨_, _, h5⟩ := World.cells?_some h4
      have h6 := h5 (i % P.cellsOf e) (Nat.mod_lt _ hsz)
      rw [addr_add, Nat.mul_comm, Nat.div_add_mod, List.getElem?_take, if_pos (Nat.mod_lt _ hsz), zl5, Nat.mul_comm, Nat.mul_comm, List.getElem?_map] at h6
      rw [h6, Nat.div_add_mod, List.getElem?_range hi]; rfl
     have c0 := cell 0 hpos
     rw [show a.add 0 = a by simp [Addr.add]] at c0
     obtain ⟨b, off, spot⟩ := a
     have hsp : spot = none := by
      cases spot with
      | none => rfl
      | some _ =>
       simp only [World.cell?] at c0
       split at c0
       ·simp at c0
       ·cases c0
     subst hsp
     have hbl : b < w.heap.size := by
      simp only [World.cell?] at c0
      split at c0
      ·rename_i hb'; exact (Array.getElem?_eq_some_iff.1 hb').1
      ·cases c0
     refine .im1 f hl hm hbl (fun i x hx => ?_) (fun i x hx => ?_)
     ·have hi : i < len * P.cellsOf e := by
       have := (List.getElem?_eq_some_iff.1 hx).1
       have h4 := h3.1
       simp only [List.length_map, List.length_range] at h4
       omega
      have := cell i hi
      unfold Addr.add at this
      split at this
      ·rename_i hi0; subst hi0; exact this
      ·exact this
     ·have hi : i < len * P.cellsOf e := by
       have := (List.getElem?_eq_some_iff.1 hx).1
       have h4 := h3.1
       simp only [List.length_map, List.length_range] at h4
       omega
      exact h3.2 i x (f i) hx (by rw [List.getElem?_map, List.getElem?_range hi]; rfl)
  ·cases ho
 | .st l, t, fuel, cs, x, ho, h => by
  simp only [Shp.ok] at ho
  split at ho
  ·rename_i fs hu
   obtain ⟨xs, n, _, _, hl, hn, hel⟩ := DataW.trod_struct hu h
   refine ⟨hl, ?_⟩
   obtain ⟨ys, h1, h2⟩ := open_reps l (fs := fs.toList) (off := 0) (cs := cs) (n := n) (m := P.cellsOf t) ho hl (fun i f hf => by
    have := hel i f (by simpa using hf)
    have hi := (List.getElem?_eq_some_iff.1 hf).1
    rw [zlb (by rw [hn]; simpa using hi)] at this
    exact ⟨_, this⟩)
   rw [zl2] at h2
   exact ⟨ys, h1, h2⟩
  ·cases ho
theorem open_reps : ∀ (l : List Shp) {fs : List Field} {off n m : Nat} {cs : List Value}, Shp.oks P l fs off m = true → cs.length = m → (∀ (i : Nat) (f : Field), fs[i]? = some f → ∃ x : DataW H × List MemPlace, DataW.trod enc P w base sp held n f.type ((cs.drop f.offset).take (P.cellsOf f.type)) = some x) →
  ∃ ys, Shp.Reps l ys ∧ AllC (fun b => b < w.heap.size) w ys (cs.drop off)
 | [], fs, off, n, m, cs, ho, hl, h => by
  simp only [Shp.oks, Bool.and_eq_true, beq_iff_eq] at ho
  refine ⟨[], rfl, ?_⟩
  rw [List.drop_of_length_le (by omega)]
  exact AllC.nil _ _
 | s :: r, [], off, n, m, cs, ho, hl, h => by simp [Shp.oks] at ho
 | s :: r, f :: fs, off, n, m, cs, ho, hl, h => by
  simp only [Shp.oks, Bool.and_eq_true, beq_iff_eq] at ho
  obtain ⟨⟨h1, h2⟩, h3⟩ := ho
  obtain ⟨x, hx⟩ := h 0 f rfl
  obtain ⟨hlen, ys, h4, h5⟩ := open_rep s h2 hx
  obtain ⟨zs, h6, h7⟩ := open_reps r h3 hl fun i g hg => h (i + 1) g (by simpa using hg)
  refine ⟨ys ++ zs, ⟨ys, zs, rfl, h4, h6⟩, ?_⟩
  have := h5.append h7
  rwa [h1, ← List.drop_drop, List.take_append_drop] at this
end
def Shp.Val : Shp → V → Prop
 | .arr n s, x => ∃ ys, x = .ag ys ∧ (Shp.arr n s).Rep ys
 | .st l, x => ∃ ys, x = .ag ys ∧ Shp.Reps l ys
 | .int k, x => ∃ n : Int, x = .sc (.int k n) ∧ (Lit.int k n).wf = true
 | .bool, x => ∃ b, x = .sc (.bool b)
 | .str, x => ∃ s : ByteArray, x = .sc (.string s) ∧ s.size ≤ maxLen
 | .slc s, x => ∃ yss : List (List V), yss.length ≤ maxLen ∧ x = .im yss.flatten yss.length ∧ ∀ z ∈ yss, s.Rep z
def Shp.Vals : List Shp → List V → Prop
 | [], xs => xs = []
 | s :: r, xs => ∃ x ys, xs = x :: ys ∧ s.Val x ∧ Shp.Vals r ys
theorem rc_agg {S : Nat → Prop} {ys : List V} {cs : Array Value} (h : AllC S w ys cs.toList) : Rc S w (.ag ys) (.agg cs) :=
 .ag (by have := h.1; simpa using this) fun i x u hx hu => h.2 i x u hx (by simpa using hu)
theorem open_arg (s : Shp) {t : TypeId} {v : Value} {d : DataW H} {ps : List MemPlace} (ho : s.ok P t = true) (hval : Value.okWide P w .any 0 t v) (hd : DataW.Trod enc P w 0 (fun _ => true) true t v d ps) : ∃ x, s.Val x ∧ Rc (fun b => b < w.heap.size) w x v := by
 obtain ⟨fuel, hf⟩ := hd
 obtain ⟨_, ys, h1, h2⟩ := open_rep s ho hf
 have one : ∀ {y : V}, (∀ cs, v ≠ .agg cs) → ys = [y] → Rc (fun b => b < w.heap.size) w y v := by
  intro y hv e
  subst e
  have hc : v.cells.toList = [v] := by cases v <;> first | rfl | exact absurd rfl (hv _)
  rw [hc] at h2
  exact h2.2 0 y v rfl rfl
 cases s with
 | int k =>
  obtain ⟨n, rfl, hw⟩ := h1
  simp only [Shp.ok] at ho
  split at ho
  ·rename_i hu
   obtain ⟨m, rfl⟩ := okWide_int hu hval
   exact ⟨_, ⟨n, rfl, hw⟩, one (fun cs e => by cases e) rfl⟩
  ·cases ho
 | bool =>
  obtain ⟨b, rfl⟩ := h1
  simp only [Shp.ok] at ho
  split at ho
  ·rename_i hu
   obtain ⟨m, rfl⟩ := okWide_bool hu hval
   exact ⟨_, ⟨b, rfl⟩, one (fun cs e => by cases e) rfl⟩
  ·cases ho
 | str =>
  obtain ⟨b, rfl, hl⟩ := h1
  simp only [Shp.ok] at ho
  split at ho
  ·rename_i hu
   refine ⟨_, ⟨b, rfl, hl⟩, one (fun cs e => ?_) rfl⟩
   subst e
   simp [Value.okWide, Cell.okWide, Cell.ok, hu] at hval
  ·cases ho
 | slc s =>
  obtain ⟨yss, h3, rfl, h4⟩ := h1
  simp only [Shp.ok] at ho
  split at ho
  ·rename_i hu
   refine ⟨_, ⟨yss, h3, rfl, h4⟩, one (fun cs e => ?_) rfl⟩
   subst e
   simp [Value.okWide, Cell.okWide, Cell.ok, hu] at hval
  ·cases ho
 | arr n s =>
  have ho' := ho
  simp only [Shp.ok] at ho
  split at ho
  ·rename_i hu
   obtain ⟨cs, rfl, _⟩ : ∃ cs, v = .agg cs ∧ cs.size = P.cellsOf t ∧ Row.okWide P w .any 0 t cs := by simpa [Value.okWide, hu] using hval
   exact ⟨_, ⟨ys, rfl, h1⟩, rc_agg h2⟩
  ·cases ho
 | st l =>
  simp only [Shp.ok] at ho
  split at ho
  ·rename_i hu
   obtain ⟨cs, rfl, _⟩ : ∃ cs, v = .agg cs ∧ cs.size = P.cellsOf t ∧ Row.okWide P w .any 0 t cs := by simpa [Value.okWide, hu] using hval
   exact ⟨_, ⟨ys, rfl, h1⟩, rc_agg h2⟩
  ·cases ho
def Shp.okL (P : Program) : List Shp → List TypeId → Bool
 | [], [] => true
 | s :: r, t :: ts => s.ok P t && Shp.okL P r ts
 | _, _ => false
theorem open_args : ∀ (ss : List Shp) {ts : List TypeId} {vs : List Value} {ds : List (DataW H)} {ps : List MemPlace}, Shp.okL P ss ts = true → (∀ (j : Nat) t v, ts[j]? = some t → vs[j]? = some v → Value.okWide P w .any 0 t v) → DataW.TrodAll enc P w 0 (fun _ => true) true ts vs ds ps →
  ∃ xs, Shp.Vals ss xs ∧ AllC (fun b => b < w.heap.size) w xs vs ∧ ds.length = ts.length
 | [], [], vs, ds, ps, _, _, h => by obtain ⟨rfl, rfl, rfl⟩ := trodAll_nil h; exact ⟨[], rfl, AllC.nil _ _, rfl⟩
 | [], t :: ts, _, _, _, ho, _, _ => by cases ho
 | s :: r, [], _, _, _, ho, _, _ => by cases ho
 | s :: r, t :: ts, vs, ds, ps, ho, hv, h => by
  simp only [Shp.okL, Bool.and_eq_true] at ho
  obtain ⟨v, vs', d, ds', p, q, rfl, rfl, rfl, h1, h2⟩ := trodAll_cons h
  obtain ⟨x, h3, h4⟩ := open_arg s ho.1 (hv 0 t v rfl rfl) h1
  obtain ⟨xs, h5, h6, h7⟩ := open_args r ho.2 (fun j t v a b => hv (j + 1) t v (by simpa using a) (by simpa using b)) h2
  exact ⟨x :: xs, ⟨x, xs, rfl, h3, h5⟩, AllC.cons h4 h6, by simp [h7]⟩
theorem law_calls {f : Nat} {fn : Func} (ss : List Shp) {args : Array Value} {ds : List (DataW H)} {p : List MemPlace} (hok : Shp.okL P ss fn.params.toList = true)
  (hval : ∀ (j : Nat) t v, fn.params[j]? = some t → args[j]? = some v → Value.okWide P w .any 0 t v) (hA : DataW.TrodAll enc P w 0 (fun _ => true) true fn.params.toList args.toList ds p)
  (ht : TabOK (fun b => b < w.heap.size) w) (hs : ∀ xs, Shp.Vals ss xs → Spec P f xs (.sc (.bool true))) : ds.length = fn.params.size ∧ Calls P f args w fun e w' => e = .returned (.bool true) ∧ Below w.heap.size w w' := by
 obtain ⟨xs, h1, h2, h3⟩ := open_args ss hok (fun j t v a b => hval j t v (by simpa using a) (by simpa using b)) hA
 exact ⟨by simpa using h3, Spec.law (hs xs h1) ht h2⟩
theorem reps_ints {k : IntKind} : ∀ {yss : List (List V)}, (∀ z ∈ yss, (Shp.int k).Rep z) → ∃ ns : List Int, yss.flatten = ns.map (fun n => .sc (.int k n)) ∧ ns.length = yss.length ∧ ∀ n ∈ ns, (Lit.int k n).wf = true
 | [], _ => ⟨[], rfl, rfl, fun n hn => by simp at hn⟩
 | y :: r, h => by
  obtain ⟨n, rfl, hw⟩ := h y (by simp)
  obtain ⟨ns, h1, h2, h3⟩ := reps_ints (yss := r) fun z hz => h z (by simp [hz])
  exact ⟨n :: ns, by simp [h1], by simp [h2], fun m hm => by
   rcases List.mem_cons.1 hm with rfl | hm
   ·exact hw
   ·exact h3 m hm⟩
theorem wf_nat {k : IntKind} {M : Nat} (hk : ∀ n, (Lit.int k n).wf = true → 0 ≤ n ∧ n ≤ M) {n : Int} (h : (Lit.int k n).wf = true) : ∃ m : Nat, n = m ∧ m ≤ M := by
 obtain ⟨h1, h2⟩ := hk n h
 exact ⟨n.toNat, by omega, by omega⟩
end
end Go.Proofs.Ytdkkgndibagihaa
namespace Go.Proofs.Ytdkkgndibagihaa
open Go.ChangeShapes Go.WideShapes Go.ChangeAt Go.RowKit
theorem i8w (n : Int) (h : (Lit.int .i8 n).wf = true) : -128 ≤ n ∧ n ≤ 127 := by
 have h : (IntKind.i8.min ≤ n ∧ n ≤ IntKind.i8.max) := by simpa [Lit.wf] using h
 have h1 : IntKind.i8.min = -128 := by decide
 have h2 : IntKind.i8.max = 127 := by decide
 omega
theorem i64w (n : Int) (h : (Lit.int .i64 n).wf = true) : I64 n := by
 have h1 : IntKind.i64.min = -9223372036854775808 := rfl
 have h2 : IntKind.i64.max = 9223372036854775807 := rfl
 simp [Lit.wf] at h
 unfold I64
 omega
theorem i16w (n : Int) (h : (Lit.int .i16 n).wf = true) : -32768 ≤ n ∧ n ≤ 32767 := by
 have h : (IntKind.i16.min ≤ n ∧ n ≤ IntKind.i16.max) := by simpa [Lit.wf] using h
 have h1 : IntKind.i16.min = -32768 := by decide
 have h2 : IntKind.i16.max = 32767 := by decide
 omega
theorem rw_rep {y : List V} (h : (Shp.st [.int .u8, .int .u8, .slc (.int .i8)]).Rep y) : ∃ x : Rwc, y = rwC x ∧ RwcOk x := by
 obtain ⟨a1, b1, rfl, ⟨n1, rfl, w1⟩, a2, b2, rfl, ⟨n2, rfl, w2⟩, a3, b3, rfl, ⟨yss, hl, rfl, hr⟩, rfl⟩ := h
 obtain ⟨a, rfl, ha⟩ := wf_nat u8_wf w1
 obtain ⟨b, rfl, hb⟩ := wf_nat u8_wf w2
 obtain ⟨l, h1, h2, h3⟩ := reps_ints hr
 unfold maxLen at hl
 refine ⟨⟨a, b, l⟩, ?_, by show a < _; omega, by show b < _; omega, fun x hx => i8w x (h3 x hx), by show l.length ≤ _; omega⟩
 rw [h1, ← h2]; rfl
theorem rw_val {x : V} (h : (Shp.st [.int .u8, .int .u8, .slc (.int .i8)]).Val x) : ∃ y : Rwc, x = .ag (rwC y) ∧ RwcOk y := by
 obtain ⟨ys, rfl, hr⟩ := h
 obtain ⟨y, rfl, hy⟩ := rw_rep hr
 exact ⟨y, rfl, hy⟩
theorem rws_rep : ∀ {yss : List (List V)}, (∀ z ∈ yss, (Shp.st [.int .u8, .int .u8, .slc (.int .i8)]).Rep z) → ∃ l : List Rwc, yss.flatten = rwcs l ∧ l.length = yss.length ∧ ∀ x ∈ l, RwcOk x
 | [], _ => ⟨[], rfl, rfl, fun o ho => by cases ho⟩
 | y :: r, h => by
  obtain ⟨x, rfl, hx⟩ := rw_rep (h y (by simp))
  obtain ⟨l, e1, e2, e3⟩ := rws_rep (yss := r) fun z hz => h z (by simp [hz])
  refine ⟨x :: l, by rw [List.flatten_cons, e1]; rfl, by simp [e2], fun z hz => ?_⟩
  rcases List.mem_cons.1 hz with rfl | hz
  ·exact hx
  ·exact e3 z hz
theorem rws_val {x : V} (h : (Shp.slc (.st [.int .u8, .int .u8, .slc (.int .i8)])).Val x) : ∃ l : List Rwc, x = .im (rwcs l) l.length ∧ l.length ≤ 9223372036854775807 ∧ ∀ x ∈ l, RwcOk x := by
 obtain ⟨yss, hl, rfl, hr⟩ := h
 obtain ⟨l, h1, h2, h3⟩ := rws_rep hr
 unfold maxLen at hl
 exact ⟨l, by rw [h1, h2], by omega, h3⟩
theorem lmade_ex {l : List Rwc} (hl : l.length ≤ 9223372036854775807) (hx : ∀ x ∈ l, RwcOk x) : ∃ C, Spec Try.prog 12 [.im (rwcs l) l.length] (cxV C) ∧ Good C ∧ C.length ≤ 12 := by
 obtain ⟨C, c1, h1, h2⟩ := made_ex hl hx
 refine ⟨C, ?_, h1, h2⟩
 unfold cxV at *
 refine qF Try.func12 Try.ntmps12 fun B hB => ?_
 refine qW ?_
 exact qE Try.results12
end Go.Proofs.Ytdkkgndibagihaa
namespace Go.Proofs.Ytdkkgndibagihaa
open Go.RowKit
section
variable {P : Program}
theorem Spec.ofQ {f : Nat} {args : List V} {x : V} {C : V → List (Nat × Blk) → Nat → Prop} (hI : InlQ P f args [] 0 C) (hf : ∀ y hp' nx', C y hp' nx' → ∃ ids, frz 8 hp' y = some (x, ids)) : Spec P f args x := by
 intro S w vs hS hT hargs
 have hm : Mem ⟨w, S, fun _ => False, fun _ => 0, fun _ => False, []⟩ S (fun _ => 0) (fun _ => False) [] w := {
  cells := fun id k hk => by cases hk
  fz := fun id k hk => by cases hk
  own := fun id k hk => by cases hk
  inj := fun id id' k k' hk => by cases hk
  slt := hS
  sub := fun _ h => h
  base := fun _ h => .inl h
  frame := ⟨rfl, rfl, rfl, znb _, fun _ _ _ => rfl, fun _ _ => rfl, fun _ _ h => h, hS, hT⟩
  keep := fun id h => h.elim }
 refine (hI.callsI hm (fun _ h => h.elim) (vs := vs) hargs).mono ?_
 rintro e w' ⟨v, rfl, y, hp', nx', S', rho', A', hC, h1, h2, h3, h4, h5⟩
 have hL : ∀ b, ¬ (Base.inner S (fun _ => 0) (fun _ => False) [] w).L b := by
  rintro b ⟨i, kk, hi, ha, hr⟩
  cases hi
 obtain ⟨ids, hz⟩ := hf _ _ _ hC
 have h6 := frz_sound h3 8 y v x ids hz h5
 have hmf := h3.freeze ids h6.live
 refine ⟨v, rfl, ⟨h3.frame.os, h3.frame.tape, h3.frame.output, h3.frame.size, fun b hb => h3.frame.block b hb (hL b)⟩, ?_⟩
 refine (h6.rep.wide fun b hb => ?_).rho
 rcases hmf.base b hb with h | h | h
 ·exact .inl h
 ·exact .inr ⟨h, hmf.slt b hb⟩
 ·exact (hL _ h).elim
end
end Go.Proofs.Ytdkkgndibagihaa
namespace Go.Proofs.Ytdkkgndibagihaa
open Go.RowKit
theorem rnewv_s (h w : Nat) (hn : h ≤ 1000000) (hw : w ≤ 1000000) : Spec Try.prog 38 [.sc (.int .i64 h), .sc (.int .i64 w)] (mat w (zeroL h w)) := by
 refine Spec.ofQ (rnew_s h w 0 hn hw) ?_
 rintro y hp nx ⟨o, ids, hR, rfl, rfl⟩
 have hzl : (zeroL h w).length = h := by simp [zeroL]
 rw [hzl] at hR ⊢
 have hidl := hR.len
 have hA : MI h w 1 (zeroL h w) := by
  rw [mkM_zero]; exact mk_mi fun _ _ _ _ => by unfold Fits; decide
 have g1 := slR_len 2 w ids
 rw [hidl] at g1
 unfold mat
 rw [hzl]
 by_cases h0 : h = 0
 ·subst h0
  have hids : ids = [] := List.eq_nil_of_length_eq_zero (by omega)
  subst hids
  exact ⟨_, by simp (disch := omega) only [go_sem, ↓reduceIte, zn1, zn2, zn3, zn4, zn5, zn6, reduceCtorEq, zn7, zi1, zi2, if_pos, if_neg, Int.reduceAdd, zn8, zna, Nat.zero_mul, Nat.add_zero, zn9, Nat.sub_zero, zl2, zl4, zl3, zl9, zl7, zl8, List.append_nil, List.take_length, List.take_nil, List.drop_nil, List.length_nil, List.length_set, List.length_replicate, List.flatten_nil, List.flatten_cons, Bool.not_true, Bool.not_false, Bool.false_eq_true, Bool.or_true, Bool.true_or, Bool.or_false, Bool.or_self, bne_self_eq_false, beq_self_eq_true] <;> rfl⟩
 ·have hrows : ∀ k, k < ids.length → hget ((o, (⟨80, slR 2 w ids, false⟩ : Blk)) :: rowsH 84 ids (rI (zeroL h w))) (ids.getD k 0) = some ⟨84, (rI (zeroL h w)).getD k [], false⟩ := by
   intro k hk
   have hm := getD_mem' hk
   simp only [hget]
   rw [if_neg (fun e => hR.o2 (by rw [← e]; exact hm))]
   exact rows_get hR.nod hk (by rw [rI_len]; omega)
  have hfz := frz_rowsA (n := 5) (z := 2) (m := w) (ty := 84) (ids := ids) (rs := rI (zeroL h w)) (by omega) (by rw [rI_len]; omega) hrows (rI_rows hA)
  have hsl := slR_some (z := 2) (m := w) (ids := ids) (by omega)
  have ht : (slR 2 w ids).take h = slR 2 w ids := zla (by omega)
  exact ⟨_, by simp (disch := omega) only [go_sem, ↓reduceIte, zn1, zn2, zn3, zn4, zn5, zn6, reduceCtorEq, zn7, zi1, zi2, if_pos, if_neg, Int.reduceAdd, zn8, zna, Nat.zero_mul, Nat.add_zero, zn9, Nat.sub_zero, zl2, zl4, zl3, zl9, zl7, zl8, List.append_nil, List.take_length, List.take_nil, List.drop_nil, List.length_nil, List.length_set, List.length_replicate, List.flatten_nil, List.flatten_cons, Bool.not_true, Bool.not_false, Bool.false_eq_true, Bool.or_true, Bool.true_or, Bool.or_false, Bool.or_self, bne_self_eq_false, beq_self_eq_true, hfz, hsl, ht, g1] <;> rfl⟩
theorem mul_zero {C : List Cx} (hV : VAL C) {k k1 k2 : Int} (e1 : k1 = k - 1) (e2 : k2 = k1 - 1) : mulM (idsL C k).length (idsL C k1).length (idsL C k2).length (cbM C k k1) (cbM C k1 k2) = zeroL (idsL C k).length (idsL C k2).length := by
 subst e1; subst e2
 rw [mkM_zero]
 exact mkM_congr fun r c hr hc => bd_sq hV hr hc
end Go.Proofs.Ytdkkgndibagihaa
namespace Go.Proofs.Ytdkkgndibagihaa
open Go.RowKit
theorem plain_of {C : List Cx} {K : Nat} (hC : CxOk K C) (hV : VAL C) : ∀ x ∈ C, PlainCh K x.b := fun x hx => ⟨(hC.all x hx).len, fun f hf => by
 obtain ⟨z, hz, _⟩ := (hV.faces x hx).vg.mem f hf
 have := (hC.all x hx).cf f hf
 rw [hz] at this
 exact ⟨z, hz, this⟩⟩
theorem CxOk.ins {C : List Cx} {K : Nat} {a : Cx} (hC : CxOk K C) (ha : CxK K a) (hl : C.length ≤ 999) : CxOk K (insL C a) := ⟨by rw [ins_len]; omega, fun z hz => by
 rcases mem_ins.1 hz with e | e
 ·rw [e]; exact ha
 ·exact hC.all z e⟩
theorem rvalid_t {C : List Cx} {K : Nat} (hC : CxOk K C) (hV : VAL C) (hK : K ≤ 100000000000) : Spec Try.prog 28 [cxV C] (.sc (.bool true)) := by
 obtain ⟨r, c, h⟩ := rcvalid_s hC hK
 rw [h.2 hV] at c; exact c
theorem pvalid_t {C : List Cx} {K : Nat} (hC : CxOk K C) (hV : VAL C) (hK : K ≤ 100000000000) : Spec Try.prog 26 [cxV C] (.sc (.bool true)) := by
 obtain ⟨r, c, h⟩ := cvalid_s hC hK
 rw [h.2 hV] at c; exact c
theorem fitsP0 {C : List Cx} {a : Cx} (h1 : FacesOk C a) (h2 : ∀ n, bdn C a.b n = 0) : FitsP C a 0 := .inr ⟨⟨h1.vg, h1.there⟩, .inr ⟨h1, .inr ⟨rfl, h2⟩⟩⟩
theorem ins_ok {C : List Cx} {a : Cx} (h : findL C a.id = none) (hl : C.length < 400) : insV C a 0 = .tu [cxV (insL C a), .sc (.int .i64 0)] := by
 have e : insE C a 0 = 0 := by unfold insE; rw [h, if_neg (by simp), if_neg (by omega), if_neg (by omega)]
 unfold insV; rw [e, if_pos rfl]
theorem ins_used {C : List Cx} {a : Cx} {e : Int} (h : (findL C a.id).isSome = true) : insV C a e = .tu [cxV [], .sc (.int .i64 253)] := by
 have e' : insE C a e = 253 := by unfold insE; rw [if_pos h]
 unfold insV; rw [e', if_neg (by omega)]
theorem rem_back {C : List Cx} {a : Cx} (hV : VAL C) (h : findL C a.id = none) (ha : FacesOk C a) : remV (insL C a) a.id = .tu [cxV C, .sc (.int .i64 0)] := by
 have e : remE (insL C a) a.id = 0 := by unfold remE; rw [findL_ins h, if_pos rfl, uses_ins hV h ha]; rfl
 unfold remV; rw [e, if_pos rfl, rem_ins h]
structure MadeC (C : List Cx) (x : Rwc) (a : Cx) : Prop where
 run : Spec Try.prog 29 [cxV C, .ag (rwC x)] (.ag (cxC a))
 k : CxK 50000000001 a
 fo : FacesOk C a
 cl : ∀ n, bdn C a.b n = 0
theorem madec_ex {C : List Cx} (hG : Good C) (hl : C.length ≤ 12) {x : Rwc} (hx : RwcOk x) : ∃ a, MadeC C x a := by
 obtain ⟨a, c, h⟩ := cell_ex hG hl hx
 obtain ⟨h1, h2⟩ := h.fits hG.val
 exact ⟨a, c, (h.ok hG hl hx).1, h1, h2⟩
end Go.Proofs.Ytdkkgndibagihaa
