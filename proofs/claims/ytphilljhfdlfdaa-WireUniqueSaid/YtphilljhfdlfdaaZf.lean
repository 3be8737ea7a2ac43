/- Texts joined: Ra Rb Rc Rd Re Rf Rg Rh Ri Rj. -/
import Derived.Test.YtphilljhfdlfdaaZc
import Derived.Test.YtphilljhfdlfdaaZd
import Derived.Test.YtphilljhfdlfdaaZe
set_option linter.all false
open Nat renaming reduceEqDiff → zn1, reduceLT → zn2, reduceLeDiff → zn3, reduceAdd → zn4, reduceMul → zn5, reduceSub → zn6, reduceBEq → zn7, mul_one → zn8, zero_add → zn9, one_mul → zna, le_refl → znb, zero_le → znc, add_sub_cancel_left → znd, sub_eq_zero_of_le → zne, add_assoc → znf
open Int renaming reduceToNat → zi1, reducePow → zi2
open List renaming length_append → zl1, drop_zero → zl2, take_succ_cons → zl3, take_zero → zl4, getElem?_drop → zl5, append_assoc → zl6, nil_append → zl7, cons_append → zl8, drop_succ_cons → zl9, take_of_length_le → zla, getElem?_eq_getElem → zlb, getElem?_eq_some_iff → zlc, map_cons → zld, map_nil → zle, all_eq_true → zlf
namespace Go.Proofs.Ytphilljhfdlfdaa
open Go.RowKit
theorem pvalid_i (z : Int) (K : Nat) (hz : Fits K z) (hK : K ≤ 1000000000) : Spec Try.prog 77 [iv z] (.sc (.bool true)) := by
  have hl := fits_len hz
  have h := valid_g (limbsOf z.natAbs) _ (decide (z < 0)) rfl (by omega)
  have : validB (limbsOf z.natAbs) (decide (z < 0)) = true := by
    unfold validB
    split
    · rename_i h0
      have h1 := limbsOf_val z.natAbs
      rw [List.eq_nil_of_length_eq_zero h0] at h1
      have : z = 0 := by simp [val] at h1; omega
      subst this; rfl
    · rename_i h0
      have hc := limbsOf_canon z.natAbs
      have hne : limbsOf z.natAbs ≠ [] := fun e => h0 (by rw [e]; rfl)
      have := hc hne
      rw [List.getLast_eq_getElem] at this
      rw [List.getD_eq_getElem?_getD, zlb (by omega)]
      simpa using this
  rw [this] at h
  exact h
def ivC (z : Int) : List V := [.sc (.bool (decide (z < 0))), sv (limbsOf z.natAbs)]
def ivR : List Int → List V
  | [] => []
  | z :: r => ivC z ++ ivR r
theorem ivR_len : ∀ l : List Int, (ivR l).length = 2 * l.length
  | [] => rfl
  | z :: r => by
    rw [ivR, zl1, ivR_len r, List.length_cons]
    show 2 + _ = _
    omega
theorem ivR_clo : ∀ l : List Int, (ivR l).all clo = true
  | [] => rfl
  | z :: r => by
    rw [ivR, List.all_append, ivR_clo r]; rfl
theorem ivR_drop : ∀ {l : List Int} {i : Nat}, i < l.length → (ivR l).drop (i * 2) = ivC (l.getD i 0) ++ (ivR l).drop ((i + 1) * 2)
  | o :: r, 0, _ => rfl
  | o :: r, i + 1, h => by
    have e : ∀ m, (m + 1) * 2 = (ivC o).length + m * 2 := by intro m; show _ = 2 + _; omega
    have hd : ∀ m, (ivR (o :: r)).drop ((m + 1) * 2) = (ivR r).drop (m * 2) := by
      intro m
      rw [e, ivR, List.drop_append]
      simp only [znd, List.drop_eq_nil_of_le (Nat.le_add_right _ _), zl7]
    rw [hd, hd]
    exact ivR_drop (by simpa using h)
theorem ivR_set : ∀ {l : List Int} {i : Nat} (z : Int), i < l.length → setAll (ivR l) (i * 2) (ivC z) = ivR (l.set i z)
  | o :: r, 0, z, _ => rfl
  | o :: r, i + 1, z, h => by
    have h' : i < r.length := by simpa using h
    have ih := ivR_set z h'
    rw [setAll_all _ _ _ (by rw [ivR_len]; show _ + 2 ≤ _; omega)] at ih
    rw [setAll_all _ _ _ (by rw [ivR_len, List.length_cons]; show _ + 2 ≤ _; omega)]
    have e : (i + 1) * 2 = (ivC o).length + i * 2 := by show _ = 2 + _; omega
    have e2 : (i + 1) * 2 + (ivC z).length = (ivC o).length + (i * 2 + (ivC z).length) := by omega
    rw [e2, e, ivR, List.take_length_add_append, List.drop_length_add_append, zl6, zl6, ← zl6 ((ivR r).take _), ih]
    rfl
def rI (M : List (List Int)) : List (List V) := M.map ivR
structure MI (h w K : Nat) (M : List (List Int)) : Prop where
  len : M.length = h
  row : ∀ r ∈ M, r.length = w ∧ ∀ x ∈ r, Fits K x
theorem MI.get {h w K : Nat} {M : List (List Int)} (hM : MI h w K M) {i : Nat} (hi : i < h) : (M.getD i []).length = w ∧ ∀ x ∈ M.getD i [], Fits K x := hM.row _ (getD_mem (d := []) (by rw [hM.len]; exact hi))
theorem MI.mono {h w K L : Nat} {M : List (List Int)} (hM : MI h w K M) (hl : K ≤ L) : MI h w L M := ⟨hM.len, fun r hr => ⟨(hM.row r hr).1, fun x hx => ((hM.row r hr).2 x hx).mono hl⟩⟩
theorem MI.set {h w K : Nat} {M : List (List Int)} (hM : MI h w K M) {i : Nat} {r : List Int} (hr : r.length = w ∧ ∀ x ∈ r, Fits K x) : MI h w K (M.set i r) :=
  ⟨by rw [List.length_set]; exact hM.len, fun q hq => by rcases List.mem_or_eq_of_mem_set hq with e | e; exact hM.row q e; exact e ▸ hr⟩
def mat (w : Nat) (M : List (List Int)) : V := .ag [.sc (.int .i64 M.length), .sc (.int .i64 w), .im (imR w (rI M)) M.length]
theorem imI_len (w : Nat) (M : List (List Int)) : (imR w (rI M)).length = M.length := by simp [imR, rI]
theorem imI_get {w i : Nat} {M : List (List Int)} (h : i < M.length) : (imR w (rI M))[i]? = some (.im (ivR (M.getD i [])) w) := by
  unfold imR rI
  rw [List.getElem?_map, List.getElem?_map, getD_get' (d := []) h]; rfl
def clS : V → Bool
  | .sc _ => true
  | x => clo x
theorem VMap.clS {f : Nat → Nat} {D : Nat → Prop} {x : V} (h : clS x = true) : VMap f D x x := by
  cases x <;> first | exact VMap.sc _ | exact VMap.clo h
set_option maxHeartbeats 4000000 in
theorem ivec_s {w K : Nat} {r : List Int} (hl : r.length = w) (hf : ∀ x ∈ r, Fits K x) (hK : K ≤ 1000000) (hw : w ≤ 1000000) : Spec Try.prog 66 [.im (ivR r) w] (.sc (.bool true)) := by
  have glr := ivR_len r
  refine Spec.run Try.func66 rfl Try.ntmps66 (by simp) (by simp (disch := omega) only [go_sem]; rfl) fun B hB => ?_
  (repeat (first | refine DO.nil (by kernel_rfl) ?_ | (with_reducible refine oz (by constructor <;> decide) ?_) | ((with_reducible first | apply wa | apply wb | apply wc | apply wd); (focus (simp (disch := omega) only [go_sem, ↓reduceIte] <;> rfl)); (first | refine pT ?_ | refine pF ?_ | fail_if_success with_reducible refine pA ?_)) | ((with_reducible refine SC.draw Tab.mixed ?_ ?_); rfl) | (with_reducible apply SC.ops)))
  refine SC.loop (fun t : Nat => ⟨[(0, .im (ivR r) w), (3, .sc (.int .i64 t))], [], 0, 16⟩) (fun t => t ≤ w) (fun t => w - t) 0 ?_ ?_ ?_
  · (refine Le.of [] hB (by first | exact ⟨znc _, fun _ _ => znc _⟩ | (constructor <;> (try simp) <;> (try omega))) ?_ ?_ <;> (repeat' (first | exact leSl_nil | exact leHp_nil | refine leSl_cons (by simp (disch := omega) only [go_sem, ↓reduceIte, reduceCtorEq]; rfl) ?_ ?_ | refine leHp_cons (by simp (disch := omega) only [go_sem, ↓reduceIte, zn1, zn2, zn3, zn4, zn5, zn6, reduceCtorEq, zn7, zi1, zi2, if_pos, if_neg]; rfl) ?_ ?_ | exact VLe.junk _ | exact VLe.refl rfl | exact VLe.nil_sl _ _ _ | exact VLe.int (by first | rfl | omega | (dsimp only; omega)) | exact VLe.bool rfl | exact VLe.sl rfl (by first | rfl | omega | (dsimp only; omega) | (simp; done)) | exact VLe.cap rfl (by first | rfl | omega | (dsimp only; omega) | (simp; done)) | exact VLe.im rfl rfl | exact HLe.new rfl | exact HLe.same rfl (LLe.refl rfl) | refine HLe.same rfl ?_ | exact LLe.nil _ | exact LLe.refl rfl | refine LLe.cons ?_ ?_)))
  · exact znc _
  · intro t ht K3 hK3
    by_cases hc2 : t < w
    · have q2 := decide_eq_true (p := (t : Int) < (w : Int)) (by omega)
      have c1 := rvalid_i _ K (hf _ (getD_mem (d := 0) (l := r) (i := t) (by omega))) (by omega)
      have gd := ivR_drop (l := r) (i := t) (by omega)
      have g2 : t * 2 < (ivR r).length := by omega
      generalize (ivR r).drop ((t + 1) * 2) = D at *
      generalize ivR r = A at *
      generalize r.getD t 0 = x at *
      unfold iv sv at c1
      unfold ivC sv at gd
      simp only [zl8, zl7] at gd
      (repeat (first | refine DO.nil (by kernel_rfl) ?_ | (with_reducible refine oz (by constructor <;> decide) ?_) | ((first | apply SO.call | apply DO.call); (iterate 3 (focus (simp (disch := omega) only [go_sem, ↓reduceIte] <;> rfl))); (first | apply SCall.ofX | apply DCall.ofX); assumption; (focus (simp (disch := omega) only [go_sem] <;> rfl))) | ((with_reducible first | apply wa | apply wb | apply wc | apply wd); (focus (simp (disch := omega) only [go_sem, ↓reduceIte, zn1, zn2, zn3, reduceCtorEq, if_pos, q2, gd, g2] <;> rfl)); (first | refine pT ?_ | refine pF ?_ | fail_if_success with_reducible refine pA ?_)) | ((with_reducible refine SC.draw Tab.mixed ?_ ?_); rfl) | (with_reducible apply SC.ops)))
      refine hK3 _ (t + 1) ?_ (by omega) (by omega)
      (refine Le.of [] hB (by first | exact ⟨znc _, fun _ _ => znc _⟩ | (constructor <;> (try simp) <;> (try omega))) ?_ ?_ <;> (repeat' (first | exact leSl_nil | exact leHp_nil | refine leSl_cons (by simp (disch := omega) only [go_sem, ↓reduceIte, reduceCtorEq]; rfl) ?_ ?_ | refine leHp_cons (by simp (disch := omega) only [go_sem, ↓reduceIte, zn1, zn2, zn3, zn4, zn5, zn6, reduceCtorEq, zn7, zi1, zi2, if_pos, if_neg]; rfl) ?_ ?_ | exact VLe.junk _ | exact VLe.refl rfl | exact VLe.nil_sl _ _ _ | exact VLe.int (by first | rfl | omega | (dsimp only; omega)) | exact VLe.bool rfl | exact VLe.sl rfl (by first | rfl | omega | (dsimp only; omega) | (simp; done)) | exact VLe.cap rfl (by first | rfl | omega | (dsimp only; omega) | (simp; done)) | exact VLe.im rfl rfl | exact HLe.new rfl | exact HLe.same rfl (LLe.refl rfl) | refine HLe.same rfl ?_ | exact LLe.nil _ | exact LLe.refl rfl | refine LLe.cons ?_ ?_)))
    · have q2 := decide_eq_false (p := (t : Int) < (w : Int)) (by omega)
      (repeat (first | refine DO.nil (by kernel_rfl) ?_ | (with_reducible refine oz (by constructor <;> decide) ?_) | ((with_reducible first | apply wa | apply wb | apply wc | apply wd); (focus (simp (disch := omega) only [go_sem, ↓reduceIte, zn1, reduceCtorEq, q2] <;> rfl)); (first | refine pT ?_ | refine pF ?_ | fail_if_success with_reducible refine pA ?_)) | ((with_reducible refine SC.draw Tab.mixed ?_ ?_); rfl) | (with_reducible apply SC.ops)))
      exact retQ_ret Try.results66 (by simp (disch := omega) only [go_sem, ↓reduceIte] <;> rfl) (by simp (disch := omega) only [go_sem] <;> rfl) rfl
set_option maxHeartbeats 4000000 in
set_option maxRecDepth 4000 in
theorem iValid_s {h w K : Nat} {M : List (List Int)} (hM : MI h w K M) (hK : K ≤ 1000000) (hn : h ≤ 1000000) (hw : w ≤ 1000000) : Spec Try.prog 29 [mat w M] (.sc (.bool true)) := by
  have hl := hM.len
  have gl := imI_len w M
  unfold mat
  refine Spec.run Try.func29 rfl Try.ntmps29 (by simp) (by simp (disch := omega) only [go_sem]; rfl) fun B hB => ?_
  have p1 : decide ((M.length : Int) < 0) = false := decide_eq_false (by omega)
  have p2 : decide ((w : Int) < 0) = false := decide_eq_false (by omega)
  (repeat (first | refine DO.nil (by kernel_rfl) ?_ | (with_reducible refine oz (by constructor <;> decide) ?_) | ((with_reducible first | apply wa | apply wb | apply wc | apply wd); (focus (simp (disch := omega) only [go_sem, ↓reduceIte, zn1, reduceCtorEq, bne_self_eq_false, beq_self_eq_true, p1, p2] <;> rfl)); (first | refine pT ?_ | refine pF ?_ | fail_if_success with_reducible refine pA ?_)) | ((with_reducible refine SC.draw Tab.mixed ?_ ?_); rfl) | (with_reducible apply SC.ops)))
  refine SC.loop (fun i : Nat => ⟨[(1, .pt 0 0), (3, .sc (.int .i64 i))], [(0, ⟨35, [.sc (.int .i64 M.length), .sc (.int .i64 w), .im (imR w (rI M)) M.length], false⟩)], 1, 45⟩)
    (fun i => i ≤ h) (fun i => h - i) 0 ?_ ?_ ?_
  · (refine Le.of [] hB (by first | exact ⟨znc _, fun _ _ => znc _⟩ | (constructor <;> (try simp) <;> (try omega))) ?_ ?_ <;> (repeat' (first | exact leSl_nil | exact leHp_nil | refine leSl_cons (by simp (disch := omega) only [go_sem, ↓reduceIte, zn1]; rfl) ?_ ?_ | refine leHp_cons (by simp (disch := omega) only [go_sem, ↓reduceIte]; rfl) ?_ ?_ | exact VLe.junk _ | exact VLe.refl rfl | exact VLe.nil_sl _ _ _ | exact VLe.int (by first | rfl | omega | (dsimp only; omega)) | exact VLe.bool rfl | exact VLe.sl rfl (by first | rfl | omega | (dsimp only; omega) | (simp; done)) | exact VLe.cap rfl (by first | rfl | omega | (dsimp only; omega) | (simp; done)) | exact VLe.im rfl rfl | exact HLe.new rfl | exact HLe.same rfl (LLe.refl rfl) | refine HLe.same rfl ?_ | exact LLe.nil _ | exact LLe.refl rfl | refine LLe.cons ?_ ?_)))
  · exact znc _
  · intro i hi K2 hK2
    by_cases hc : i < h
    · have q1 := decide_eq_true (p := (i : Int) < (M.length : Int)) (by omega)
      have g1 := imI_get (w := w) (M := M) (i := i) (by omega)
      have hr := hM.get hc
      have c1 := ivec_s hr.1 hr.2 hK hw
      (repeat (first | refine DO.nil (by kernel_rfl) ?_ | (with_reducible refine oz (by constructor <;> decide) ?_) | ((first | apply SO.call | apply DO.call); (iterate 3 (focus (simp (disch := omega) only [go_sem, ↓reduceIte, zn1, beq_self_eq_true] <;> rfl))); (first | apply SCall.ofX | apply DCall.ofX); assumption; (focus (simp (disch := omega) only [go_sem] <;> rfl))) | ((with_reducible first | apply wa | apply wb | apply wc | apply wd); (focus (simp (disch := omega) only [go_sem, ↓reduceIte, zn1, zn2, reduceCtorEq, if_pos, bne_self_eq_false, beq_self_eq_true, q1, g1, gl, zl5] <;> rfl)); (first | refine pT ?_ | refine pF ?_ | fail_if_success with_reducible refine pA ?_)) | ((with_reducible refine SC.draw Tab.mixed ?_ ?_); rfl) | (with_reducible apply SC.ops)))
      refine hK2 _ (i + 1) ?_ (by omega) (by omega)
      (refine Le.of [] hB (by first | exact ⟨znc _, fun _ _ => znc _⟩ | (constructor <;> (try simp) <;> (try omega))) ?_ ?_ <;> (repeat' (first | exact leSl_nil | exact leHp_nil | refine leSl_cons (by simp (disch := omega) only [go_sem, ↓reduceIte, zn1]; rfl) ?_ ?_ | refine leHp_cons (by simp (disch := omega) only [go_sem, ↓reduceIte]; rfl) ?_ ?_ | exact VLe.junk _ | exact VLe.refl rfl | exact VLe.nil_sl _ _ _ | exact VLe.int (by first | rfl | omega | (dsimp only; omega)) | exact VLe.bool rfl | exact VLe.sl rfl (by first | rfl | omega | (dsimp only; omega) | (simp; done)) | exact VLe.cap rfl (by first | rfl | omega | (dsimp only; omega) | (simp; done)) | exact VLe.im rfl rfl | exact HLe.new rfl | exact HLe.same rfl (LLe.refl rfl) | refine HLe.same rfl ?_ | exact LLe.nil _ | exact LLe.refl rfl | refine LLe.cons ?_ ?_)))
    · have q1 := decide_eq_false (p := (i : Int) < (M.length : Int)) (by omega)
      (repeat (first | refine DO.nil (by kernel_rfl) ?_ | (with_reducible refine oz (by constructor <;> decide) ?_) | ((with_reducible first | apply wa | apply wb | apply wc | apply wd); (focus (simp (disch := omega) only [go_sem, ↓reduceIte, zn1, reduceCtorEq, q1] <;> rfl)); (first | refine pT ?_ | refine pF ?_ | fail_if_success with_reducible refine pA ?_)) | ((with_reducible refine SC.draw Tab.mixed ?_ ?_); rfl) | (with_reducible apply SC.ops)))
      exact retQ_ret Try.results29 (by simp (disch := omega) only [go_sem, ↓reduceIte] <;> rfl) (by simp (disch := omega) only [go_sem] <;> rfl) rfl
theorem pre2 {n m : Nat} {b c : Blk} (hb : b.cs.all clS = true) (hc : c.cs.all clS = true) : ∀ i k, hget [(n, b), (m, c)] i = some k → k.cs.all clS = true := fun i k h => by
  simp only [hget] at h
  split at h
  · cases h; exact hb
  · split at h
    · cases h; exact hc
    · cases h
def zer (w : Nat) : List V := (List.replicate w [V.sc (.bool false), V.sc (.slice none 0 0)]).flatten
theorem zer_map {f : Nat → Nat} {D : Nat → Prop} : ∀ (w j : Nat) (y : V), (ivR (List.replicate w 0))[j]? = some y → ∃ x, (zer w)[j]? = some x ∧ VMap f D x y
  | 0, j, y, h => by cases h
  | w + 1, j, y, h => by
    have e1 : ivR (List.replicate (w + 1) 0) = V.sc (.bool false) :: V.im [] 0 :: ivR (List.replicate w 0) := rfl
    have e2 : zer (w + 1) = V.sc (.bool false) :: V.sc (.slice none 0 0) :: zer w := rfl
    rw [e1] at h
    rw [e2]
    match j, h with
    | 0, h => cases h; exact ⟨_, rfl, VMap.sc _⟩
    | 1, h => cases h; exact ⟨_, rfl, VMap.nil_im⟩
    | j + 2, h => exact zer_map w j y h
end Go.Proofs.Ytphilljhfdlfdaa
