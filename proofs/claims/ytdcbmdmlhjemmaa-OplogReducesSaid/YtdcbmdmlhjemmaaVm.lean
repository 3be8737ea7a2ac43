/- Texts joined: Rg Tj Tk Rh Ri Rj Rk Rl Rm Rn Tf Tg Ro Rp. -/
import Derived.Test.YtdcbmdmlhjemmaaVg
import Derived.Test.YtdcbmdmlhjemmaaVi
import Derived.Test.YtdcbmdmlhjemmaaVj
import Derived.Test.YtdcbmdmlhjemmaaVl
set_option linter.all false
open Nat renaming reduceEqDiff → zn1, reduceLT → zn2, reduceLeDiff → zn3, reduceAdd → zn4, reduceMul → zn5, reduceSub → zn6, reduceBEq → zn7, mul_one → zn8, zero_add → zn9, one_mul → zna, le_refl → znb, zero_le → znc, add_sub_cancel_left → znd, sub_eq_zero_of_le → zne, add_assoc → znf
open Int renaming reduceToNat → zi1, reducePow → zi2
open List renaming length_append → zl1, drop_zero → zl2, take_succ_cons → zl3, take_zero → zl4, getElem?_drop → zl5, append_assoc → zl6, nil_append → zl7, cons_append → zl8, drop_succ_cons → zl9, take_of_length_le → zla, getElem?_eq_getElem → zlb, getElem?_eq_some_iff → zlc, map_cons → zld, map_nil → zle, all_eq_true → zlf
namespace Go.Proofs.Ytdcbmdmlhjemmaa
open Go.RowKit
set_option maxHeartbeats 4000000 in
set_option maxRecDepth 4000 in
theorem imValid_s {h w K : Nat} {M : List (List Int)} (hM : MI h w K M) (hK : K ≤ 100000000000) (hn : h ≤ 1000000) (hw : w ≤ 1000000) : Spec Try.prog 24 [mat w M] (.sc (.bool true)) := by
 have hl := hM.len
 have gl := imI_len w M
 unfold mat
 refine Spec.run Try.func24 rfl Try.ntmps24 (by simp) sF fun B hB => ?_
 have p1 : decide ((M.length : Int) < 0) = false := decide_eq_false (by omega)
 have p2 : decide ((w : Int) < 0) = false := decide_eq_false (by omega)
 (repeat (first | (with_reducible refine oA ?_) | ((with_reducible first | apply SC.condB | apply SC.region); (focus (simp (disch := omega) only [go_sem, ↓reduceIte, zn1, reduceCtorEq, bne_self_eq_false, beq_self_eq_true, p1, p2] <;> rfl)); (first | refine pickF ?_ | fail_if_success with_reducible refine pickA ?_))))
 refine SC.loop (fun i : Nat => ⟨[(1, .pt 0 0), (24, .im (imR w (rI M)) M.length), (25, .sc (.int .i64 M.length)), (26, .sc (.int .i64 i))], [(0, ⟨28, [.sc (.int .i64 M.length), .sc (.int .i64 w), .im (imR w (rI M)) M.length], false⟩)], 1, 46⟩)
  (fun i => i ≤ h) (fun i => h - i) 0 ?_ ?_ ?_
 ·(refine Le.of [] hB (by exact ⟨znc _, fun _ _ => znc _⟩) ?_ ?_ <;> (repeat' (first | exact leSl_nil | exact leHp_nil | refine leSl_cons sF ?_ ?_ | refine leHp_cons sF ?_ ?_ | exact VLe.refl rfl | exact HLe.same rfl (LLe.refl rfl))))
 ·exact znc _
 ·intro i hi K2 hK2
  by_cases hc : i < h
  ·have q1 := decide_eq_true (p := (i : Int) < (M.length : Int)) (by omega)
   have g1 := imI_get (w := w) (M := M) (i := i) (by omega)
   have hr := hM.get hc
   have glr := ivR_len (M.getD i [])
   (repeat (first | (with_reducible refine oA ?_) | ((with_reducible first | apply SC.condB | apply SC.region); (focus (simp (disch := omega) only [go_sem, ↓reduceIte, zn1, reduceCtorEq, if_pos, bne_self_eq_false, q1, g1, gl, zl5] <;> rfl)); (first | refine pT ?_ | refine pF ?_ | fail_if_success with_reducible refine pA ?_))))
   refine SC.loop (fun t : Nat => ⟨[(1, .pt 0 0), (24, .im (imR w (rI M)) M.length), (25, .sc (.int .i64 M.length)), (26, .sc (.int .i64 i)), (35, .im (ivR (M.getD i [])) w), (36, .sc (.int .i64 w)), (37, .sc (.int .i64 t))], [(0, ⟨28, [.sc (.int .i64 M.length), .sc (.int .i64 w), .im (imR w (rI M)) M.length], false⟩)], 1, 46⟩)
    (fun t => t ≤ w) (fun t => w - t) 0 ?_ ?_ ?_
   ·(refine Le.of [] hB (by exact ⟨znc _, fun _ _ => znc _⟩) ?_ ?_ <;> (repeat' (first | exact leSl_nil | exact leHp_nil | refine leSl_cons sF ?_ ?_ | refine leHp_cons sF ?_ ?_ | exact VLe.refl rfl | exact HLe.same rfl (LLe.refl rfl))))
   ·exact znc _
   ·intro t ht K3 hK3
    by_cases hc2 : t < w
    ·have q2 := decide_eq_true (p := (t : Int) < (w : Int)) (by omega)
     have c1 := pvalid_i _ K (hM.fit hc hc2) (by omega)
     have gd := ivR_drop (l := M.getD i []) (i := t) (by omega)
     have g2 : t * 2 < (ivR (M.getD i [])).length := by omega
     generalize (ivR (M.getD i [])).drop ((t + 1) * 2) = D at *
     generalize ivR (M.getD i []) = A at *
     generalize (M.getD i []).getD t 0 = x at *
     unfold iv sv at c1
     unfold ivC sv at gd
     simp only [zl8, zl7] at gd
     (repeat (first | (with_reducible refine oA ?_) | ((apply SO.call); (iterate 3 (focus (simp (disch := omega) only [go_sem, ↓reduceIte] <;> rfl))); (apply SCall.ofX); (focus (assumption)); (focus (simp (disch := omega) only [go_sem] <;> rfl))) | ((with_reducible first | apply SC.condB | apply SC.region | apply SO.run); (focus (simp (disch := omega) only [go_sem, ↓reduceIte, zn1, zn3, zn4, if_pos, q2, gd, g2] <;> rfl)); (first | refine pT ?_ | refine pF ?_ | fail_if_success with_reducible refine pA ?_)) | (with_reducible apply SC.ops)))
     refine hK3 _ (t + 1) ?_ (by omega) (by omega)
     (refine Le.of [] hB (by exact ⟨znc _, fun _ _ => znc _⟩) ?_ ?_ <;> (repeat' (first | exact leSl_nil | exact leHp_nil | refine leSl_cons sF ?_ ?_ | refine leHp_cons sF ?_ ?_ | exact VLe.refl rfl | exact HLe.same rfl (LLe.refl rfl))))
    ·have q2 := decide_eq_false (p := (t : Int) < (w : Int)) (by omega)
     (repeat (first | (with_reducible refine oA ?_) | ((with_reducible first | apply SC.condB | apply SC.region); (focus (simp (disch := omega) only [go_sem, ↓reduceIte, zn1, zn2, q2] <;> rfl)); (first | refine pickF ?_ | fail_if_success with_reducible refine pickA ?_))))
     refine hK2 _ (i + 1) ?_ (by omega) (by omega)
     (refine Le.of [] hB (by exact ⟨znc _, fun _ _ => znc _⟩) ?_ ?_ <;> (repeat' (first | exact leSl_nil | exact leHp_nil | refine leSl_cons sF ?_ ?_ | refine leHp_cons sF ?_ ?_ | exact VLe.refl rfl | exact HLe.same rfl (LLe.refl rfl))))
  ·have q1 := decide_eq_false (p := (i : Int) < (M.length : Int)) (by omega)
   (repeat (first | (with_reducible refine oA ?_) | ((with_reducible first | apply SC.condB | apply SC.region); (focus (simp (disch := omega) only [go_sem, ↓reduceIte, zn1, q1] <;> rfl)); (first | refine pickF ?_ | fail_if_success with_reducible refine pickA ?_))))
   exact retQ_ret Try.results24 sG sG rfl
set_option maxHeartbeats 4000000 in
theorem isameV_s {w K : Nat} {r : List Int} (hl : r.length = w) (hf : ∀ x ∈ r, Fits K x) (hK : K ≤ 100000000000) (hw : w ≤ 1000000) : Spec Try.prog 33 [.im (ivR r) w, .im (ivR r) w] (.sc (.bool true)) := by
 have glr := ivR_len r
 refine Spec.run Try.func33 rfl Try.ntmps33 (by simp) sF fun B hB => ?_
 (repeat (first | (with_reducible refine oA ?_) | ((with_reducible first | apply SC.condB | apply SC.region); (focus (simp (disch := omega) only [go_sem, ↓reduceIte, zn1, reduceCtorEq, bne_self_eq_false] <;> rfl)); (first | refine pickF ?_ | fail_if_success with_reducible refine pickA ?_))))
 refine SC.loop (fun t : Nat => ⟨[(0, .im (ivR r) w), (1, .im (ivR r) w), (5, .sc (.int .i64 t))], [], 0, 27⟩) (fun t => t ≤ w) (fun t => w - t) 0 ?_ ?_ ?_
 ·(refine Le.of [] hB (by exact ⟨znc _, fun _ _ => znc _⟩) ?_ ?_ <;> (repeat' (first | exact leSl_nil | exact leHp_nil | refine leSl_cons sF ?_ ?_ | exact VLe.refl rfl)))
 ·exact znc _
 ·intro t ht K3 hK3
  by_cases hc2 : t < w
  ·have q2 := decide_eq_true (p := (t : Int) < (w : Int)) (by omega)
   have hx := hf _ (getD_mem (d := 0) (l := r) (i := t) (by omega))
   have hs := fits_len hx
   have c1 := same_i (r.getD t 0) (r.getD t 0) (by unfold Short; omega) (by unfold Short; omega)
   rw [decide_eq_true rfl] at c1
   have gd := ivR_drop (l := r) (i := t) (by omega)
   have g2 : t * 2 < (ivR r).length := by omega
   generalize (ivR r).drop ((t + 1) * 2) = D at *
   generalize ivR r = A at *
   generalize r.getD t 0 = x at *
   unfold iv sv at c1
   unfold ivC sv at gd
   simp only [zl8, zl7] at gd
   (repeat (first | refine DO.nil (by kernel_rfl) ?_ | (with_reducible refine oA ?_) | ((apply DO.call); (iterate 3 (focus (simp (disch := omega) only [go_sem, ↓reduceIte, zn1] <;> rfl))); (apply DCall.ofX); (focus (assumption)); (focus (simp (disch := omega) only [go_sem] <;> rfl))) | ((with_reducible first | apply SC.condB | apply SC.region | apply DO.run); (focus (simp (disch := omega) only [go_sem, ↓reduceIte, zn1, zn2, zn3, reduceCtorEq, if_pos, q2, gd, g2] <;> rfl)); (first | refine pT ?_ | refine pF ?_ | fail_if_success with_reducible refine pA ?_)) | ((with_reducible refine SC.draw Tab.mixed ?_ ?_); rfl)))
   refine hK3 _ (t + 1) ?_ (by omega) (by omega)
   (refine Le.of [] hB (by exact ⟨znc _, fun _ _ => znc _⟩) ?_ ?_ <;> (repeat' (first | exact leSl_nil | exact leHp_nil | refine leSl_cons sF ?_ ?_ | exact VLe.refl rfl)))
  ·have q2 := decide_eq_false (p := (t : Int) < (w : Int)) (by omega)
   (repeat (first | (with_reducible refine oA ?_) | ((with_reducible first | apply SC.condB | apply SC.region); (focus (simp (disch := omega) only [go_sem, ↓reduceIte, zn1, reduceCtorEq, q2] <;> rfl)); (first | refine pickF ?_ | fail_if_success with_reducible refine pickA ?_))))
   exact retQ_ret Try.results33 sG sG rfl
set_option maxHeartbeats 4000000 in
set_option maxRecDepth 4000 in
theorem isame_s {h w K : Nat} {M : List (List Int)} (hM : MI h w K M) (hK : K ≤ 100000000000) (hn : h ≤ 1000000) (hw : w ≤ 1000000) : Spec Try.prog 10 [mat w M, mat w M] (.sc (.bool true)) := by
 have hl := hM.len
 have gl := imI_len w M
 unfold mat
 refine Spec.run Try.func10 rfl Try.ntmps10 (by simp) sF fun B hB => ?_
 (repeat (first | (with_reducible refine oA ?_) | ((with_reducible first | apply SC.condB | apply SC.region); (focus (simp (disch := omega) only [go_sem, ↓reduceIte, zn1, zn4, reduceCtorEq, bne_self_eq_false, beq_self_eq_true] <;> rfl)); (first | refine pickF ?_ | fail_if_success with_reducible refine pickA ?_))))
 refine SC.loop (fun i : Nat => ⟨[(2, .pt 0 0), (3, .pt 1 0), (5, .sc (.int .i64 i))], [(1, ⟨28, [.sc (.int .i64 M.length), .sc (.int .i64 w), .im (imR w (rI M)) M.length], false⟩), (0, ⟨28, [.sc (.int .i64 M.length), .sc (.int .i64 w), .im (imR w (rI M)) M.length], false⟩)], 2, 46⟩)
  (fun i => i ≤ h) (fun i => h - i) 0 ?_ ?_ ?_
 ·(refine Le.of [] hB (by exact ⟨znc _, fun _ _ => znc _⟩) ?_ ?_ <;> (repeat' (first | exact leSl_nil | exact leHp_nil | refine leSl_cons sF ?_ ?_ | refine leHp_cons sF ?_ ?_ | exact VLe.refl rfl | exact HLe.same rfl (LLe.refl rfl))))
 ·exact znc _
 ·intro i hi K2 hK2
  by_cases hc : i < h
  ·have q1 := decide_eq_true (p := (i : Int) < (M.length : Int)) (by omega)
   have g1 := imI_get (w := w) (M := M) (i := i) (by omega)
   have hr := hM.get hc
   have c1 := isameV_s hr.1 hr.2 hK hw
   (repeat (first | refine DO.nil (by kernel_rfl) ?_ | (with_reducible refine oA ?_) | ((apply DO.call); (iterate 3 (focus (simp (disch := omega) only [go_sem, ↓reduceIte, zn1] <;> rfl))); (apply DCall.ofX); (focus (assumption)); (focus (simp (disch := omega) only [go_sem] <;> rfl))) | ((with_reducible first | apply SC.condB | apply SC.region | apply DO.run); (focus (simp (disch := omega) only [go_sem, ↓reduceIte, zn1, zn2, reduceCtorEq, if_pos, q1, g1, gl, zl5] <;> rfl)); (first | refine pT ?_ | refine pF ?_ | fail_if_success with_reducible refine pA ?_)) | ((with_reducible refine SC.draw Tab.mixed ?_ ?_); rfl)))
   refine hK2 _ (i + 1) ?_ (by omega) (by omega)
   (refine Le.of [] hB (by exact ⟨znc _, fun _ _ => znc _⟩) ?_ ?_ <;> (repeat' (first | exact leSl_nil | exact leHp_nil | refine leSl_cons sF ?_ ?_ | refine leHp_cons sF ?_ ?_ | exact VLe.refl rfl | exact HLe.same rfl (LLe.refl rfl))))
  ·have q1 := decide_eq_false (p := (i : Int) < (M.length : Int)) (by omega)
   (repeat (first | (with_reducible refine oA ?_) | ((with_reducible first | apply SC.condB | apply SC.region); (focus (simp (disch := omega) only [go_sem, ↓reduceIte, zn1, reduceCtorEq, q1] <;> rfl)); (first | refine pickF ?_ | fail_if_success with_reducible refine pickA ?_))))
   exact retQ_ret Try.results10 sG sG rfl
variable {P : Program} {B : Base}
theorem wp_monoQ {o : Oper} {a : Act} {w : World} {K : Act → World → Prop} {Q Q' : Exit → Act → World → Prop} (h : ∀ e a w, e ≠ Exit.normal → Q e a w → Q' e a w) (hh : o.wp P a w K Q) : o.wp P a w K Q' := by
 unfold Oper.wp at *
 generalize (execOp a.eval o).run P w = r at *
 cases r with
 | ok n w' =>
  cases n <;> simp only [Oper.upon] at hh ⊢ <;>
   first
    | exact hh
    | exact Calls.mono hh (fun e w'' he => by cases e <;> first | exact he | exact h _ _ _ (by simp) he | exact (let ⟨x, y, z⟩ := he; ⟨x, y, h _ _ _ (by simp) z⟩))
 | halt x w' => cases x <;> simp only [Oper.upon] at hh ⊢ <;> first | exact h _ _ _ (by simp) hh | exact hh
def ordN (l : List Oper) : Bool := (List.range l.length).all fun i => match l[i]? with | some o => o.after.all fun e => !Region.binds .any e || decide (e.on < i) | none => true
def stepJ (J : (Nat → Bool) → SS → Prop) (L : Nat → Bool) (i : Nat) (Q : Exit → SS → Prop) : Exit → SS → Prop
 | .normal, s => J (addL L i) s
 | e, s => Q e s
theorem region_inv {J : (Nat → Bool) → SS → Prop} {id : Nat} {l : List Oper} {s : SS} {Q : Exit → SS → Prop} (hm : P.follows .mixedOrders = true) (hord : ordN l = true) (h0 : J (fun _ => false) s)
  (hstep : ∀ L s i o, (∀ m j, L m = true → depB l.toArray m j = true → L j = true) → J L s → l[i]? = some o → L i = false → (∀ m, depB l.toArray i m = true → L m = true) → SOps P B l.toArray [o] (stepJ J L i Q) s)
  (hend : ∀ L s, (∀ i, i < l.length → L i = true) → J L s → Q .normal s) : SWp P B (.region id l.toArray true) Q s := by
 intro S rho A a w hr
 have dep : ∀ (L : Nat → Bool) (i : Nat) (o : Oper), l.toArray[i]? = some o → (∀ e ∈ o.after.toList, Region.binds .any e = true → L e.on = true) → ∀ m, depB l.toArray i m = true → L m = true := by
  intro L i o ho hd m hm
  unfold depB at hm
  rw [ho] at hm
  simp only [Array.any_eq_true'] at hm
  obtain ⟨e, he, hb⟩ := hm
  rw [Bool.and_eq_true, beq_iff_eq] at hb
  rw [← hb.2]; exact hd e (by simpa using he) hb.1
 refine wp_region_any hm (wpAny_act (fun L a w => (∀ m j, L m = true → depB l.toArray m j = true → L j = true) ∧ ∃ s S rho A, J L s ∧ Rel B S rho A s a w) ?_ ?_ ?_ _ _ a _ (by simp) ?_ ?_)
 ·intro i o ho e he hb
  have hi := (Array.getElem?_eq_some_iff.1 ho).1
  simp at hi
  have := List.all_eq_true.1 hord i (List.mem_range.2 hi)
  rw [List.getElem?_toArray] at ho
  rw [ho] at this
  simp only at this
  rw [Array.all_eq_true'] at this
  have := this e (by simpa using he)
  rw [hb] at this
  simpa using this
 ·rintro L a w i o ho hi hd ⟨hcl, s, S, rho, A, hJ, hr⟩
  have hdep := dep L i o ho hd
  have ho' := ho
  rw [List.getElem?_toArray] at ho'
  have h := hstep L s i o hcl hJ ho' hi hdep S rho A a w hr
  have hcl' : ∀ m j, (if m = i then true else L m) = true → depB l.toArray m j = true → (if j = i then true else L j) = true := by
   intro m j hm hj
   by_cases e : j = i
   ·rw [if_pos e]
   ·rw [if_neg e]
    by_cases e2 : m = i
    ·subst e2; exact hdep j hj
    ·rw [if_neg e2] at hm; exact hcl m j hm hj
  have hK : ∀ a w, wpList P l.toArray (Post B (stepJ J L i Q)) [] a w → (∀ m j, (if m = i then true else L m) = true → depB l.toArray m j = true → (if j = i then true else L j) = true) ∧ ∃ s S rho A, J (fun j => if j = i then true else L j) s ∧ Rel B S rho A s a w :=
   fun a w ⟨S, rho, A, s, hJ, hr⟩ => ⟨hcl', s, S, rho, A, hJ, hr⟩
  have hQ : ∀ e a w, e ≠ Exit.normal → Post B (stepJ J L i Q) e a w → Post B Q e a w := by
   intro e a w hne hp
   cases e <;> first | exact absurd rfl hne | exact hp
  unfold wpOp
  rw [ho]
  simp only [wpList] at h ⊢
  split
  ·rename_i hw
   rw [if_pos hw] at h
   rcases h with h | ⟨h1, a2, w2, h2⟩
   ·exact .inl (Oper.wp_mono hK (wp_monoQ hQ h))
   ·exact .inr ⟨h1, a2, w2, hQ _ _ _ (by simp) h2⟩
  ·rename_i hw
   rw [if_neg hw] at h
   exact hK _ _ h
 ·rintro L a w hL ⟨_, s, S, rho, A, hJ, hr⟩
  exact ⟨S, rho, A, s, hend L s (fun i hi => hL i (by simpa using hi)) hJ, hr⟩
 ·unfold unl
  refine Nat.le_trans (List.length_filter_le _ _) (by simp)
 ·have hf : (fun j => (Array.replicate l.toArray.size false).getD j false) = fun _ => false := by
   funext j
   rw [Array.getD_eq_getD_getElem?, Array.getElem?_replicate]
   split <;> rfl
  rw [hf]
  have g := Grow.drawn w (w.drawn + 1)
  exact ⟨(fun m j h => by cases h), s, S, rho, A, h0, ⟨fun t => (hr.slots t).mono (fun b hb => ⟨hb, rfl⟩) (fun id h => ⟨h, rfl, fun _ => g.szAt⟩), hr.mem.grow g, hr.alt, hr.nt, hr.defs⟩⟩
theorem SC.inv (J : (Nat → Bool) → SS → Prop) {id : Nat} {l : List Oper} {cs : List Code} {s : SS} {Q : Exit → SS → Prop} (hm : P.follows .mixedOrders = true) (hord : ordN l = true) (h0 : J (fun _ => false) s)
  (hstep : ∀ L s i o, (∀ m j, L m = true → depB l.toArray m j = true → L j = true) → J L s → l[i]? = some o → L i = false → (∀ m, depB l.toArray i m = true → L m = true) → SO P B l.toArray [o] [] (stepJ J L i (thenQ (SC P B cs Q) Q)) s)
  (hend : ∀ L s, (∀ i, i < l.length → L i = true) → J L s → SC P B cs Q s) : SC P B (.region id l.toArray true :: cs) Q s := by
 refine region_inv (J := J) hm hord h0 (fun L s i o hcl hJ ho hi hd => ?_) (fun L s hL hJ => hend L s hL hJ)
 have h := hstep L s i o hcl hJ ho hi hd
 have e : thenQ (SC P B [] (stepJ J L i (thenQ (SC P B cs Q) Q))) (stepJ J L i (thenQ (SC P B cs Q) Q)) = stepJ J L i (thenQ (SC P B cs Q) Q) := by
  funext e s
  cases e <;> rfl
 unfold SO at h
 rw [e] at h
 exact h
section
variable {P : Program} {B : Base}
theorem hasId_some : ∀ {l : List (Nat × Blk)} {id : Nat}, hasId l id = true → ∃ k, hget l id = some k := by
 intro l id
 induction l with
 | nil => intro h; cases h
 | cons p r ih =>
  intro h
  simp only [hasId, Bool.or_eq_true, decide_eq_true_eq] at h
  by_cases e : id = p.1
  ·exact ⟨p.2, by simp [hget, e]⟩
  ·obtain ⟨k, hk⟩ := ih (h.resolve_left e)
   exact ⟨k, by simp [hget, e, hk]⟩
theorem SInlQ.part {ops : Array Oper} {l : List Oper} {cs : List Code} {Q : Exit → SS → Prop} {f : Nat} {ys : List V} {d : Option Nat} (pre : List (Nat × Blk)) {hpS : List (Nat × Blk)} {nx nt : Nat} {sl : List (Nat × V)} {C : V → List (Nat × Blk) → Nat → Prop} (p : Nat → Prop) (hI : InlQ P f ys hpS nx C) (hm : ∀ id k, hget pre id = some k → ¬ p id) (hS : ∀ id k, hget hpS id = some k → p id)
  (hC : ∀ x hp' nx', C x hp' nx' → Only p x ∧ OnlyH p hp' ∧ ∀ id k, hget hp' id = some k → p id) (k : ∀ x hp' nx', C x hp' nx' → SO P B ops l cs Q ⟨putS sl d x, pre ++ hp', nx', nt⟩) : SInlQ P B f ys d ops l cs Q ⟨sl, pre ++ hpS, nx, nt⟩ := by
 have hsub : ∀ id k, hget hpS id = some k → hget (pre ++ hpS) id = some k := by
  intro id q hq
  rw [hget_app]
  cases e : hget pre id with
  | none => exact hq
  | some q' => exact absurd (hS id q hq) (hm id q' e)
 have hrest : ∀ i, p i → hasId (restH (pre ++ hpS) hpS) i = false := by
  intro i hi
  rw [hasId_rest]
  cases e : hasId hpS i with
  | true => simp
  | false =>
   have h1 : hasId pre i = false := by
    cases h : hasId pre i with
    | false => rfl
    | true => obtain ⟨q, hq⟩ := hasId_some h; exact absurd hi (hm i q hq)
   have : hasId (pre ++ hpS) i = false := by
    have happ : ∀ (a b : List (Nat × Blk)) (i : Nat), hasId (a ++ b) i = (hasId a i || hasId b i) := by
     intro a b i
     induction a with
     | nil => simp [hasId]
     | cons p r ih => simp [hasId, ih, Bool.or_assoc]
    rw [happ, h1, e]; rfl
   rw [this]; rfl
 refine ⟨hpS, C, hsub, hI, fun x hp' nx' h => ?_⟩
 obtain ⟨h1, h2, h3⟩ := hC x hp' nx' h
 refine ⟨h1.mono hrest, h2.mono hrest, SO.weak (Le.less (fun id q hq => ?_) (znb _)) (k x hp' nx' h)⟩
 rw [hget_app] at hq ⊢
 cases e : hget pre id with
 | some q' =>
  rw [e] at hq
  cases hq
  have e2 : hget hp' id = none := by
   cases e3 : hget hp' id with
   | none => rfl
   | some q' => exact absurd (h3 id q' e3) (hm id _ e)
  rw [e2]
  simp only
  rw [hget_rest, if_neg, hget_app, e]
  intro hh
  obtain ⟨q', hq'⟩ := hasId_some hh
  exact absurd (hS id q' hq') (hm id _ e)
 | none =>
  rw [e] at hq
  simp only at hq
  rw [hq]
end
theorem rowsI_new {w nx : Nat} {M : List (List Int)} {x : V} {hp' : List (Nat × Blk)} {nx' : Nat} (h : RowsI w M nx x hp' nx') : Only (fun i => nx ≤ i) x ∧ OnlyH (fun i => nx ≤ i) hp' ∧ ∀ id k, hget hp' id = some k → nx ≤ id := by
 obtain ⟨o, ids, hR, rfl, rfl⟩ := h
 refine ⟨.sl hR.o1.1, ⟨fun y hy => ?_, OnlyH.rows (rI_clo M)⟩, fun id k hk => ?_⟩
 ·obtain ⟨i, hi, rfl⟩ := List.mem_map.1 hy
  exact .sl (hR.lt i hi).1
 ·simp only [hget] at hk
  split at hk
  ·rename_i e; rw [e]; exact hR.o1.1
  ·obtain ⟨q, q1, _, q3, _⟩ := rows_inv hk
   rw [← q3]; exact (hR.lt _ (getD_mem' q1)).1
def inR (o : Nat) (ids : List Nat) (i : Nat) : Prop := i = o ∨ i ∈ ids
theorem inR_rows {o : Nat} {b : Blk} {tr : TypeId} {ids0 ids : List Nat} {rs : List (List V)} (hs : ∀ i ∈ ids, i ∈ ids0) : ∀ id k, hget ((o, b) :: rowsH tr ids rs) id = some k → inR o ids0 id := by
 intro id k hk
 simp only [hget] at hk
 split at hk
 ·exact .inl ‹_›
 ·obtain ⟨q, q1, q2, q3, rfl⟩ := rows_inv hk
  rw [← q3]; exact .inr (hs _ (getD_mem' q1))
theorem actQ_part {w h o nx : Nat} {ids0 : List Nat} {M : List (List Int)} {x : V} {hp' : List (Nat × Blk)} {nx' : Nat} (hq : ActQ w h o ids0 M nx x hp' nx') : Only (inR o ids0) x ∧ OnlyH (inR o ids0) hp' ∧ ∀ id k, hget hp' id = some k → inR o ids0 id := by
 obtain ⟨ids', hI, rfl, rfl, rfl⟩ := hq
 refine ⟨.tu (fun _ h => by cases h), ⟨fun y hy => ?_, OnlyH.rows (rI_clo M)⟩, inR_rows hI.sub⟩
 obtain ⟨i, hi, rfl⟩ := List.mem_map.1 hy
 exact .sl (.inr (hI.sub i hi))
def pfn : Nat → Nat
 | 1 => 50
 | 2 => 51
 | _ => 52
def perfs : List V := [.sc .nilFunc, .sc (.func (.func 50) #[] #[]), .sc (.func (.func 51) #[] #[]), .sc (.func (.func 52) #[] #[])]
theorem perfs_s : Spec Try.prog 26 [] (.ag perfs) := by
 unfold perfs
 refine Spec.run Try.func26 rfl Try.ntmps26 (by simp) sF fun B hB => ?_
 (repeat (first | (with_reducible refine oA ?_) | ((with_reducible apply SC.region); (focus (simp (disch := omega) only [go_sem, ↓reduceIte, zn2, zn3, zn4, reduceCtorEq] <;> rfl)); (fail_if_success with_reducible refine pickA ?_))))
 exact retQ_ret Try.results26 sG sG rfl
theorem perf_s {h w K o nx : Nat} {M : List (List Int)} {ids0 ids : List Nat} (hM : MI h w K M) (hK : K ≤ 100000000000) (hI : Ids o ids0 ids h nx) {op : OpL} (ho : OkOp h op) (hn : h ≤ 1000000) (hw : w ≤ 1000000) :
  InlQ Try.prog (pfn op.kd) [.sl o 0 h 1 none, .ag (opC op)] ((o, ⟨73, slR 2 w ids, false⟩) :: rowsH 43 ids (rI M)) nx (ActQ w h o ids0 (actO M op) nx) := by
 unfold actO
 rcases ho.c with ⟨e, hj, _, _⟩ | ⟨e, _, _⟩ | ⟨e, hj, hij⟩
 ·rw [e, if_pos rfl]; exact perfS_s hM hI ho.i hj hn hw
 ·rw [e, if_neg (by omega), if_pos rfl]; exact perfN_s hM hK hI ho.i hn hw
 ·rw [e, if_neg (by omega), if_neg (by omega)]; exact perfA_s hM hK hI ho.i hj hij ho.k hn hw
theorem actsO_drop {l : List OpL} {i : Nat} {M : List (List Int)} (h : i < l.length) : actsO M (l.drop i) = actsO (actO M (l.getD i ⟨0, 0, 0, 0⟩)) (l.drop (i + 1)) := by
 rw [List.drop_eq_getElem_cons h, actsO, List.getD_eq_getElem?_getD, zlb h]; rfl
theorem ivR_same {l : List Int} {i : Nat} (h : i < l.length) : setAll (ivR l) (i * 2) (ivC (l.getD i 0)) = ivR l := by
 rw [ivR_set _ h]
 congr 1
 rw [List.getD_eq_getElem?_getD, zlb h]
 exact List.set_getElem_self h
theorem pre2 {n m : Nat} {b c : Blk} (hb : b.cs.all clS = true) (hc : c.cs.all clS = true) : ∀ i k, hget [(n, b), (m, c)] i = some k → k.cs.all clS = true := fun i k h => by
 simp only [hget] at h
 split at h
 ·cases h; exact hb
 ·split at h
  ·cases h; exact hc
  ·cases h
theorem pre3 {n m q : Nat} {b c d : Blk} (hb : b.cs.all clS = true) (hc : c.cs.all clS = true) (hd : d.cs.all clS = true) : ∀ i k, hget [(n, b), (m, c), (q, d)] i = some k → k.cs.all clS = true := fun i k h => by
 simp only [hget] at h
 split at h
 ·cases h; exact hb
 ·split at h
  ·cases h; exact hc
  ·split at h
   ·cases h; exact hd
   ·cases h
theorem acts_snoc : ∀ (l : List OpL) (o : OpL) (M : List (List Int)), actsO M (l ++ [o]) = actO (actsO M l) o
 | [], _, _ => rfl
 | p :: l, o, M => by rw [zl8, actsO, actsO, acts_snoc l o]
theorem acts_succ {l : List OpL} {i : Nat} (h : i < l.length) {M : List (List Int)} : actsO M (l.take (i + 1)) = actO (actsO M (l.take i)) (l.getD i ⟨0, 0, 0, 0⟩) := by
 rw [List.take_succ_eq_append_getElem h, acts_snoc, List.getD_eq_getElem?_getD, zlb h]; rfl
set_option maxHeartbeats 8000000 in
set_option maxRecDepth 8000 in
theorem iapply_s {h w K : Nat} {M : List (List Int)} {l : List OpL} (hM : MI h w K M) (hl : ∀ o ∈ l, OkOp h o) (hS : ∀ i, i ≤ l.length → MI h w K (actsO M (l.take i))) (hK : K ≤ 90000000000) (hll : l.length ≤ 1000000000) (hn : h ≤ 1000000) (hw : w ≤ 1000000) :
  Spec Try.prog 12 [.im (opsC l) l.length, mat w M] (.tu [mat w (actsO M l), .sc (.int .i64 0)]) := by
 have hml := hM.len
 have c1 := imValid_s hM (by omega) hn hw
 have c2 := ivalid_s hl hn (by omega)
 have c3 := icopied_s hM (nx := 2) hn hw
 have c4 := perfs_s
 have e0 : actsO M (l.drop 0) = actsO M l := rfl
 generalize hF : actsO M l = F at *
 unfold mat mI at *
 rw [hml] at c1 c3 ⊢
 unfold perfs at c4
 refine Spec.run Try.func12 rfl Try.ntmps12 (by simp) sF fun B hB => ?_
 (repeat (first | (with_reducible refine oA ?_) | ((apply SO.call); (iterate 3 (focus (simp (disch := omega) only [go_sem, ↓reduceIte, zn1] <;> rfl))); (apply SCall.ofX); (focus (assumption)); (focus (simp (disch := omega) only [go_sem] <;> rfl))) | ((with_reducible first | apply SC.condB | apply SC.region | apply SO.run); (focus (simp (disch := omega) only [go_sem, ↓reduceIte, zn1, zn3, zn4, reduceCtorEq] <;> rfl)); (first | refine pickF ?_ | fail_if_success with_reducible refine pickA ?_)) | (with_reducible apply SC.ops)))
 refine SO.inlQ sG Tab.go25 sG sG (SInlQ.newR c3 ?_ ?_ ?_)
 ·exact klc (by omega) (klc (by omega) kln)
 ·exact fun x hp' nx' h => rowsI_new h
 rintro x hp' nx ⟨o, ids0, hR, rfl, rfl⟩
 have ho := hR.o1
 have hI0 : Ids o ids0 ids0 h nx := ⟨by rw [hR.len, hml], hR.nod, fun i h => h, fun i h => (hR.lt i h).2, hR.o1.2, hR.o2⟩
 rw [hml]
 (repeat (first | (with_reducible refine oA ?_) | ((apply SO.call); (iterate 3 (focus (simp (disch := omega) only [go_sem] <;> rfl))); (apply SCall.ofX); (focus (assumption)); (focus (simp (disch := omega) only [go_sem] <;> rfl))) | ((with_reducible first | apply SC.region | apply SO.run); (focus (simp (disch := omega) only [go_sem, ↓reduceIte, zn1, zn3, zn4, reduceCtorEq] <;> rfl)); (fail_if_success with_reducible refine pickA ?_)) | (with_reducible apply SC.ops)))
 refine SC.loop (fun x : Nat × List (List Int) × List Nat => ⟨[(3, .pt 0 0), (4, .pt 1 0), (6, .sl o 0 h 1 none), (7, .pt nx 0), (29, .im (opsC l) l.length), (30, .sc (.int .i64 l.length)), (31, .sc (.int .i64 x.1))], (nx, ⟨59, [.sc .nilFunc, .sc (.func (.func 50) #[] #[]), .sc (.func (.func 51) #[] #[]), .sc (.func (.func 52) #[] #[])], false⟩) :: (1, ⟨28, [.sc (.int .i64 0), .sc (.int .i64 0), .sc (.slice none 0 0)], false⟩) :: (0, ⟨28, [.sc (.int .i64 h), .sc (.int .i64 w), .im (imR w (rI M)) h], false⟩) :: (o, ⟨73, slR 2 w x.2.2, false⟩) :: rowsH 43 x.2.2 (rI x.2.1), nx + 1, 73⟩)
  (fun x => x.1 ≤ l.length ∧ x.2.1 = actsO M (l.take x.1) ∧ Ids o ids0 x.2.2 h nx ∧ actsO x.2.1 (l.drop x.1) = F) (fun x => l.length - x.1) (0, M, ids0) ?_ ?_ ?_
 ·(refine Le.slots ?_ ?_ ?_ <;> (repeat' (first | (exact fun _ _ h => h) | exact znb _ | exact leSl_nil | refine leSl_cons sG ?_ ?_ | exact VLe.refl rfl)))
 ·exact ⟨znc _, rfl, hI0, e0⟩
 ·rintro ⟨i, A, ids⟩ ⟨hi, hAe, hI, hF2⟩ K2 hK2
  simp only at hi hAe hI hF2 ⊢
  have hA := hS i hi
  rw [← hAe] at hA
  by_cases hc : i < l.length
  ·have q1 := decide_eq_true (p := (i : Int) < (l.length : Int)) (by omega)
   have g1 := opsC_drop hc
   have g2 : i * 5 < (opsC l).length := by rw [opsC_len]; omega
   have hok := hl _ (getD_mem (d := ⟨0, 0, 0, 0⟩) hc)
   rw [actsO_drop hc] at hF2
   have hA' := hS (i + 1) (by omega)
   rw [acts_succ hc, ← hAe] at hA'
   have hAe' : actO A (l.getD i ⟨0, 0, 0, 0⟩) = actsO M (l.take (i + 1)) := by rw [acts_succ hc, ← hAe]
   have c5 := perf_s hA (by omega) (hI.more (Nat.le_add_right nx 2)) hok hn hw
   have hnx2 : nx + 1 + 1 = nx + 2 := rfl
   generalize hop : l.getD i ⟨0, 0, 0, 0⟩ = op at *
   obtain ⟨kd, a, b, k⟩ := op
   generalize (opsC l).drop ((i + 1) * 5) = D at *
   unfold opC at g1 c5
   simp only [zl8, zl7] at g1 c5
   (repeat (first | (with_reducible refine SC.condB sF ?_; with_reducible refine pickT ?_) | (with_reducible refine oA ?_) | ((with_reducible apply SC.region); (focus (simp (disch := omega) only [go_sem, ↓reduceIte, zn1, zn3, zn4, if_pos, q1, g1, g2]; rfl)))))
   refine SC.drawT 6 (by simp only [zl3, zl4]; rfl) (by simp only [zl9, zl2]; rfl) Tab.mixed ?_ (by kernel_rfl) ?_
   ·simp (disch := omega) only [go_sem, ↓reduceIte]
    intro id q hq
    repeat' (split at hq)
    all_goals first | omega | exact klr (n := nx + 1 + 1) (fun j hj => by have := hI.lt j hj; omega) id q hq
   obtain ⟨_, _, hcs⟩ := hok
   simp only at hcs
   have hkd : kd = 1 ∨ kd = 2 ∨ kd = 3 := by rcases hcs with ⟨e, _⟩ | ⟨e, _⟩ | ⟨e, _⟩ <;> omega
   clear hcs
   rcases hkd with rfl | rfl | rfl
   all_goals
    (repeat (first | refine DO.nilF (fun i => i + 1 - nx) (by simp (disch := omega) only [go_sem, zn4, zld, zle, Option.map_none, znd, znf, zn4] <;> rfl) (by kernel_rfl) ?_ | (with_reducible refine oA ?_) | ((with_reducible apply DO.run); (focus (simp (disch := omega) only [go_sem, ↓reduceIte, zn1, zn3, zn4, reduceCtorEq, if_pos, if_neg] <;> rfl)); (fail_if_success with_reducible refine pickA ?_))))
    show SO _ _ _ _ _ _ _
    refine SO.inlQ sG (by rfl) sG sG (SInlQ.part [(nx + 1, _), (nx, _), (1, _), (0, _)] (inR o ids0) c5 ?_ ?_ ?_ ?_)
    ·refine fun id k hk => ?_
     have hnot : ∀ i, i < 2 ∨ nx ≤ i → ¬ inR o ids0 i := by
      rintro i hi' (e | e)
      ·omega
      ·have := hR.lt i e; omega
     simp only [hget] at hk
     refine hnot id ?_
     repeat' (first | (split at hk; omega) | (cases hk; done))
    ·exact inR_rows hI.sub
    ·exact fun x hp' nx' h => actQ_part h
    rintro x hp' nx' ⟨ids', hI', rfl, rfl, rfl⟩
    (repeat (first | (with_reducible refine oA ?_) | ((with_reducible apply SC.region); (focus (simp (disch := omega) only [go_sem, ↓reduceIte, zn1] <;> rfl)); (fail_if_success with_reducible refine pickA ?_))))
    have hI2 : Ids o ids0 ids' h nx := ⟨hI'.len, hI'.nod, hI'.sub, fun i hi' => hI0.lt i (hI'.sub i hi'), hI0.o1, hI'.o2⟩
    refine hK2 _ (i + 1, _, ids') ?_ ⟨by simp only; omega, hAe', hI2, hF2⟩ (by simp only; omega)
    refine Le.rowsDown [(nx, _), (1, _), (0, _)] (pre3 rfl rfl rfl) ⟨0, hB, znc _⟩ (by omega) (fun c hc => by have := hI2.lt c hc; omega) (rI_clo _) (fun id b hb => ?_) ?_
    ·exact less_new (fun id b hb => hb) (fun id b hb => Nat.ne_of_lt (klc (Nat.lt_succ_self nx) (klc (show 1 < nx + 1 by omega) (klc (show 0 < nx + 1 by omega) (rows_lt (show o < nx + 1 by omega) fun c hc => Nat.lt_succ_of_lt (hI2.lt c hc)))) id b hb)) id b hb
    ·(repeat' (first | exact trivial | refine mapSl_cons sG ?_ ?_ | exact VMap.sc _ | exact VMap.clo rfl | exact VMap.sl rfl (by omega) | exact VMap.pt rfl (by omega)))
  ·have q1 := decide_eq_false (p := (i : Int) < (l.length : Int)) (by omega)
   have hil : i = l.length := by omega
   have hAF : A = F := by rw [← hF2, hil, List.drop_length]; rfl
   subst hAF
   have hidl := hI.len
   have hal := hA.len
   have g1 := slR_len 2 w ids
   rw [hidl] at g1
   clear hK2 hF2 c1 c2 c3 c4 e0
   (repeat (first | (with_reducible refine SC.condB sF ?_; with_reducible refine pickF ?_) | (with_reducible refine oA ?_) | ((with_reducible apply SC.region); (focus (simp (disch := omega) only [go_sem, ↓reduceIte, zn1, q1]; rfl)))))
   refine SC.loop (fun i : Nat => ⟨[(3, .pt 0 0), (4, .pt 1 0), (6, .sl o 0 h 1 none), (43, .sl o 0 h 1 none), (44, .sc (.int .i64 h)), (45, .sc (.int .i64 i))], (1, ⟨28, [.sc (.int .i64 0), .sc (.int .i64 0), .sc (.slice none 0 0)], false⟩) :: (0, ⟨28, [.sc (.int .i64 h), .sc (.int .i64 w), .im (imR w (rI M)) h], false⟩) :: (o, ⟨73, slR 2 w ids, false⟩) :: rowsH 43 ids (rI A), nx, 73⟩)
    (fun i => i ≤ h) (fun i => h - i) 0 ?_ ?_ ?_
   ·refine Le.rowsDown [(1, _), (0, _)] (pre2 rfl rfl) ⟨0, hB, znc _⟩ ho.2 hI.lt (rI_clo _) (fun id b hb => ?_) ?_
    ·exact less_new (fun id b hb => hb) (fun id b hb => Nat.ne_of_lt (klc (show 1 < nx by omega) (klc (show 0 < nx by omega) (rows_lt ho.2 hI.lt)) id b hb)) id b hb
    ·(repeat' (first | exact trivial | refine mapSl_cons sG ?_ ?_ | exact VMap.sc _ | exact VMap.sl rfl (by omega) | exact VMap.pt rfl (by omega)))
   ·exact znc _
   ·intro i hi K3 hK3
    by_cases hc2 : i < h
    ·have q2 := decide_eq_true (p := (i : Int) < (h : Int)) (by omega)
     have gi := slR_get (z := 2) (m := w) (ids := ids) (k := i) (by omega)
     have gR := rows_get (ty := 43) (rs := rI A) (k := i) hI.nod (by omega) (by rw [rI_len]; omega)
     rw [rI_getD] at gR
     have hrs := rows_set (ty := 43) (rs := rI A) (k := i) (r := ivR (A.getD i [])) hI.nod (by omega) (by rw [rI_len]; omega)
     rw [rI_set, setI_self (by omega)] at hrs
     have hkl := klB_rows (ty := 43) (rs := rI A) (n := nx + 1) (fun j hj => by have := hI.lt j hj; omega)
     have hmem := getD_mem' (ids := ids) (k := i) (by omega)
     have hidk := hI.lt _ hmem
     have hidk2 := (hR.lt _ (hI.sub _ hmem)).1
     have hne : ids.getD i 0 ≠ o := fun e => hI.o2 (by rw [← e]; exact hmem)
     have hr := hA.get hc2
     have glr := ivR_len (A.getD i [])
     rw [hr.1] at glr
     have hgd := fun t (ht : t < w) => ivR_drop (l := A.getD i []) (i := t) (by omega)
     have hgs := fun t (ht : t < w) => ivR_same (l := A.getD i []) (i := t) (by omega)
     have hfx := fun t (ht : t < w) => hr.2 _ (getD_mem (d := 0) (l := A.getD i []) (i := t) (by omega))
     generalize hH : rowsH 43 ids (rI A) = H at *
     generalize A.getD i [] = r at *
     generalize ids.getD i 0 = idk at *
     (repeat (first | (with_reducible refine SC.condB sF ?_; with_reducible refine pickT ?_) | (with_reducible refine oA ?_) | ((with_reducible apply SC.region); (focus (simp (disch := omega) only [go_sem, ↓reduceIte, zn1, if_pos, if_neg, q2, gi]; rfl)))))
     refine SC.loop (fun t : Nat => ⟨[(3, .pt 0 0), (4, .pt 1 0), (6, .sl o 0 h 1 none), (43, .sl o 0 h 1 none), (44, .sc (.int .i64 h)), (45, .sc (.int .i64 i)), (11, .sl idk 0 w 2 none), (49, .sl idk 0 w 2 none), (50, .sc (.int .i64 w)), (51, .sc (.int .i64 t))], (1, ⟨28, [.sc (.int .i64 0), .sc (.int .i64 0), .sc (.slice none 0 0)], false⟩) :: (0, ⟨28, [.sc (.int .i64 h), .sc (.int .i64 w), .im (imR w (rI M)) h], false⟩) :: (o, ⟨73, slR 2 w ids, false⟩) :: H, nx, 73⟩)
      (fun t => t ≤ w) (fun t => w - t) 0 ?_ ?_ ?_
     ·(refine Le.slots ?_ ?_ ?_ <;> (repeat' (first | (exact fun _ _ h => h) | exact znb _ | exact leSl_nil | refine leSl_cons sG ?_ ?_ | exact VLe.refl rfl)))
     ·exact znc _
     ·intro t ht K4 hK4
      by_cases hc3 : t < w
      ·have q3 := decide_eq_true (p := (t : Int) < (w : Int)) (by omega)
       have gd := hgd t hc3
       have gs := hgs t hc3
       have hlx := fits_len (hfx t hc3)
       have c6 := clone_s (lv (limbsOf (r.getD t 0).natAbs)) (List.all_eq_true.2 fun x hx => by obtain ⟨n, _, rfl⟩ := List.mem_map.1 hx; rfl) (List.all_eq_true.2 fun x hx => by obtain ⟨n, _, rfl⟩ := List.mem_map.1 hx; rfl) (by rw [lv_len]; omega)
       rw [lv_len] at c6
       generalize (ivR r).drop ((t + 1) * 2) = D at *
       generalize hRR : ivR r = RR at *
       generalize r.getD t 0 = x at *
       unfold ivC sv at gd gs
       simp only [zl8, zl7] at gd
       have g2 : t * 2 < RR.length := by omega
       (repeat (first | refine DO.nilF (fun i => i + 1 - nx) (by simp (disch := omega) only [go_sem, zld, zle, Option.map_some, Option.map_none, znd, zne] <;> rfl) (by kernel_rfl) ?_ | (with_reducible refine oA ?_) | ((apply DO.call); (iterate 3 (focus (simp (disch := omega) only [go_sem, ↓reduceIte] <;> rfl))); (apply DCall.ofX); (focus (assumption)); (focus (simp (disch := omega) only [go_sem] <;> rfl))) | ((with_reducible first | apply SC.condB | apply SC.region | apply DO.run); (focus (simp (disch := omega) only [go_sem, ↓reduceIte, zn1, zn3, zn4, reduceCtorEq, if_pos, if_neg, q3, gR, glr, gd, gs, hrs] <;> rfl)); (first | refine pickT ?_ | fail_if_success with_reducible refine pickA ?_)) | ((with_reducible refine SC.draw Tab.mixed ?_ ?_); (focus (simp (disch := omega) only [go_sem, ↓reduceIte, if_pos, hkl])))))
       refine hK4 _ (t + 1) ?_ (by omega) (by omega)
       rw [← hH]
       refine Le.rowsDown [(1, _), (0, _)] (pre2 rfl rfl) ⟨0, hB, znc _⟩ ho.2 hI.lt (rI_clo _) (fun id b hb => ?_) ?_
       ·exact less_new (fun id b hb => hb) (fun id b hb => Nat.ne_of_lt (klc (show 1 < nx by omega) (klc (show 0 < nx by omega) (rows_lt ho.2 hI.lt)) id b hb)) id b hb
       ·(repeat' (first | exact trivial | refine mapSl_cons sG ?_ ?_ | exact VMap.sc _ | exact VMap.sl rfl (by omega) | exact VMap.pt rfl (by omega)))
      ·have q3 := decide_eq_false (p := (t : Int) < (w : Int)) (by omega)
       (repeat (first | (with_reducible refine SC.condB sF ?_; with_reducible refine pickF ?_) | (with_reducible refine oA ?_) | ((with_reducible apply SC.region); (focus (simp (disch := omega) only [go_sem, ↓reduceIte, zn1, q3]; rfl)))))
       refine hK3 _ (i + 1) ?_ (by omega) (by omega)
       (refine Le.slots ?_ ?_ ?_ <;> (repeat' (first | (exact fun _ _ h => h) | exact znb _ | exact leSl_nil | refine leSl_cons sG ?_ ?_ | exact VLe.refl rfl)))
    ·have q2 := decide_eq_false (p := (i : Int) < (h : Int)) (by omega)
     have hAl := hA.len
     by_cases h0 : h = 0
     ·have hids : ids = [] := List.eq_nil_of_length_eq_zero (by omega)
      have hAn : A = [] := List.eq_nil_of_length_eq_zero (by omega)
      subst hids; subst hAn; subst h0
      (repeat (first | (with_reducible refine SC.condB sF ?_; with_reducible refine pickF ?_) | (with_reducible refine oA ?_) | ((with_reducible apply SC.region); (focus (simp (disch := omega) only [go_sem, ↓reduceIte, zn1, zn2, zn3, zn4, reduceCtorEq, q2]; rfl)))))
      exact retQ_ret Try.results12 sG sG rfl
     ·have hrows : ∀ C : List V, ∀ k, k < ids.length → hget ((1, (⟨28, C, false⟩ : Blk)) :: (0, ⟨28, [.sc (.int .i64 h), .sc (.int .i64 w), .im (imR w (rI M)) h], false⟩) :: (o, ⟨73, slR 2 w ids, false⟩) :: rowsH 43 ids (rI A)) (ids.getD k 0) = some ⟨43, (rI A).getD k [], false⟩ := by
       intro C k hk
       have hm := getD_mem' hk
       have := hR.lt _ (hI.sub _ hm)
       simp only [hget]
       rw [if_neg (by omega), if_neg (by omega), if_neg (fun e => hI.o2 (by rw [← e]; exact hm))]
       exact rows_get hI.nod hk (by rw [rI_len]; omega)
      have hfz := fun C : List V => frz_rowsA (n := 4) (z := 2) (m := w) (ty := 43) (ids := ids) (rs := rI A) (by omega) (by rw [rI_len]; omega) (hrows C) (rI_rows hA)
      have hsl := slR_some (z := 2) (m := w) (ids := ids) (by omega)
      have ht : (slR 2 w ids).take h = slR 2 w ids := zla (by omega)
      rw [hAl]
      (repeat (first | (with_reducible refine SC.condB sF ?_; with_reducible refine pickF ?_) | (with_reducible refine oA ?_) | ((with_reducible apply SC.region); (focus (simp (disch := omega) only [go_sem, ↓reduceIte, zn1, zn2, zn3, zn4, reduceCtorEq, q2]; rfl)))))
      exact retQ_ret Try.results12 sG (by simp (disch := omega) only [go_sem, ↓reduceIte, if_pos, if_neg, hfz, hsl, ht, g1] <;> rfl) rfl
theorem Le.rowsTo (pre : List (Nat × Blk)) {B : Base} {sl sl' : List (Nat × V)} {hp : List (Nat × Blk)} {o nx nx1 nt : Nat} {ty tr : TypeId} {ids : List Nat} {rs : List (List V)} {C' : List V} (hB : ∃ m, B.Old m ∧ m ≤ nx)
  (hpre : ∀ i k, hget pre i = some k → k.cs.all clS = true ∧ hget hp i = some k)
  (ho : ∃ C, hget hp o = some ⟨ty, C, false⟩ ∧ ∀ (j : Nat) (y : V), C'[j]? = some y → ∃ x, C[j]? = some x ∧ VMap (fun i => i) (fun i => i < nx) x y)
  (hr : ∀ k, k < ids.length → k < rs.length → ∃ C, hget hp (ids.getD k 0) = some ⟨tr, C, false⟩ ∧ ∀ (j : Nat) (y : V), (rs.getD k [])[j]? = some y → ∃ x, C[j]? = some x ∧ VMap (fun i => i) (fun i => i < nx) x y)
  (h1 : mapSl (fun i => i) (fun i => i < nx) sl sl') :
  Le B ⟨sl, hp, nx1, nt⟩ ⟨sl', pre ++ (o, ⟨ty, C', false⟩) :: rowsH tr ids rs, nx, nt⟩ := by
 obtain ⟨m0, hB, hm0⟩ := hB
 refine Le.map (fun i => i) (fun i => i < nx) hB (fun i hi => ⟨by omega, rfl⟩) (fun i h => h) (fun i j _ _ e => e) h1 (fun i k' hk' hlt => ?_)
 rw [hget_app] at hk'
 cases hp : hget pre i with
 | some q =>
  rw [hp] at hk'
  cases hk'
  obtain ⟨p1, p2⟩ := hpre i _ hp
  rw [p2]
  exact ⟨_, rfl, rfl, rfl, fun j y hy => ⟨y, hy, VMap.clS (List.all_eq_true.1 p1 y (List.mem_of_getElem? hy))⟩⟩
 | none =>
  rw [hp] at hk'
  simp only [hget] at hk'
  split at hk'
  ·rename_i e
   cases hk'
   obtain ⟨C, h2, h3⟩ := ho
   subst e
   rw [h2]
   exact ⟨_, rfl, rfl, rfl, h3⟩
  ·obtain ⟨q, q1, q2, q3, rfl⟩ := rows_inv hk'
   obtain ⟨C, h2, h3⟩ := hr q q1 q2
   subst q3
   rw [h2]
   exact ⟨_, rfl, rfl, rfl, h3⟩
theorem cellsTo {z m n nx : Nat} {cap : Option Nat} {ids : List Nat} {rest : List V} (hi : ∀ i ∈ ids, i < nx) (hn : n < nx) (hrest : ∀ x ∈ rest, x = .sc (.slice none 0 0)) : ∀ (j : Nat) (y : V), (slR z m (ids ++ [n]) ++ rest)[j]? = some y → ∃ x, (slR z m ids ++ V.sl n 0 m z cap :: rest)[j]? = some x ∧ VMap (fun i => i) (fun i => i < nx) x y := by
 intro j y hy
 rw [← slR_app] at hy
 have hlen := slR_len z m ids
 rcases Nat.lt_trichotomy j ids.length with g | g | g
 ·rw [zl6, List.getElem?_append_left (by omega), slR_get g] at hy
  rw [List.getElem?_append_left (by omega), slR_get g]
  cases hy
  exact ⟨_, rfl, VMap.sl rfl (hi _ (getD_mem' g))⟩
 ·rw [zl6, List.getElem?_append_right (by omega), hlen, g, Nat.sub_self] at hy
  rw [List.getElem?_append_right (by omega), hlen, g, Nat.sub_self]
  have : (slR z m [n] ++ rest)[0]? = some (V.sl n 0 m z none) := rfl
  rw [this] at hy
  cases hy
  exact ⟨_, rfl, VMap.cap rfl hn⟩
 ·rw [zl6, List.getElem?_append_right (by omega), hlen] at hy
  rw [List.getElem?_append_right (by omega), hlen]
  obtain ⟨q, hq⟩ : ∃ q, j - ids.length = q + 1 := ⟨j - ids.length - 1, by omega⟩
  rw [hq] at hy ⊢
  have e1 : (slR z m [n] ++ rest)[q + 1]? = rest[q]? := rfl
  rw [e1] at hy
  rw [List.getElem?_cons_succ]
  refine ⟨y, hy, ?_⟩
  rw [hrest y (List.mem_of_getElem? hy)]
  exact VMap.nil
theorem cloTo {r : List V} {f : Nat → Nat} {D : Nat → Prop} (h : r.all clS = true) : ∀ (j : Nat) (y : V), r[j]? = some y → ∃ x, r[j]? = some x ∧ VMap f D x y := fun j y hy => ⟨y, hy, VMap.clS (List.all_eq_true.1 h y (List.mem_of_getElem? hy))⟩
theorem clS_of {r : List V} (h : r.all clo = true) : r.all clS = true := by
 rw [zlf] at h ⊢
 intro x hx
 have := h x hx
 cases x <;> first | rfl | exact this
theorem ids_snoc {ids : List Nat} {n k : Nat} (h : k < (ids ++ [n]).length) : (k < ids.length ∧ (ids ++ [n]).getD k 0 = ids.getD k 0) ∨ (k = ids.length ∧ (ids ++ [n]).getD k 0 = n) := by
 simp only [zl1, List.length_singleton] at h
 rcases Nat.lt_or_ge k ids.length with g | g
 ·exact .inl ⟨g, by rw [List.getD_eq_getElem?_getD, List.getElem?_append_left g, List.getD_eq_getElem?_getD]⟩
 ·have e : k = ids.length := by omega
  exact .inr ⟨e, by rw [e, List.getD_eq_getElem?_getD, List.getElem?_append_right (znb _), Nat.sub_self]; rfl⟩
def zer (w : Nat) : List V := (List.replicate w [V.sc (.bool false), V.sc (.slice none 0 0)]).flatten
def zeroL (h w : Nat) : List (List Int) := List.replicate h (List.replicate w 0)
theorem zer_map {f : Nat → Nat} {D : Nat → Prop} : ∀ (w j : Nat) (y : V), (ivR (List.replicate w 0))[j]? = some y → ∃ x, (zer w)[j]? = some x ∧ VMap f D x y
 | 0, j, y, h => by cases h
 | w + 1, j, y, h => by
  have e1 : ivR (List.replicate (w + 1) 0) = V.sc (.bool false) :: V.im [] 0 :: ivR (List.replicate w 0) := rfl
  have e2 : zer (w + 1) = V.sc (.bool false) :: V.sc (.slice none 0 0) :: zer w := rfl
  rw [e1] at h
  rw [e2]
  match j, h with
  | 0, h => cases h; exact ⟨_, rfl, VMap.sc _⟩
  | 1, h => cases h; exact ⟨_, rfl, VMap.nil_im⟩
  | j + 2, h => exact zer_map w j y h
theorem zeroL_get {h w k : Nat} (hk : k < h) : (zeroL h w).getD k [] = List.replicate w 0 := by
 unfold zeroL
 rw [List.getD_eq_getElem?_getD, List.getElem?_replicate, if_pos hk]; rfl
theorem zeroL_len {h w : Nat} : (zeroL h w).length = h := by simp [zeroL]
def MatQ (w : Nat) (M : List (List Int)) (nx : Nat) (x : V) (hp' : List (Nat × Blk)) (nx' : Nat) : Prop :=
 ∃ o ids, RowsOk o ids M.length nx nx' ∧ x = .ag [.sc (.int .i64 M.length), .sc (.int .i64 w), .sl o 0 M.length 1 none] ∧ hp' = (o, ⟨73, slR 2 w ids, false⟩) :: rowsH 43 ids (rI M)
theorem idle85 : Idle Try.prog 82 := Idle.of Tab.go82 Try.func82 rfl rfl rfl rfl Try.ntmps82 Try.results82
set_option maxHeartbeats 4000000 in
theorem pnew_s (h w nx : Nat) (hn : h ≤ 1000000) (hw : w ≤ 1000000) : InlQ Try.prog 64 [.sc (.int .i64 h), .sc (.int .i64 w)] [] nx (MatQ w (zeroL h w) nx) := by
 have hzl : (zeroL h w).length = h := by simp [zeroL]
 have hm1 : max (h : Int) 0 = h := by omega
 have hm2 : max (w : Int) 0 = w := by omega
 refine InlQ.runD Try.func64 rfl rfl rfl rfl idle85 Try.ntmps64 (by simp) sF sF fun B hB => ?_
 (repeat (first | (with_reducible refine oA ?_) | ((with_reducible apply SC.region); (focus (simp (disch := omega) only [go_sem, ↓reduceIte, zn1, reduceCtorEq, if_pos, if_neg] <;> rfl)); (fail_if_success with_reducible refine pickA ?_))))
 refine SC.loop (fun x : Nat × List Nat => ⟨[(0, .sc (.int .i64 h)), (1, .sc (.int .i64 w)), (4, .pt nx 0), (5, .sl (nx + 1) 0 h 1 (some h)), (14, .sc (.int .i64 h)), (15, .sc (.int .i64 x.1))], (nx, ⟨28, [.sc (.int .i64 0), .sc (.int .i64 0), .sc (.slice none 0 0)], false⟩) :: (nx + 1, ⟨73, slR 2 w x.2 ++ List.replicate (h - x.1) (.sc (.slice none 0 0)), false⟩) :: rowsH 43 x.2 (rI (zeroL x.1 w)), nx + 2 + x.1, 28⟩)
  (fun x => x.1 ≤ h ∧ RowsOk (nx + 1) x.2 x.1 nx (nx + 2 + x.1) ∧ nx ∉ x.2) (fun x => h - x.1) (0, []) ?_ ?_ ?_
 ·(refine Le.slots ?_ ?_ ?_ <;> (repeat' (first | exact znb _ | exact leSl_nil | refine leSl_cons sG ?_ ?_ | exact VLe.refl rfl | (refine fun id k h => ?_; simp only [hget] at h ⊢; (repeat' (split at h)) <;> first | (cases h; done) | (simp (disch := omega) only [if_pos, if_neg]; exact h)))))
 ·exact ⟨znc _, ⟨rfl, List.nodup_nil, by simp, by omega, by simp⟩, by simp⟩
 ·rintro ⟨i, ids⟩ ⟨hi, hR, hnx⟩ K hK
  simp only at hi hR hnx ⊢
  have hlt : ∀ j ∈ ids, j < nx + 2 + i := fun j hj => (hR.lt j hj).2
  by_cases hc : i < h
  ·have q1 := decide_eq_true (p := (i : Int) < (h : Int)) (by omega)
   have hcells : (slR 2 w ids ++ List.replicate (h - i) (V.sc (.slice none 0 0))).length = h := by simp [slR_len, hR.len]; omega
   have hset : (slR 2 w ids ++ List.replicate (h - i) (V.sc (.slice none 0 0))).set i (V.sl (nx + 2 + i) 0 w 2 (some w)) = slR 2 w ids ++ V.sl (nx + 2 + i) 0 w 2 (some w) :: List.replicate (h - (i + 1)) (V.sc (.slice none 0 0)) := by
    rw [List.set_append_right _ _ (by rw [slR_len, hR.len]; exact znb _), slR_len, hR.len, Nat.sub_self, show h - i = (h - (i + 1)) + 1 by omega, List.replicate_succ, List.set_cons_zero]
   generalize hC : slR 2 w ids ++ List.replicate (h - i) (V.sc (.slice none 0 0)) = C at *
   (repeat (first | (with_reducible refine oA ?_) | ((with_reducible first | apply SC.condB | apply SC.region); (focus (simp (disch := omega) only [go_sem, ↓reduceIte, zn1, zn4, reduceCtorEq, if_pos, if_neg, q1, hcells, hset] <;> rfl)); (first | refine pickT ?_ | fail_if_success with_reducible refine pickA ?_))))
   have hne : ∀ j ∈ ids, j ≠ nx ∧ j ≠ nx + 1 := fun j hj => ⟨fun e => hnx (e ▸ hj), fun e => hR.o2 (e ▸ hj)⟩
   refine hK _ (i + 1, ids ++ [nx + 2 + i]) ?_ ⟨by simp only; omega, ?_, ?_⟩ (by simp only; omega)
   ·refine Le.rowsTo [(nx, _)] ⟨nx, hB, by omega⟩ (fun j k hj => ?_) ?_ (fun k hk1 hk2 => ?_) ?_
    ·simp only [hget] at hj
     split at hj
     ·rename_i e
      cases hj; subst e
      refine ⟨rfl, ?_⟩
      simp only [hget]
      rw [if_neg (by omega), if_pos trivial]
     ·cases hj
    ·refine ⟨_, by simp only [hget]; rw [if_neg (by omega), if_neg (by omega), if_pos trivial], cellsTo (fun j hj => by have := hlt j hj; omega) (by omega) (fun x hx => List.eq_of_mem_replicate hx)⟩
    ·rw [rI_len, zeroL_len] at hk2
     rw [rI_getD, zeroL_get hk2]
     rcases ids_snoc hk1 with ⟨g, e⟩ | ⟨g, e⟩
     ·have hm := getD_mem' g
      have h1 := hlt _ hm
      have h2 := hne _ hm
      have := rows_get (ty := 43) (rs := rI (zeroL i w)) (k := k) hR.nod g (by rw [rI_len, zeroL_len, hR.len])
      rw [rI_getD, zeroL_get (by rw [hR.len] at g; exact g)] at this
      rw [e]
      exact ⟨_, by simp only [hget]; rw [if_neg (by omega), if_neg h2.1, if_neg h2.2, this], cloTo (clS_of (ivR_clo _))⟩
     ·rw [e]
      exact ⟨zer w, by simp only [hget]; rw [if_pos trivial]; rfl, zer_map w⟩
    ·(repeat' (first | exact trivial | refine mapSl_cons sG ?_ ?_ | exact VMap.sc _ | exact VMap.sl rfl (by omega) | exact VMap.pt rfl (by omega)))
   ·refine ⟨by simp [hR.len], ?_, fun j hj => ?_, by omega, ?_⟩
    ·rw [List.nodup_append]
     exact ⟨hR.nod, by simp, fun a ha b hb => by simp at hb; subst hb; have := hlt a ha; omega⟩
    ·rcases List.mem_append.1 hj with g | g
     ·have := hR.lt j g; omega
     ·simp at g; omega
    ·intro h
     rcases List.mem_append.1 h with g | g
     ·exact hR.o2 g
     ·simp at g; omega
   ·intro h
    rcases List.mem_append.1 h with g | g
    ·exact hnx g
    ·simp at g; omega
  ·have q1 := decide_eq_false (p := (i : Int) < (h : Int)) (by omega)
   have hin : i = h := by omega
   subst hin
   (repeat (first | (with_reducible refine oA ?_) | ((with_reducible first | apply SC.condB | apply SC.region); (focus (simp (disch := omega) only [go_sem, ↓reduceIte, zn1, zn2, zn3, zn4, reduceCtorEq, q1] <;> rfl)); (first | refine pickF ?_ | fail_if_success with_reducible refine pickA ?_))))
   refine retIQ_ret (.ag [.sc (.int .i64 i), .sc (.int .i64 w), .sl (nx + 1) 0 i 1 none]) ((nx + 1, ⟨73, slR 2 w ids, false⟩) :: rowsH 43 ids (rI (zeroL i w))) (nx + 2 + i) Try.results64 sF ⟨nx + 1, ids, by rw [hzl]; exact ⟨hR.len, hR.nod, hR.lt, hR.o1, hR.o2⟩, by rw [hzl], rfl⟩ ?_
   rw [Nat.sub_self]
   simp only [List.replicate_zero, List.append_nil]
   refine Le.rowsDown [] pre0 ⟨nx, hB, by omega⟩ (by omega) hlt (rI_clo _) (less_new (fun id k hk => hk) (fun id k hk => ?_)) ?_
   ·rcases inR_rows (fun i hi => hi) id k hk with e | e
    ·omega
    ·exact fun e2 => hnx (e2 ▸ e)
   ·refine mapSl_cons (x := .ag [.sc (.int .i64 i), .sc (.int .i64 w), .sl (nx + 1) 0 i 1 (some i)]) (by simp (disch := omega) only [go_sem, ↓reduceIte]) (VMap.ag rfl fun j x y hx hy => ?_) trivial
    match j, hx, hy with
    | 0, hx, hy => cases hx; cases hy; exact VMap.sc _
    | 1, hx, hy => cases hx; cases hy; exact VMap.sc _
    | 2, hx, hy => cases hx; cases hy; exact VMap.cap rfl (by omega)
def mkR (w : Nat) (f : Nat → Int) : List Int := (List.range w).map f
def mkM (h w : Nat) (f : Nat → Nat → Int) : List (List Int) := (List.range h).map fun r => mkR w (f r)
theorem mkR_len {w : Nat} {f : Nat → Int} : (mkR w f).length = w := by simp [mkR]
theorem mkM_len {h w : Nat} {f : Nat → Nat → Int} : (mkM h w f).length = h := by simp [mkM]
theorem mkR_get {w c : Nat} {f : Nat → Int} (h : c < w) : (mkR w f).getD c 0 = f c := by
 unfold mkR
 rw [List.getD_eq_getElem?_getD, List.getElem?_map, List.getElem?_range h]; rfl
theorem mkM_get {h w r : Nat} {f : Nat → Nat → Int} (hr : r < h) : (mkM h w f).getD r [] = mkR w (f r) := by
 unfold mkM
 rw [List.getD_eq_getElem?_getD, List.getElem?_map, List.getElem?_range hr]; rfl
theorem mkR_congr {w : Nat} {f g : Nat → Int} (h : ∀ c, c < w → f c = g c) : mkR w f = mkR w g := by
 unfold mkR
 exact List.map_congr_left fun c hc => h c (List.mem_range.1 hc)
theorem mkM_congr {h w : Nat} {f g : Nat → Nat → Int} (hh : ∀ r c, r < h → c < w → f r c = g r c) : mkM h w f = mkM h w g := by
 unfold mkM
 exact List.map_congr_left fun r hr => mkR_congr fun c hc => hh r c (List.mem_range.1 hr) hc
theorem mkM_of {h w K : Nat} {M : List (List Int)} (hM : MI h w K M) : mkM h w (fun r c => (M.getD r []).getD c 0) = M := by
 refine List.ext_getElem (by rw [mkM_len, hM.len]) fun r h1 h2 => ?_
 rw [mkM_len] at h1
 have e1 := mkM_get (w := w) (f := fun r c => (M.getD r []).getD c 0) h1
 rw [List.getD_eq_getElem?_getD, zlb (by rw [mkM_len]; exact h1)] at e1
 simp only [Option.getD_some] at e1
 rw [e1]
 have e2 : M.getD r [] = M[r] := by rw [List.getD_eq_getElem?_getD, zlb h2]; rfl
 have hl := (hM.get h1).1
 rw [← e2]
 refine ilist_ext (by rw [mkR_len, hl]) fun j hj => ?_
 rw [mkR_len] at hj
 rw [mkR_get hj]
theorem mkM_set {h w i j : Nat} {f : Nat → Nat → Int} {x : Int} (hi : i < h) (hj : j < w) : (mkM h w f).set i ((mkR w (f i)).set j x) = mkM h w fun r c => if r = i ∧ c = j then x else f r c := by
 refine List.ext_getElem (by simp [mkM_len]) fun r h1 h2 => ?_
 rw [mkM_len] at h2
 have e1 : ((mkM h w f).set i ((mkR w (f i)).set j x)).getD r [] = (mkM h w fun r c => if r = i ∧ c = j then x else f r c).getD r [] := by
  rw [getD_set (by rw [mkM_len]; exact hi), mkM_get h2, mkM_get h2]
  by_cases e : r = i
  ·subst e
   rw [if_pos rfl]
   refine ilist_ext (by rw [List.length_set, mkR_len, mkR_len]) fun c hc => ?_
   rw [List.length_set, mkR_len] at hc
   rw [getD_set (by rw [mkR_len]; exact hj), mkR_get hc, mkR_get hc]
   by_cases e2 : c = j
   ·rw [if_pos e2, if_pos ⟨rfl, e2⟩]
   ·rw [if_neg e2, if_neg (fun h => e2 h.2)]
  ·rw [if_neg e]
   exact mkR_congr fun c _ => by rw [if_neg (fun h => e h.1)]
 rw [List.getD_eq_getElem?_getD, zlb h1, List.getD_eq_getElem?_getD, zlb (by rw [mkM_len]; exact h2)] at e1
 simpa using e1
theorem mkM_zero {h w : Nat} : zeroL h w = mkM h w fun _ _ => 0 := by
 refine List.ext_getElem (by rw [zeroL_len, mkM_len]) fun r h1 h2 => ?_
 rw [zeroL_len] at h1
 have e : (zeroL h w).getD r [] = (mkM h w fun _ _ => 0).getD r [] := by
  rw [zeroL_get h1, mkM_get h1]
  refine ilist_ext (by rw [mkR_len]; simp) fun c hc => ?_
  simp only [List.length_replicate] at hc
  rw [mkR_get hc, List.getD_eq_getElem?_getD, List.getElem?_replicate, if_pos hc]; rfl
 rw [List.getD_eq_getElem?_getD, zlb (by rw [zeroL_len]; exact h1), List.getD_eq_getElem?_getD, zlb (by rw [mkM_len]; exact h1)] at e
 simpa using e
theorem mk_mi {h w K : Nat} {f : Nat → Nat → Int} (hf : ∀ r c, r < h → c < w → Fits K (f r c)) : MI h w K (mkM h w f) := by
 refine ⟨mkM_len, fun r hr => ?_⟩
 obtain ⟨i, hi, rfl⟩ := List.mem_map.1 hr
 refine ⟨mkR_len, fun x hx => ?_⟩
 obtain ⟨c, hc, rfl⟩ := List.mem_map.1 hx
 exact hf i c (List.mem_range.1 hi) (List.mem_range.1 hc)
theorem matQ_new {w nx : Nat} {M : List (List Int)} {x : V} {hp' : List (Nat × Blk)} {nx' : Nat} (h : MatQ w M nx x hp' nx') : Only (fun i => nx ≤ i) x ∧ OnlyH (fun i => nx ≤ i) hp' ∧ ∀ id k, hget hp' id = some k → nx ≤ id := by
 obtain ⟨o, ids, hR, rfl, rfl⟩ := h
 have := rowsI_new (w := w) (M := M) (nx := nx) (nx' := nx') ⟨o, ids, hR, rfl, rfl⟩
 refine ⟨.ag fun y hy => ?_, this.2⟩
 simp only [List.mem_cons, List.not_mem_nil, or_false] at hy
 rcases hy with rfl | rfl | rfl
 ·exact .sc _
 ·exact .sc _
 ·exact this.1
theorem cellF {h w i j : Nat} {ty : TypeId} {ids : List Nat} {f : Nat → Nat → Int} {z : Int} (hnod : ids.Nodup) (hlen : ids.length = h) (hi : i < h) (hj : j < w) :
  hget (rowsH ty ids (rI (mkM h w f))) (ids.getD i 0) = some ⟨ty, ivR (mkR w (f i)), false⟩ ∧ (ivR (mkR w (f i))).length = 2 * w ∧ (ivR (mkR w (f i))).drop (j * 2) = ivC (f i j) ++ (ivR (mkR w (f i))).drop ((j + 1) * 2) ∧
  setAll (ivR (mkR w (f i))) (j * 2) (ivC z) = ivR ((mkR w (f i)).set j z) ∧ hset (rowsH ty ids (rI (mkM h w f))) (ids.getD i 0) ⟨ty, ivR ((mkR w (f i)).set j z), false⟩ = rowsH ty ids (rI (mkM h w fun r c => if r = i ∧ c = j then z else f r c)) := by
 have gR := rows_get (ty := ty) (rs := rI (mkM h w f)) (k := i) hnod (by omega) (by rw [rI_len, mkM_len]; omega)
 rw [rI_getD, mkM_get hi] at gR
 have gd := ivR_drop (l := mkR w (f i)) (i := j) (by rw [mkR_len]; exact hj)
 rw [mkR_get hj] at gd
 have hrs := rows_set (ty := ty) (rs := rI (mkM h w f)) (k := i) (r := ivR ((mkR w (f i)).set j z)) hnod (by omega) (by rw [rI_len, mkM_len]; omega)
 rw [rI_set, mkM_set hi hj] at hrs
 exact ⟨gR, by rw [ivR_len, mkR_len], gd, ivR_set z (by rw [mkR_len]; exact hj), hrs⟩
def idL (n : Nat) : List (List Int) := mkM n n fun r c => if r = c then 1 else 0
theorem fits01 {p : Prop} [Decidable p] : Fits 1 (if p then 1 else 0) := by
 unfold Fits; split <;> decide
set_option maxHeartbeats 8000000 in
set_option maxRecDepth 8000 in
theorem pident_s (n : Nat) (hn : n ≤ 1000000) : Spec Try.prog 41 [.sc (.int .i64 n)] (mat n (idL n)) := by
 have c0 := pnew_s n n 1 hn hn
 have c1 := pof_i 1 (by omega) (by omega)
 unfold iv sv at c1
 refine Spec.run Try.func41 rfl Try.ntmps41 (by simp) sF fun B hB => ?_
 (repeat (first | (with_reducible refine oA ?_) | ((with_reducible first | apply SC.region | apply SO.run); (focus (simp (disch := omega) only [go_sem, ↓reduceIte, reduceCtorEq] <;> rfl)); (fail_if_success with_reducible refine pickA ?_)) | (with_reducible apply SC.ops)))
 refine SO.inlQ sG Tab.go64 sG sG (SInlQ.newR c0 ?_ ?_ ?_)
 ·exact klc (by omega) kln
 ·exact fun x hp' nx' h => matQ_new h
 rintro x hp' nx ⟨o, ids, hR, rfl, rfl⟩
 have ho := hR.o1
 rw [zeroL_len] at hR ⊢
 rw [mkM_zero]
 (repeat (first | (with_reducible refine oA ?_) | ((with_reducible first | apply SC.region | apply SO.run); (focus (simp (disch := omega) only [go_sem, ↓reduceIte, zn1, zn3, zn4, reduceCtorEq] <;> rfl)); (fail_if_success with_reducible refine pickA ?_))))
 have e0 : mkM n n (fun _ _ => 0) = mkM n n (fun r c => if r = c ∧ r < 0 then 1 else 0) := mkM_congr fun r c _ _ => by rw [if_neg (by omega)]
 rw [e0]
 refine SC.loop (fun i : Nat => ⟨[(2, .pt 0 0), (3, .pt nx 0), (10, .sc (.int .i64 n)), (11, .sc (.int .i64 i))], (nx, ⟨28, [.sc (.int .i64 n), .sc (.int .i64 n), .sl o 0 n 1 none], false⟩) :: (0, ⟨28, [.sc (.int .i64 0), .sc (.int .i64 0), .sc (.slice none 0 0)], false⟩) :: (o, ⟨73, slR 2 n ids, false⟩) :: rowsH 43 ids (rI (mkM n n (fun r c => if r = c ∧ r < i then 1 else 0))), nx + 1, 24⟩)
  (fun i => i ≤ n) (fun i => n - i) 0 ?_ ?_ ?_
 ·(refine Le.slots ?_ ?_ ?_ <;> (repeat' (first | (exact fun _ _ h => h) | exact znb _ | exact leSl_nil | refine leSl_cons sG ?_ ?_ | exact VLe.refl rfl)))
 ·exact znc _
 ·intro i hi K hK
  have hidl := hR.len
  have g1 := slR_len 2 n ids
  rw [hidl] at g1
  by_cases hc : i < n
  ·have q1 := decide_eq_true (p := (i : Int) < (n : Int)) (by omega)
   have gi := slR_get (z := 2) (m := n) (ids := ids) (k := i) (by omega)
   obtain ⟨gR, gl, gd, gs, hrs⟩ := cellF (ty := 43) (f := fun r c => if r = c ∧ r < i then (1 : Int) else 0) (z := 1) (j := i) hR.nod hidl hc hc
   have e1 : mkM n n (fun r c => if r = i ∧ c = i then (1 : Int) else if r = c ∧ r < i then 1 else 0) = mkM n n (fun r c => if r = c ∧ r < i + 1 then 1 else 0) := mkM_congr fun r c _ _ => by
    by_cases e : r = i ∧ c = i
    ·rw [if_pos e, if_pos (by omega)]
    ·rw [if_neg e]
     by_cases e2 : r = c ∧ r < i
     ·rw [if_pos e2, if_pos (by omega)]
     ·rw [if_neg e2, if_neg (by omega)]
   rw [e1] at hrs
   have hkl := klB_rows (ty := 43) (rs := rI (mkM n n fun r c => if r = c ∧ r < i then (1 : Int) else 0)) (n := nx + 1) (fun j hj => by have := hR.lt j hj; omega)
   have hmem := getD_mem' (ids := ids) (k := i) (by omega)
   have hidk := hR.lt _ hmem
   have hne : ids.getD i 0 ≠ o := fun e => hR.o2 (by rw [← e]; exact hmem)
   generalize hH : rowsH 43 ids (rI (mkM n n fun r c => if r = c ∧ r < i then (1 : Int) else 0)) = H at *
   generalize mkR n (fun c => if i = c ∧ i < i then (1 : Int) else 0) = row at *
   generalize ids.getD i 0 = idk at *
   unfold ivC sv at gs
   have g2 : i * 2 < (ivR row).length := by omega
   (repeat (first | refine DO.nilF (fun i => i + 1 - nx) (by simp (disch := omega) only [go_sem, zld, zle, Option.map_some, Option.map_none, znd, zne] <;> rfl) (by kernel_rfl) ?_ | (with_reducible refine oA ?_) | ((apply DO.call); (iterate 3 (focus (simp (disch := omega) only [go_sem] <;> rfl))); (apply DCall.ofX); (focus (assumption)); (focus (simp (disch := omega) only [go_sem] <;> rfl))) | ((with_reducible first | apply SC.condB | apply SC.region | apply DO.run); (focus (simp (disch := omega) only [go_sem, ↓reduceIte, zn1, zn4, reduceCtorEq, if_pos, if_neg, q1, gi, gR, gl, gs, hrs] <;> rfl)); (first | refine pickT ?_ | fail_if_success with_reducible refine pickA ?_)) | ((with_reducible refine SC.draw Tab.mixed ?_ ?_); (focus (simp (disch := omega) only [go_sem, ↓reduceIte, if_pos, hkl])))))
   refine hK _ (i + 1) ?_ (by omega) (by omega)
   (refine Le.slots ?_ ?_ ?_ <;> (repeat' (first | (exact fun _ _ h => h) | exact znb _ | exact leSl_nil | refine leSl_cons sG ?_ ?_ | exact VLe.refl rfl)))
  ·have q1 := decide_eq_false (p := (i : Int) < (n : Int)) (by omega)
   have hin : i = n := by omega
   subst hin
   have e1 : mkM i i (fun r c => if r = c ∧ r < i then (1 : Int) else 0) = idL i := mkM_congr fun r c hr _ => by
    by_cases e : r = c
    ·rw [if_pos ⟨e, hr⟩, if_pos e]
    ·rw [if_neg (fun h => e h.1), if_neg e]
   rw [e1]
   have hA : MI i i 1 (idL i) := mk_mi fun r c _ _ => fits01
   have hAl := hA.len
   by_cases h0 : i = 0
   ·subst h0
    have hids : ids = [] := List.eq_nil_of_length_eq_zero (by omega)
    subst hids
    (repeat (first | (with_reducible refine SC.condB sF ?_; with_reducible refine pickF ?_) | (with_reducible refine oA ?_) | ((with_reducible apply SC.region); (focus (simp (disch := omega) only [go_sem, ↓reduceIte, zn1, zn2, zn3, zn4, if_neg, q1]; rfl)))))
    exact retQ_ret Try.results41 sG sG rfl
   ·have hrows : ∀ C D : List V, ∀ k, k < ids.length → hget ((nx, (⟨28, C, false⟩ : Blk)) :: (0, ⟨28, D, false⟩) :: (o, ⟨73, slR 2 i ids, false⟩) :: rowsH 43 ids (rI (idL i))) (ids.getD k 0) = some ⟨43, (rI (idL i)).getD k [], false⟩ := by
     intro C D k hk
     have hm := getD_mem' hk
     have := hR.lt _ hm
     simp only [hget]
     rw [if_neg (by omega), if_neg (by omega), if_neg (fun e => hR.o2 (by rw [← e]; exact hm))]
     exact rows_get hR.nod hk (by rw [rI_len]; omega)
    have hfz := fun C D : List V => frz_rowsA (n := 5) (z := 2) (m := i) (ty := 43) (ids := ids) (rs := rI (idL i)) (by omega) (by rw [rI_len]; omega) (hrows C D) (rI_rows hA)
    have hsl := slR_some (z := 2) (m := i) (ids := ids) (by omega)
    have ht : (slR 2 i ids).take i = slR 2 i ids := zla (by omega)
    have hne : nx ≠ o := by omega
    unfold mat
    rw [hAl]
    (repeat (first | (with_reducible refine SC.condB sF ?_; with_reducible refine pickF ?_) | (with_reducible refine oA ?_) | ((with_reducible apply SC.region); (focus (simp (disch := omega) only [go_sem, ↓reduceIte, zn1, zn2, zn3, zn4, if_neg, q1]; rfl)))))
    exact retQ_ret Try.results41 sG (by simp (disch := omega) only [go_sem, ↓reduceIte, if_pos, if_neg, hfz, hsl, ht, g1] <;> rfl) rfl
set_option maxHeartbeats 4000000 in
theorem rnew_s (h w nx : Nat) (hn : h ≤ 1000000) (hw : w ≤ 1000000) : InlQ Try.prog 40 [.sc (.int .i64 h), .sc (.int .i64 w)] [] nx (MatQ w (zeroL h w) nx) := by
 have hzl : (zeroL h w).length = h := by simp [zeroL]
 refine InlQ.run Try.func40 rfl Try.ntmps40 (by simp) sF fun B hB => ?_
 (repeat (first | (with_reducible refine oA ?_) | ((with_reducible apply SC.region); (focus (simp (disch := omega) only [go_sem, ↓reduceIte, zn3] <;> rfl)); (fail_if_success with_reducible refine pickA ?_))))
 refine SC.loop (fun x : Nat × List Nat × Nat × Nat => ⟨[(0, .sc (.int .i64 h)), (1, .sc (.int .i64 w)), (4, .pt nx 0), (5, .sl x.2.2.1 0 x.1 1 none), (6, .sc (.int .i64 x.1))], (nx, ⟨28, [.sc (.int .i64 0), .sc (.int .i64 0), .sc (.slice none 0 0)], false⟩) :: (x.2.2.1, ⟨73, slR 2 w x.2.1, false⟩) :: rowsH 43 x.2.1 (rI (zeroL x.1 w)), x.2.2.2, 22⟩)
  (fun x => x.1 ≤ h ∧ RowsOk x.2.2.1 x.2.1 x.1 nx x.2.2.2 ∧ nx ∉ x.2.1 ∧ nx < x.2.2.1) (fun x => h - x.1) (0, [], nx + 1, nx + 2) ?_ ?_ ?_
 ·(refine Le.slots ?_ ?_ ?_ <;> (repeat' (first | exact znb _ | exact leSl_nil | refine leSl_cons sG ?_ ?_ | exact VLe.refl rfl | exact VLe.cap rfl (by rfl) | (refine fun id k h => ?_; simp only [hget] at h ⊢; (repeat' (split at h)) <;> first | (cases h; done) | (simp (disch := omega) only [if_pos, if_neg]; exact h)))))
 ·exact ⟨znc _, ⟨rfl, List.nodup_nil, by simp, by simp only; omega, by simp⟩, by simp, by simp only; omega⟩
 ·rintro ⟨i, ids, o, m⟩ ⟨hi, hR, hnx, hno⟩ K hK
  simp only at hi hR hnx hno ⊢
  have hlt : ∀ j ∈ ids, j < m := fun j hj => (hR.lt j hj).2
  by_cases hc : i < h
  ·have q1 := decide_eq_true (p := (i : Int) < (h : Int)) (by omega)
   have g1 := slR_len 2 w ids
   rw [hR.len] at g1
   have ht : (slR 2 w ids).take i = slR 2 w ids := zla (by omega)
   have g2 : (slR 2 w ids).all V.one = true := by
    rw [zlf]; intro x hx; obtain ⟨n, _, rfl⟩ := List.mem_map.1 hx; rfl
   have g3 := rows_del (ty := 43) (rs := rI (zeroL i w)) (i := o) (ids := ids) hR.o2
   have ho := hR.o1
   have g4 := slR_len 2 w ids
   (repeat (first | (with_reducible refine oA ?_) | ((with_reducible first | apply SC.condB | apply SC.region); (focus (simp (disch := omega) only [go_sem, ↓reduceIte, zn1, zn3, zn4, reduceCtorEq, if_pos, if_neg, q1, g1, g3, ht] <;> rfl)); (first | refine pickT ?_ | fail_if_success with_reducible refine pickA ?_))))
   have hne : ∀ j ∈ ids, j ≠ nx := fun j hj e => hnx (e ▸ hj)
   refine hK _ (i + 1, ids ++ [m], m + 1 + 1, m + 1 + 1 + 1) ?_ ⟨by simp only; omega, ?_, ?_, by simp only; omega⟩ (by simp only; omega)
   ·dsimp only
    refine Le.rowsTo [(nx, _)] ⟨nx, hB, by omega⟩ (fun j k hj => ?_) ?_ (fun k hk1 hk2 => ?_) ?_
    ·simp only [hget] at hj
     split at hj
     ·rename_i e
      cases hj; subst e
      refine ⟨rfl, ?_⟩
      simp only [hget]
      rw [if_neg (by omega), if_neg (by omega), if_neg (by omega), if_pos trivial]
     ·cases hj
    ·refine ⟨_, by simp only [hget]; rw [if_pos trivial], ?_⟩
     have := cellsTo (z := 2) (m := w) (n := m) (nx := m + 1 + 1 + 1) (cap := some w) (ids := ids) (rest := []) (fun j hj => by have := hlt j hj; omega) (by omega) (fun x hx => by cases hx)
     simpa using this
    ·rw [rI_len, zeroL_len] at hk2
     rw [rI_getD, zeroL_get hk2]
     rcases ids_snoc hk1 with ⟨g, e⟩ | ⟨g, e⟩
     ·have hm := getD_mem' g
      have h1 := hlt _ hm
      have h2 := hne _ hm
      have := rows_get (ty := 43) (rs := rI (zeroL i w)) (k := k) hR.nod g (by rw [rI_len, zeroL_len, hR.len])
      rw [rI_getD, zeroL_get (by rw [hR.len] at g; exact g)] at this
      rw [e]
      exact ⟨_, by simp only [hget]; rw [if_neg (by omega), if_neg (by omega), if_neg (by omega), if_neg h2, this], cloTo (clS_of (ivR_clo _))⟩
     ·rw [e]
      exact ⟨zer w, by simp only [hget]; rw [if_neg (by omega), if_neg (by omega), if_pos trivial]; rfl, zer_map w⟩
    ·(repeat' (first | exact trivial | refine mapSl_cons sG ?_ ?_ | exact VMap.sc _ | exact VMap.sl rfl (by omega) | exact VMap.pt rfl (by omega)))
   ·refine ⟨by simp [hR.len], ?_, fun j hj => ?_, by simp only; omega, ?_⟩
    ·rw [List.nodup_append]
     exact ⟨hR.nod, by simp, fun a ha b hb => by simp at hb; subst hb; have := hlt a ha; omega⟩
    ·rcases List.mem_append.1 hj with g | g
     ·have := hR.lt j g; simp only; omega
     ·simp at g; simp only; omega
    ·intro h
     rcases List.mem_append.1 h with g | g
     ·have := hlt _ g; simp only at this; omega
     ·have := List.mem_singleton.1 g; simp only at this; omega
   ·intro h
    rcases List.mem_append.1 h with g | g
    ·exact hnx g
    ·simp at g; omega
  ·have q1 := decide_eq_false (p := (i : Int) < (h : Int)) (by omega)
   have hin : i = h := by omega
   subst hin
   (repeat (first | (with_reducible refine oA ?_) | ((with_reducible first | apply SC.condB | apply SC.region); (focus (simp (disch := omega) only [go_sem, ↓reduceIte, zn1, zn2, zn3, zn4, reduceCtorEq, q1] <;> rfl)); (first | refine pickF ?_ | fail_if_success with_reducible refine pickA ?_))))
   refine retIQ_ret (.ag [.sc (.int .i64 i), .sc (.int .i64 w), .sl o 0 i 1 none]) ((o, ⟨73, slR 2 w ids, false⟩) :: rowsH 43 ids (rI (zeroL i w))) m Try.results40 sF ⟨o, ids, by rw [hzl]; exact hR, by rw [hzl], rfl⟩ ?_
   have ho := hR.o1
   refine Le.rowsDown [] pre0 ⟨nx, hB, by omega⟩ (by omega) hlt (rI_clo _) (less_new (fun id k hk => hk) (fun id k hk => ?_)) ?_
   ·rcases inR_rows (fun i hi => hi) id k hk with e | e
    ·omega
    ·exact fun e2 => hnx (e2 ▸ e)
   ·refine mapSl_cons (x := .ag [.sc (.int .i64 i), .sc (.int .i64 w), .sl o 0 i 1 none]) (by simp (disch := omega) only [go_sem, ↓reduceIte]) (VMap.ag rfl fun j x y hx hy => ?_) trivial
    match j, hx, hy with
    | 0, hx, hy => cases hx; cases hy; exact VMap.sc _
    | 1, hx, hy => cases hx; cases hy; exact VMap.sc _
    | 2, hx, hy => cases hx; cases hy; exact VMap.cap rfl (by omega)
def dotI (f g : Nat → Int) : Nat → Int
 | 0 => 0
 | k + 1 => dotI f g k + f k * g k
def ent2 (M : List (List Int)) (r c : Nat) : Int := (M.getD r []).getD c 0
variable {P : Program} {B : Base}
variable {P : Program} {B : Base}
def mapL (f : Nat → Nat) (D : Nat → Prop) : List V → List V → Prop
 | _, [] => True
 | x :: xs, y :: ys => VMap f D x y ∧ mapL f D xs ys
 | [], _ :: _ => False
theorem mapL_get {f : Nat → Nat} {D : Nat → Prop} : ∀ {xs ys : List V}, mapL f D xs ys → ∀ (i : Nat) (y : V), ys[i]? = some y → ∃ x, xs[i]? = some x ∧ VMap f D x y
 | _, [], _, i, y, h => by simp at h
 | x :: xs, y0 :: ys, hm, i, y, h => by
  cases i with
  | zero => cases h; exact ⟨x, rfl, hm.1⟩
  | succ i => simp at h ⊢; exact mapL_get hm.2 i y h
 | [], _ :: _, hm, _, _, _ => hm.elim
theorem mapL_nil {f : Nat → Nat} {D : Nat → Prop} {xs : List V} : mapL f D xs [] := by cases xs <;> trivial
theorem mapL_cons {f : Nat → Nat} {D : Nat → Prop} {x y : V} {xs ys : List V} (h : VMap f D x y) (k : mapL f D xs ys) : mapL f D (x :: xs) (y :: ys) := ⟨h, k⟩
theorem BMap.list {f : Nat → Nat} {D : Nat → Prop} {ty : TypeId} {fz : Bool} {xs ys : List V} (h : mapL f D xs ys) : BMap f D (some ⟨ty, xs, fz⟩) ⟨ty, ys, fz⟩ := ⟨_, rfl, rfl, rfl, mapL_get h⟩
def mapHp (f : Nat → Nat) (D : Nat → Prop) (hp : List (Nat × Blk)) : List (Nat × Blk) → Prop
 | [] => True
 | p :: r => BMap f D (hget hp (f p.1)) p.2 ∧ mapHp f D hp r
theorem mapHp_get {f : Nat → Nat} {D : Nat → Prop} {hp : List (Nat × Blk)} : ∀ {r : List (Nat × Blk)}, mapHp f D hp r → ∀ i k', hget r i = some k' → BMap f D (hget hp (f i)) k'
 | [], _, i, k', h => by cases h
 | p :: r, hr, i, k', h => by
  simp only [hget] at h
  split at h
  ·rename_i e; subst e; cases h; exact hr.1
  ·exact mapHp_get hr.2 i k' h
theorem mapHp_nil {f : Nat → Nat} {D : Nat → Prop} {hp : List (Nat × Blk)} : mapHp f D hp [] := trivial
theorem mapHp_cons {f : Nat → Nat} {D : Nat → Prop} {hp r : List (Nat × Blk)} {i : Nat} {k k' : Blk} (h : hget hp (f i) = some k) (h1 : BMap f D (some k) k') (h2 : mapHp f D hp r) : mapHp f D hp ((i, k') :: r) := ⟨h ▸ h1, h2⟩
theorem Le.ren {sl sl' : List (Nat × V)} {hp hp' : List (Nat × Blk)} {nx nx' nt m : Nat} (a b : Nat) (hB : B.Old m) (ha : m ≤ a) (hb : nx' ≤ b) (hm : m ≤ nx')
  (h1 : mapSl (fun i => if i = a then b else i) (fun i => i < nx') sl sl') (h2 : mapHp (fun i => if i = a then b else i) (fun i => i < nx') hp hp') : Le B ⟨sl, hp, nx, nt⟩ ⟨sl', hp', nx', nt⟩ :=
 Le.map (fun i => if i = a then b else i) (fun i => i < nx') hB (fun i hi => ⟨by omega, if_neg (by omega)⟩) (fun i hi => hi) (fun i j hi hj e => by split at e <;> split at e <;> omega) h1 fun i k' h _ => mapHp_get h2 i k' h
def invO (o : OpL) : OpL := ⟨o.kd, o.i, o.j, -o.k⟩
def invL (l : List OpL) : List OpL := (l.map invO).reverse
theorem invO_ok {n : Nat} {o : OpL} (h : OkOp n o) : OkOp n (invO o) := by
 refine ⟨h.i, ?_, ?_⟩
 ·have := h.k
  unfold Fits at *
  show (-o.k).natAbs < _
  rwa [Int.natAbs_neg]
 ·rcases h.c with ⟨a, b, c, d⟩ | ⟨a, b, d⟩ | ⟨a, b, c⟩
  ·exact .inl ⟨a, b, c, by show -o.k = 0; omega⟩
  ·exact .inr (.inl ⟨a, b, by show -o.k = 0; omega⟩)
  ·exact .inr (.inr ⟨a, b, c⟩)
theorem invL_ok {n : Nat} {l : List OpL} (h : ∀ o ∈ l, OkOp n o) : ∀ o ∈ invL l, OkOp n o := by
 intro o ho
 simp only [invL, List.mem_reverse, List.mem_map] at ho
 obtain ⟨p, hp, rfl⟩ := ho
 exact invO_ok (h p hp)
theorem invL_len (l : List OpL) : (invL l).length = l.length := by simp [invL]
theorem mkOps : mkOf Try.prog 30 = some (45, 56, [.int .i64 0, .int .i64 0, .int .i64 0, .bool false, .slice none 0 0]) := by kernel_rfl
@[go_sem high] theorem exMake_ops {n nx : Nat} (hn : n ≤ 2000000000) : exMake Try.prog 30 nx (.sc (.int .i64 0)) (.sc (.int .i64 (n : Int))) = some (.sl nx 0 0 5 (some n), .new ⟨45, reps n [.sc (.int .i64 0), .sc (.int .i64 0), .sc (.int .i64 0), .sc (.bool false), .sc (.slice none 0 0)], false⟩) := by
 have hc : (0:Int) ≤ 0 ∧ (0:Int) ≤ (n:Int) ∧ (n:Int) < 1125899906842624 ∧ ((56 : Nat) : Int) * (n:Int) ≤ 140737488355328 := ⟨by omega, by omega, by omega, by omega⟩
 rw [exMake_eq, mkOps, Option.bind_some]; exact if_pos hc
theorem run1_mks {ops : Array Oper} {sl : List (Nat × V)} {hp : List (Nat × Blk)} {nx nt n t d : Nat} {ty : TypeId} {pos : String} {aft : Array Edge} (hn : n ≤ 2000000000) (ht : get sl t = .sc (.int .i64 (n : Int))) (hd : d < nt) :
  run1 Try.prog ops ⟨sl, hp, nx, nt⟩ ⟨some d, .makeSlice 30 (.const (.int .i64 0)) (.tmp t), ty, pos, aft, none⟩ = some ((⟨sl, hp, nx, nt⟩ : SS).put (some d) (.sl nx 0 0 5 (some n)) (.new ⟨45, reps n [.sc (.int .i64 0), .sc (.int .i64 0), .sc (.int .i64 0), .sc (.bool false), .sc (.slice none 0 0)], false⟩)) := by
 have h1 : exOp Try.prog sl hp nx (.makeSlice 30 (.const (.int .i64 0)) (.tmp t)) = some (.sl nx 0 0 5 (some n), .new ⟨45, reps n [.sc (.int .i64 0), .sc (.int .i64 0), .sc (.int .i64 0), .sc (.bool false), .sc (.slice none 0 0)], false⟩) := by
  rw [exOp_makeSlice]
  show exMake _ _ _ _ (get sl t) = _
  rw [ht]
  exact exMake_ops hn
 have h2 : dstOk (some d) nt = true := by simp [dstOk, hd]
 unfold run1
 rw [if_pos h2]
 have hg : guardV ops sl none = some true := rfl
 simp only [hg, h1]
 rfl
theorem opsC_app (a b : List OpL) : opsC (a ++ b) = opsC a ++ opsC b := by
 induction a with
 | nil => rfl
 | cons x r ih => rw [zl8, opsC, opsC, ih, zl6]
theorem invL_take {l : List OpL} {k : Nat} (h : k < l.length) : (invL l).take (k + 1) = (invL l).take k ++ [invO (l.getD (l.length - 1 - k) ⟨0, 0, 0, 0⟩)] := by
 have hl := invL_len l
 rw [take_snoc (d := ⟨0, 0, 0, 0⟩) (by omega)]
 congr 2
 unfold invL
 rw [List.getD_eq_getElem?_getD, List.getElem?_reverse (by rw [List.length_map]; exact h), List.getElem?_map, List.length_map, List.getD_eq_getElem?_getD]
 rw [zlb (by omega)]; rfl
theorem invO_k0 {o : OpL} (h : o.k = 0) : invO o = o := by
 obtain ⟨a, b, c, d⟩ := o
 simp only at h
 subst h; rfl
theorem opsC_one (l : List OpL) : (opsC l).all V.one = true := by
 induction l with
 | nil => rfl
 | cons x r ih => rw [opsC, List.all_append, ih]; rfl
theorem opsC_clo (l : List OpL) : (opsC l).all clo = true := by
 induction l with
 | nil => rfl
 | cons x r ih => rw [opsC, List.all_append, ih]; rfl
attribute [-go_sem] exMake_eq
set_option maxHeartbeats 4000000 in
set_option maxRecDepth 8000 in
theorem iinv_s {n : Nat} {l : List OpL} (h : ∀ o ∈ l, OkOp n o) (hl : l.length ≤ 1000000000) : Spec Try.prog 19 [.im (opsC l) l.length] (.im (opsC (invL l)) l.length) := by
 refine Spec.run Try.func19 rfl Try.ntmps19 (by simp) sF fun B hB => ?_
 refine SC.seq ?_
 refine SC.region sF ?_
 refine SC.seq ?_
 refine SC.ops ?_
 refine SO.run sF ?_
 refine SO.run sF ?_
 refine SO.run (run1_mks (n := l.length) (by omega) (by simp (disch := omega) only [go_sem, ↓reduceIte]) (by omega)) ?_
 (repeat (first | (with_reducible refine oA ?_) | ((with_reducible first | apply SC.region | apply SO.run); (focus (simp (disch := omega) only [go_sem, ↓reduceIte, reduceCtorEq] <;> rfl)); (fail_if_success with_reducible refine pickA ?_))))
 refine SC.loop (fun k : Nat => ⟨[(0, .im (opsC l) l.length), (2, .sc (.slice none 0 0)), (3, .sl 0 0 k 5 none), (4, .sc (.int .i64 ((l.length : Int) - 1 - (k : Int))))], [(0, ⟨45, opsC ((invL l).take k), false⟩)], 1, 32⟩)
  (fun k => k ≤ l.length) (fun k => l.length - k) 0 ?_ ?_ ?_
 ·refine Le.map (fun i => i) (fun i => i < 1) hB (fun i hi => by omega) (fun i h => h) (fun i j _ _ e => e) ?_ (fun i k' hk' hlt => ?_)
  ·have e : (l.length : Int) - 1 - ((0 : Nat) : Int) = (l.length : Int) - 1 := by omega
   rw [e]
   (repeat' (first | exact trivial | refine mapSl_cons sG ?_ ?_ | exact VMap.sc _ | exact VMap.clo rfl | exact VMap.cap rfl (by omega)))
  ·simp only [hget] at hk'
   split at hk'
   ·rename_i e
    subst e
    cases hk'
    exact ⟨_, rfl, rfl, rfl, fun j y hy => by cases hy⟩
   ·cases hk'
 ·exact znc _
 ·intro k hk K hK
  have hil := invL_len l
  have gl := opsC_len ((invL l).take k)
  rw [List.length_take, hil, Nat.min_eq_left hk, Nat.mul_comm] at gl
  by_cases hc : k < l.length
  ·have q1 : decide ((0 : Int) ≤ (l.length : Int) - 1 - (k : Int)) = true := decide_eq_true (by omega)
   have hix : ((l.length : Int) - 1 - (k : Int)).toNat = l.length - 1 - k := by omega
   have g1 := opsC_drop (l := l) (i := l.length - 1 - k) (by omega)
   have g2 : (l.length - 1 - k) * 5 < (opsC l).length := by rw [opsC_len]; omega
   have hok := h _ (getD_mem (d := ⟨0, 0, 0, 0⟩) (l := l) (i := l.length - 1 - k) (by omega))
   have hts := invL_take hc
   have hone := opsC_one ((invL l).take k)
   have hnew : opsC ((invL l).take (k + 1)) = opsC ((invL l).take k) ++ opC (invO (l.getD (l.length - 1 - k) ⟨0, 0, 0, 0⟩)) := by rw [hts, opsC_app]; show _ ++ (_ ++ []) = _; rw [List.append_nil]
   have ht : (opsC ((invL l).take k)).take (k * 5) = opsC ((invL l).take k) := zla (by omega)
   have hclo := opsC_clo ((invL l).take (k + 1))
   generalize l.getD (l.length - 1 - k) ⟨0, 0, 0, 0⟩ = op at *
   generalize (opsC l).drop ((l.length - 1 - k + 1) * 5) = D at *
   generalize opsC ((invL l).take k) = Z at *
   generalize hZ' : opsC ((invL l).take (k + 1)) = Z' at *
   by_cases h3 : op.kd = 3
   ·obtain ⟨kd, a, b, f⟩ := op
    simp only at h3
    subst h3
    have c1 := pneg_i f OL hok.k (by have := OL_le; omega)
    unfold opC invO at hnew
    unfold opC at g1
    unfold iv sv at c1
    unfold sv at hnew g1
    simp only [zl8, zl7] at g1
    simp only at hnew
    have q3 : (((3 : Nat) : Int) == 3) = true := rfl
    (repeat (first | (with_reducible refine oA ?_) | ((apply SO.call); (iterate 3 (focus (simp (disch := omega) only [go_sem, ↓reduceIte, List.append_nil] <;> rfl))); (apply SCall.ofX); (focus (assumption)); (focus (simp (disch := omega) only [go_sem] <;> rfl))) | ((with_reducible first | apply SC.condB | apply SC.region | apply SO.run); (focus (simp (disch := omega) only [go_sem, ↓reduceIte, zn1, zn3, zn4, zn5, reduceCtorEq, if_pos, q1, hix, g1, g2, q3, gl, ht, List.append_nil] <;> rfl)); (first | refine pickT ?_ | fail_if_success with_reducible refine pickA ?_)) | (with_reducible apply SC.ops)))
    refine hK _ (k + 1) ?_ (by omega) (by omega)
    simp only [hZ', hnew]
    rw [hnew] at hclo
    refine Le.ren 0 3 hB (by omega) (by omega) (by omega) ?_ ?_
    ·(repeat' (first | exact trivial | refine mapSl_cons sG ?_ ?_ | exact VMap.sc _ | exact VMap.clo rfl | exact VMap.sl rfl (by omega) | exact VMap.int (by omega)))
    ·(repeat' (first | exact mapHp_nil | refine mapHp_cons sG ?_ ?_ | exact BMap.clo (by assumption)))
   ·have hk0 : op.k = 0 := by rcases hok.c with ⟨_, _, _, d⟩ | ⟨_, _, d⟩ | ⟨d, _⟩; exact d; exact d; exact absurd d h3
    rw [invO_k0 hk0] at hnew
    obtain ⟨kd, a, b, f⟩ := op
    simp only at h3
    unfold opC sv at hnew g1
    simp only [zl8, zl7] at g1
    simp only at hnew
    have q3 : ((kd : Int) == 3) = false := by rw [beq_eq_false_iff_ne]; omega
    (repeat (first | (with_reducible refine oA ?_) | ((with_reducible first | apply SC.condB | apply SC.region); (focus (simp (disch := omega) only [go_sem, ↓reduceIte, zn1, zn3, zn4, zn5, reduceCtorEq, if_pos, q1, hix, g1, g2, q3, gl, ht, List.append_nil] <;> rfl)); (first | refine pT ?_ | refine pF ?_ | fail_if_success with_reducible refine pA ?_))))
    refine hK _ (k + 1) ?_ (by omega) (by omega)
    simp only [hZ', hnew]
    rw [hnew] at hclo
    refine Le.ren 0 3 hB (by omega) (by omega) (by omega) ?_ ?_
    ·(repeat' (first | exact trivial | refine mapSl_cons sG ?_ ?_ | exact VMap.sc _ | exact VMap.clo rfl | exact VMap.sl rfl (by omega) | exact VMap.int (by omega)))
    ·(repeat' (first | exact mapHp_nil | refine mapHp_cons sG ?_ ?_ | exact BMap.clo (by assumption)))
  ·have q1 : decide ((0 : Int) ≤ (l.length : Int) - 1 - (k : Int)) = false := decide_eq_false (by omega)
   have hkl : k = l.length := by omega
   have hz : (invL l).take k = invL l := zla (by omega)
   have hclo := opsC_clo (invL l)
   have ht : (opsC (invL l)).take (k * 5) = opsC (invL l) := by rw [← hz]; exact zla (by omega)
   rw [hz] at gl ⊢
   rw [hkl] at gl ht
   (repeat (first | (with_reducible refine oA ?_) | ((with_reducible first | apply SC.condB | apply SC.region); (focus (simp (disch := omega) only [go_sem, ↓reduceIte, zn1, zn2, reduceCtorEq, q1] <;> rfl)); (first | refine pickF ?_ | fail_if_success with_reducible refine pickA ?_))))
   rw [hkl]
   exact retQ_ret Try.results19 sG (by simp (disch := omega) only [go_sem, ↓reduceIte, if_pos, hclo, ht, gl] <;> rfl) rfl
theorem iundo_s {h w K : Nat} {M : List (List Int)} {l : List OpL} (hM : MI h w K M) (hl : ∀ o ∈ l, OkOp h o) (hS : ∀ i, i ≤ l.length → MI h w K (actsO M ((invL l).take i))) (hK : K ≤ 90000000000) (hll : l.length ≤ 1000000000) (hn : h ≤ 1000000) (hw : w ≤ 1000000) :
  Spec Try.prog 9 [.im (opsC l) l.length, mat w M] (.tu [mat w (actsO M (invL l)), .sc (.int .i64 0)]) := by
 have hml := hM.len
 have c1 := ivalid_s hl hn (by omega)
 have c2 := iinv_s hl (by omega)
 have c3 := iapply_s (l := invL l) hM (invL_ok hl) (by rw [invL_len]; exact hS) hK (by rw [invL_len]; exact hll) hn hw
 rw [invL_len] at c3
 generalize actsO M (invL l) = F at *
 generalize opsC (invL l) = L at *
 unfold mat at *
 rw [hml] at *
 refine Spec.run Try.func9 rfl Try.ntmps9 (by simp) sF fun B hB => ?_
 (repeat (first | refine DO.nil (by kernel_rfl) ?_ | (with_reducible refine oA ?_) | ((first | apply SO.call | apply DO.call); (iterate 3 (focus (simp (disch := omega) only [go_sem, ↓reduceIte, zn1] <;> rfl))); (first | apply SCall.ofX | apply DCall.ofX); (focus (assumption)); (focus (simp (disch := omega) only [go_sem] <;> rfl))) | ((with_reducible first | apply wa | apply wb | apply wc | apply wd); (focus (simp (disch := omega) only [go_sem, ↓reduceIte, zn1, zn2, zn3, zn4, reduceCtorEq] <;> rfl)); (first | refine pickF ?_ | fail_if_success with_reducible refine pickA ?_)) | ((with_reducible refine SC.draw Tab.mixed ?_ ?_); rfl) | (with_reducible apply SC.ops)))
 exact retQ_ret Try.results9 sG sG rfl
end Go.Proofs.Ytdcbmdmlhjemmaa
