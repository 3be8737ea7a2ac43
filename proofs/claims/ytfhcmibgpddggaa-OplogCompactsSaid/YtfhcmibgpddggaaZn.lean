/- Texts joined: Tj Ha Hb Hc Hd He Hf. -/
import Derived.Test.YtfhcmibgpddggaaZc
import Derived.Test.YtfhcmibgpddggaaZf
import Derived.Test.YtfhcmibgpddggaaZf
import Derived.Test.YtfhcmibgpddggaaZl
set_option linter.all false
open Nat renaming reduceEqDiff → zn1, reduceLT → zn2, reduceLeDiff → zn3, reduceAdd → zn4, reduceMul → zn5, reduceSub → zn6, reduceBEq → zn7
open Int renaming reduceToNat → zi1, reducePow → zi2
namespace Go.Proofs.Ytfhcmibgpddggaa
open Go.RowKit
variable {P : Program} {B : Base}
theorem wp_monoQ {o : Oper} {a : Act} {w : World} {K : Act → World → Prop} {Q Q' : Exit → Act → World → Prop} (h : ∀ e a w, e ≠ Exit.normal → Q e a w → Q' e a w) (hh : o.wp P a w K Q) : o.wp P a w K Q' := by
  unfold Oper.wp at *
  generalize (execOp a.eval o).run P w = r at *
  cases r with
  | ok n w' =>
    cases n <;> simp only [Oper.upon] at hh ⊢ <;>
      first
        | exact hh
        | exact Calls.mono hh (fun e w'' he => by cases e <;> first | exact he | exact h _ _ _ (by simp) he | exact (let ⟨x, y, z⟩ := he; ⟨x, y, h _ _ _ (by simp) z⟩))
  | halt x w' => cases x <;> simp only [Oper.upon] at hh ⊢ <;> first | exact h _ _ _ (by simp) hh | exact hh
def ordN (l : List Oper) : Bool := (List.range l.length).all fun i => match l[i]? with | some o => o.after.all fun e => !Region.binds .any e || decide (e.on < i) | none => true
def stepJ (J : (Nat → Bool) → SS → Prop) (L : Nat → Bool) (i : Nat) (Q : Exit → SS → Prop) : Exit → SS → Prop
  | .normal, s => J (addL L i) s
  | e, s => Q e s
theorem region_inv {J : (Nat → Bool) → SS → Prop} {id : Nat} {l : List Oper} {s : SS} {Q : Exit → SS → Prop} (hm : P.follows .mixedOrders = true) (hord : ordN l = true) (h0 : J (fun _ => false) s)
    (hstep : ∀ L s i o, (∀ m j, L m = true → depB l.toArray m j = true → L j = true) → J L s → l[i]? = some o → L i = false → (∀ m, depB l.toArray i m = true → L m = true) → SOps P B l.toArray [o] (stepJ J L i Q) s)
    (hend : ∀ L s, (∀ i, i < l.length → L i = true) → J L s → Q .normal s) : SWp P B (.region id l.toArray true) Q s := by
  intro S rho A a w hr
  have dep : ∀ (L : Nat → Bool) (i : Nat) (o : Oper), l.toArray[i]? = some o → (∀ e ∈ o.after.toList, Region.binds .any e = true → L e.on = true) → ∀ m, depB l.toArray i m = true → L m = true := by
    intro L i o ho hd m hm
    unfold depB at hm
    rw [ho] at hm
    simp only [Array.any_eq_true'] at hm
    obtain ⟨e, he, hb⟩ := hm
    rw [Bool.and_eq_true, beq_iff_eq] at hb
    rw [← hb.2]; exact hd e (by simpa using he) hb.1
  refine wp_region_any hm (wpAny_act (fun L a w => (∀ m j, L m = true → depB l.toArray m j = true → L j = true) ∧ ∃ s S rho A, J L s ∧ Rel B S rho A s a w) ?_ ?_ ?_ _ _ a _ (by simp) ?_ ?_)
  · intro i o ho e he hb
    have hi := (Array.getElem?_eq_some_iff.1 ho).1
    simp at hi
    have := List.all_eq_true.1 hord i (List.mem_range.2 hi)
    rw [List.getElem?_toArray] at ho
    rw [ho] at this
    simp only at this
    rw [Array.all_eq_true'] at this
    have := this e (by simpa using he)
    rw [hb] at this
    simpa using this
  · rintro L a w i o ho hi hd ⟨hcl, s, S, rho, A, hJ, hr⟩
    have hdep := dep L i o ho hd
    have ho' := ho
    rw [List.getElem?_toArray] at ho'
    have h := hstep L s i o hcl hJ ho' hi hdep S rho A a w hr
    have hcl' : ∀ m j, (if m = i then true else L m) = true → depB l.toArray m j = true → (if j = i then true else L j) = true := by
      intro m j hm hj
      by_cases e : j = i
      · rw [if_pos e]
      · rw [if_neg e]
        by_cases e2 : m = i
        · subst e2; exact hdep j hj
        · rw [if_neg e2] at hm; exact hcl m j hm hj
    have hK : ∀ a w, wpList P l.toArray (Post B (stepJ J L i Q)) [] a w → (∀ m j, (if m = i then true else L m) = true → depB l.toArray m j = true → (if j = i then true else L j) = true) ∧ ∃ s S rho A, J (fun j => if j = i then true else L j) s ∧ Rel B S rho A s a w :=
      fun a w ⟨S, rho, A, s, hJ, hr⟩ => ⟨hcl', s, S, rho, A, hJ, hr⟩
    have hQ : ∀ e a w, e ≠ Exit.normal → Post B (stepJ J L i Q) e a w → Post B Q e a w := by
      intro e a w hne hp
      cases e <;> first | exact absurd rfl hne | exact hp
    unfold wpOp
    rw [ho]
    simp only [wpList] at h ⊢
    split
    · rename_i hw
      rw [if_pos hw] at h
      rcases h with h | ⟨h1, a2, w2, h2⟩
      · exact .inl (Oper.wp_mono hK (wp_monoQ hQ h))
      · exact .inr ⟨h1, a2, w2, hQ _ _ _ (by simp) h2⟩
    · rename_i hw
      rw [if_neg hw] at h
      exact hK _ _ h
  · rintro L a w hL ⟨_, s, S, rho, A, hJ, hr⟩
    exact ⟨S, rho, A, s, hend L s (fun i hi => hL i (by simpa using hi)) hJ, hr⟩
  · unfold unl
    refine Nat.le_trans (List.length_filter_le _ _) (by simp)
  · have hf : (fun j => (Array.replicate l.toArray.size false).getD j false) = fun _ => false := by
      funext j
      rw [Array.getD_eq_getD_getElem?, Array.getElem?_replicate]
      split <;> rfl
    rw [hf]
    have g := Grow.drawn w (w.drawn + 1)
    exact ⟨(fun m j h => by cases h), s, S, rho, A, h0, ⟨fun t => (hr.slots t).mono (fun b hb => ⟨hb, rfl⟩) (fun id h => ⟨h, rfl, fun _ => g.szAt⟩), hr.mem.grow g, hr.alt, hr.nt, hr.defs⟩⟩
theorem SC.inv (J : (Nat → Bool) → SS → Prop) {id : Nat} {l : List Oper} {cs : List Code} {s : SS} {Q : Exit → SS → Prop} (hm : P.follows .mixedOrders = true) (hord : ordN l = true) (h0 : J (fun _ => false) s)
    (hstep : ∀ L s i o, (∀ m j, L m = true → depB l.toArray m j = true → L j = true) → J L s → l[i]? = some o → L i = false → (∀ m, depB l.toArray i m = true → L m = true) → SO P B l.toArray [o] [] (stepJ J L i (thenQ (SC P B cs Q) Q)) s)
    (hend : ∀ L s, (∀ i, i < l.length → L i = true) → J L s → SC P B cs Q s) : SC P B (.region id l.toArray true :: cs) Q s := by
  refine region_inv (J := J) hm hord h0 (fun L s i o hcl hJ ho hi hd => ?_) (fun L s hL hJ => hend L s hL hJ)
  have h := hstep L s i o hcl hJ ho hi hd
  have e : thenQ (SC P B [] (stepJ J L i (thenQ (SC P B cs Q) Q))) (stepJ J L i (thenQ (SC P B cs Q) Q)) = stepJ J L i (thenQ (SC P B cs Q) Q) := by
    funext e s
    cases e <;> rfl
  unfold SO at h
  rw [e] at h
  exact h
end Go.Proofs.Ytfhcmibgpddggaa
namespace Go.Proofs.Ytfhcmibgpddggaa
open Go.RowKit
set_option maxHeartbeats 8000000 in
set_option maxRecDepth 8000 in
theorem rident_q (n n0 : Nat) (hn : n ≤ 1000000) : InlQ Try.prog 17 [.sc (.int .i64 n)] [] n0 (MatQ n (idL n) n0) := by
  have c0 := rnew_s n n (n0 + 1) hn hn
  have c1 := of_i 1 (by omega) (by omega)
  have hil : (idL n).length = n := mkM_len
  unfold iv sv at c1
  refine InlQ.run Try.func17 rfl Try.ntmps17 (by simp) (by simp (disch := omega) only [go_sem]; rfl) fun B hB => ?_
  (repeat (first | refine DO.nilF (fun i => i + 1 - nx) (by simp (disch := omega) only [go_sem, ↓reduceIte, zn1, zn2, zn3, zn4, zn5, zn6, reduceCtorEq, zn7, zi1, zi2, if_pos, if_neg, List.map_cons, List.map_nil, Option.map_some, Option.map_none, Nat.add_sub_cancel_left, Nat.sub_eq_zero_of_le, Nat.add_assoc, zn4] <;> rfl) (by kernel_rfl) ?_ | (with_reducible first | apply oz1 | apply oz2 | apply oz3 | apply oz4 | apply oz5 | apply oz6 | apply oz7 | apply oz8 | apply oz9 | apply ozb | apply ozc | apply oze | apply ozf | apply ozg | apply ozh | apply ozi | apply ozj | apply ozk | refine ozd (by decide) ?_) | ((first | apply SO.call | apply DO.call); (iterate 3 (focus (simp (disch := omega) only [go_sem, ↓reduceIte, zn1] <;> rfl))); (first | apply SCall.ofX | apply DCall.ofX); (focus (first | assumption)); (focus (simp (disch := omega) only [go_sem, ↓reduceIte, zn1, zn2, zn3, zn4, zn5, zn6, reduceCtorEq, zn7, zi1, zi2, if_pos, if_neg] <;> rfl))) | ((with_reducible first | apply SC.condB | apply SC.region | apply SO.run | apply DO.run); (focus (simp (disch := omega) only [go_sem, ↓reduceIte, reduceCtorEq] <;> rfl)); (first | refine pickT ?_ | refine pickF ?_ | fail_if_success with_reducible refine pickA ?_)) | ((with_reducible refine SC.draw Tab.mixed ?_ ?_); (focus (first | rfl | simp (disch := omega) only [go_sem, ↓reduceIte, zn1, zn2, zn3, zn4, zn5, zn6, reduceCtorEq, zn7, zi1, zi2, if_pos, if_neg]))) | (with_reducible apply SC.ops)))
  refine SO.inlQ (by simp (disch := omega) only [go_sem] <;> rfl) Tab.go42 (by simp (disch := omega) only [go_sem, ↓reduceIte, zn1] <;> rfl) (by simp (disch := omega) only [go_sem] <;> rfl) (SInlQ.newR c0 ?_ ?_ ?_)
  · exact klc (by omega) kln
  · exact fun x hp' nx' h => matQ_new h
  rintro x hp' nx ⟨o, ids, hR, rfl, rfl⟩
  have ho := hR.o1
  have hn0 : n0 + 1 - nx = 0 := by omega
  have ho0 : o + 1 - nx = 0 := by omega
  rw [zeroL_len] at hR ⊢
  rw [mkM_zero]
  (repeat (first | refine DO.nilF (fun i => i + 1 - nx) (by simp (disch := omega) only [go_sem, ↓reduceIte, zn1, zn2, zn3, zn4, zn5, zn6, reduceCtorEq, zn7, zi1, zi2, if_pos, if_neg, List.map_cons, List.map_nil, Option.map_some, Option.map_none, Nat.add_sub_cancel_left, Nat.sub_eq_zero_of_le, Nat.add_assoc, zn4] <;> rfl) (by kernel_rfl) ?_ | (with_reducible first | apply oz1 | apply oz2 | apply oz3 | apply oz4 | apply oz5 | apply oz6 | apply oz7 | apply oz8 | apply oz9 | apply ozb | apply ozc | apply oze | apply ozf | apply ozg | apply ozh | apply ozi | apply ozj | apply ozk | refine ozd (by decide) ?_) | ((first | apply SO.call | apply DO.call); (iterate 3 (focus (simp (disch := omega) only [go_sem, ↓reduceIte, zn1, zn2, zn3, zn4, zn5, zn6, reduceCtorEq, zn7, zi1, zi2, if_pos, if_neg] <;> rfl))); (first | apply SCall.ofX | apply DCall.ofX); (focus (first | assumption)); (focus (simp (disch := omega) only [go_sem, ↓reduceIte, zn1, zn2, zn3, zn4, zn5, zn6, reduceCtorEq, zn7, zi1, zi2, if_pos, if_neg] <;> rfl))) | ((with_reducible first | apply SC.condB | apply SC.region | apply SO.run | apply DO.run); (focus (simp (disch := omega) only [go_sem, ↓reduceIte, zn1, zn3, zn4] <;> rfl)); (first | refine pickT ?_ | refine pickF ?_ | fail_if_success with_reducible refine pickA ?_)) | ((with_reducible refine SC.draw Tab.mixed ?_ ?_); (focus (first | rfl | simp (disch := omega) only [go_sem, ↓reduceIte, zn1, zn2, zn3, zn4, zn5, zn6, reduceCtorEq, zn7, zi1, zi2, if_pos, if_neg]))) | (with_reducible apply SC.ops)))
  have e0 : mkM n n (fun _ _ => 0) = mkM n n (fun r c => if r = c ∧ r < 0 then 1 else 0) := mkM_congr fun r c _ _ => by rw [if_neg (by omega)]
  rw [e0]
  refine SC.loop (fun i : Nat => ⟨[(0, .sc (.int .i64 n)), (2, .pt n0 0), (3, .pt nx 0), (4, .sc (.int .i64 i))], (nx, ⟨29, [.sc (.int .i64 n), .sc (.int .i64 n), .sl o 0 n 1 none], false⟩) :: (n0, ⟨29, [.sc (.int .i64 0), .sc (.int .i64 0), .sc (.slice none 0 0)], false⟩) :: (o, ⟨72, slR 2 n ids, false⟩) :: rowsH 54 ids (rI (mkM n n (fun r c => if r = c ∧ r < i then 1 else 0))), nx + 1, 22⟩)
    (fun i => i ≤ n) (fun i => n - i) 0 ?_ ?_ ?_
  · (refine Le.slots ?_ ?_ ?_ <;> (repeat' (first | (exact fun _ _ h => h) | exact Nat.le_refl _ | exact leSl_nil | refine leSl_cons (by simp (disch := omega) only [go_sem, ↓reduceIte, zn1, reduceCtorEq] <;> rfl) ?_ ?_ | exact VLe.junk _ | exact VLe.refl rfl | exact VLe.nil_sl _ _ _ | exact VLe.int (by first | rfl | omega | (dsimp only; omega)) | exact VLe.bool rfl | exact VLe.sl rfl (by first | rfl | omega) | exact VLe.cap rfl (by first | rfl | omega) | exact VLe.im rfl rfl | omega | (refine fun id k h => ?_; simp only [hget] at h ⊢; (repeat' (split at h)) <;> first | (cases h; done) | (simp (disch := omega) only [if_pos, if_neg]; exact h)))))
  · exact Nat.zero_le _
  · intro i hi K hK
    have hidl := hR.len
    have g1 := slR_len 2 n ids
    rw [hidl] at g1
    by_cases hc : i < n
    · have q1 := decide_eq_true (p := (i : Int) < (n : Int)) (by omega)
      have gi := slR_get (z := 2) (m := n) (ids := ids) (k := i) (by omega)
      obtain ⟨gR, gl, gd, gs, hrs⟩ := cellF (ty := 54) (f := fun r c => if r = c ∧ r < i then (1 : Int) else 0) (z := 1) (j := i) hR.nod hidl hc hc
      have e1 : mkM n n (fun r c => if r = i ∧ c = i then (1 : Int) else if r = c ∧ r < i then 1 else 0) = mkM n n (fun r c => if r = c ∧ r < i + 1 then 1 else 0) := mkM_congr fun r c _ _ => by
        by_cases e : r = i ∧ c = i
        · rw [if_pos e, if_pos (by omega)]
        · rw [if_neg e]
          by_cases e2 : r = c ∧ r < i
          · rw [if_pos e2, if_pos (by omega)]
          · rw [if_neg e2, if_neg (by omega)]
      rw [e1] at hrs
      have hkl := klB_rows (ty := 54) (rs := rI (mkM n n fun r c => if r = c ∧ r < i then (1 : Int) else 0)) (n := nx + 1) (fun j hj => by have := hR.lt j hj; omega)
      have hmem := getD_mem' (ids := ids) (k := i) (by omega)
      have hidk := hR.lt _ hmem
      have hne : ids.getD i 0 ≠ o := fun e => hR.o2 (by rw [← e]; exact hmem)
      generalize hH : rowsH 54 ids (rI (mkM n n fun r c => if r = c ∧ r < i then (1 : Int) else 0)) = H at *
      generalize mkR n (fun c => if i = c ∧ i < i then (1 : Int) else 0) = row at *
      generalize ids.getD i 0 = idk at *
      unfold ivC sv at gs
      have g2 : i * 2 < (ivR row).length := by omega
      (repeat (first | refine DO.nilF (fun i => i + 1 - nx) (by simp (disch := omega) only [go_sem, List.map_cons, List.map_nil, Option.map_some, Option.map_none, Nat.add_sub_cancel_left, Nat.sub_eq_zero_of_le] <;> rfl) (by kernel_rfl) ?_ | (with_reducible first | apply oz1 | apply oz2 | apply oz3 | apply oz4 | apply oz5 | apply oz6 | apply oz7 | apply oz8 | apply oz9 | apply ozb | apply ozc | apply oze | apply ozf | apply ozg | apply ozh | apply ozi | apply ozj | apply ozk | refine ozd (by decide) ?_) | ((first | apply SO.call | apply DO.call); (iterate 3 (focus (simp (disch := omega) only [go_sem] <;> rfl))); (first | apply SCall.ofX | apply DCall.ofX); (focus (first | assumption)); (focus (simp (disch := omega) only [go_sem] <;> rfl))) | ((with_reducible first | apply SC.condB | apply SC.region | apply SO.run | apply DO.run); (focus (simp (disch := omega) only [go_sem, ↓reduceIte, zn1, zn4, reduceCtorEq, if_pos, if_neg, q1, gi, gR, gl, gs, hrs] <;> rfl)); (first | refine pickT ?_ | refine pickF ?_ | fail_if_success with_reducible refine pickA ?_)) | ((with_reducible refine SC.draw Tab.mixed ?_ ?_); (focus (first | rfl | simp (disch := omega) only [go_sem, ↓reduceIte, if_pos, hkl]))) | (with_reducible apply SC.ops)))
      refine hK _ (i + 1) ?_ (by omega) (by omega)
      (refine Le.slots ?_ ?_ ?_ <;> (repeat' (first | (exact fun _ _ h => h) | exact Nat.le_refl _ | exact leSl_nil | refine leSl_cons (by simp (disch := omega) only [go_sem, ↓reduceIte, zn1, reduceCtorEq] <;> rfl) ?_ ?_ | exact VLe.junk _ | exact VLe.refl rfl | exact VLe.nil_sl _ _ _ | exact VLe.int (by first | rfl | omega | (dsimp only; omega)) | exact VLe.bool rfl | exact VLe.sl rfl (by first | rfl | omega) | exact VLe.cap rfl (by first | rfl | omega) | exact VLe.im rfl rfl | omega | (refine fun id k h => ?_; simp only [hget] at h ⊢; (repeat' (split at h)) <;> first | (cases h; done) | (simp (disch := omega) only [if_pos, if_neg]; exact h)))))
    · have q1 := decide_eq_false (p := (i : Int) < (n : Int)) (by omega)
      have hin : i = n := by omega
      subst hin
      have e1 : mkM i i (fun r c => if r = c ∧ r < i then (1 : Int) else 0) = idL i := mkM_congr fun r c hr _ => by
        by_cases e : r = c
        · rw [if_pos ⟨e, hr⟩, if_pos e]
        · rw [if_neg (fun h => e h.1), if_neg e]
      rw [e1]
      (repeat (first | refine DO.nilF (fun i => i + 1 - nx) (by simp (disch := omega) only [go_sem, ↓reduceIte, zn1, zn2, zn3, zn4, zn5, zn6, reduceCtorEq, zn7, zi1, zi2, if_pos, if_neg, List.map_cons, List.map_nil, Option.map_some, Option.map_none, Nat.add_sub_cancel_left, Nat.sub_eq_zero_of_le, Nat.add_assoc, zn4] <;> rfl) (by kernel_rfl) ?_ | (with_reducible first | apply oz1 | apply oz2 | apply oz3 | apply oz4 | apply oz5 | apply oz6 | apply oz7 | apply oz8 | apply oz9 | apply ozb | apply ozc | apply oze | apply ozf | apply ozg | apply ozh | apply ozi | apply ozj | apply ozk | refine ozd (by decide) ?_) | ((first | apply SO.call | apply DO.call); (iterate 3 (focus (simp (disch := omega) only [go_sem, ↓reduceIte, zn1, zn2, zn3, zn4, zn5, zn6, reduceCtorEq, zn7, zi1, zi2, if_pos, if_neg, q1] <;> rfl))); (first | apply SCall.ofX | apply DCall.ofX); (focus (first | assumption)); (focus (simp (disch := omega) only [go_sem, ↓reduceIte, zn1, zn2, zn3, zn4, zn5, zn6, reduceCtorEq, zn7, zi1, zi2, if_pos, if_neg, q1] <;> rfl))) | ((with_reducible first | apply SC.condB | apply SC.region | apply SO.run | apply DO.run); (focus (simp (disch := omega) only [go_sem, ↓reduceIte, zn1, zn2, zn3, zn4, reduceCtorEq, if_neg, q1] <;> rfl)); (first | refine pickT ?_ | refine pickF ?_ | fail_if_success with_reducible refine pickA ?_)) | ((with_reducible refine SC.draw Tab.mixed ?_ ?_); (focus (first | rfl | simp (disch := omega) only [go_sem, ↓reduceIte, zn1, zn2, zn3, zn4, zn5, zn6, reduceCtorEq, zn7, zi1, zi2, if_pos, if_neg, q1]))) | (with_reducible apply SC.ops)))
      refine retIQ_ret (.ag [.sc (.int .i64 i), .sc (.int .i64 i), .sl o 0 i 1 none]) ((o, ⟨72, slR 2 i ids, false⟩) :: rowsH 54 ids (rI (idL i))) nx Try.results17 (by simp (disch := omega) only [go_sem, ↓reduceIte, zn1, zn3, zn4, reduceCtorEq, if_neg]; rfl) ⟨o, ids, ?_, by rw [hil], rfl⟩ ?_
      · rw [hil]; exact ⟨hR.len, hR.nod, fun j hj => by have := hR.lt j hj; omega, by omega, hR.o2⟩
      refine Le.rowsDown [] pre0 ⟨n0, hB, by omega⟩ (by omega) (fun j hj => (hR.lt j hj).2) (rI_clo _) (less_new (less_new (fun id k hk => hk) (fun id k hk => ?_)) (fun id k hk => ?_)) ?_
      · rcases inR_rows (fun i hi => hi) id k hk with e | e
        · omega
        · have := hR.lt _ e; omega
      · rcases inR_rows (fun i hi => hi) id k hk with e | e
        · omega
        · have := hR.lt _ e; omega
      · refine mapSl_cons (x := .ag [.sc (.int .i64 i), .sc (.int .i64 i), .sl o 0 i 1 none]) (by simp (disch := omega) only [go_sem, ↓reduceIte]) (VMap.ag rfl fun j x y hx hy => ?_) trivial
        match j, hx, hy with
        | 0, hx, hy => cases hx; cases hy; exact VMap.sc _
        | 1, hx, hy => cases hx; cases hy; exact VMap.sc _
        | 2, hx, hy => cases hx; cases hy; exact VMap.cap rfl (by omega)
end Go.Proofs.Ytfhcmibgpddggaa
namespace Go.Proofs.Ytfhcmibgpddggaa
open Go.RowKit
def Sf (A : List (List Int)) (k : Int) (i j r c : Nat) : Int := if r < i ∨ (r = i ∧ c < j) then ent2 A r c * k else 0
def scaleM (h w : Nat) (A : List (List Int)) (k : Int) : List (List Int) := mkM h w fun r c => ent2 A r c * k
theorem scaleM_one {h w K : Nat} {A : List (List Int)} (hA : MI h w K A) : scaleM h w A 1 = A := by
  rw [← mkM_of hA]
  unfold scaleM
  refine mkM_congr fun r c _ _ => ?_
  rw [Int.mul_one, mkM_of hA]; rfl
set_option maxHeartbeats 16000000 in
set_option maxRecDepth 8000 in
theorem rscale_q {h w K : Nat} {A : List (List Int)} {k : Int} (n0 : Nat) (hA : MI h w K A) (hk : Fits K k) (hK : K ≤ 1000000) (hn : h ≤ 1000000) (hw : w ≤ 1000000) :
    InlQ Try.prog 94 [mat w A, iv k] [] n0 (MatQ w (scaleM h w A k) n0) := by
  have c0 := rnew_s h w (n0 + 3) hn hw
  have hAl := hA.len
  have hml : (scaleM h w A k).length = h := mkM_len
  have gA := imI_len w A
  unfold mat iv sv
  rw [hAl] at gA ⊢
  refine InlQ.run Try.func94 rfl Try.ntmps94 (by simp) (by simp (disch := omega) only [go_sem, zn4]; rfl) fun B hB => ?_
  (repeat (first | refine DO.nilF (fun i => i + 1 - nx) (by simp (disch := omega) only [go_sem, ↓reduceIte, zn1, zn2, zn3, zn4, zn5, zn6, reduceCtorEq, zn7, zi1, zi2, if_pos, if_neg, List.map_cons, List.map_nil, Option.map_some, Option.map_none, Nat.add_sub_cancel_left, Nat.sub_eq_zero_of_le, Nat.add_assoc, zn4] <;> rfl) (by kernel_rfl) ?_ | (with_reducible first | apply oz1 | apply oz2 | apply oz3 | apply oz4 | apply oz5 | apply oz6 | apply oz7 | apply oz8 | apply oz9 | apply ozb | apply ozc | apply oze | apply ozf | apply ozg | apply ozh | apply ozi | apply ozj | apply ozk | refine ozd (by decide) ?_) | ((first | apply SO.call | apply DO.call); (iterate 3 (focus (simp (disch := omega) only [go_sem, ↓reduceIte, zn1] <;> rfl))); (first | apply SCall.ofX | apply DCall.ofX); (focus (first | assumption)); (focus (simp (disch := omega) only [go_sem, ↓reduceIte, zn1, zn2, zn3, zn4, zn5, zn6, reduceCtorEq, zn7, zi1, zi2, if_pos, if_neg] <;> rfl))) | ((with_reducible first | apply SC.condB | apply SC.region | apply SO.run | apply DO.run); (focus (simp (disch := omega) only [go_sem, ↓reduceIte, zn1, reduceCtorEq, if_neg] <;> rfl)); (first | refine pickT ?_ | refine pickF ?_ | fail_if_success with_reducible refine pickA ?_)) | ((with_reducible refine SC.draw Tab.mixed ?_ ?_); (focus (first | rfl | simp (disch := omega) only [go_sem, ↓reduceIte, zn1, zn2, zn3, zn4, zn5, zn6, reduceCtorEq, zn7, zi1, zi2, if_pos, if_neg]))) | (with_reducible apply SC.ops)))
  refine SO.inlQ (by simp (disch := omega) only [go_sem] <;> rfl) Tab.go42 (by simp (disch := omega) only [go_sem, ↓reduceIte, zn1] <;> rfl) (by simp (disch := omega) only [go_sem] <;> rfl) (SInlQ.newR c0 ?_ ?_ ?_)
  · exact klc (by omega) (klc (by omega) (klc (by omega) kln))
  · exact fun x hp' nx' h => matQ_new h
  rintro x hp' nx ⟨o, ids, hR, rfl, rfl⟩
  have ho := hR.o1
  have hn0 : n0 + 1 - nx = 0 := by omega
  have hn1 : n0 + 1 + 1 - nx = 0 := by omega
  have hn2 : n0 + 1 + 1 + 1 - nx = 0 := by omega
  have ho0 : o + 1 - nx = 0 := by omega
  rw [zeroL_len] at hR ⊢
  have e0 : zeroL h w = mkM h w (Sf A k 0 0) := by
    rw [mkM_zero]
    exact mkM_congr fun r c _ _ => by unfold Sf; rw [if_neg (by omega)]
  rw [e0]
  have hidl := hR.len
  have g1 := slR_len 2 w ids
  rw [hidl] at g1
  (repeat (first | refine DO.nilF (fun i => i + 1 - nx) (by simp (disch := omega) only [go_sem, ↓reduceIte, zn1, zn2, zn3, zn4, zn5, zn6, reduceCtorEq, zn7, zi1, zi2, if_pos, if_neg, List.map_cons, List.map_nil, Option.map_some, Option.map_none, Nat.add_sub_cancel_left, Nat.sub_eq_zero_of_le, Nat.add_assoc, zn4] <;> rfl) (by kernel_rfl) ?_ | (with_reducible first | apply oz1 | apply oz2 | apply oz3 | apply oz4 | apply oz5 | apply oz6 | apply oz7 | apply oz8 | apply oz9 | apply ozb | apply ozc | apply oze | apply ozf | apply ozg | apply ozh | apply ozi | apply ozj | apply ozk | refine ozd (by decide) ?_) | ((first | apply SO.call | apply DO.call); (iterate 3 (focus (simp (disch := omega) only [go_sem, ↓reduceIte, zn1, zn2, zn3, zn4, zn5, zn6, reduceCtorEq, zn7, zi1, zi2, if_pos, if_neg] <;> rfl))); (first | apply SCall.ofX | apply DCall.ofX); (focus (first | assumption)); (focus (simp (disch := omega) only [go_sem, ↓reduceIte, zn1, zn2, zn3, zn4, zn5, zn6, reduceCtorEq, zn7, zi1, zi2, if_pos, if_neg] <;> rfl))) | ((with_reducible first | apply SC.condB | apply SC.region | apply SO.run | apply DO.run); (focus (simp (disch := omega) only [go_sem, ↓reduceIte, zn1, zn3, zn4] <;> rfl)); (first | refine pickT ?_ | refine pickF ?_ | fail_if_success with_reducible refine pickA ?_)) | ((with_reducible refine SC.draw Tab.mixed ?_ ?_); (focus (first | rfl | simp (disch := omega) only [go_sem, ↓reduceIte, zn1, zn2, zn3, zn4, zn5, zn6, reduceCtorEq, zn7, zi1, zi2, if_pos, if_neg]))) | (with_reducible apply SC.ops)))
  refine SC.loop (fun i : Nat => ⟨[(2, .pt n0 0), (3, .pt (n0 + 1) 0), (4, .pt (n0 + 1 + 1) 0), (5, .pt nx 0), (6, .sc (.int .i64 i))], (nx, ⟨29, [.sc (.int .i64 h), .sc (.int .i64 w), .sl o 0 h 1 none], false⟩) :: (n0 + 1 + 1, ⟨29, [.sc (.int .i64 0), .sc (.int .i64 0), .sc (.slice none 0 0)], false⟩) :: (n0 + 1, ⟨54, [.sc (.bool (decide (k < 0))), .im (lv (limbsOf k.natAbs)) (limbsOf k.natAbs).length], false⟩) :: (n0, ⟨29, [.sc (.int .i64 h), .sc (.int .i64 w), .im (imR w (rI A)) h], false⟩) :: (o, ⟨72, slR 2 w ids, false⟩) :: rowsH 54 ids (rI (mkM h w (Sf A k i 0))), nx + 1, 43⟩)
    (fun i => i ≤ h) (fun i => h - i) 0 ?_ ?_ ?_
  · (refine Le.slots ?_ ?_ ?_ <;> (repeat' (first | (exact fun _ _ h => h) | exact Nat.le_refl _ | exact leSl_nil | refine leSl_cons (by simp (disch := omega) only [go_sem, ↓reduceIte, zn1] <;> rfl) ?_ ?_ | exact VLe.junk _ | exact VLe.refl rfl | exact VLe.nil_sl _ _ _ | exact VLe.int (by first | rfl | omega | (dsimp only; omega)) | exact VLe.bool rfl | exact VLe.sl rfl (by first | rfl | omega) | exact VLe.cap rfl (by first | rfl | omega) | exact VLe.im rfl rfl | omega | (refine fun id k h => ?_; simp only [hget] at h ⊢; (repeat' (split at h)) <;> first | (cases h; done) | (simp (disch := omega) only [if_pos, if_neg]; exact h)))))
  · exact Nat.zero_le _
  · intro i hi K1 hK1
    by_cases hc : i < h
    · have q1 := decide_eq_true (p := (i : Int) < (h : Int)) (by omega)
      (repeat (first | refine DO.nilF (fun i => i + 1 - nx) (by simp (disch := omega) only [go_sem, ↓reduceIte, zn1, zn2, zn3, zn4, zn5, zn6, reduceCtorEq, zn7, zi1, zi2, if_pos, if_neg, List.map_cons, List.map_nil, Option.map_some, Option.map_none, Nat.add_sub_cancel_left, Nat.sub_eq_zero_of_le, Nat.add_assoc, zn4] <;> rfl) (by kernel_rfl) ?_ | (with_reducible first | apply oz1 | apply oz2 | apply oz3 | apply oz4 | apply oz5 | apply oz6 | apply oz7 | apply oz8 | apply oz9 | apply ozb | apply ozc | apply oze | apply ozf | apply ozg | apply ozh | apply ozi | apply ozj | apply ozk | refine ozd (by decide) ?_) | ((first | apply SO.call | apply DO.call); (iterate 3 (focus (simp (disch := omega) only [go_sem, ↓reduceIte, zn1, zn2, zn3, zn4, zn5, zn6, reduceCtorEq, zn7, zi1, zi2, if_pos, if_neg, q1] <;> rfl))); (first | apply SCall.ofX | apply DCall.ofX); (focus (first | assumption)); (focus (simp (disch := omega) only [go_sem, ↓reduceIte, zn1, zn2, zn3, zn4, zn5, zn6, reduceCtorEq, zn7, zi1, zi2, if_pos, if_neg, q1] <;> rfl))) | ((with_reducible first | apply SC.condB | apply SC.region | apply SO.run | apply DO.run); (focus (simp (disch := omega) only [go_sem, ↓reduceIte, zn1, reduceCtorEq, if_neg, q1] <;> rfl)); (first | refine pickT ?_ | refine pickF ?_ | fail_if_success with_reducible refine pickA ?_)) | ((with_reducible refine SC.draw Tab.mixed ?_ ?_); (focus (first | rfl | simp (disch := omega) only [go_sem, ↓reduceIte, zn1, zn2, zn3, zn4, zn5, zn6, reduceCtorEq, zn7, zi1, zi2, if_pos, if_neg, q1]))) | (with_reducible apply SC.ops)))
      refine SC.loop (fun j : Nat => ⟨[(2, .pt n0 0), (3, .pt (n0 + 1) 0), (4, .pt (n0 + 1 + 1) 0), (5, .pt nx 0), (6, .sc (.int .i64 i)), (7, .sc (.int .i64 j))], (nx, ⟨29, [.sc (.int .i64 h), .sc (.int .i64 w), .sl o 0 h 1 none], false⟩) :: (n0 + 1 + 1, ⟨29, [.sc (.int .i64 0), .sc (.int .i64 0), .sc (.slice none 0 0)], false⟩) :: (n0 + 1, ⟨54, [.sc (.bool (decide (k < 0))), .im (lv (limbsOf k.natAbs)) (limbsOf k.natAbs).length], false⟩) :: (n0, ⟨29, [.sc (.int .i64 h), .sc (.int .i64 w), .im (imR w (rI A)) h], false⟩) :: (o, ⟨72, slR 2 w ids, false⟩) :: rowsH 54 ids (rI (mkM h w (Sf A k i j))), nx + 1, 43⟩)
        (fun j => j ≤ w) (fun j => w - j) 0 ?_ ?_ ?_
      · (refine Le.slots ?_ ?_ ?_ <;> (repeat' (first | (exact fun _ _ h => h) | exact Nat.le_refl _ | exact leSl_nil | refine leSl_cons (by simp (disch := omega) only [go_sem, ↓reduceIte, zn1] <;> rfl) ?_ ?_ | exact VLe.junk _ | exact VLe.refl rfl | exact VLe.nil_sl _ _ _ | exact VLe.int (by first | rfl | omega | (dsimp only; omega)) | exact VLe.bool rfl | exact VLe.sl rfl (by first | rfl | omega) | exact VLe.cap rfl (by first | rfl | omega) | exact VLe.im rfl rfl | omega | (refine fun id k h => ?_; simp only [hget] at h ⊢; (repeat' (split at h)) <;> first | (cases h; done) | (simp (disch := omega) only [if_pos, if_neg]; exact h)))))
      · exact Nat.zero_le _
      · intro j hj K2 hK2
        by_cases hc2 : j < w
        · have q2 := decide_eq_true (p := (j : Int) < (w : Int)) (by omega)
          have gi := slR_get (z := 2) (m := w) (ids := ids) (k := i) (by omega)
          have hfx := hA.fit hc hc2
          obtain ⟨gR, gl, gd, gs, hrs⟩ := cellF (ty := 54) (f := Sf A k i j) (z := ent2 A i j * k) (j := j) hR.nod hidl hc hc2
          have e1 : (mkM h w fun r c => if r = i ∧ c = j then ent2 A i j * k else Sf A k i j r c) = mkM h w (Sf A k i (j + 1)) := mkM_congr fun r c _ _ => by
            unfold Sf
            by_cases e : r = i ∧ c = j
            · obtain ⟨rfl, rfl⟩ := e
              rw [if_pos ⟨rfl, rfl⟩, if_pos (by omega)]
            · rw [if_neg e]
              by_cases e2 : r < i ∨ (r = i ∧ c < j)
              · rw [if_pos e2, if_pos (by omega)]
              · rw [if_neg e2, if_neg (by omega)]
          rw [e1] at hrs
          have gAi := imI_get (w := w) (M := A) (i := i) (by omega)
          have hAi := hA.get hc
          have gdA := ivR_drop (l := A.getD i []) (i := j) (by omega)
          have glA := ivR_len (A.getD i [])
          have hx : (A.getD i []).getD j 0 = ent2 A i j := rfl
          rw [hx] at gdA hfx
          rw [hAi.1] at glA
          have c1 := mul_i (ent2 A i j) k K hfx hk (by omega)
          have hkl := klB_rows (ty := 54) (rs := rI (mkM h w (Sf A k i j))) (n := nx + 1) (fun j hj => by have := hR.lt j hj; omega)
          have hmem := getD_mem' (ids := ids) (k := i) (by omega)
          have hidk := hR.lt _ hmem
          have hne : ids.getD i 0 ≠ o := fun e => hR.o2 (by rw [← e]; exact hmem)
          clear hfx e1 hx
          generalize hH : rowsH 54 ids (rI (mkM h w (Sf A k i j))) = H at *
          generalize mkR w (Sf A k i j i) = row at *
          generalize ids.getD i 0 = idk at *
          generalize ent2 A i j = x at *
          generalize (ivR row).drop ((j + 1) * 2) = D1 at *
          generalize (ivR (A.getD i [])).drop ((j + 1) * 2) = D2 at *
          generalize ivR (A.getD i []) = RA at *
          generalize hRr : ivR row = RR at *
          unfold iv sv at c1
          unfold ivC sv at gs gd gdA
          simp only [List.cons_append, List.nil_append] at gd gdA
          have g2 : j * 2 < RR.length := by omega
          have g4 : j * 2 < RA.length := by omega
          (repeat (first | refine DO.nilF (fun i => i + 1 - nx) (by simp (disch := omega) only [go_sem, zn4, List.map_cons, List.map_nil, Option.map_some, Option.map_none, Nat.add_sub_cancel_left, Nat.sub_eq_zero_of_le, Nat.add_assoc, zn4] <;> rfl) (by kernel_rfl) ?_ | (with_reducible first | apply oz1 | apply oz2 | apply oz3 | apply oz4 | apply oz5 | apply oz6 | apply oz7 | apply oz8 | apply oz9 | apply ozb | apply ozc | apply oze | apply ozf | apply ozg | apply ozh | apply ozi | apply ozj | apply ozk | refine ozd (by decide) ?_) | ((first | apply SO.call | apply DO.call); (iterate 3 (focus (simp (disch := omega) only [go_sem, ↓reduceIte, zn1] <;> rfl))); (first | apply SCall.ofX | apply DCall.ofX); (focus (first | assumption)); (focus (simp (disch := omega) only [go_sem] <;> rfl))) | ((with_reducible first | apply SC.condB | apply SC.region | apply SO.run | apply DO.run); (focus (simp (disch := omega) only [go_sem, ↓reduceIte, zn1, zn3, zn4, reduceCtorEq, if_pos, if_neg, q2, gi, gR, gl, gs, hrs, glA, gAi, gdA, gA, List.getElem?_drop] <;> rfl)); (first | refine pickT ?_ | refine pickF ?_ | fail_if_success with_reducible refine pickA ?_)) | ((with_reducible refine SC.draw Tab.mixed ?_ ?_); (focus (first | rfl | simp (disch := omega) only [go_sem, ↓reduceIte, if_pos, hkl]))) | (with_reducible apply SC.ops)))
          refine hK2 _ (j + 1) ?_ (by omega) (by omega)
          (refine Le.slots ?_ ?_ ?_ <;> (repeat' (first | (exact fun _ _ h => h) | exact Nat.le_refl _ | exact leSl_nil | refine leSl_cons (by simp (disch := omega) only [go_sem, ↓reduceIte, zn1] <;> rfl) ?_ ?_ | exact VLe.junk _ | exact VLe.refl rfl | exact VLe.nil_sl _ _ _ | exact VLe.int (by first | rfl | omega | (dsimp only; omega)) | exact VLe.bool rfl | exact VLe.sl rfl (by first | rfl | omega) | exact VLe.cap rfl (by first | rfl | omega) | exact VLe.im rfl rfl | omega | (refine fun id k h => ?_; simp only [hget] at h ⊢; (repeat' (split at h)) <;> first | (cases h; done) | (simp (disch := omega) only [if_pos, if_neg]; exact h)))))
        · have q2 := decide_eq_false (p := (j : Int) < (w : Int)) (by omega)
          have hjw : j = w := by omega
          subst hjw
          (repeat (first | refine DO.nilF (fun i => i + 1 - nx) (by simp (disch := omega) only [go_sem, ↓reduceIte, zn1, zn2, zn3, zn4, zn5, zn6, reduceCtorEq, zn7, zi1, zi2, if_pos, if_neg, List.map_cons, List.map_nil, Option.map_some, Option.map_none, Nat.add_sub_cancel_left, Nat.sub_eq_zero_of_le, Nat.add_assoc, zn4] <;> rfl) (by kernel_rfl) ?_ | (with_reducible first | apply oz1 | apply oz2 | apply oz3 | apply oz4 | apply oz5 | apply oz6 | apply oz7 | apply oz8 | apply oz9 | apply ozb | apply ozc | apply oze | apply ozf | apply ozg | apply ozh | apply ozi | apply ozj | apply ozk | refine ozd (by decide) ?_) | ((first | apply SO.call | apply DO.call); (iterate 3 (focus (simp (disch := omega) only [go_sem, ↓reduceIte, zn1, zn2, zn3, zn4, zn5, zn6, reduceCtorEq, zn7, zi1, zi2, if_pos, if_neg, q2] <;> rfl))); (first | apply SCall.ofX | apply DCall.ofX); (focus (first | assumption)); (focus (simp (disch := omega) only [go_sem, ↓reduceIte, zn1, zn2, zn3, zn4, zn5, zn6, reduceCtorEq, zn7, zi1, zi2, if_pos, if_neg, q2] <;> rfl))) | ((with_reducible first | apply SC.condB | apply SC.region | apply SO.run | apply DO.run); (focus (simp (disch := omega) only [go_sem, ↓reduceIte, zn1, reduceCtorEq, if_neg, q2] <;> rfl)); (first | refine pickT ?_ | refine pickF ?_ | fail_if_success with_reducible refine pickA ?_)) | ((with_reducible refine SC.draw Tab.mixed ?_ ?_); (focus (first | rfl | simp (disch := omega) only [go_sem, ↓reduceIte, zn1, zn2, zn3, zn4, zn5, zn6, reduceCtorEq, zn7, zi1, zi2, if_pos, if_neg, q2]))) | (with_reducible apply SC.ops)))
          refine hK1 _ (i + 1) ?_ (by omega) (by omega)
          have e1 : mkM h j (Sf A k i j) = mkM h j (Sf A k (i + 1) 0) := mkM_congr fun r c _ hcj => by
            unfold Sf
            by_cases e : r < i ∨ (r = i ∧ c < j)
            · rw [if_pos e, if_pos (by omega)]
            · rw [if_neg e, if_neg (by omega)]
          rw [e1]
          (refine Le.slots ?_ ?_ ?_ <;> (repeat' (first | (exact fun _ _ h => h) | exact Nat.le_refl _ | exact leSl_nil | refine leSl_cons (by simp (disch := omega) only [go_sem, ↓reduceIte, zn1] <;> rfl) ?_ ?_ | exact VLe.junk _ | exact VLe.refl rfl | exact VLe.nil_sl _ _ _ | exact VLe.int (by first | rfl | omega | (dsimp only; omega)) | exact VLe.bool rfl | exact VLe.sl rfl (by first | rfl | omega) | exact VLe.cap rfl (by first | rfl | omega) | exact VLe.im rfl rfl | omega | (refine fun id k h => ?_; simp only [hget] at h ⊢; (repeat' (split at h)) <;> first | (cases h; done) | (simp (disch := omega) only [if_pos, if_neg]; exact h)))))
    · have q1 := decide_eq_false (p := (i : Int) < (h : Int)) (by omega)
      have hih : i = h := by omega
      subst hih
      have e1 : mkM i w (Sf A k i 0) = scaleM i w A k := mkM_congr fun r c hr _ => by
        unfold Sf
        rw [if_pos (.inl hr)]
      rw [e1]
      (repeat (first | refine DO.nilF (fun i => i + 1 - nx) (by simp (disch := omega) only [go_sem, ↓reduceIte, zn1, zn2, zn3, zn4, zn5, zn6, reduceCtorEq, zn7, zi1, zi2, if_pos, if_neg, List.map_cons, List.map_nil, Option.map_some, Option.map_none, Nat.add_sub_cancel_left, Nat.sub_eq_zero_of_le, Nat.add_assoc, zn4] <;> rfl) (by kernel_rfl) ?_ | (with_reducible first | apply oz1 | apply oz2 | apply oz3 | apply oz4 | apply oz5 | apply oz6 | apply oz7 | apply oz8 | apply oz9 | apply ozb | apply ozc | apply oze | apply ozf | apply ozg | apply ozh | apply ozi | apply ozj | apply ozk | refine ozd (by decide) ?_) | ((first | apply SO.call | apply DO.call); (iterate 3 (focus (simp (disch := omega) only [go_sem, ↓reduceIte, zn1, zn2, zn3, zn4, zn5, zn6, reduceCtorEq, zn7, zi1, zi2, if_pos, if_neg, q1] <;> rfl))); (first | apply SCall.ofX | apply DCall.ofX); (focus (first | assumption)); (focus (simp (disch := omega) only [go_sem, ↓reduceIte, zn1, zn2, zn3, zn4, zn5, zn6, reduceCtorEq, zn7, zi1, zi2, if_pos, if_neg, q1] <;> rfl))) | ((with_reducible first | apply SC.condB | apply SC.region | apply SO.run | apply DO.run); (focus (simp (disch := omega) only [go_sem, ↓reduceIte, zn1, zn2, zn3, zn4, reduceCtorEq, if_neg, q1] <;> rfl)); (first | refine pickT ?_ | refine pickF ?_ | fail_if_success with_reducible refine pickA ?_)) | ((with_reducible refine SC.draw Tab.mixed ?_ ?_); (focus (first | rfl | simp (disch := omega) only [go_sem, ↓reduceIte, zn1, zn2, zn3, zn4, zn5, zn6, reduceCtorEq, zn7, zi1, zi2, if_pos, if_neg, q1]))) | (with_reducible apply SC.ops)))
      refine retIQ_ret (.ag [.sc (.int .i64 i), .sc (.int .i64 w), .sl o 0 i 1 none]) ((o, ⟨72, slR 2 w ids, false⟩) :: rowsH 54 ids (rI (scaleM i w A k))) nx Try.results94 (by simp (disch := omega) only [go_sem, ↓reduceIte, zn1, zn3, zn4, if_neg]; rfl) ⟨o, ids, ?_, by rw [hml], rfl⟩ ?_
      · rw [hml]; exact ⟨hR.len, hR.nod, fun j hj => by have := hR.lt j hj; omega, by omega, hR.o2⟩
      refine Le.rowsDown [] pre0 ⟨n0, hB, by omega⟩ (by omega) (fun j hj => (hR.lt j hj).2) (rI_clo _) (less_new (less_new (less_new (less_new (fun id k hk => hk) (fun id k hk => ?_)) (fun id k hk => ?_)) (fun id k hk => ?_)) (fun id k hk => ?_)) ?_
      · rcases inR_rows (fun i hi => hi) id k hk with e | e
        · omega
        · have := hR.lt _ e; omega
      · rcases inR_rows (fun i hi => hi) id k hk with e | e
        · omega
        · have := hR.lt _ e; omega
      · rcases inR_rows (fun i hi => hi) id k hk with e | e
        · omega
        · have := hR.lt _ e; omega
      · rcases inR_rows (fun i hi => hi) id k hk with e | e
        · omega
        · have := hR.lt _ e; omega
      · refine mapSl_cons (x := .ag [.sc (.int .i64 i), .sc (.int .i64 w), .sl o 0 i 1 none]) (by simp (disch := omega) only [go_sem, ↓reduceIte]) (VMap.ag rfl fun j x y hx hy => ?_) trivial
        match j, hx, hy with
        | 0, hx, hy => cases hx; cases hy; exact VMap.sc _
        | 1, hx, hy => cases hx; cases hy; exact VMap.sc _
        | 2, hx, hy => cases hx; cases hy; exact VMap.cap rfl (by omega)
end Go.Proofs.Ytfhcmibgpddggaa
namespace Go.Proofs.Ytfhcmibgpddggaa
open Go.RowKit
set_option maxHeartbeats 8000000 in
set_option maxRecDepth 8000 in
theorem rcopyI_q {h w K : Nat} {A : List (List Int)} (n0 : Nat) (hA : MI h w K A) (hK : K ≤ 900000) (hn : h ≤ 1000000) (hw : w ≤ 1000000) :
    InlQ Try.prog 80 [mat w A] [] n0 (MatQ w A n0) := by
  have hA1 := hA.mono (Nat.le_add_right K 1)
  have c0 := rscale_q (n0 + 2) hA1 (k := 1) (by unfold Fits; exact Nat.one_lt_pow (by omega) (by omega)) (by omega) hn hw
  rw [scaleM_one hA1] at c0
  have hAl := hA.len
  have c1 := of_i 1 (by omega) (by omega)
  have nx := n0
  unfold iv sv at c1 c0
  unfold mat at c0 ⊢
  rw [hAl] at c0 ⊢
  refine InlQ.run Try.func80 rfl Try.ntmps80 (by simp) (by simp (disch := omega) only [go_sem]; rfl) fun B hB => ?_
  (repeat (first | refine DO.nilF (fun i => i + 1 - nx) (by simp (disch := omega) only [go_sem, ↓reduceIte, zn1, zn2, zn3, zn4, zn5, zn6, reduceCtorEq, zn7, zi1, zi2, if_pos, if_neg, List.map_cons, List.map_nil, Option.map_some, Option.map_none, Nat.add_sub_cancel_left, Nat.sub_eq_zero_of_le, Nat.add_assoc, zn4] <;> rfl) (by kernel_rfl) ?_ | (with_reducible refine SC.condB (by simp (disch := omega) only [go_sem, ↓reduceIte, zn1, zn2, zn3, zn4, zn5, zn6, reduceCtorEq, zn7, zi1, zi2, if_pos, if_neg]; rfl) ?_; first | with_reducible refine pickT ?_ | with_reducible refine pickF ?_) | (with_reducible first | apply oz1 | apply oz2 | apply oz3 | apply oz4 | apply oz5 | apply oz6 | apply oz7 | apply oz8 | apply oz9 | apply ozb | apply ozc | apply oze | apply ozf | apply ozg | apply ozh | apply ozi | apply ozj | apply ozk | refine ozd (by decide) ?_) | ((with_reducible apply SC.region); (focus (simp (disch := omega) only [go_sem, ↓reduceIte]; rfl))) | (with_reducible refine SC.draw Tab.mixed rfl ?_; (repeat (refine DO.run (by simp (disch := omega) only [go_sem, ↓reduceIte, zn1, zn2, zn3, zn4, zn5, zn6, reduceCtorEq, zn7, zi1, zi2, if_pos, if_neg]; rfl) ?_)); refine DO.nilF (fun i => i + 1 - nx) (by simp (disch := omega) only [go_sem, ↓reduceIte, zn1, zn2, zn3, zn4, zn5, zn6, reduceCtorEq, zn7, zi1, zi2, if_pos, if_neg, List.map_cons, List.map_nil, Option.map_some, Option.map_none, Nat.add_sub_cancel_left, Nat.sub_eq_zero_of_le, Nat.add_assoc, zn4] <;> rfl) (by kernel_rfl) ?_)))
  refine SC.drawT 2 (by simp only [List.take_succ_cons, List.take_zero]; rfl) (by simp only [List.drop_succ_cons, List.drop_zero]; rfl) Tab.mixed ?_ (by kernel_rfl) ?_
  · simp (disch := omega) only [go_sem]
    intro id q hq
    repeat' (split at hq)
    all_goals first | omega | cases hq
  (repeat (first | refine DO.nilF (fun i => i + 1 - nx) (by simp (disch := omega) only [go_sem, List.map_cons, List.map_nil, Option.map_none] <;> rfl) (by kernel_rfl) ?_ | (with_reducible first | apply oz1 | apply oz2 | apply oz3 | apply oz4 | apply oz5 | apply oz6 | apply oz7 | apply oz8 | apply oz9 | apply ozb | apply ozc | apply oze | apply ozf | apply ozg | apply ozh | apply ozi | apply ozj | apply ozk | refine ozd (by decide) ?_) | ((first | apply SO.call | apply DO.call); (iterate 3 (focus (simp (disch := omega) only [go_sem, ↓reduceIte, zn1, zn2] <;> rfl))); (first | apply SCall.ofX | apply DCall.ofX); (focus (first | assumption)); (focus (simp (disch := omega) only [go_sem] <;> rfl))) | ((with_reducible first | apply SC.condB | apply SC.region | apply SO.run | apply DO.run); (focus (simp (disch := omega) only [go_sem, ↓reduceIte, zn1, zn3, zn4, if_neg] <;> rfl)); (first | refine pickT ?_ | refine pickF ?_ | fail_if_success with_reducible refine pickA ?_)) | ((with_reducible refine SC.draw Tab.mixed ?_ ?_); (focus (first | rfl | simp (disch := omega) only [go_sem, ↓reduceIte, zn1, zn2, zn3, zn4, zn5, zn6, reduceCtorEq, zn7, zi1, zi2, if_pos, if_neg]))) | (with_reducible apply SC.ops)))
  show SO _ _ _ _ _ _ _
  refine SO.inlQ (by simp (disch := omega) only [go_sem] <;> rfl) (by rfl) (by simp (disch := omega) only [go_sem, ↓reduceIte, zn1] <;> rfl) (by simp (disch := omega) only [go_sem, zn2] <;> rfl) (SInlQ.newR c0 ?_ ?_ ?_)
  · exact klc (by omega) (klc (by omega) kln)
  · exact fun x hp' nx' h => matQ_new h
  rintro x hp' nx ⟨o, ids, hR, rfl, rfl⟩
  have ho := hR.o1
  rw [hAl] at hR ⊢
  (repeat (first | refine DO.nilF (fun i => i + 1 - nx) (by simp (disch := omega) only [go_sem, ↓reduceIte, zn1, zn2, zn3, zn4, zn5, zn6, reduceCtorEq, zn7, zi1, zi2, if_pos, if_neg, List.map_cons, List.map_nil, Option.map_some, Option.map_none, Nat.add_sub_cancel_left, Nat.sub_eq_zero_of_le, Nat.add_assoc, zn4] <;> rfl) (by kernel_rfl) ?_ | (with_reducible first | apply oz1 | apply oz2 | apply oz3 | apply oz4 | apply oz5 | apply oz6 | apply oz7 | apply oz8 | apply oz9 | apply ozb | apply ozc | apply oze | apply ozf | apply ozg | apply ozh | apply ozi | apply ozj | apply ozk | refine ozd (by decide) ?_) | ((first | apply SO.call | apply DO.call); (iterate 3 (focus (simp (disch := omega) only [go_sem, ↓reduceIte, zn1, zn2, zn3, zn4, zn5, zn6, reduceCtorEq, zn7, zi1, zi2, if_pos, if_neg] <;> rfl))); (first | apply SCall.ofX | apply DCall.ofX); (focus (first | assumption)); (focus (simp (disch := omega) only [go_sem, ↓reduceIte, zn1, zn2, zn3, zn4, zn5, zn6, reduceCtorEq, zn7, zi1, zi2, if_pos, if_neg] <;> rfl))) | ((with_reducible first | apply SC.condB | apply SC.region | apply SO.run | apply DO.run); (focus (simp (disch := omega) only [go_sem, ↓reduceIte, zn1, zn3, zn4] <;> rfl)); (first | refine pickT ?_ | refine pickF ?_ | fail_if_success with_reducible refine pickA ?_)) | ((with_reducible refine SC.draw Tab.mixed ?_ ?_); (focus (first | rfl | simp (disch := omega) only [go_sem, ↓reduceIte, zn1, zn2, zn3, zn4, zn5, zn6, reduceCtorEq, zn7, zi1, zi2, if_pos, if_neg]))) | (with_reducible apply SC.ops)))
  refine retIQ_ret (.ag [.sc (.int .i64 h), .sc (.int .i64 w), .sl o 0 h 1 none]) ((o, ⟨72, slR 2 w ids, false⟩) :: rowsH 54 ids (rI A)) nx Try.results80 (by simp (disch := omega) only [go_sem, ↓reduceIte, zn1, zn3, zn4]; rfl) ⟨o, ids, ?_, by rw [hAl], rfl⟩ ?_
  · rw [hAl]; exact ⟨hR.len, hR.nod, fun j hj => by have := hR.lt j hj; omega, by omega, hR.o2⟩
  refine Le.rowsDown [] pre0 ⟨n0, hB, by omega⟩ (by omega) (fun j hj => (hR.lt j hj).2) (rI_clo _) (less_new (less_new (fun id k hk => hk) (fun id k hk => ?_)) (fun id k hk => ?_)) ?_
  · rcases inR_rows (fun i hi => hi) id k hk with e | e
    · omega
    · have := hR.lt _ e; omega
  · rcases inR_rows (fun i hi => hi) id k hk with e | e
    · omega
    · have := hR.lt _ e; omega
  · refine mapSl_cons (x := .ag [.sc (.int .i64 h), .sc (.int .i64 w), .sl o 0 h 1 none]) (by simp (disch := omega) only [go_sem, ↓reduceIte]) (VMap.ag rfl fun j x y hx hy => ?_) trivial
    match j, hx, hy with
    | 0, hx, hy => cases hx; cases hy; exact VMap.sc _
    | 1, hx, hy => cases hx; cases hy; exact VMap.sc _
    | 2, hx, hy => cases hx; cases hy; exact VMap.cap rfl (by omega)
end Go.Proofs.Ytfhcmibgpddggaa
namespace Go.Proofs.Ytfhcmibgpddggaa
open Go.RowKit
def matH (o w : Nat) (ids : List Nat) (M : List (List Int)) : List (Nat × Blk) := (o, ⟨72, slR 2 w ids, false⟩) :: rowsH 54 ids (rI M)
def matT (o h w : Nat) : V := .ag [.sc (.int .i64 h), .sc (.int .i64 w), .sl o 0 h 1 none]
def workC (h w oM oU oV : Nat) : List V := [.sc (.int .i64 h), .sc (.int .i64 w), .sl oM 0 h 1 none, .sc (.int .i64 h), .sc (.int .i64 h), .sl oU 0 h 1 none, .sc (.int .i64 h), .sc (.int .i64 h), .sl oV 0 h 1 none]
def StP (n0 h w : Nat) (b0 : Blk) (A : List (List Int)) (L : Nat → Bool) (sl : List (Nat × V)) (hp : List (Nat × Blk)) (nx : Nat) : Prop :=
  (L 1 = false ∧ hp = [(n0, b0)] ∧ nx = n0 + 1) ∨
  (∃ oM a, L 1 = true ∧ L 4 = false ∧ RowsOk oM a h (n0 + 1) nx ∧ get sl 4 = matT oM h w ∧ hp = [(n0, b0)] ++ matH oM w a A) ∨
  (∃ oM a n1 oU b, L 4 = true ∧ L 7 = false ∧ RowsOk oM a h (n0 + 1) n1 ∧ RowsOk oU b h n1 nx ∧ get sl 4 = matT oM h w ∧ get sl 7 = matT oU h h ∧ hp = [(n0, b0)] ++ matH oM w a A ++ matH oU h b (idL h)) ∨
  (∃ oM a n1 oU b n2 oV c, L 7 = true ∧ L 8 = false ∧ RowsOk oM a h (n0 + 1) n1 ∧ RowsOk oU b h n1 n2 ∧ RowsOk oV c h n2 nx ∧ get sl 4 = matT oM h w ∧ get sl 7 = matT oU h h ∧ get sl 10 = matT oV h h ∧ hp = [(n0, b0)] ++ matH oM w a A ++ matH oU h b (idL h) ++ matH oV h c (idL h)) ∨
  (∃ oM a n1 oU b n2 oV c, L 8 = true ∧ L 9 = false ∧ RowsOk oM a h (n0 + 1) n1 ∧ RowsOk oU b h n1 n2 ∧ RowsOk oV c h n2 nx ∧ get sl 11 = .ag (workC h w oM oU oV) ∧ hp = [(n0, b0)] ++ matH oM w a A ++ matH oU h b (idL h) ++ matH oV h c (idL h)) ∨
  (∃ oM a n1 oU b n2 oV c p, L 9 = true ∧ L 10 = false ∧ RowsOk oM a h (n0 + 1) n1 ∧ RowsOk oU b h n1 n2 ∧ RowsOk oV c h n2 p ∧ nx = p + 1 ∧ get sl 12 = .pt p 0 ∧ hp = (p, ⟨93, workC h w oM oU oV, false⟩) :: ([(n0, b0)] ++ matH oM w a A ++ matH oU h b (idL h) ++ matH oV h c (idL h))) ∨
  (∃ oM a n1 oU b n2 oV c p, L 10 = true ∧ RowsOk oM a h (n0 + 1) n1 ∧ RowsOk oU b h n1 n2 ∧ RowsOk oV c h n2 p ∧ nx = p + 1 ∧ get sl 2 = .pt p 0 ∧ hp = (p, ⟨93, workC h w oM oU oV, false⟩) :: ([(n0, b0)] ++ matH oM w a A ++ matH oU h b (idL h) ++ matH oV h c (idL h)))
def StJ (n0 h w : Nat) (b0 : Blk) (A : List (List Int)) (L : Nat → Bool) (s : SS) : Prop :=
  s.nt = 13 ∧ get s.sl 1 = .pt n0 0 ∧ (L 0 = true → get s.sl 3 = .ag b0.cs) ∧ (L 2 = true → get s.sl 5 = .pt n0 0) ∧ (L 3 = true → get s.sl 6 = .sc (.int .i64 h)) ∧ (L 5 = true → get s.sl 8 = .pt n0 0) ∧ (L 6 = true → get s.sl 9 = .sc (.int .i64 h)) ∧ hget s.hp n0 = some b0 ∧ StP n0 h w b0 A L s.sl s.hp s.nx
structure WOk (p oM oU oV : Nat) (a b c : List Nat) (h lo hi : Nat) : Prop where
  la : a.length = h
  lb : b.length = h
  lc : c.length = h
  nod : (p :: oM :: oU :: oV :: (a ++ b ++ c)).Nodup
  rng : ∀ i ∈ p :: oM :: oU :: oV :: (a ++ b ++ c), lo ≤ i ∧ i < hi
def wkH (p oM oU oV h w : Nat) (a b c : List Nat) (W : List (List Int)) : List (Nat × Blk) :=
  (p, ⟨93, workC h w oM oU oV, false⟩) :: (oM, ⟨72, slR 2 w a, false⟩) :: (oU, ⟨72, slR 2 h b, false⟩) :: (oV, ⟨72, slR 2 h c, false⟩) :: rowsH 54 (a ++ b ++ c) (rI W)
def WorkQ (h w : Nat) (W : List (List Int)) (nx : Nat) (x : V) (hp' : List (Nat × Blk)) (nx' : Nat) : Prop :=
  ∃ p oM oU oV a b c, WOk p oM oU oV a b c h nx nx' ∧ x = .pt p 0 ∧ hp' = wkH p oM oU oV h w a b c W
theorem pushF {L : Nat → Bool} {i j t u : Nat} {sl : List (Nat × V)} {x v : V} (hij : j ≠ i) (htu : u ≠ t) (f : L j = true → get sl u = v) : addL L i j = true → get ((t, x) :: sl) u = v := by
  intro e
  unfold addL at e
  rw [if_neg hij] at e
  simp only [get]
  rw [if_neg htu]
  exact f e
theorem addL_ne {L : Nat → Bool} {i j : Nat} (h : j ≠ i) : addL L i j = L j := by unfold addL; rw [if_neg h]
theorem addL_eq {L : Nat → Bool} {i : Nat} : addL L i i = true := by unfold addL; rw [if_pos rfl]
theorem get_push {sl : List (Nat × V)} {t u : Nat} {x : V} (h : u ≠ t) : get ((t, x) :: sl) u = get sl u := by simp only [get]; rw [if_neg h]
theorem StP.push {n0 h w : Nat} {b0 : Blk} {A : List (List Int)} {L : Nat → Bool} {sl : List (Nat × V)} {hp : List (Nat × Blk)} {nx i t : Nat} {x : V} (hi : i ∈ [0, 2, 3, 5, 6]) (ht : t ∈ [3, 5, 6, 8, 9]) (hP : StP n0 h w b0 A L sl hp nx) : StP n0 h w b0 A (addL L i) ((t, x) :: sl) hp nx := by
  have i1 : 1 ≠ i := by rintro rfl; simp at hi
  have i4 : 4 ≠ i := by rintro rfl; simp at hi
  have i7 : 7 ≠ i := by rintro rfl; simp at hi
  have i8 : 8 ≠ i := by rintro rfl; simp at hi
  have i9 : 9 ≠ i := by rintro rfl; simp at hi
  have i10 : 10 ≠ i := by rintro rfl; simp at hi
  have t4 : 4 ≠ t := by rintro rfl; simp at ht
  have t7 : 7 ≠ t := by rintro rfl; simp at ht
  have t10 : 10 ≠ t := by rintro rfl; simp at ht
  have t11 : 11 ≠ t := by rintro rfl; simp at ht
  have t12 : 12 ≠ t := by rintro rfl; simp at ht
  have t2 : 2 ≠ t := by rintro rfl; simp at ht
  unfold StP at hP ⊢
  simp only [addL_ne i1, addL_ne i4, addL_ne i7, addL_ne i8, addL_ne i9, addL_ne i10, get_push t4, get_push t7, get_push t10, get_push t11, get_push t12, get_push t2]
  exact hP
theorem rowsH_app {ty : TypeId} : ∀ {a b : List Nat} {r q : List (List V)}, a.length = r.length → rowsH ty (a ++ b) (r ++ q) = rowsH ty a r ++ rowsH ty b q
  | [], b, [], q, _ => rfl
  | x :: a, b, y :: r, q, h => by
    rw [List.cons_append, List.cons_append, rowsH, rowsH, rowsH_app (by simpa using h)]; rfl
theorem kl_mat {o w h lo hi : Nat} {ids : List Nat} {M : List (List Int)} (hR : RowsOk o ids h lo hi) : ∀ id k, hget (matH o w ids M) id = some k → lo ≤ id ∧ id < hi := by
  intro id k hk
  rcases inR_rows (fun i hi => hi) id k hk with e | e
  · subst e; exact hR.o1
  · exact hR.lt _ e
theorem kl_app {a b : List (Nat × Blk)} {n : Nat} (h1 : ∀ id k, hget a id = some k → id < n) (h2 : ∀ id k, hget b id = some k → id < n) : ∀ id k, hget (a ++ b) id = some k → id < n := by
  intro id k hk
  rw [hget_app] at hk
  cases e : hget a id with
  | some q => exact h1 id q e
  | none => rw [e] at hk; exact h2 id k hk
theorem wok_of {oM oU oV h lo n1 n2 p : Nat} {a b c : List Nat} (p3 : RowsOk oM a h lo n1) (p4 : RowsOk oU b h n1 n2) (p5 : RowsOk oV c h n2 p) : WOk p oM oU oV a b c h lo (p + 1) := by
  have ho := p3.o1
  have ho2 := p4.o1
  have ho3 := p5.o1
  have mem : ∀ i, i ∈ a ++ b ++ c → (i ∈ a ∧ lo ≤ i ∧ i < n1) ∨ (i ∈ b ∧ n1 ≤ i ∧ i < n2) ∨ (i ∈ c ∧ n2 ≤ i ∧ i < p) := by
    intro i hi
    rcases List.mem_append.1 hi with hi | hi
    · rcases List.mem_append.1 hi with hi | hi
      · exact .inl ⟨hi, p3.lt i hi⟩
      · exact .inr (.inl ⟨hi, p4.lt i hi⟩)
    · exact .inr (.inr ⟨hi, p5.lt i hi⟩)
  refine ⟨p3.len, p4.len, p5.len, ?_, ?_⟩
  · refine List.nodup_cons.2 ⟨fun hm => ?_, List.nodup_cons.2 ⟨fun hm => ?_, List.nodup_cons.2 ⟨fun hm => ?_, List.nodup_cons.2 ⟨fun hm => ?_, ?_⟩⟩⟩⟩
    · simp only [List.mem_cons] at hm
      rcases hm with e | e | e | e
      · omega
      · omega
      · omega
      · have := mem p e; omega
    · simp only [List.mem_cons] at hm
      rcases hm with e | e | e
      · omega
      · omega
      · rcases mem oM e with ⟨h1, _⟩ | h1 | h1
        · exact p3.o2 h1
        · omega
        · omega
    · simp only [List.mem_cons] at hm
      rcases hm with e | e
      · omega
      · rcases mem oU e with h1 | ⟨h1, _⟩ | h1
        · omega
        · exact p4.o2 h1
        · omega
    · rcases mem oV hm with h1 | h1 | ⟨h1, _⟩
      · omega
      · omega
      · exact p5.o2 h1
    · rw [List.nodup_append, List.nodup_append]
      refine ⟨⟨p3.nod, p4.nod, fun x hx y hy => ?_⟩, p5.nod, fun x hx y hy => ?_⟩
      · have := p3.lt x hx; have := p4.lt y hy; omega
      · have := mem x (List.mem_append_left _ hx)
        have h5 := p5.lt y hy
        rcases List.mem_append.1 hx with hx | hx
        · have := p3.lt x hx; omega
        · have := p4.lt x hx; omega
  · intro i hi
    simp only [List.mem_cons] at hi
    rcases hi with rfl | rfl | rfl | rfl | hi
    · omega
    · omega
    · omega
    · omega
    · have := mem i hi; omega
theorem wk_heap {oM oU oV h w lo n0 n1 n2 p : Nat} {a b c : List Nat} {b0 : Blk} {A U C : List (List Int)} (p3 : RowsOk oM a h lo n1) (p4 : RowsOk oU b h n1 n2) (p5 : RowsOk oV c h n2 p) (hn : n0 < lo) (hA : A.length = h) (hU : U.length = h) (hC : C.length = h) :
    ∀ id k, hget (wkH p oM oU oV h w a b c (A ++ U ++ C)) id = some k → hget ((p, ⟨93, workC h w oM oU oV, false⟩) :: ([(n0, b0)] ++ matH oM w a A ++ matH oU h b U ++ matH oV h c C)) id = some k := by
  have ho := p3.o1
  have ho2 := p4.o1
  have ho3 := p5.o1
  have e1 : rI (A ++ U ++ C) = rI A ++ rI U ++ rI C := by simp [rI]
  have e2 : rowsH 54 (a ++ b ++ c) (rI (A ++ U ++ C)) = rowsH 54 a (rI A) ++ rowsH 54 b (rI U) ++ rowsH 54 c (rI C) := by
    rw [e1, rowsH_app (by rw [List.length_append, List.length_append, rI_len, rI_len, p3.len, p4.len]; omega), rowsH_app (by rw [rI_len, p3.len]; omega)]
  have na : ∀ id, n1 ≤ id → hget (rowsH 54 a (rI A)) id = none := fun id h1 => rows_none fun hm => by have := p3.lt id hm; omega
  have nb : ∀ id, n2 ≤ id → hget (rowsH 54 b (rI U)) id = none := fun id h1 => rows_none fun hm => by have := p4.lt id hm; omega
  have sa : ∀ id k, hget (rowsH 54 a (rI A)) id = some k → lo ≤ id ∧ id < n1 := fun id k hk => by
    obtain ⟨q, q1, _, q3, _⟩ := rows_inv hk
    rw [← q3]; exact p3.lt _ (getD_mem' q1)
  have sb : ∀ id k, hget (rowsH 54 b (rI U)) id = some k → n1 ≤ id ∧ id < n2 := fun id k hk => by
    obtain ⟨q, q1, _, q3, _⟩ := rows_inv hk
    rw [← q3]; exact p4.lt _ (getD_mem' q1)
  have sc : ∀ id k, hget (rowsH 54 c (rI C)) id = some k → n2 ≤ id ∧ id < p := fun id k hk => by
    obtain ⟨q, q1, _, q3, _⟩ := rows_inv hk
    rw [← q3]; exact p5.lt _ (getD_mem' q1)
  intro id k hk
  unfold wkH at hk
  rw [e2] at hk
  unfold matH
  simp only [hget, hget_app, List.cons_append, List.nil_append, List.append_assoc] at hk ⊢
  by_cases c1 : id = p
  · rw [if_pos c1] at hk ⊢; exact hk
  rw [if_neg c1] at hk ⊢
  by_cases c2 : id = oM
  · rw [if_pos c2] at hk
    rw [if_neg (by omega), if_pos c2]; exact hk
  rw [if_neg c2] at hk
  by_cases c3 : id = oU
  · rw [if_pos c3] at hk
    rw [if_neg (by omega), if_neg c2, na id (by omega)]
    simp only
    rw [if_pos c3]; exact hk
  rw [if_neg c3] at hk
  by_cases c4 : id = oV
  · rw [if_pos c4] at hk
    rw [if_neg (by omega), if_neg c2, na id (by omega)]
    simp only
    rw [if_neg c3, nb id (by omega)]
    simp only
    rw [if_pos c4]; exact hk
  rw [if_neg c4] at hk
  have hlo : lo ≤ id := by
    cases x1 : hget (rowsH 54 a (rI A)) id with
    | some q => exact (sa id q x1).1
    | none =>
      rw [x1] at hk
      simp only at hk
      cases x2 : hget (rowsH 54 b (rI U)) id with
      | some q => have := sb id q x2; omega
      | none =>
        rw [x2] at hk
        simp only at hk
        have := sc id k hk; omega
  rw [if_neg (by omega), if_neg c2, if_neg c3, if_neg c4]
  exact hk
set_option maxHeartbeats 8000000 in
set_option maxRecDepth 8000 in
theorem hstart_q {h w K : Nat} {A : List (List Int)} (n0 : Nat) (hA : MI h w K A) (hK : K ≤ 900000) (hn : h ≤ 1000000) (hw : w ≤ 1000000) :
    InlQ Try.prog 50 [mat w A] [] n0 (WorkQ h w (A ++ idL h ++ idL h) n0) := by
  have hAl := hA.len
  have c1 := fun n => rcopyI_q n hA hK hn hw
  have c2 := fun n => rident_q h n hn
  unfold mat at c1 ⊢
  rw [hAl] at c1 ⊢
  refine InlQ.run Try.func50 rfl Try.ntmps50 (by simp) (by simp (disch := omega) only [go_sem]; rfl) fun B hB => ?_
  have nx := n0
  (repeat (first | refine DO.nil (by kernel_rfl) ?_ | (with_reducible refine SC.condB (by simp (disch := omega) only [go_sem, ↓reduceIte, zn1, zn2, zn3, zn4, zn5, zn6, reduceCtorEq, zn7, zi1, zi2, if_pos, if_neg]; rfl) ?_; first | with_reducible refine pickT ?_ | with_reducible refine pickF ?_) | (with_reducible first | apply oz1 | apply oz2 | apply oz3 | apply oz4 | apply oz5 | apply oz6 | apply oz7 | apply oz8 | apply oz9 | apply ozb | apply ozc | apply oze | apply ozf | apply ozg | apply ozh | apply ozi | apply ozj | apply ozk | refine ozd (by decide) ?_) | ((with_reducible apply SC.region); (focus (simp (disch := omega) only [go_sem, ↓reduceIte]; rfl))) | (with_reducible refine SC.draw Tab.mixed rfl ?_; (repeat (refine DO.run (by simp (disch := omega) only [go_sem, ↓reduceIte, zn1, zn2, zn3, zn4, zn5, zn6, reduceCtorEq, zn7, zi1, zi2, if_pos, if_neg]; rfl) ?_)); refine DO.nil (by kernel_rfl) ?_)))
  refine SC.inv (StJ n0 h w ⟨29, [.sc (.int .i64 h), .sc (.int .i64 w), .im (imR w (rI A)) h], false⟩ A) Tab.mixed (by kernel_rfl) ?_ ?_ ?_
  · refine ⟨rfl, rfl, (fun e => by cases e), (fun e => by cases e), (fun e => by cases e), (fun e => by cases e), (fun e => by cases e), by simp [hget], .inl ⟨rfl, rfl, rfl⟩⟩
  · intro L s i o hcl hJ ho hi hd
    obtain ⟨sl, hp, m, nt⟩ := s
    obtain ⟨hnt, g1, f0, f2, f3, f5, f6, hG, hP⟩ := hJ
    simp only at hnt g1 f0 f2 f3 f5 f6 hG hP
    subst hnt
    have k41 : L 4 = true → L 1 = true := fun e => hcl 4 1 e (by kernel_rfl)
    have k74 : L 7 = true → L 4 = true := fun e => hcl 7 4 e (by kernel_rfl)
    have k87 : L 8 = true → L 7 = true := fun e => hcl 8 7 e (by kernel_rfl)
    have k98 : L 9 = true → L 8 = true := fun e => hcl 9 8 e (by kernel_rfl)
    have k109 : L 10 = true → L 9 = true := fun e => hcl 10 9 e (by kernel_rfl)
    match i, ho, hi, hd with
    | 0, ho, hi, hd =>
      cases ho
      refine SO.run (by simp (disch := omega) only [go_sem, ↓reduceIte, zn3, zn4, g1, hG]; rfl) (SO.nil ?_)
      exact ⟨rfl, g1, fun _ => rfl, pushF (by decide) (by decide) f2, pushF (by decide) (by decide) f3, pushF (by decide) (by decide) f5, pushF (by decide) (by decide) f6, hG, hP.push (by decide) (by decide)⟩
    | 2, ho, hi, hd =>
      cases ho
      refine SO.run (by simp (disch := omega) only [go_sem, ↓reduceIte, reduceCtorEq, g1]; rfl) (SO.nil ?_)
      exact ⟨rfl, g1, pushF (by decide) (by decide) f0, fun _ => rfl, pushF (by decide) (by decide) f3, pushF (by decide) (by decide) f5, pushF (by decide) (by decide) f6, hG, hP.push (by decide) (by decide)⟩
    | 3, ho, hi, hd =>
      cases ho
      have f2' := f2 (hd 2 (by kernel_rfl))
      refine SO.run (by simp (disch := omega) only [go_sem, ↓reduceIte, hG, f2']; rfl) (SO.nil ?_)
      exact ⟨rfl, g1, pushF (by decide) (by decide) f0, pushF (by decide) (by decide) f2, fun _ => rfl, pushF (by decide) (by decide) f5, pushF (by decide) (by decide) f6, hG, hP.push (by decide) (by decide)⟩
    | 5, ho, hi, hd =>
      cases ho
      refine SO.run (by simp (disch := omega) only [go_sem, ↓reduceIte, reduceCtorEq, g1]; rfl) (SO.nil ?_)
      exact ⟨rfl, g1, pushF (by decide) (by decide) f0, pushF (by decide) (by decide) f2, pushF (by decide) (by decide) f3, fun _ => rfl, pushF (by decide) (by decide) f6, hG, hP.push (by decide) (by decide)⟩
    | 6, ho, hi, hd =>
      cases ho
      have f5' := f5 (hd 5 (by kernel_rfl))
      refine SO.run (by simp (disch := omega) only [go_sem, ↓reduceIte, hG, f5']; rfl) (SO.nil ?_)
      exact ⟨rfl, g1, pushF (by decide) (by decide) f0, pushF (by decide) (by decide) f2, pushF (by decide) (by decide) f3, pushF (by decide) (by decide) f5, fun _ => rfl, hG, hP.push (by decide) (by decide)⟩
    | 1, ho, hi, hd =>
      cases ho
      have f0' := f0 (hd 0 (by kernel_rfl))
      rcases hP with ⟨_, rfl, rfl⟩ | ⟨_, _, e, _⟩ | ⟨_, _, _, _, _, e, _⟩ | ⟨_, _, _, _, _, _, _, _, e, _⟩ | ⟨_, _, _, _, _, _, _, _, e, _⟩ | ⟨_, _, _, _, _, _, _, _, _, e, _⟩ | ⟨_, _, _, _, _, _, _, _, _, e, _⟩
      · refine SO.inlQ (by simp (disch := omega) only [go_sem] <;> rfl) (by rfl) (by simp (disch := omega) only [go_sem, f0'] <;> rfl) (by simp (disch := omega) only [go_sem] <;> rfl) (SInlQ.newR (c1 (n0 + 1)) ?_ ?_ ?_)
        · exact klc (by omega) kln
        · exact fun x hp' nx' h => matQ_new h
        rintro x hp' nx' ⟨o, ids, hR, rfl, rfl⟩
        rw [hAl] at hR ⊢
        refine SO.nil ?_
        refine ⟨rfl, g1, pushF (by decide) (by decide) f0, pushF (by decide) (by decide) f2, pushF (by decide) (by decide) f3, pushF (by decide) (by decide) f5, pushF (by decide) (by decide) f6, by simp [hget], .inr (.inl ⟨o, ids, addL_eq, ?_, hR, rfl, rfl⟩)⟩
        rw [addL_ne (by decide)]
        cases h4 : L 4 with
        | false => rfl
        | true => rw [k41 h4] at hi; cases hi
      all_goals (exfalso; simp_all)
    | 4, ho, hi, hd =>
      cases ho
      have f3' := f3 (hd 3 (by kernel_rfl))
      have d1 := hd 1 (by kernel_rfl)
      rcases hP with ⟨e, _⟩ | ⟨oM, a, p1, p2, p3, p4, rfl⟩ | ⟨oM, a, n1, oU, b, p1, p2, p3, p4, p5, p6, rfl⟩ | ⟨oM, a, n1, oU, b, n2, oV, c, p1, p2, p3, p4, p5, p6, p7, p8, rfl⟩ | ⟨oM, a, n1, oU, b, n2, oV, c, p1, p2, p3, p4, p5, p6, rfl⟩ | ⟨oM, a, n1, oU, b, n2, oV, c, p, p1, p2, p3, p4, p5, rfl, p6, rfl⟩ | ⟨oM, a, n1, oU, b, n2, oV, c, p, p1, p3, p4, p5, rfl, p6, rfl⟩
      · rw [d1] at e; cases e
      · have q1 := kl_mat (w := w) (M := A) p3
        have ho := p3.o1
        refine SO.inlQ (by simp (disch := omega) only [go_sem] <;> rfl) (by rfl) (by simp (disch := omega) only [go_sem, f3'] <;> rfl) (by simp (disch := omega) only [go_sem] <;> rfl) (SInlQ.newR (c2 m) ?_ ?_ ?_)
        · exact kl_app (klc (by omega) kln) fun id k hk => (q1 id k hk).2
        · exact fun x hp' nx' h => matQ_new h
        rintro x hp' nx' ⟨o, ids, hR, rfl, rfl⟩
        have hil : (idL h).length = h := mkM_len
        rw [hil] at hR ⊢
        refine SO.nil ?_
        refine ⟨rfl, g1, pushF (by decide) (by decide) f0, pushF (by decide) (by decide) f2, pushF (by decide) (by decide) f3, pushF (by decide) (by decide) f5, pushF (by decide) (by decide) f6, by simp [hget], .inr (.inr (.inl ⟨oM, a, m, o, ids, addL_eq, ?_, p3, hR, (get_push (by decide)).trans p4, rfl, rfl⟩))⟩
        rw [addL_ne (by decide)]
        cases h4 : L 7 with
        | false => rfl
        | true => rw [k74 h4] at hi; cases hi
      · rw [hi] at p1; cases p1
      · rw [k74 p1] at hi; cases hi
      · rw [k74 (k87 p1)] at hi; cases hi
      · rw [k74 (k87 (k98 p1))] at hi; cases hi
      · rw [k74 (k87 (k98 (k109 p1)))] at hi; cases hi
    | 7, ho, hi, hd =>
      cases ho
      have f6' := f6 (hd 6 (by kernel_rfl))
      have d1 := hd 4 (by kernel_rfl)
      rcases hP with ⟨e, _⟩ | ⟨oM, a, p1, p2, p3, p4, rfl⟩ | ⟨oM, a, n1, oU, b, p1, p2, p3, p4, p5, p6, rfl⟩ | ⟨oM, a, n1, oU, b, n2, oV, c, p1, p2, p3, p4, p5, p6, p7, p8, rfl⟩ | ⟨oM, a, n1, oU, b, n2, oV, c, p1, p2, p3, p4, p5, p6, rfl⟩ | ⟨oM, a, n1, oU, b, n2, oV, c, p, p1, p2, p3, p4, p5, rfl, p6, rfl⟩ | ⟨oM, a, n1, oU, b, n2, oV, c, p, p1, p3, p4, p5, rfl, p6, rfl⟩
      · rw [k41 d1] at e; cases e
      · rw [d1] at p2; cases p2
      · have q1 := kl_mat (w := w) (M := A) p3
        have q2 := kl_mat (w := h) (M := idL h) p4
        have ho := p3.o1
        have ho2 := p4.o1
        refine SO.inlQ (by simp (disch := omega) only [go_sem] <;> rfl) (by rfl) (by simp (disch := omega) only [go_sem, f6'] <;> rfl) (by simp (disch := omega) only [go_sem] <;> rfl) (SInlQ.newR (c2 m) ?_ ?_ ?_)
        · exact kl_app (kl_app (klc (by omega) kln) fun id k hk => by have := q1 id k hk; omega) fun id k hk => (q2 id k hk).2
        · exact fun x hp' nx' h => matQ_new h
        rintro x hp' nx' ⟨o, ids, hR, rfl, rfl⟩
        have hil : (idL h).length = h := mkM_len
        rw [hil] at hR ⊢
        refine SO.nil ?_
        refine ⟨rfl, g1, pushF (by decide) (by decide) f0, pushF (by decide) (by decide) f2, pushF (by decide) (by decide) f3, pushF (by decide) (by decide) f5, pushF (by decide) (by decide) f6, by simp [hget], .inr (.inr (.inr (.inl ⟨oM, a, n1, oU, b, m, o, ids, addL_eq, ?_, p3, p4, hR, (get_push (by decide)).trans p5, (get_push (by decide)).trans p6, rfl, rfl⟩)))⟩
        rw [addL_ne (by decide)]
        cases h4 : L 8 with
        | false => rfl
        | true => rw [k87 h4] at hi; cases hi
      · rw [hi] at p1; cases p1
      · rw [k87 p1] at hi; cases hi
      · rw [k87 (k98 p1)] at hi; cases hi
      · rw [k87 (k98 (k109 p1))] at hi; cases hi
    | 8, ho, hi, hd =>
      cases ho
      have d1 := hd 7 (by kernel_rfl)
      rcases hP with ⟨e, _⟩ | ⟨oM, a, p1, p2, p3, p4, rfl⟩ | ⟨oM, a, n1, oU, b, p1, p2, p3, p4, p5, p6, rfl⟩ | ⟨oM, a, n1, oU, b, n2, oV, c, p1, p2, p3, p4, p5, p6, p7, p8, rfl⟩ | ⟨oM, a, n1, oU, b, n2, oV, c, p1, p2, p3, p4, p5, p6, rfl⟩ | ⟨oM, a, n1, oU, b, n2, oV, c, p, p1, p2, p3, p4, p5, rfl, p6, rfl⟩ | ⟨oM, a, n1, oU, b, n2, oV, c, p, p1, p3, p4, p5, rfl, p6, rfl⟩
      · rw [k41 (k74 d1)] at e; cases e
      · rw [k74 d1] at p2; cases p2
      · rw [d1] at p2; cases p2
      · unfold matT at p6 p7 p8
        refine SO.run (by simp (disch := omega) only [go_sem, ↓reduceIte, zn3, zn4, p6, p7, p8]; rfl) (SO.nil ?_)
        refine ⟨rfl, g1, pushF (by decide) (by decide) f0, pushF (by decide) (by decide) f2, pushF (by decide) (by decide) f3, pushF (by decide) (by decide) f5, pushF (by decide) (by decide) f6, by simp [hget], .inr (.inr (.inr (.inr (.inl ⟨oM, a, n1, oU, b, n2, oV, c, addL_eq, ?_, p3, p4, p5, rfl, rfl⟩))))⟩
        rw [addL_ne (by decide)]
        cases h4 : L 9 with
        | false => rfl
        | true => rw [k98 h4] at hi; cases hi
      · rw [hi] at p1; cases p1
      · rw [k98 p1] at hi; cases hi
      · rw [k98 (k109 p1)] at hi; cases hi
    | 9, ho, hi, hd =>
      cases ho
      have d1 := hd 8 (by kernel_rfl)
      rcases hP with ⟨e, _⟩ | ⟨oM, a, p1, p2, p3, p4, rfl⟩ | ⟨oM, a, n1, oU, b, p1, p2, p3, p4, p5, p6, rfl⟩ | ⟨oM, a, n1, oU, b, n2, oV, c, p1, p2, p3, p4, p5, p6, p7, p8, rfl⟩ | ⟨oM, a, n1, oU, b, n2, oV, c, p1, p2, p3, p4, p5, p6, rfl⟩ | ⟨oM, a, n1, oU, b, n2, oV, c, p, p1, p2, p3, p4, p5, rfl, p6, rfl⟩ | ⟨oM, a, n1, oU, b, n2, oV, c, p, p1, p3, p4, p5, rfl, p6, rfl⟩
      · rw [k41 (k74 (k87 d1))] at e; cases e
      · rw [k74 (k87 d1)] at p2; cases p2
      · rw [k87 d1] at p2; cases p2
      · rw [d1] at p2; cases p2
      · unfold workC at p6
        refine SO.run (by simp (disch := omega) only [go_sem, ↓reduceIte, zn2, p6]; rfl) (SO.nil ?_)
        have ho := p3.o1
        have ho2 := p4.o1
        have ho3 := p5.o1
        refine ⟨rfl, g1, pushF (by decide) (by decide) f0, pushF (by decide) (by decide) f2, pushF (by decide) (by decide) f3, pushF (by decide) (by decide) f5, pushF (by decide) (by decide) f6, ?_, .inr (.inr (.inr (.inr (.inr (.inl ⟨oM, a, n1, oU, b, n2, oV, c, m, addL_eq, ?_, p3, p4, p5, rfl, rfl, rfl⟩)))))⟩
        · exact (if_neg (by omega)).trans hG
        rw [addL_ne (by decide)]
        cases h4 : L 10 with
        | false => rfl
        | true => rw [k109 h4] at hi; cases hi
      · rw [hi] at p1; cases p1
      · rw [k109 p1] at hi; cases hi
    | 10, ho, hi, hd =>
      cases ho
      have d1 := hd 9 (by kernel_rfl)
      rcases hP with ⟨e, _⟩ | ⟨oM, a, p1, p2, p3, p4, rfl⟩ | ⟨oM, a, n1, oU, b, p1, p2, p3, p4, p5, p6, rfl⟩ | ⟨oM, a, n1, oU, b, n2, oV, c, p1, p2, p3, p4, p5, p6, p7, p8, rfl⟩ | ⟨oM, a, n1, oU, b, n2, oV, c, p1, p2, p3, p4, p5, p6, rfl⟩ | ⟨oM, a, n1, oU, b, n2, oV, c, p, p1, p2, p3, p4, p5, rfl, p6, rfl⟩ | ⟨oM, a, n1, oU, b, n2, oV, c, p, p1, p3, p4, p5, rfl, p6, rfl⟩
      · rw [k41 (k74 (k87 (k98 d1)))] at e; cases e
      · rw [k74 (k87 (k98 d1))] at p2; cases p2
      · rw [k87 (k98 d1)] at p2; cases p2
      · rw [k98 d1] at p2; cases p2
      · rw [d1] at p2; cases p2
      · refine SO.run (by simp (disch := omega) only [go_sem, ↓reduceIte, p6]; rfl) (SO.nil ?_)
        exact ⟨rfl, g1, pushF (by decide) (by decide) f0, pushF (by decide) (by decide) f2, pushF (by decide) (by decide) f3, pushF (by decide) (by decide) f5, pushF (by decide) (by decide) f6, hG, .inr (.inr (.inr (.inr (.inr (.inr ⟨oM, a, n1, oU, b, n2, oV, c, p, addL_eq, p3, p4, p5, rfl, rfl, rfl⟩)))))⟩
      · rw [hi] at p1; cases p1
    | n + 11, ho, hi, hd => cases ho
  · intro L s hL hJ
    obtain ⟨sl, hp, m, nt⟩ := s
    obtain ⟨hnt, g1, f0, f2, f3, f5, f6, hG, hP⟩ := hJ
    simp only at hnt g1 f0 f2 f3 f5 f6 hG hP
    subst hnt
    have l1 : L 1 = true := hL 1 (by decide)
    have l4 : L 4 = true := hL 4 (by decide)
    have l7 : L 7 = true := hL 7 (by decide)
    have l8 : L 8 = true := hL 8 (by decide)
    have l9 : L 9 = true := hL 9 (by decide)
    have l10 : L 10 = true := hL 10 (by decide)
    rcases hP with ⟨e, _⟩ | ⟨oM, a, p1, p2, p3, p4, rfl⟩ | ⟨oM, a, n1, oU, b, p1, p2, p3, p4, p5, p6, rfl⟩ | ⟨oM, a, n1, oU, b, n2, oV, c, p1, p2, p3, p4, p5, p6, p7, p8, rfl⟩ | ⟨oM, a, n1, oU, b, n2, oV, c, p1, p2, p3, p4, p5, p6, rfl⟩ | ⟨oM, a, n1, oU, b, n2, oV, c, p, p1, p2, p3, p4, p5, rfl, p6, rfl⟩ | ⟨oM, a, n1, oU, b, n2, oV, c, p, p1, p3, p4, p5, rfl, p6, rfl⟩
    · rw [l1] at e; cases e
    · rw [l4] at p2; cases p2
    · rw [l7] at p2; cases p2
    · rw [l8] at p2; cases p2
    · rw [l9] at p2; cases p2
    · rw [l10] at p2; cases p2
    · have ho := p3.o1
      have hil : (idL h).length = h := mkM_len
      (repeat (first | refine DO.nil (by kernel_rfl) ?_ | (with_reducible refine SC.condB (by simp (disch := omega) only [go_sem, ↓reduceIte, zn1, zn2, zn3, zn4, zn5, zn6, reduceCtorEq, zn7, zi1, zi2, if_pos, if_neg]; rfl) ?_; first | with_reducible refine pickT ?_ | with_reducible refine pickF ?_) | (with_reducible first | apply oz1 | apply oz2 | apply oz3 | apply oz4 | apply oz5 | apply oz6 | apply oz7 | apply oz8 | apply oz9 | apply ozb | apply ozc | apply oze | apply ozf | apply ozg | apply ozh | apply ozi | apply ozj | apply ozk | refine ozd (by decide) ?_) | ((with_reducible apply SC.region); (focus (simp (disch := omega) only [go_sem, ↓reduceIte, zn1, zn2, zn3, zn4, zn5, zn6, reduceCtorEq, zn7, zi1, zi2, if_pos, if_neg]; rfl))) | (with_reducible refine SC.draw Tab.mixed rfl ?_; (repeat (refine DO.run (by simp (disch := omega) only [go_sem, ↓reduceIte, zn1, zn2, zn3, zn4, zn5, zn6, reduceCtorEq, zn7, zi1, zi2, if_pos, if_neg]; rfl) ?_)); refine DO.nil (by kernel_rfl) ?_)))
      refine retIQ_ret (.pt p 0) (wkH p oM oU oV h w a b c (A ++ idL h ++ idL h)) (p + 1) Try.results50 (by simp (disch := omega) only [go_sem, p6]; rfl) ⟨p, oM, oU, oV, a, b, c, ?_, rfl, rfl⟩ ?_
      · have hw := wok_of p3 p4 p5
        exact ⟨hw.la, hw.lb, hw.lc, hw.nod, fun i hi => by have := hw.rng i hi; omega⟩
      · refine Le.slots ?_ (wk_heap p3 p4 p5 (by omega) hAl hil hil) (Nat.le_refl _)
        exact leSl_cons rfl (VLe.refl rfl) leSl_nil
end Go.Proofs.Ytfhcmibgpddggaa
namespace Go.Proofs.Ytfhcmibgpddggaa
open Go.RowKit
structure WIds (p oM oU oV : Nat) (a b c : List Nat) (h nx : Nat) : Prop where
  la : a.length = h
  lb : b.length = h
  lc : c.length = h
  nod : (p :: oM :: oU :: oV :: (a ++ b ++ c)).Nodup
  rng : ∀ i ∈ p :: oM :: oU :: oV :: (a ++ b ++ c), i < nx
structure WI (h w K : Nat) (W : List (List Int)) : Prop where
  len : W.length = 3 * h
  rowM : ∀ q, q < h → (W.getD q []).length = w
  rowU : ∀ q, h ≤ q → q < 3 * h → (W.getD q []).length = h
  fit : ∀ q t, Fits K ((W.getD q []).getD t 0)
theorem WI.mono {h w K L : Nat} {W : List (List Int)} (hW : WI h w K W) (hl : K ≤ L) : WI h w L W := ⟨hW.len, hW.rowM, hW.rowU, fun q t => (hW.fit q t).mono hl⟩
theorem fits0 {K : Nat} : Fits K 0 := by unfold Fits; exact Nat.pow_pos (by omega)
theorem WI.set {h w K q : Nat} {W : List (List Int)} {r : List Int} (hW : WI h w K W) (hq : q < 3 * h) (hr : r.length = (W.getD q []).length) (hf : ∀ t, Fits K (r.getD t 0)) : WI h w K (W.set q r) := by
  have hl := hW.len
  refine ⟨by rw [List.length_set]; exact hl, fun i hi => ?_, fun i h1 h2 => ?_, fun i t => ?_⟩
  · rw [getD_set (by omega)]
    split
    · rename_i e; rw [hr, ← e]; exact hW.rowM i hi
    · exact hW.rowM i hi
  · rw [getD_set (by omega)]
    split
    · rename_i e; rw [hr, ← e]; exact hW.rowU i h1 h2
    · exact hW.rowU i h1 h2
  · rw [getD_set (by omega)]
    split
    · exact hf t
    · exact hW.fit i t
theorem nodup_four {p oM oU oV : Nat} {l : List Nat} (h : (p :: oM :: oU :: oV :: l).Nodup) : p ≠ oM ∧ p ≠ oU ∧ p ≠ oV ∧ oM ≠ oU ∧ oM ≠ oV ∧ oU ≠ oV ∧ p ∉ l ∧ oM ∉ l ∧ oU ∉ l ∧ oV ∉ l ∧ l.Nodup := by
  simp only [List.nodup_cons, List.mem_cons, not_or] at h
  obtain ⟨⟨h1, h2, h3, h4⟩, ⟨h5, h6, h7⟩, ⟨h8, h9⟩, h10, h11⟩ := h
  exact ⟨h1, h2, h3, h5, h6, h8, h4, h7, h9, h10, h11⟩
theorem getD_app1 {a b : List Nat} {i : Nat} (h : i < a.length) : (a ++ b).getD i 0 = a.getD i 0 := by
  rw [List.getD_eq_getElem?_getD, List.getElem?_append_left h, List.getD_eq_getElem?_getD]
theorem getD_app2 {a b : List Nat} {i : Nat} : (a ++ b).getD (a.length + i) 0 = b.getD i 0 := by
  rw [List.getD_eq_getElem?_getD, List.getElem?_append_right (by omega), Nat.add_sub_cancel_left, List.getD_eq_getElem?_getD]
section
variable {p oM oU oV h w K nx : Nat} {a b c : List Nat} {W : List (List Int)}
theorem WIds.iM (hI : WIds p oM oU oV a b c h nx) {i : Nat} (hi : i < h) : (a ++ b ++ c).getD i 0 = a.getD i 0 := by
  have := hI.la; have := hI.lb
  rw [getD_app1 (by rw [List.length_append]; omega), getD_app1 (by omega)]
theorem WIds.iU (hI : WIds p oM oU oV a b c h nx) {i : Nat} (hi : i < h) : (a ++ b ++ c).getD (h + i) 0 = b.getD i 0 := by
  have h1 := hI.la; have := hI.lb
  rw [getD_app1 (by rw [List.length_append]; omega)]
  have := getD_app2 (a := a) (b := b) (i := i)
  rwa [h1] at this
theorem WIds.iV (hI : WIds p oM oU oV a b c h nx) {i : Nat} : (a ++ b ++ c).getD (2 * h + i) 0 = c.getD i 0 := by
  have h1 := hI.la; have h2 := hI.lb
  have := getD_app2 (a := a ++ b) (b := c) (i := i)
  rwa [List.length_append, h1, h2, ← Nat.two_mul] at this
theorem WIds.row (hI : WIds p oM oU oV a b c h nx) (hl : W.length = 3 * h) {q : Nat} (hq : q < 3 * h) :
    hget (rowsH 54 (a ++ b ++ c) (rI W)) ((a ++ b ++ c).getD q 0) = some ⟨54, ivR (W.getD q []), false⟩ ∧ (a ++ b ++ c).getD q 0 < nx ∧ (a ++ b ++ c).getD q 0 ≠ p ∧ (a ++ b ++ c).getD q 0 ≠ oM ∧ (a ++ b ++ c).getD q 0 ≠ oU ∧ (a ++ b ++ c).getD q 0 ≠ oV := by
  obtain ⟨_, _, _, _, _, _, n1, n2, n3, n4, n5⟩ := nodup_four hI.nod
  have hll : (a ++ b ++ c).length = 3 * h := by rw [List.length_append, List.length_append, hI.la, hI.lb, hI.lc]; omega
  have hm := getD_mem' (ids := a ++ b ++ c) (k := q) (by omega)
  have hg := rows_get (ty := 54) (rs := rI W) (k := q) n5 (by omega) (by rw [rI_len]; omega)
  rw [rI_getD] at hg
  refine ⟨hg, hI.rng _ (by simp only [List.mem_cons]; exact .inr (.inr (.inr (.inr hm)))), fun e => n1 (e ▸ hm), fun e => n2 (e ▸ hm), fun e => n3 (e ▸ hm), fun e => n4 (e ▸ hm)⟩
theorem WIds.rowF (hI : WIds p oM oU oV a b c h nx) (hl : W.length = 3 * h) {q : Nat} (hq : q < 3 * h) :
    hget (rowsH 54 (a ++ b ++ c) (rI W)) ((a ++ b ++ c).getD q 0) = some ⟨54, ivR (W.getD q []), false⟩ ∧ (a ++ b ++ c).getD q 0 < nx ∧ ((a ++ b ++ c).getD q 0 = p) = False ∧ ((a ++ b ++ c).getD q 0 = oM) = False ∧ ((a ++ b ++ c).getD q 0 = oU) = False ∧ ((a ++ b ++ c).getD q 0 = oV) = False := by
  obtain ⟨h1, h2, h3, h4, h5, h6⟩ := hI.row hl hq
  exact ⟨h1, h2, eq_false h3, eq_false h4, eq_false h5, eq_false h6⟩
theorem WIds.nes (hI : WIds p oM oU oV a b c h nx) : (oM = p) = False ∧ (oU = p) = False ∧ (oU = oM) = False ∧ (oV = p) = False ∧ (oV = oM) = False ∧ (oV = oU) = False := by
  obtain ⟨z1, z2, z3, z4, z5, z6, _⟩ := nodup_four hI.nod
  exact ⟨eq_false z1.symm, eq_false z2.symm, eq_false z4.symm, eq_false z3.symm, eq_false z5.symm, eq_false z6.symm⟩
theorem WIds.rset (hI : WIds p oM oU oV a b c h nx) (hl : W.length = 3 * h) {q : Nat} (hq : q < 3 * h) (r : List Int) :
    hset (rowsH 54 (a ++ b ++ c) (rI W)) ((a ++ b ++ c).getD q 0) ⟨54, ivR r, false⟩ = rowsH 54 (a ++ b ++ c) (rI (W.set q r)) := by
  obtain ⟨_, _, _, _, _, _, _, _, _, _, n5⟩ := nodup_four hI.nod
  have hll : (a ++ b ++ c).length = 3 * h := by rw [List.length_append, List.length_append, hI.la, hI.lb, hI.lc]; omega
  have hs := rows_set (ty := 54) (rs := rI W) (k := q) (r := ivR r) n5 (by omega) (by rw [rI_len]; omega)
  rwa [rI_set] at hs
theorem WIds.kl (hI : WIds p oM oU oV a b c h nx) {m : Nat} (hm : nx ≤ m) : klB (rowsH 54 (a ++ b ++ c) (rI W)) m = true :=
  klB_rows fun j hj => Nat.lt_of_lt_of_le (hI.rng j (by simp only [List.mem_cons]; exact .inr (.inr (.inr (.inr hj))))) hm
theorem WIds.lts (hI : WIds p oM oU oV a b c h nx) : p < nx ∧ oM < nx ∧ oU < nx ∧ oV < nx := ⟨hI.rng _ (by simp), hI.rng _ (by simp), hI.rng _ (by simp), hI.rng _ (by simp)⟩
theorem Le.wkDown {B : Base} {sl sl' : List (Nat × V)} {hp : List (Nat × Blk)} {nx1 nt : Nat} (hB : ∃ m, B.Old m ∧ m ≤ nx) (hI : WIds p oM oU oV a b c h nx)
    (hs : ∀ id k, hget (wkH p oM oU oV h w a b c W) id = some k → hget hp id = some k) (h1 : mapSl (fun i => i) (fun i => i < nx) sl sl') :
    Le B ⟨sl, hp, nx1, nt⟩ ⟨sl', wkH p oM oU oV h w a b c W, nx, nt⟩ := by
  obtain ⟨m0, hB, hm0⟩ := hB
  obtain ⟨l1, l2, l3, l4⟩ := hI.lts
  have lr : ∀ i ∈ a ++ b ++ c, i < nx := fun i hi => hI.rng i (by simp only [List.mem_cons]; exact .inr (.inr (.inr (.inr hi))))
  refine Le.map (fun i => i) (fun i => i < nx) hB (fun i hi => ⟨by omega, rfl⟩) (fun i h => h) (fun i j _ _ e => e) h1 (fun i k' hk' hlt => ?_)
  rw [hs i k' hk']
  unfold wkH at hk'
  simp only [hget] at hk'
  split at hk'
  · cases hk'
    exact BMap.list (mapL_cons (VMap.sc _) (mapL_cons (VMap.sc _) (mapL_cons (VMap.sl rfl l2) (mapL_cons (VMap.sc _) (mapL_cons (VMap.sc _) (mapL_cons (VMap.sl rfl l3) (mapL_cons (VMap.sc _) (mapL_cons (VMap.sc _) (mapL_cons (VMap.sl rfl l4) mapL_nil)))))))))
  split at hk'
  · cases hk'
    refine ⟨_, rfl, rfl, rfl, fun j y hy => ⟨y, hy, ?_⟩⟩
    obtain ⟨q, hq, rfl⟩ := List.mem_map.1 (List.mem_of_getElem? hy)
    exact VMap.sl rfl (lr q (List.mem_append_left _ (List.mem_append_left _ hq)))
  split at hk'
  · cases hk'
    refine ⟨_, rfl, rfl, rfl, fun j y hy => ⟨y, hy, ?_⟩⟩
    obtain ⟨q, hq, rfl⟩ := List.mem_map.1 (List.mem_of_getElem? hy)
    exact VMap.sl rfl (lr q (List.mem_append_left _ (List.mem_append_right _ hq)))
  split at hk'
  · cases hk'
    refine ⟨_, rfl, rfl, rfl, fun j y hy => ⟨y, hy, ?_⟩⟩
    obtain ⟨q, hq, rfl⟩ := List.mem_map.1 (List.mem_of_getElem? hy)
    exact VMap.sl rfl (lr q (List.mem_append_right _ hq))
  · obtain ⟨q, q1, q2, q3, rfl⟩ := rows_inv hk'
    exact BMap.clo (rI_clo W _ (by rw [List.getD_eq_getElem?_getD, List.getElem?_eq_getElem q2]; exact List.getElem_mem q2))
theorem wk_lt (hI : WIds p oM oU oV a b c h nx) : ∀ id k, hget (wkH p oM oU oV h w a b c W) id = some k → id < nx := by
  obtain ⟨l1, l2, l3, l4⟩ := hI.lts
  intro id k hk
  unfold wkH at hk
  simp only [hget] at hk
  split at hk
  · omega
  split at hk
  · omega
  split at hk
  · omega
  split at hk
  · omega
  · obtain ⟨q, q1, _, q3, _⟩ := rows_inv hk
    rw [← q3]; exact hI.rng _ (by simp only [List.mem_cons]; exact .inr (.inr (.inr (.inr (getD_mem' q1)))))
end
end Go.Proofs.Ytfhcmibgpddggaa
namespace Go.Proofs.Ytfhcmibgpddggaa
open Go.RowKit
theorem fits_mulL {K L : Nat} {y k : Int} (hy : Fits K y) (hk : Fits L k) : Fits (K + L) (k * y) := by
  unfold Fits at *
  rw [Int.natAbs_mul, Nat.pow_add]
  calc k.natAbs * y.natAbs = y.natAbs * k.natAbs := Nat.mul_comm _ _
    _ < 4294967296 ^ K * 4294967296 ^ L := Nat.mul_lt_mul'' hy hk
theorem fits_sum {K : Nat} {x y : Int} (hx : Fits K x) (hy : Fits K y) : Fits (K + 1) (x + y) := by
  unfold Fits at *
  have h1 := Int.natAbs_add_le x y
  have h3 : 0 < 4294967296 ^ K := Nat.pow_pos (by omega)
  rw [Nat.pow_succ]
  generalize 4294967296 ^ K = T at *
  omega
theorem fits_neg {K : Nat} {x : Int} (hx : Fits K x) : Fits K (-x) := by unfold Fits at *; rwa [Int.natAbs_neg]
theorem fits_addL {K L : Nat} {x y k : Int} (hx : Fits K x) (hy : Fits K y) (hk : Fits L k) : Fits (K + L + 1) (x + k * y) := fits_sum (hx.mono (by omega)) (fits_mulL hy hk)
theorem fits_subL {K L : Nat} {x y k : Int} (hx : Fits K x) (hy : Fits K y) (hk : Fits L k) : Fits (K + L + 1) (x - k * y) := by
  rw [Int.sub_eq_add_neg]; exact fits_sum (hx.mono (by omega)) (fits_neg (fits_mulL hy hk))
def colPre (h i j : Nat) (k : Int) (r : Nat) (W : List (List Int)) : List (List Int) := W.mapIdx fun q row => if 2 * h ≤ q ∧ q < 2 * h + r then row.set j (row.getD j 0 - k * row.getD i 0) else row
theorem colPre_len {h i j : Nat} {k : Int} {r : Nat} {W : List (List Int)} : (colPre h i j k r W).length = W.length := by simp [colPre]
theorem colPre_get {h i j : Nat} {k : Int} {r q : Nat} {W : List (List Int)} (hq : q < W.length) : (colPre h i j k r W).getD q [] = if 2 * h ≤ q ∧ q < 2 * h + r then (W.getD q []).set j ((W.getD q []).getD j 0 - k * (W.getD q []).getD i 0) else W.getD q [] := by
  unfold colPre
  rw [List.getD_eq_getElem?_getD, List.getElem?_mapIdx, getD_get' (d := []) hq]; rfl
theorem rows_ext {a b : List (List Int)} (h : a.length = b.length) (hx : ∀ q, q < a.length → a.getD q [] = b.getD q []) : a = b := by
  refine List.ext_getElem h fun q h1 h2 => ?_
  have := hx q h1
  rw [List.getD_eq_getElem?_getD, List.getD_eq_getElem?_getD, List.getElem?_eq_getElem h1, List.getElem?_eq_getElem h2] at this
  simpa using this
theorem colPre_zero {h i j : Nat} {k : Int} {W : List (List Int)} : colPre h i j k 0 W = W := rows_ext colPre_len fun q hq => by
  rw [colPre_len] at hq
  rw [colPre_get hq, if_neg (by omega)]
theorem colPre_set {h i j : Nat} {k : Int} {r : Nat} {W : List (List Int)} (hr : 2 * h + r < W.length) : (colPre h i j k r W).set (2 * h + r) ((W.getD (2 * h + r) []).set j ((W.getD (2 * h + r) []).getD j 0 - k * (W.getD (2 * h + r) []).getD i 0)) = colPre h i j k (r + 1) W := by
  refine rows_ext (by rw [List.length_set, colPre_len, colPre_len]) fun q hq => ?_
  rw [List.length_set, colPre_len] at hq
  rw [getD_set (by rw [colPre_len]; exact hr), colPre_get hq, colPre_get hq]
  by_cases e : q = 2 * h + r
  · rw [if_pos e, if_pos (by omega), e]
  · rw [if_neg e]
    by_cases e2 : 2 * h ≤ q ∧ q < 2 * h + r
    · rw [if_pos e2, if_pos (by omega)]
    · rw [if_neg e2, if_neg (by omega)]
def addW (h i j : Nat) (k : Int) (W : List (List Int)) : List (List Int) :=
  colPre h i j k h ((W.set i (addI (W.getD i []) (W.getD j []) k)).set (h + i) (addI (W.getD (h + i) []) (W.getD (h + j) []) k))
theorem addW_wi {h w K L i j : Nat} {k : Int} {W : List (List Int)} (hW : WI h w K W) (hi : i < h) (hj : j < h) (hk : Fits L k) : WI h w (K + L + 1) (addW h i j k W) := by
  have hl := hW.len
  have key : ∀ q q', q < 3 * h → q' < 3 * h → ∀ t, Fits (K + L + 1) ((addI (W.getD q []) (W.getD q' []) k).getD t 0) := by
    intro q q' _ _ t
    by_cases ht : t < (W.getD q []).length
    · rw [addI_get ht]; exact fits_addL (hW.fit q t) (hW.fit q' t) hk
    · rw [List.getD_eq_getElem?_getD, List.getElem?_eq_none (by rw [addI_len]; omega)]; exact fits0
  have h1 := (hW.mono (Nat.le_add_right K (L + 1))).set (q := i) (r := addI (W.getD i []) (W.getD j []) k) (by omega) (by rw [addI_len]) (key i j (by omega) (by omega))
  have h2 := h1.set (q := h + i) (r := addI (W.getD (h + i) []) (W.getD (h + j) []) k) (by omega) (by rw [addI_len, getD_set (by omega), if_neg (by omega)]) (key (h + i) (h + j) (by omega) (by omega))
  unfold addW
  generalize hX : (W.set i (addI (W.getD i []) (W.getD j []) k)).set (h + i) (addI (W.getD (h + i) []) (W.getD (h + j) []) k) = X at *
  have hX2 : ∀ q, 2 * h ≤ q → q < 3 * h → X.getD q [] = W.getD q [] := by
    intro q h3 h4
    rw [← hX, getD_set (by rw [List.length_set]; omega), if_neg (by omega), getD_set (by omega), if_neg (by omega)]
  have hxl := h2.len
  refine ⟨by rw [colPre_len]; exact hxl, fun q hq => ?_, fun q h3 h4 => ?_, fun q t => ?_⟩
  · rw [colPre_get (by omega), if_neg (by omega)]; exact h2.rowM q hq
  · rw [colPre_get (by omega)]
    split
    · rw [List.length_set]; exact h2.rowU q h3 h4
    · exact h2.rowU q h3 h4
  · by_cases hq : q < 3 * h
    · rw [colPre_get (by omega)]
      split
      · rename_i hc
        rw [hX2 q (by omega) hq]
        have hrl := hW.rowU q (by omega) hq
        rw [getD_set (by omega)]
        split
        · exact fits_subL (hW.fit q j) (hW.fit q i) hk
        · exact (hW.fit q t).mono (by omega)
      · exact h2.fit q t
    · rw [List.getD_eq_getElem?_getD (l := colPre _ _ _ _ _ _), List.getElem?_eq_none (by rw [colPre_len]; omega)]
      exact fits0
set_option maxHeartbeats 16000000 in
set_option maxRecDepth 8000 in
theorem addto_q {h w K L p oM oU oV nx i j : Nat} {a b c : List Nat} {W : List (List Int)} {k : Int} (hW : WI h w K W) (hk : Fits L k) (hK : K + L ≤ 1000000) (hI : WIds p oM oU oV a b c h nx) (hi : i < h) (hj : j < h) (hij : i ≠ j) (hn : h ≤ 1000000) (hw : w ≤ 1000000) :
    InlQ Try.prog 53 [.pt p 0, .sc (.int .i64 i), .sc (.int .i64 j), iv k] (wkH p oM oU oV h w a b c W) nx (fun x hp' nx' => x = .tu [] ∧ nx' = nx ∧ hp' = wkH p oM oU oV h w a b c (addW h i j k W)) := by
  have hl := hW.len
  obtain ⟨l1, l2, l3, l4⟩ := hI.lts
  obtain ⟨z1, z2, z3, z4, z5, z6⟩ := hI.nes
  have v1 : p + 1 - nx = 0 := by omega
  have v2 : oM + 1 - nx = 0 := by omega
  have v3 : oU + 1 - nx = 0 := by omega
  have v4 : oV + 1 - nx = 0 := by omega
  have la := hI.la
  have lb := hI.lb
  have lc := hI.lc
  have ga := slR_len 2 w a
  have gb := slR_len 2 h b
  have gc := slR_len 2 h c
  rw [la] at ga
  rw [lb] at gb
  rw [lc] at gc
  unfold iv sv
  refine InlQ.run Try.func53 rfl Try.ntmps53 (by simp) (by unfold wkH workC; simp (disch := omega) only [go_sem, zn4]; rfl) fun B hB => ?_
  (repeat (first | refine DO.nilF (fun i => i + 1 - nx) (by simp (disch := omega) only [go_sem, ↓reduceIte, zn1, zn2, zn3, zn4, zn5, zn6, reduceCtorEq, zn7, zi1, zi2, if_pos, if_neg, List.map_cons, List.map_nil, Option.map_some, Option.map_none, Nat.add_sub_cancel_left, Nat.sub_eq_zero_of_le, Nat.add_assoc, zn4] <;> rfl) (by kernel_rfl) ?_ | (with_reducible first | apply oz1 | apply oz2 | apply oz3 | apply oz4 | apply oz5 | apply oz6 | apply oz7 | apply oz8 | apply oz9 | apply ozb | apply ozc | apply oze | apply ozf | apply ozg | apply ozh | apply ozi | apply ozj | apply ozk | refine ozd (by decide) ?_) | ((first | apply SO.call | apply DO.call); (iterate 3 (focus (simp (disch := omega) only [go_sem, ↓reduceIte, zn1, zn2, zn3, zn4, zn5, zn6, reduceCtorEq, zn7, zi1, zi2, if_pos, if_neg] <;> rfl))); (first | apply SCall.ofX | apply DCall.ofX); (focus (first | assumption)); (focus (simp (disch := omega) only [go_sem, ↓reduceIte, zn1, zn2, zn3, zn4, zn5, zn6, reduceCtorEq, zn7, zi1, zi2, if_pos, if_neg] <;> rfl))) | ((with_reducible first | apply SC.condB | apply SC.region | apply SO.run | apply DO.run); (focus (simp (disch := omega) only [go_sem, ↓reduceIte, zn1, reduceCtorEq] <;> rfl)); (first | refine pickT ?_ | refine pickF ?_ | fail_if_success with_reducible refine pickA ?_)) | ((with_reducible refine SC.draw Tab.mixed ?_ ?_); (focus (first | rfl | simp (disch := omega) only [go_sem, ↓reduceIte, zn1, zn2, zn3, zn4, zn5, zn6, reduceCtorEq, zn7, zi1, zi2, if_pos, if_neg]))) | (with_reducible apply SC.ops)))
  have e1 : (W).set (i) (addPreI 0 (W.getD (i) []) (W.getD (j) []) k) = W := by
    rw [addPreI_zero]
    have := setI_self (M := W) (i := i) (by omega)
    exact this
  refine SC.loop (fun t : Nat => ⟨[(0, .pt p 0), (1, .sc (.int .i64 i)), (2, .sc (.int .i64 j)), (7, .pt nx 0), (8, .sc (.int .i64 t))], (nx, ⟨54, [.sc (.bool (decide (k < 0))), .im (lv (limbsOf k.natAbs)) (limbsOf k.natAbs).length], false⟩) :: wkH p oM oU oV h w a b c ((W).set (i) (addPreI t (W.getD (i) []) (W.getD (j) []) k)), nx + 1, 143⟩)
    (fun t => t ≤ w) (fun t => w - t) 0 ?_ ?_ ?_
  · rw [e1]
    unfold wkH workC
    (refine Le.slots ?_ ?_ ?_ <;> (repeat' (first | (exact fun _ _ h => h) | exact Nat.le_refl _ | exact leSl_nil | refine leSl_cons (by simp (disch := omega) only [go_sem, ↓reduceIte, zn1, reduceCtorEq] <;> rfl) ?_ ?_ | exact VLe.junk _ | exact VLe.refl rfl | exact VLe.nil_sl _ _ _ | exact VLe.int (by first | rfl | omega | (dsimp only; omega)) | exact VLe.bool rfl | exact VLe.sl rfl (by first | rfl | omega) | exact VLe.cap rfl (by first | rfl | omega) | exact VLe.im rfl rfl | omega | (refine fun id k h => ?_; simp only [hget] at h ⊢; (repeat' (split at h)) <;> first | (cases h; done) | (simp (disch := omega) only [if_pos, if_neg]; exact h)))))
  · exact Nat.zero_le _
  · intro t ht K2 hK2
    have hrl : (W.getD (i) []).length = w := hW.rowM i hi
    have hrlj : (W.getD (j) []).length = w := hW.rowM j hj
    by_cases hc : t < w
    · as_aux_lemma =>
        have q1 := decide_eq_true (p := (t : Int) < (w : Int)) (by omega)
        have hWl : ((W).set (i) (addPreI t (W.getD (i) []) (W.getD (j) []) k)).length = 3 * h := by rw [List.length_set]; exact hl
        have gi := slR_get (z := 2) (m := w) (ids := a) (k := i) (by omega)
        have gj := slR_get (z := 2) (m := w) (ids := a) (k := j) (by omega)
        obtain ⟨gR, y1, y2, y3, y4, y5⟩ := hI.rowF hWl (q := i) (by omega)
        obtain ⟨gRj, u1, u2, u3, u4, u5⟩ := hI.rowF hWl (q := j) (by omega)
        rw [getD_set (by omega), if_pos rfl] at gR
        rw [getD_set (by omega), if_neg (fun e => hij e.symm)] at gRj
        have c1 := mul_i k ((W.getD (j) []).getD t 0) (K + L) (hk.mono (by omega)) ((hW.fit (j) t).mono (by omega)) (by omega)
        have c2 := add_i ((W.getD (i) []).getD t 0) (k * (W.getD (j) []).getD t 0) (K + L) ((hW.fit (i) t).mono (by omega)) (fits_mulL (hW.fit (j) t) hk) (by omega)
        have gdj := ivR_drop (l := W.getD (j) []) (i := t) (by omega)
        have glj := ivR_len (W.getD (j) [])
        rw [hrlj] at glj
        have gl := ivR_len (addPreI t (W.getD (i) []) (W.getD (j) []) k)
        rw [addPreI_len, hrl] at gl
        have gd := ivR_drop (l := addPreI t (W.getD (i) []) (W.getD (j) []) k) (i := t) (by rw [addPreI_len]; omega)
        rw [addPreI_get (by omega), if_neg (by omega)] at gd
        have gs := ivR_set (l := addPreI t (W.getD (i) []) (W.getD (j) []) k) (i := t) ((W.getD (i) []).getD t 0 + k * (W.getD (j) []).getD t 0) (by rw [addPreI_len]; omega)
        rw [addPreI_set (by omega)] at gs
        have hrs := hI.rset hWl (q := i) (by omega) (addPreI (t + 1) (W.getD (i) []) (W.getD (j) []) k)
        rw [List.set_set] at hrs
        have hkl := hI.kl (W := (W).set (i) (addPreI t (W.getD (i) []) (W.getD (j) []) k)) (m := nx + 1) (by omega)
        rw [hI.iM hi] at gR y1 y2 y3 y4 y5 hrs
        rw [hI.iM hj] at gRj u1 u2 u3 u4 u5
        have v5 : a.getD i 0 + 1 - nx = 0 := Nat.sub_eq_zero_of_le y1
        have v6 : a.getD j 0 + 1 - nx = 0 := Nat.sub_eq_zero_of_le u1
        unfold wkH workC at *
        generalize (ivR (addPreI t (W.getD (i) []) (W.getD (j) []) k)).drop ((t + 1) * 2) = D at *
        generalize hA : ivR (addPreI t (W.getD (i) []) (W.getD (j) []) k) = A at *
        generalize (W.getD (i) []).getD t 0 = x at *
        generalize (ivR (W.getD (j) [])).drop ((t + 1) * 2) = Dj at *
        generalize hAj : ivR (W.getD (j) []) = Aj at *
        generalize (W.getD (j) []).getD t 0 = y at *
        generalize hA' : ivR (addPreI (t + 1) (W.getD (i) []) (W.getD (j) []) k) = A' at *
        generalize hH : rowsH 54 (a ++ b ++ c) (rI ((W).set (i) (addPreI t (W.getD (i) []) (W.getD (j) []) k))) = H at *
        generalize a.getD i 0 = idk at *
        generalize a.getD j 0 = idj at *
        unfold iv sv at c1 c2
        unfold ivC sv at gd gs gdj
        simp only [List.cons_append, List.nil_append] at gd gdj
        have g2j : t * 2 < Aj.length := by omega
        have g2 : t * 2 < A.length := by omega
        (repeat (first | refine DO.nilF (fun i => i + 1 - nx) (by simp (disch := omega) only [go_sem, List.map_cons, List.map_nil, Option.map_some, Option.map_none, Nat.add_sub_cancel_left, Nat.sub_eq_zero_of_le] <;> rfl) (by kernel_rfl) ?_ | (with_reducible first | apply oz1 | apply oz2 | apply oz3 | apply oz4 | apply oz5 | apply oz6 | apply oz7 | apply oz8 | apply oz9 | apply ozb | apply ozc | apply oze | apply ozf | apply ozg | apply ozh | apply ozi | apply ozj | apply ozk | refine ozd (by decide) ?_) | ((first | apply SO.call | apply DO.call); (iterate 3 (focus (simp (disch := omega) only [go_sem, ↓reduceIte, zn1] <;> rfl))); (first | apply SCall.ofX | apply DCall.ofX); (focus (first | assumption)); (focus (simp (disch := omega) only [go_sem] <;> rfl))) | ((with_reducible first | apply SC.condB | apply SC.region | apply SO.run | apply DO.run); (focus (simp (disch := omega) only [go_sem, ↓reduceIte, zn1, zn3, zn4, reduceCtorEq, if_pos, if_neg, q1, gi, gj, gR, gRj, gl, glj, gd, gdj, gs, hrs, z1, y2, y3, y4, y5, u2, u3, u4, u5] <;> rfl)); (first | refine pickT ?_ | refine pickF ?_ | fail_if_success with_reducible refine pickA ?_)) | ((with_reducible refine SC.draw Tab.mixed ?_ ?_); (focus (first | rfl | simp (disch := omega) only [go_sem, ↓reduceIte, if_pos, hkl]))) | (with_reducible apply SC.ops)))
        refine hK2 _ (t + 1) ?_ (by omega) (by omega)
        (refine Le.slots ?_ ?_ ?_ <;> (repeat' (first | (exact fun _ _ h => h) | exact Nat.le_refl _ | exact leSl_nil | refine leSl_cons (by simp (disch := omega) only [go_sem, ↓reduceIte, zn1, reduceCtorEq] <;> rfl) ?_ ?_ | exact VLe.junk _ | exact VLe.refl rfl | exact VLe.nil_sl _ _ _ | exact VLe.int (by first | rfl | omega | (dsimp only; omega)) | exact VLe.bool rfl | exact VLe.sl rfl (by first | rfl | omega) | exact VLe.cap rfl (by first | rfl | omega) | exact VLe.im rfl rfl | omega | (refine fun id k h => ?_; simp only [hget] at h ⊢; (repeat' (split at h)) <;> first | (cases h; done) | (simp (disch := omega) only [if_pos, if_neg]; exact h)))))
    · have htw : t = w := by omega
      have q1 := decide_eq_false (p := (w : Int) < (w : Int)) (by omega)
      rw [htw, addPreI_end hrl]
      unfold wkH workC
      (repeat (first | refine DO.nilF (fun i => i + 1 - nx) (by simp (disch := omega) only [go_sem, ↓reduceIte, zn1, zn2, zn3, zn4, zn5, zn6, reduceCtorEq, zn7, zi1, zi2, if_pos, if_neg, List.map_cons, List.map_nil, Option.map_some, Option.map_none, Nat.add_sub_cancel_left, Nat.sub_eq_zero_of_le, Nat.add_assoc, zn4] <;> rfl) (by kernel_rfl) ?_ | (with_reducible first | apply oz1 | apply oz2 | apply oz3 | apply oz4 | apply oz5 | apply oz6 | apply oz7 | apply oz8 | apply oz9 | apply ozb | apply ozc | apply oze | apply ozf | apply ozg | apply ozh | apply ozi | apply ozj | apply ozk | refine ozd (by decide) ?_) | ((first | apply SO.call | apply DO.call); (iterate 3 (focus (simp (disch := omega) only [go_sem, ↓reduceIte, zn1, zn2, zn3, zn4, zn5, zn6, reduceCtorEq, zn7, zi1, zi2, if_pos, if_neg, q1, z1, z2, z3, z4, z5, z6] <;> rfl))); (first | apply SCall.ofX | apply DCall.ofX); (focus (first | assumption)); (focus (simp (disch := omega) only [go_sem, ↓reduceIte, zn1, zn2, zn3, zn4, zn5, zn6, reduceCtorEq, zn7, zi1, zi2, if_pos, if_neg, q1, z1, z2, z3, z4, z5, z6] <;> rfl))) | ((with_reducible first | apply SC.condB | apply SC.region | apply SO.run | apply DO.run); (focus (simp (disch := omega) only [go_sem, ↓reduceIte, zn1, reduceCtorEq, if_neg, q1] <;> rfl)); (first | refine pickT ?_ | refine pickF ?_ | fail_if_success with_reducible refine pickA ?_)) | ((with_reducible refine SC.draw Tab.mixed ?_ ?_); (focus (first | rfl | simp (disch := omega) only [go_sem, ↓reduceIte, zn1, zn2, zn3, zn4, zn5, zn6, reduceCtorEq, zn7, zi1, zi2, if_pos, if_neg, q1, z1, z2, z3, z4, z5, z6]))) | (with_reducible apply SC.ops)))
      have e2 : (W.set i (addI (W.getD i []) (W.getD j []) k)).set (h + i) (addPreI 0 (W.getD (h + i) []) (W.getD (h + j) []) k) = W.set i (addI (W.getD i []) (W.getD j []) k) := by
        rw [addPreI_zero]
        have := setI_self (M := W.set i (addI (W.getD i []) (W.getD j []) k)) (i := h + i) (by rw [List.length_set]; omega)
        rwa [getD_set (by omega), if_neg (by omega)] at this
      refine SC.loop (fun t : Nat => ⟨[(0, .pt p 0), (1, .sc (.int .i64 i)), (2, .sc (.int .i64 j)), (7, .pt nx 0), (9, .sc (.int .i64 t))], (nx, ⟨54, [.sc (.bool (decide (k < 0))), .im (lv (limbsOf k.natAbs)) (limbsOf k.natAbs).length], false⟩) :: wkH p oM oU oV h w a b c ((W.set i (addI (W.getD i []) (W.getD j []) k)).set (h + i) (addPreI t (W.getD (h + i) []) (W.getD (h + j) []) k)), nx + 1, 143⟩)
        (fun t => t ≤ h) (fun t => h - t) 0 ?_ ?_ ?_
      · rw [e2]
        unfold wkH workC
        (refine Le.slots ?_ ?_ ?_ <;> (repeat' (first | (exact fun _ _ h => h) | exact Nat.le_refl _ | exact leSl_nil | refine leSl_cons (by simp (disch := omega) only [go_sem, ↓reduceIte, zn1, reduceCtorEq] <;> rfl) ?_ ?_ | exact VLe.junk _ | exact VLe.refl rfl | exact VLe.nil_sl _ _ _ | exact VLe.int (by first | rfl | omega | (dsimp only; omega)) | exact VLe.bool rfl | exact VLe.sl rfl (by first | rfl | omega) | exact VLe.cap rfl (by first | rfl | omega) | exact VLe.im rfl rfl | omega | (refine fun id k h => ?_; simp only [hget] at h ⊢; (repeat' (split at h)) <;> first | (cases h; done) | (simp (disch := omega) only [if_pos, if_neg]; exact h)))))
      · exact Nat.zero_le _
      · intro t ht K2 hK2
        have hrl : (W.getD (h + i) []).length = h := hW.rowU (h + i) (by omega) (by omega)
        have hrlj : (W.getD (h + j) []).length = h := hW.rowU (h + j) (by omega) (by omega)
        by_cases hc : t < h
        · as_aux_lemma =>
            have q1 := decide_eq_true (p := (t : Int) < (h : Int)) (by omega)
            have hWl : ((W.set i (addI (W.getD i []) (W.getD j []) k)).set (h + i) (addPreI t (W.getD (h + i) []) (W.getD (h + j) []) k)).length = 3 * h := by rw [List.length_set, List.length_set]; exact hl
            have gi := slR_get (z := 2) (m := h) (ids := b) (k := i) (by omega)
            have gj := slR_get (z := 2) (m := h) (ids := b) (k := j) (by omega)
            obtain ⟨gR, y1, y2, y3, y4, y5⟩ := hI.rowF hWl (q := h + i) (by omega)
            obtain ⟨gRj, u1, u2, u3, u4, u5⟩ := hI.rowF hWl (q := h + j) (by omega)
            rw [getD_set (by rw [List.length_set]; omega), if_pos rfl] at gR
            rw [getD_set (by rw [List.length_set]; omega), if_neg (fun e => hij (Nat.add_left_cancel e).symm), getD_set (by omega), if_neg (by omega)] at gRj
            have c1 := mul_i k ((W.getD (h + j) []).getD t 0) (K + L) (hk.mono (by omega)) ((hW.fit (h + j) t).mono (by omega)) (by omega)
            have c2 := add_i ((W.getD (h + i) []).getD t 0) (k * (W.getD (h + j) []).getD t 0) (K + L) ((hW.fit (h + i) t).mono (by omega)) (fits_mulL (hW.fit (h + j) t) hk) (by omega)
            have gdj := ivR_drop (l := W.getD (h + j) []) (i := t) (by omega)
            have glj := ivR_len (W.getD (h + j) [])
            rw [hrlj] at glj
            have gl := ivR_len (addPreI t (W.getD (h + i) []) (W.getD (h + j) []) k)
            rw [addPreI_len, hrl] at gl
            have gd := ivR_drop (l := addPreI t (W.getD (h + i) []) (W.getD (h + j) []) k) (i := t) (by rw [addPreI_len]; omega)
            rw [addPreI_get (by omega), if_neg (by omega)] at gd
            have gs := ivR_set (l := addPreI t (W.getD (h + i) []) (W.getD (h + j) []) k) (i := t) ((W.getD (h + i) []).getD t 0 + k * (W.getD (h + j) []).getD t 0) (by rw [addPreI_len]; omega)
            rw [addPreI_set (by omega)] at gs
            have hrs := hI.rset hWl (q := h + i) (by omega) (addPreI (t + 1) (W.getD (h + i) []) (W.getD (h + j) []) k)
            rw [List.set_set] at hrs
            have hkl := hI.kl (W := (W.set i (addI (W.getD i []) (W.getD j []) k)).set (h + i) (addPreI t (W.getD (h + i) []) (W.getD (h + j) []) k)) (m := nx + 1) (by omega)
            rw [hI.iU hi] at gR y1 y2 y3 y4 y5 hrs
            rw [hI.iU hj] at gRj u1 u2 u3 u4 u5
            have v5 : b.getD i 0 + 1 - nx = 0 := Nat.sub_eq_zero_of_le y1
            have v6 : b.getD j 0 + 1 - nx = 0 := Nat.sub_eq_zero_of_le u1
            unfold wkH workC at *
            generalize (ivR (addPreI t (W.getD (h + i) []) (W.getD (h + j) []) k)).drop ((t + 1) * 2) = D at *
            generalize hA : ivR (addPreI t (W.getD (h + i) []) (W.getD (h + j) []) k) = A at *
            generalize (W.getD (h + i) []).getD t 0 = x at *
            generalize (ivR (W.getD (h + j) [])).drop ((t + 1) * 2) = Dj at *
            generalize hAj : ivR (W.getD (h + j) []) = Aj at *
            generalize (W.getD (h + j) []).getD t 0 = y at *
            generalize hA' : ivR (addPreI (t + 1) (W.getD (h + i) []) (W.getD (h + j) []) k) = A' at *
            generalize hH : rowsH 54 (a ++ b ++ c) (rI ((W.set i (addI (W.getD i []) (W.getD j []) k)).set (h + i) (addPreI t (W.getD (h + i) []) (W.getD (h + j) []) k))) = H at *
            generalize b.getD i 0 = idk at *
            generalize b.getD j 0 = idj at *
            unfold iv sv at c1 c2
            unfold ivC sv at gd gs gdj
            simp only [List.cons_append, List.nil_append] at gd gdj
            have g2j : t * 2 < Aj.length := by omega
            have g2 : t * 2 < A.length := by omega
            (repeat (first | refine DO.nilF (fun i => i + 1 - nx) (by simp (disch := omega) only [go_sem, List.map_cons, List.map_nil, Option.map_some, Option.map_none, Nat.add_sub_cancel_left, Nat.sub_eq_zero_of_le] <;> rfl) (by kernel_rfl) ?_ | (with_reducible first | apply oz1 | apply oz2 | apply oz3 | apply oz4 | apply oz5 | apply oz6 | apply oz7 | apply oz8 | apply oz9 | apply ozb | apply ozc | apply oze | apply ozf | apply ozg | apply ozh | apply ozi | apply ozj | apply ozk | refine ozd (by decide) ?_) | ((first | apply SO.call | apply DO.call); (iterate 3 (focus (simp (disch := omega) only [go_sem, ↓reduceIte, zn1] <;> rfl))); (first | apply SCall.ofX | apply DCall.ofX); (focus (first | assumption)); (focus (simp (disch := omega) only [go_sem] <;> rfl))) | ((with_reducible first | apply SC.condB | apply SC.region | apply SO.run | apply DO.run); (focus (simp (disch := omega) only [go_sem, ↓reduceIte, zn1, zn3, zn4, reduceCtorEq, if_pos, if_neg, q1, gi, gj, gR, gRj, gl, glj, gd, gdj, gs, hrs, z2, z3, y2, y3, y4, y5, u2, u3, u4, u5] <;> rfl)); (first | refine pickT ?_ | refine pickF ?_ | fail_if_success with_reducible refine pickA ?_)) | ((with_reducible refine SC.draw Tab.mixed ?_ ?_); (focus (first | rfl | simp (disch := omega) only [go_sem, ↓reduceIte, if_pos, hkl]))) | (with_reducible apply SC.ops)))
            refine hK2 _ (t + 1) ?_ (by omega) (by omega)
            (refine Le.slots ?_ ?_ ?_ <;> (repeat' (first | (exact fun _ _ h => h) | exact Nat.le_refl _ | exact leSl_nil | refine leSl_cons (by simp (disch := omega) only [go_sem, ↓reduceIte, zn1, reduceCtorEq] <;> rfl) ?_ ?_ | exact VLe.junk _ | exact VLe.refl rfl | exact VLe.nil_sl _ _ _ | exact VLe.int (by first | rfl | omega | (dsimp only; omega)) | exact VLe.bool rfl | exact VLe.sl rfl (by first | rfl | omega) | exact VLe.cap rfl (by first | rfl | omega) | exact VLe.im rfl rfl | omega | (refine fun id k h => ?_; simp only [hget] at h ⊢; (repeat' (split at h)) <;> first | (cases h; done) | (simp (disch := omega) only [if_pos, if_neg]; exact h)))))
        · have htw : t = h := by omega
          have q1 := decide_eq_false (p := (h : Int) < (h : Int)) (by omega)
          rw [htw, addPreI_end hrl]
          unfold wkH workC
          (repeat (first | refine DO.nilF (fun i => i + 1 - nx) (by simp (disch := omega) only [go_sem, ↓reduceIte, zn1, zn2, zn3, zn4, zn5, zn6, reduceCtorEq, zn7, zi1, zi2, if_pos, if_neg, List.map_cons, List.map_nil, Option.map_some, Option.map_none, Nat.add_sub_cancel_left, Nat.sub_eq_zero_of_le, Nat.add_assoc, zn4] <;> rfl) (by kernel_rfl) ?_ | (with_reducible first | apply oz1 | apply oz2 | apply oz3 | apply oz4 | apply oz5 | apply oz6 | apply oz7 | apply oz8 | apply oz9 | apply ozb | apply ozc | apply oze | apply ozf | apply ozg | apply ozh | apply ozi | apply ozj | apply ozk | refine ozd (by decide) ?_) | ((first | apply SO.call | apply DO.call); (iterate 3 (focus (simp (disch := omega) only [go_sem, ↓reduceIte, zn1, zn2, zn3, zn4, zn5, zn6, reduceCtorEq, zn7, zi1, zi2, if_pos, if_neg, q1, z1, z2, z3, z4, z5, z6] <;> rfl))); (first | apply SCall.ofX | apply DCall.ofX); (focus (first | assumption)); (focus (simp (disch := omega) only [go_sem, ↓reduceIte, zn1, zn2, zn3, zn4, zn5, zn6, reduceCtorEq, zn7, zi1, zi2, if_pos, if_neg, q1, z1, z2, z3, z4, z5, z6] <;> rfl))) | ((with_reducible first | apply SC.condB | apply SC.region | apply SO.run | apply DO.run); (focus (simp (disch := omega) only [go_sem, ↓reduceIte, zn1, zn4, reduceCtorEq, if_neg, q1] <;> rfl)); (first | refine pickT ?_ | refine pickF ?_ | fail_if_success with_reducible refine pickA ?_)) | ((with_reducible refine SC.draw Tab.mixed ?_ ?_); (focus (first | rfl | simp (disch := omega) only [go_sem, ↓reduceIte, zn1, zn2, zn3, zn4, zn5, zn6, reduceCtorEq, zn7, zi1, zi2, if_pos, if_neg, q1, z1, z2, z3, z4, z5, z6]))) | (with_reducible apply SC.ops)))
          have e3 : colPre h i j k 0 ((W.set i (addI (W.getD i []) (W.getD j []) k)).set (h + i) (addI (W.getD (h + i) []) (W.getD (h + j) []) k)) = (W.set i (addI (W.getD i []) (W.getD j []) k)).set (h + i) (addI (W.getD (h + i) []) (W.getD (h + j) []) k) := colPre_zero
          have eA : addW h i j k W = colPre h i j k h ((W.set i (addI (W.getD i []) (W.getD j []) k)).set (h + i) (addI (W.getD (h + i) []) (W.getD (h + j) []) k)) := rfl
          have hX2 : ∀ q, 2 * h ≤ q → q < 3 * h → ((W.set i (addI (W.getD i []) (W.getD j []) k)).set (h + i) (addI (W.getD (h + i) []) (W.getD (h + j) []) k)).getD q [] = W.getD q [] := by
            intro q h3 h4
            rw [getD_set (by rw [List.length_set]; omega), if_neg (by omega), getD_set (by omega), if_neg (by omega)]
          have hXl : ((W.set i (addI (W.getD i []) (W.getD j []) k)).set (h + i) (addI (W.getD (h + i) []) (W.getD (h + j) []) k)).length = 3 * h := by rw [List.length_set, List.length_set]; exact hl
          rw [← e3, eA]
          generalize (W.set i (addI (W.getD i []) (W.getD j []) k)).set (h + i) (addI (W.getD (h + i) []) (W.getD (h + j) []) k) = X at *
          refine SC.loop (fun t : Nat => ⟨[(0, .pt p 0), (1, .sc (.int .i64 i)), (2, .sc (.int .i64 j)), (7, .pt nx 0), (10, .sc (.int .i64 t))], (nx, ⟨54, [.sc (.bool (decide (k < 0))), .im (lv (limbsOf k.natAbs)) (limbsOf k.natAbs).length], false⟩) :: wkH p oM oU oV h w a b c (colPre h i j k t X), nx + 1, 143⟩)
            (fun t => t ≤ h) (fun t => h - t) 0 ?_ ?_ ?_
          · unfold wkH workC
            (refine Le.slots ?_ ?_ ?_ <;> (repeat' (first | (exact fun _ _ h => h) | exact Nat.le_refl _ | exact leSl_nil | refine leSl_cons (by simp (disch := omega) only [go_sem, ↓reduceIte, zn1, reduceCtorEq] <;> rfl) ?_ ?_ | exact VLe.junk _ | exact VLe.refl rfl | exact VLe.nil_sl _ _ _ | exact VLe.int (by first | rfl | omega | (dsimp only; omega)) | exact VLe.bool rfl | exact VLe.sl rfl (by first | rfl | omega) | exact VLe.cap rfl (by first | rfl | omega) | exact VLe.im rfl rfl | omega | (refine fun id k h => ?_; simp only [hget] at h ⊢; (repeat' (split at h)) <;> first | (cases h; done) | (simp (disch := omega) only [if_pos, if_neg]; exact h)))))
          · exact Nat.zero_le _
          · intro t ht K3 hK3
            by_cases hc : t < h
            · as_aux_lemma =>
                have q1 := decide_eq_true (p := (t : Int) < (h : Int)) (by omega)
                have hrl : (W.getD (2 * h + t) []).length = h := hW.rowU (2 * h + t) (by omega) (by omega)
                have hWl : (colPre h i j k t X).length = 3 * h := by rw [colPre_len]; exact hXl
                have gi := slR_get (z := 2) (m := h) (ids := c) (k := t) (by omega)
                obtain ⟨gR, y1, y2, y3, y4, y5⟩ := hI.rowF hWl (q := 2 * h + t) (by omega)
                rw [colPre_get (by omega), if_neg (by omega), hX2 _ (by omega) (by omega)] at gR
                have c1 := mul_i k ((W.getD (2 * h + t) []).getD i 0) (K + L) (hk.mono (by omega)) ((hW.fit (2 * h + t) i).mono (by omega)) (by omega)
                have c2 := sub_i ((W.getD (2 * h + t) []).getD j 0) (k * (W.getD (2 * h + t) []).getD i 0) (K + L) ((hW.fit (2 * h + t) j).mono (by omega)) (fits_mulL (hW.fit (2 * h + t) i) hk) (by omega)
                have gl := ivR_len (W.getD (2 * h + t) [])
                rw [hrl] at gl
                have gd := ivR_drop (l := W.getD (2 * h + t) []) (i := i) (by omega)
                have gdj := ivR_drop (l := W.getD (2 * h + t) []) (i := j) (by omega)
                have gs := ivR_set (l := W.getD (2 * h + t) []) (i := j) ((W.getD (2 * h + t) []).getD j 0 - k * (W.getD (2 * h + t) []).getD i 0) (by omega)
                have hrs := hI.rset hWl (q := 2 * h + t) (by omega) ((W.getD (2 * h + t) []).set j ((W.getD (2 * h + t) []).getD j 0 - k * (W.getD (2 * h + t) []).getD i 0))
                have hcs := colPre_set (h := h) (i := i) (j := j) (k := k) (r := t) (W := X) (by omega)
                rw [hX2 _ (by omega) (by omega)] at hcs
                rw [hcs] at hrs
                have hkl := hI.kl (W := colPre h i j k t X) (m := nx + 1) (by omega)
                rw [hI.iV] at gR y1 y2 y3 y4 y5 hrs
                have v5 : c.getD t 0 + 1 - nx = 0 := Nat.sub_eq_zero_of_le y1
                clear hcs
                unfold wkH workC at *
                generalize (ivR (W.getD (2 * h + t) [])).drop ((i + 1) * 2) = Di at *
                generalize (ivR (W.getD (2 * h + t) [])).drop ((j + 1) * 2) = Dj at *
                generalize hA : ivR (W.getD (2 * h + t) []) = A at *
                generalize hA' : ivR ((W.getD (2 * h + t) []).set j ((W.getD (2 * h + t) []).getD j 0 - k * (W.getD (2 * h + t) []).getD i 0)) = A' at *
                generalize (W.getD (2 * h + t) []).getD i 0 = x at *
                generalize (W.getD (2 * h + t) []).getD j 0 = y at *
                generalize hH : rowsH 54 (a ++ b ++ c) (rI (colPre h i j k t X)) = H at *
                generalize c.getD t 0 = idk at *
                unfold iv sv at c1 c2
                unfold ivC sv at gd gs gdj
                simp only [List.cons_append, List.nil_append] at gd gdj
                have g2 : i * 2 < A.length := by omega
                have g2j : j * 2 < A.length := by omega
                (repeat (first | refine DO.nilF (fun i => i + 1 - nx) (by simp (disch := omega) only [go_sem, List.map_cons, List.map_nil, Option.map_some, Option.map_none, Nat.add_sub_cancel_left, Nat.sub_eq_zero_of_le] <;> rfl) (by kernel_rfl) ?_ | (with_reducible first | apply oz1 | apply oz2 | apply oz3 | apply oz4 | apply oz5 | apply oz6 | apply oz7 | apply oz8 | apply oz9 | apply ozb | apply ozc | apply oze | apply ozf | apply ozg | apply ozh | apply ozi | apply ozj | apply ozk | refine ozd (by decide) ?_) | ((first | apply SO.call | apply DO.call); (iterate 3 (focus (simp (disch := omega) only [go_sem, ↓reduceIte, zn1] <;> rfl))); (first | apply SCall.ofX | apply DCall.ofX); (focus (first | assumption)); (focus (simp (disch := omega) only [go_sem] <;> rfl))) | ((with_reducible first | apply SC.condB | apply SC.region | apply SO.run | apply DO.run); (focus (simp (disch := omega) only [go_sem, ↓reduceIte, zn1, zn2, zn3, zn4, reduceCtorEq, if_pos, if_neg, q1, gi, gR, gl, gd, gdj, gs, hrs, z4, z5, z6, y2, y3, y4, y5] <;> rfl)); (first | refine pickT ?_ | refine pickF ?_ | fail_if_success with_reducible refine pickA ?_)) | ((with_reducible refine SC.draw Tab.mixed ?_ ?_); (focus (first | rfl | simp (disch := omega) only [go_sem, ↓reduceIte, if_pos, hkl]))) | (with_reducible apply SC.ops)))
                refine hK3 _ (t + 1) ?_ (by omega) (by omega)
                (refine Le.slots ?_ ?_ ?_ <;> (repeat' (first | (exact fun _ _ h => h) | exact Nat.le_refl _ | exact leSl_nil | refine leSl_cons (by simp (disch := omega) only [go_sem, ↓reduceIte, zn1, reduceCtorEq] <;> rfl) ?_ ?_ | exact VLe.junk _ | exact VLe.refl rfl | exact VLe.nil_sl _ _ _ | exact VLe.int (by first | rfl | omega | (dsimp only; omega)) | exact VLe.bool rfl | exact VLe.sl rfl (by first | rfl | omega) | exact VLe.cap rfl (by first | rfl | omega) | exact VLe.im rfl rfl | omega | (refine fun id k h => ?_; simp only [hget] at h ⊢; (repeat' (split at h)) <;> first | (cases h; done) | (simp (disch := omega) only [if_pos, if_neg]; exact h)))))
            · have htw : t = h := by omega
              have q1 := decide_eq_false (p := (h : Int) < (h : Int)) (by omega)
              rw [htw]
              unfold wkH workC
              (repeat (first | refine DO.nilF (fun i => i + 1 - nx) (by simp (disch := omega) only [go_sem, ↓reduceIte, zn1, zn2, zn3, zn4, zn5, zn6, reduceCtorEq, zn7, zi1, zi2, if_pos, if_neg, List.map_cons, List.map_nil, Option.map_some, Option.map_none, Nat.add_sub_cancel_left, Nat.sub_eq_zero_of_le, Nat.add_assoc, zn4] <;> rfl) (by kernel_rfl) ?_ | (with_reducible first | apply oz1 | apply oz2 | apply oz3 | apply oz4 | apply oz5 | apply oz6 | apply oz7 | apply oz8 | apply oz9 | apply ozb | apply ozc | apply oze | apply ozf | apply ozg | apply ozh | apply ozi | apply ozj | apply ozk | refine ozd (by decide) ?_) | ((first | apply SO.call | apply DO.call); (iterate 3 (focus (simp (disch := omega) only [go_sem, ↓reduceIte, zn1, zn2, zn3, zn4, zn5, zn6, reduceCtorEq, zn7, zi1, zi2, if_pos, if_neg, q1, z1, z2, z3, z4, z5, z6] <;> rfl))); (first | apply SCall.ofX | apply DCall.ofX); (focus (first | assumption)); (focus (simp (disch := omega) only [go_sem, ↓reduceIte, zn1, zn2, zn3, zn4, zn5, zn6, reduceCtorEq, zn7, zi1, zi2, if_pos, if_neg, q1, z1, z2, z3, z4, z5, z6] <;> rfl))) | ((with_reducible first | apply SC.condB | apply SC.region | apply SO.run | apply DO.run); (focus (simp (disch := omega) only [go_sem, ↓reduceIte, zn1, reduceCtorEq, if_neg, q1] <;> rfl)); (first | refine pickT ?_ | refine pickF ?_ | fail_if_success with_reducible refine pickA ?_)) | ((with_reducible refine SC.draw Tab.mixed ?_ ?_); (focus (first | rfl | simp (disch := omega) only [go_sem, ↓reduceIte, zn1, zn2, zn3, zn4, zn5, zn6, reduceCtorEq, zn7, zi1, zi2, if_pos, if_neg, q1, z1, z2, z3, z4, z5, z6]))) | (with_reducible apply SC.ops)))
              refine retIQ_normal (rs := []) (.tu []) (wkH p oM oU oV h w a b c (colPre h i j k h X)) nx Try.results53 rfl ⟨rfl, rfl, rfl⟩ ?_
              refine Le.wkDown ⟨nx, hB, Nat.le_refl _⟩ hI (less_new (fun id q hq => hq) fun id q hq => Nat.ne_of_lt (wk_lt hI id q hq)) ?_
              exact mapSl_cons rfl VMap.tu0 trivial
end Go.Proofs.Ytfhcmibgpddggaa
