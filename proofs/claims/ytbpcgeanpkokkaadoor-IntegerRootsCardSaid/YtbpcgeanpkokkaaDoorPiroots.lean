/- 'IntegerRoots' returns true for every input, and each argument reads afterwards as it read before; the package-level tables as the program's text lays them. No other conditions. -/
import Derived.Test.YtbpcgeanpkokkaaDoorRows
import Derived.Test.YtbpcgeanpkokkaaDoorCards
import Derived.Test.YtbpcgeanpkokkaaDoorTie
import Derived.Test.YtbpcgeanpkokkaaDoorZc
import Derived.Test.YtbpcgeanpkokkaaDoorZd
import Derived.Test.YtbpcgeanpkokkaaDoorZh
set_option linter.all false

namespace Go.Proofs.YtbpcgeanpkokkaaDoor
open Go.ChangeShapes Go.WideShapes Go.ChangeAt Go.RowKit

set_option maxRecDepth 20000 in
set_option maxHeartbeats 8000000 in
theorem iroots_s (l1 : List Nat) (b1 : Bool) (h1 : limbs l1) (e1 : l1.length ≤ 9223372036854775807) (k : Nat) (hk : k ≤ 255) :
    Spec Tryd.prog 11 [.ag [.im (lv l1) l1.length, .sc (.bool b1)], .sc (.int .u8 k)] (.sc (.bool true)) := by
  have m1 := lawmade_s l1 _ b1 h1 rfl e1
  have fa := made12_fits h1 b1
  generalize made12 l1 b1 = a at *
  have fn : Fits 12 (a.natAbs : Int) := by unfold Fits at *; rw [Int.natAbs_natCast]; exact fa
  obtain ⟨r, hr⟩ := isRoot.exists a.natAbs
  have hrle : r ≤ a.natAbs := by
    rcases Nat.eq_zero_or_pos r with e | e
    · omega
    · have := Nat.mul_le_mul_left r e; have := hr.1; omega
  have fr : Fits 12 (r : Int) := by unfold Fits at *; rw [Int.natAbs_natCast] at *; omega
  have faa : Fits 24 ((a.natAbs * a.natAbs : Nat) : Int) := by
    have := fn.mul fn
    rw [← Int.natCast_mul] at this; exact this
  have c1 := rabs_i a 12 fa (by omega)
  have c2 := proot_nat a.natAbs r 12 fn (by omega) hr
  have c3 := mul_i a a 12 fa fa (by omega)
  rw [← Int.natAbs_mul_self' a, ← Int.natCast_mul] at c3
  have c4 := proot_nat (a.natAbs * a.natAbs) a.natAbs 24 faa (by omega) (isRoot_sq _)
  have c5 := bits_i a 12 fa (by omega)
  have c6 := sign_i a 12 fa (by omega)
  have c7 := rvalid_i (r : Int) 12 fr (by omega)
  have c8 := rvalid_i (a.natAbs : Int) 12 fn (by omega)
  have hbl := bl_fits fa
  have c9 := of_i 1 (by omega) (by omega)
  have c10 := add_i (r : Int) 1 12 fr (Fits.one (by omega)) (by omega)
  have c11 := of_i 2 (by omega) (by omega)
  have f2 : Fits 1 2 := by unfold Fits; decide
  have c12 := rpow_i 2 (min (bl a.natAbs) 256) 1 f2 (by omega) (by omega)
  have c13 := rpow_i 2 (bl a.natAbs - 256) 1 f2 (by omega) (by omega)
  have g1 : (if (256 : Int) < ((bl a.natAbs : Nat) : Int) then (256 : Int) else ((bl a.natAbs : Nat) : Int)) = ((min (bl a.natAbs) 256 : Nat) : Int) := by split <;> omega
  have g2 : (if ((bl a.natAbs : Nat) : Int) - 256 > 0 then ((bl a.natAbs : Nat) : Int) - 256 else 0) = ((bl a.natAbs - 256 : Nat) : Int) := by split <;> omega
  have e3 : (k : Int).tmod 40 = ((k % 40 : Nat) : Int) := (Int.ofNat_tmod k 40).symm
  have hj : k % 40 < 40 := by omega
  generalize k % 40 = j at *
  have c14 := rpow_i 2 j 1 f2 (by omega) (by omega)
  have p1 : (2 : Int) ^ (min (bl a.natAbs) 256) * 2 ^ (bl a.natAbs - 256) = ((2 ^ bl a.natAbs : Nat) : Int) := by
    rw [← Int.pow_add, show min (bl a.natAbs) 256 + (bl a.natAbs - 256) = bl a.natAbs by omega]; simp
  have fp1 : Fits 300 ((2 : Int) ^ (min (bl a.natAbs) 256)) := (f2.pow _).mono (by omega)
  have fp2 : Fits 300 ((2 : Int) ^ (bl a.natAbs - 256)) := (f2.pow _).mono (by omega)
  have fpj : Fits 300 ((2 : Int) ^ j) := (f2.pow _).mono (by omega)
  have c15 := mul_i ((2 : Int) ^ (min (bl a.natAbs) 256)) ((2 : Int) ^ (bl a.natAbs - 256)) 300 fp1 fp2 (by omega)
  have fP := fp1.mul fp2
  rw [p1] at c15 fP
  have c16 := cmp_i (a.natAbs : Int) ((2 ^ bl a.natAbs : Nat) : Int) 600 (fn.mono (by omega)) fP (by omega)
  have hlt := bl_lt a.natAbs
  rw [Int.sign_eq_neg_one_of_neg (by omega)] at c16
  have c17 := add_i (a.natAbs : Int) (a.natAbs : Int) 12 fn fn (by omega)
  have c18 := cmp_i ((a.natAbs : Int) + (a.natAbs : Int)) ((2 ^ bl a.natAbs : Nat) : Int) 600 ((fn.add fn).mono (by omega)) fP (by omega)
  have c19 := mul_i a ((2 : Int) ^ j) 300 (fa.mono (by omega)) fpj (by omega)
  have faj := ((fa.mono (L := 300) (by omega)).mul fpj).mono (L := 600) (by omega)
  have c20 := bits_i (a * 2 ^ j) 600 faj (by omega)
  have haj : (a * 2 ^ j).natAbs = a.natAbs * 2 ^ j := by rw [Int.natAbs_mul, Int.natAbs_pow]; rfl
  rw [haj] at c20
  have c21 := sign_i (r : Int) 12 fr (by omega)
  have c22 := mul_i (r : Int) (r : Int) 12 fr fr (by omega)
  have c23 := cmp_i ((r : Int) * (r : Int)) (a.natAbs : Int) 24 (fr.mul fr) (fn.mono (by omega)) (by omega)
  have fr1 := fr.add (Fits.one (K := 12) (by omega))
  have c24 := mul_i ((r : Int) + 1) ((r : Int) + 1) 13 fr1 fr1 (by omega)
  have c25 := cmp_i (((r : Int) + 1) * ((r : Int) + 1)) (a.natAbs : Int) 26 (fr1.mul fr1) (fn.mono (by omega)) (by omega)
  have c26 := same_i (a.natAbs : Int) (a.natAbs : Int) (fits_short fn (by omega)) (fits_short fn (by omega))
  rw [decide_eq_true rfl] at c26
  have c27 := pabs_i a 12 fa (by omega)
  have hr1 : (r : Int) * (r : Int) ≤ (a.natAbs : Int) := by have := hr.1; rw [← Int.natCast_mul]; omega
  have hr2 : (a.natAbs : Int) < ((r : Int) + 1) * ((r : Int) + 1) := by
    have := hr.2
    have e : ((r : Int) + 1) * ((r : Int) + 1) = (((r + 1) * (r + 1) : Nat) : Int) := by simp
    rw [e]; omega
  have q1 : decide (((r : Int) * (r : Int) - (a.natAbs : Int)).sign ≤ 0) = true := by
    rw [decide_eq_true_eq]; have := sign_cases ((r : Int) * (r : Int) - (a.natAbs : Int)); omega
  rw [Int.sign_eq_one_of_pos (show 0 < ((r : Int) + 1) * ((r : Int) + 1) - (a.natAbs : Int) by omega)] at c25
  have q2 : decide (0 < (1 : Int)) = true := by decide
  have q3 : decide (0 ≤ ((r : Nat) : Int).sign) = true := by
    rw [decide_eq_true_eq]; have := sign_cases (r : Int); omega
  have q4 := decide_eq_false (p := ((bl a.natAbs : Nat) : Int) < 0) (by omega)
  have q5 := decide_eq_false (p := 400 < ((bl a.natAbs : Nat) : Int)) (by omega)
  have q6 : decide ((-1 : Int) < 0) = true := by decide
  have bdr : -1 ≤ ((r : Nat) : Int).sign ∧ ((r : Nat) : Int).sign ≤ 1 := by have := sign_cases (r : Int); omega
  have q0 : ((0 : Int) != 0) = false := by decide
  have hshape : ∀ (g sa : Int) (r0 : Int), Spec Tryd.prog 43 [iv a] (.tu [iv r0, .sc (.int .i64 g)]) → sa = a.sign → (((g == 1) != decide (sa < 0)) = false) → (((sa == 0) = true ∧ ((bl a.natAbs : Nat) : Int) = 0) ∨
      ((sa == 0) = false ∧ (((bl a.natAbs : Nat) : Int) == 0) = false ∧ decide (0 ≤ ((a.natAbs : Int) + (a.natAbs : Int) - ((2 ^ bl a.natAbs : Nat) : Int)).sign) = true ∧ (((bl (a.natAbs * 2 ^ j) : Nat) : Int) == ((bl a.natAbs : Nat) : Int) + (j : Int)) = true)) →
      Spec Tryd.prog 11 [.ag [.im (lv l1) l1.length, .sc (.bool b1)], .sc (.int .u8 k)] (.sc (.bool true)) := by
    intro g sa r0 c30 hsa q7 hc
    rw [← hsa] at c6
    clear hsa hr hr1 hr2 hlt p1 haj
    generalize (a.natAbs : Int) + (a.natAbs : Int) - ((2 ^ bl a.natAbs : Nat) : Int) = d1 at *
    generalize (r : Int) * (r : Int) - (a.natAbs : Int) = d2 at *
    generalize bl (a.natAbs * 2 ^ j) = bj at *
    generalize 2 ^ bl a.natAbs = P at *
    generalize (2 : Int) ^ j = pj at *
    generalize (2 : Int) ^ (min (bl a.natAbs) 256) = pm at *
    generalize (2 : Int) ^ (bl a.natAbs - 256) = pq at *
    generalize a.natAbs * a.natAbs = aa at *
    unfold iv sv at *
    rcases hc with ⟨q8, q9⟩ | ⟨q8, q9, q10, q11⟩
    · have q10 : (((bl a.natAbs : Nat) : Int) == 0) = true := by rw [q9]; rfl
      clear q9
      refine Spec.run Tryd.func11 rfl Tryd.ntmps11 (by simp) (by simp (disch := omega) only [go_sem, Nat.reduceAdd]; rfl) fun B hB => ?_
      (repeat (first | refine DO.nil (by kernel_rfl) ?_ | with_reducible refine SC.seq ?_ | with_reducible refine SC.skip ?_ | with_reducible refine SC.label ?_ | with_reducible refine SC.block ?_ | with_reducible refine SC.scope ?_ | with_reducible refine SC.nil ?_ | with_reducible refine SC.exit ?_ | with_reducible refine SC.ret ?_ | with_reducible refine SO.nil ?_ | with_reducible refine tq_normal ?_ | with_reducible refine bq_normal ?_ | with_reducible refine bq_same ?_ | with_reducible refine bq_other (by decide) ?_ | with_reducible refine tq_exit ?_ | with_reducible refine tq_ret ?_ | with_reducible refine bq_ret ?_ | with_reducible refine sq_normal ?_ | with_reducible refine sq_exit ?_ | with_reducible refine sq_ret ?_ | ((with_reducible apply SC.condB); (focus (simp (disch := omega) only [go_sem, ↓reduceIte]; rfl)); (first | refine pickT ?_ | refine pickF ?_)) | ((with_reducible apply SC.region); (focus (simp (disch := omega) only [go_sem, ↓reduceIte, Nat.reduceEqDiff, Nat.reduceLeDiff, Nat.reduceAdd, beq_self_eq_true, q0]; rfl))) | ((with_reducible refine SC.draw Tab.mixed ?_ ?_); (focus (first | rfl | simp (disch := omega) only [go_sem, ↓reduceIte, Nat.reduceEqDiff, Nat.reduceLT, Nat.reduceLeDiff, Nat.reduceAdd, Nat.reduceMul, Nat.reduceSub, reduceCtorEq, Nat.reduceBEq, Int.reduceToNat, Int.reducePow, if_pos, if_neg, beq_self_eq_true, g1, g2, e3, q0, q1, q2, q3, q4, q5, q6, q7, q8, q10, lv_len]))) | (with_reducible refine SC.ops ?_) | ((first | apply SO.call | apply DO.call); (focus (simp (disch := omega) only [go_sem])); (focus (simp (disch := omega) only [go_sem, ↓reduceIte, Nat.reduceEqDiff]; rfl)); (focus (simp (disch := omega) only [go_sem, ↓reduceIte, Nat.reduceEqDiff, beq_self_eq_true] <;> rfl)); (first | (apply SCall.of; (focus (first | assumption | exact sanity_s)); (focus (simp (disch := omega) only [go_sem]; rfl))) | (apply DCall.of; (focus (first | assumption | exact sanity_s)); (focus (simp (disch := omega) only [go_sem]; rfl))) | (apply SCall.ofF; (focus (first | assumption | exact sanity_s)); (focus (simp (disch := omega) only [go_sem, ↓reduceIte, Nat.reduceEqDiff, Nat.reduceLT, Nat.reduceLeDiff, Nat.reduceAdd, Nat.reduceMul, Nat.reduceSub, reduceCtorEq, Nat.reduceBEq, Int.reduceToNat, Int.reducePow, if_pos, if_neg, beq_self_eq_true, g1, g2, e3, q0, q1, q2, q3, q4, q5, q6, q7, q8, q10, lv_len]; rfl))))) | ((first | with_reducible apply SO.run | with_reducible apply DO.run); (focus (simp (disch := omega) only [go_sem, ↓reduceIte, Nat.reduceEqDiff, Nat.reduceLT, Nat.reduceLeDiff, Nat.reduceAdd, reduceCtorEq, if_neg, beq_self_eq_true, g1, g2, e3, q0, q1, q2, q3, q4, q5, q6, q7, q8, q10]; rfl)))))
      exact retQ_ret Tryd.results11 (by simp (disch := omega) only [go_sem, ↓reduceIte]; rfl) (by simp (disch := omega) only [go_sem]; rfl) rfl
    · refine Spec.run Tryd.func11 rfl Tryd.ntmps11 (by simp) (by simp (disch := omega) only [go_sem, Nat.reduceAdd]; rfl) fun B hB => ?_
      (repeat (first | refine DO.nil (by kernel_rfl) ?_ | with_reducible refine SC.seq ?_ | with_reducible refine SC.skip ?_ | with_reducible refine SC.label ?_ | with_reducible refine SC.block ?_ | with_reducible refine SC.scope ?_ | with_reducible refine SC.nil ?_ | with_reducible refine SC.exit ?_ | with_reducible refine SC.ret ?_ | with_reducible refine SO.nil ?_ | with_reducible refine tq_normal ?_ | with_reducible refine bq_normal ?_ | with_reducible refine bq_same ?_ | with_reducible refine bq_other (by decide) ?_ | with_reducible refine tq_exit ?_ | with_reducible refine tq_ret ?_ | with_reducible refine bq_ret ?_ | with_reducible refine sq_normal ?_ | with_reducible refine sq_exit ?_ | with_reducible refine sq_ret ?_ | ((with_reducible apply SC.condB); (focus (simp (disch := omega) only [go_sem, ↓reduceIte]; rfl)); (first | refine pickT ?_ | refine pickF ?_)) | ((with_reducible apply SC.region); (focus (simp (disch := omega) only [go_sem, ↓reduceIte, Nat.reduceEqDiff, Nat.reduceLeDiff, Nat.reduceAdd, beq_self_eq_true, q0]; rfl))) | ((with_reducible refine SC.draw Tab.mixed ?_ ?_); (focus (first | rfl | simp (disch := omega) only [go_sem, ↓reduceIte, Nat.reduceEqDiff, Nat.reduceLT, Nat.reduceLeDiff, Nat.reduceAdd, Nat.reduceMul, Nat.reduceSub, reduceCtorEq, Nat.reduceBEq, Int.reduceToNat, Int.reducePow, if_pos, if_neg, beq_self_eq_true, g1, g2, e3, q0, q1, q2, q3, q4, q5, q6, q7, q8, q9, q10, q11, lv_len]))) | (with_reducible refine SC.ops ?_) | ((first | apply SO.call | apply DO.call); (focus (simp (disch := omega) only [go_sem])); (focus (simp (disch := omega) only [go_sem, ↓reduceIte, Nat.reduceEqDiff]; rfl)); (focus (simp (disch := omega) only [go_sem, ↓reduceIte, Nat.reduceEqDiff, beq_self_eq_true] <;> rfl)); (first | (apply SCall.of; (focus (first | assumption | exact sanity_s)); (focus (simp (disch := omega) only [go_sem]; rfl))) | (apply DCall.of; (focus (first | assumption | exact sanity_s)); (focus (simp (disch := omega) only [go_sem]; rfl))) | (apply SCall.ofF; (focus (first | assumption | exact sanity_s)); (focus (simp (disch := omega) only [go_sem, ↓reduceIte, Nat.reduceEqDiff, Nat.reduceLT, Nat.reduceLeDiff, Nat.reduceAdd, Nat.reduceMul, Nat.reduceSub, reduceCtorEq, Nat.reduceBEq, Int.reduceToNat, Int.reducePow, if_pos, if_neg, beq_self_eq_true, g1, g2, e3, q0, q1, q2, q3, q4, q5, q6, q7, q8, q9, q10, q11, lv_len]; rfl))))) | ((first | with_reducible apply SO.run | with_reducible apply DO.run); (focus (simp (disch := omega) only [go_sem, ↓reduceIte, Nat.reduceEqDiff, Nat.reduceLT, Nat.reduceLeDiff, Nat.reduceAdd, reduceCtorEq, if_neg, beq_self_eq_true, g1, g2, e3, q0, q1, q2, q3, q4, q5, q6, q7, q8, q9, q10, q11]; rfl)))))
      exact retQ_ret Tryd.results11 (by simp (disch := omega) only [go_sem, ↓reduceIte]; rfl) (by simp (disch := omega) only [go_sem]; rfl) rfl
  have hnz : a ≠ 0 → (((bl a.natAbs : Nat) : Int) == 0) = false ∧ decide (0 ≤ ((a.natAbs : Int) + (a.natAbs : Int) - ((2 ^ bl a.natAbs : Nat) : Int)).sign) = true ∧ (((bl (a.natAbs * 2 ^ j) : Nat) : Int) == ((bl a.natAbs : Nat) : Int) + (j : Int)) = true := fun h => by
    obtain ⟨u1, u2⟩ := bl_le (x := a.natAbs) (by omega)
    refine ⟨by rw [beq_eq_false_iff_ne]; omega, ?_, by rw [bl_shift (by omega), beq_iff_eq]; omega⟩
    have e : 2 ^ bl a.natAbs = 2 ^ (bl a.natAbs - 1) * 2 := by rw [← Nat.pow_succ]; congr 1; omega
    rw [e, decide_eq_true_eq]
    have := sign_cases ((a.natAbs : Int) + (a.natAbs : Int) - ((2 ^ (bl a.natAbs - 1) * 2 : Nat) : Int))
    generalize 2 ^ (bl a.natAbs - 1) = w at *
    omega
  rcases Int.lt_trichotomy a 0 with h | h | h
  · refine hshape 1 (-1) 0 (proot_neg a 12 fa (by omega) h) (Int.sign_eq_neg_one_of_neg h).symm (by decide) (.inr ⟨by decide, hnz (by omega)⟩)
  · subst h
    exact hshape 0 0 0 proot_zero rfl (by decide) (.inl ⟨by decide, rfl⟩)
  · have hc2 := c2
    rw [show (a.natAbs : Int) = a by omega] at hc2
    exact hshape 0 1 (r : Int) hc2 (Int.sign_eq_one_of_pos h).symm (by decide) (.inr ⟨by decide, hnz (by omega)⟩)

theorem spec_all (xs : List V) (h : Shp.Vals [.st [.slc (.int .u32), .bool], .int .u8] xs) : Spec Tryd.prog 11 xs (.sc (.bool true)) := by
  obtain ⟨x0, ys0, rfl, h0, x1, ys1, rfl, ⟨n, rfl, hn⟩, rfl⟩ := h
  obtain ⟨l0, b0, rfl, hl0, hm0⟩ := number_shape h0
  have hb := u8_wf n hn
  obtain ⟨k, rfl⟩ := Int.eq_ofNat_of_zero_le hb.1
  exact iroots_s l0 b0 hl0 (by unfold maxLen at hm0; omega) k (by omega)

theorem own : ownKnob Tryd.prog.godebug = none := by kernel_rfl
theorem laidOut : laidOutB Tryd.prog = true := by kernel_rfl

set_option maxRecDepth 100000 in
theorem law_contract (H : Type) (enc : TypeId × Value → H) (W : World) (base : Nat) (args : Array Value) (ds gs : List (DataW H)) (before : List MemPlace)
    (hval : ∀ (j : Nat) t v, Tryd.f11.params[j]? = some t → args[j]? = some v → Value.okWide Tryd.prog W .any 0 t v)
    (hW : DataW.Whole enc Tryd.prog Tryd.f11.params.toList Rows.integerRootsSpec.vars false W args.toList ds gs before) (hL : laidMetH Tryd.prog Rows.integerRootsRow.laid W) :
    Calls Tryd.prog 11 args W fun e W' => ∃ v, e = .returned v ∧ Rows.integerRootsSpec.post enc Tryd.prog Tryd.f11 false true false false W args v W' := by
  have hW' := hW
  obtain ⟨p, q, hA0, hV, rfl, hfz, hnd⟩ := hW
  obtain ⟨hl, hc⟩ := law_calls (enc := enc) [.st [.slc (.int .u32), .bool], .int .u8] (by kernel_rfl) hval hA0 (tabs hL) spec_all
  refine hc.mono fun e W' ⟨he, hb⟩ => ?_
  subst he
  rw [show Tryd.f11.params.size = 2 by kernel_rfl] at hl
  obtain ⟨d0, d1, rfl⟩ : ∃ d0 d1, ds = [d0, d1] := by
    match ds, hl with
    | [a0, a1], _ => exact ⟨a0, a1, rfl⟩
  exact ⟨_, rfl, law_post laidOut (by kernel_rfl) (by kernel_rfl) Tryd.underlying4 rfl rfl hW' hb⟩

theorem laid_met (os : Os) : laidMet Tryd.prog Rows.integerRootsRow.laid ((laidWorld os).forCall (fun _ _ => 0) ⟨#[], #[.agg #[.slice none 0 0, .bool false], .int .u8 0], []⟩).memory :=
  laidMet_of_run' 8 (by kernel_rfl) (by kernel_rfl)
theorem wit_reads (os : Os) {H : Type} (enc : TypeId × Value → H) : ∃ places, DataW.whole enc Tryd.prog ((laidWorld os).forCall (fun _ _ => 0) ⟨#[], #[.agg #[.slice none 0 0, .bool false], .int .u8 0], []⟩).memory Tryd.f11.params.toList Rows.integerRootsSpec.vars false (#[.agg #[.slice none 0 0, .bool false], .int .u8 0] : Array Value).toList 8 = some ([.agg [.nil, .lit (.bool false)], .lit (.int .u8 0)], [], places) :=
  ⟨[], by kernel_rfl⟩

set_option maxRecDepth 100000 in
theorem law_lifted (os : Os) (started : os.Started) (H : Type) (enc : TypeId × Value → H) (F : Stop.Interp) :
    ReturnsInHanded {} Tryd.checked os 11 .any ((OpenSpec.ofChange Rows.integerRootsSpec).preRow enc Tryd.prog Tryd.f11 Rows.integerRootsRow.domain false Rows.integerRootsRow.laid) (((OpenSpec.ofChange Rows.integerRootsSpec).at F).post enc Tryd.prog Tryd.f11 false true false false) := by
  obtain ⟨places, hx⟩ := wit_reads os enc
  refine returnsInHanded_of_row (C := Tryd.checked) (s := OpenSpec.ofChange Rows.integerRootsSpec) own started (by kernel_rfl) Tryd.func11
    (witness_row_at (enc := enc) (C := Tryd.checked) false (laidWorld os) #[.agg #[.slice none 0 0, .bool false], .int .u8 0] rfl (by kernel_rfl) (by kernel_rfl) (by kernel_rfl)
      (OpenSpec.preRow_of_cond 8 hx (by kernel_rfl) (fun k hk => by cases hk) (by kernel_rfl) (laid_met os))) ?_
  intro W base args ds gs before hval hW _ _ _ hL _ _
  exact law_contract H enc W base args ds gs before hval hW hL

theorem said : Rows.IntegerRootsSaid :=
  OpenClaim.holds_of_cond 11 Tryd.f11 rfl rfl rfl rfl rfl rfl rfl ⟨rfl, rfl, rfl, rfl, rfl⟩ rfl rfl rfl rfl rfl (by kernel_rfl) Tryd.func11 (by kernel_rfl)
    (of_decide_eq_true (by kernel_rfl)) (by unfold Func.isWrapper; first | (rw [if_pos (by decide +kernel)]; kernel_rfl) | (rw [if_neg (by decide +kernel)]; exact ⟨rfl, rfl⟩))
    (fun os started H enc _ F => by rw [OpenClaim.pre_eq_preRow]; exact law_lifted os started H enc F)

/-- no parameter wants a stand-in; the program's own looks are off -/
theorem plain (f : FuncId) (fn : Func) (hf : Tryd.pinned.checked.prog.funcNamed "torsion/torsionlaw01.IntegerRoots" = some f) (hfn : Tryd.pinned.checked.prog.funcs[f]? = some fn) :
    false = Tryd.pinned.checked.prog.looks [] ∧ ∀ (j : Nat) t, fn.params[j]? = some t → Tryd.pinned.checked.prog.wantsStandIn t = false := by
  obtain rfl : f = 11 := Option.some.inj ((show Tryd.prog.funcNamed "torsion/torsionlaw01.IntegerRoots" = some 11 by kernel_rfl).symm.trans hf) |>.symm
  obtain rfl : fn = Tryd.f11 := (Option.some.inj (Tryd.func11.symm.trans hfn)).symm
  refine ⟨by kernel_rfl, fun j t ht => ?_⟩
  have hm : t ∈ Tryd.f11.params.toList := by simpa using Array.mem_of_getElem? ht
  have hall : (Tryd.f11.params.toList.all fun t => !Tryd.prog.wantsStandIn t) = true := by kernel_rfl
  have := List.all_eq_true.1 hall t hm
  exact (show Tryd.prog.wantsStandIn t = false by simpa using this)

theorem law_holds : Rows.IntegerRootsCardSaid :=
  Claim7.holds_tied_plain_at .later [] _ _ _ _ said (fun _ h => by cases h) (by kernel_rfl) (fun _ h => by cases h) integerRoots_row_tie rfl ⟨rfl, rfl⟩ (by kernel_rfl) rfl plain (by kernel_rfl)
#print axioms law_holds
end Go.Proofs.YtbpcgeanpkokkaaDoor
