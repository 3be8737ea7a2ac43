/- 'IntegerGcd' returns true for every input, and each argument reads afterwards as it read before; the package-level tables as the program's text lays them. No other conditions. -/
import Derived.Test.YtbpcgeanpkokkaaDoorRows
import Derived.Test.YtbpcgeanpkokkaaDoorCards
import Derived.Test.YtbpcgeanpkokkaaDoorTie
import Derived.Test.YtbpcgeanpkokkaaDoorZc
import Derived.Test.YtbpcgeanpkokkaaDoorZd
import Derived.Test.YtbpcgeanpkokkaaDoorZf
import Derived.Test.YtbpcgeanpkokkaaDoorZh
set_option linter.all false

namespace Go.Proofs.YtbpcgeanpkokkaaDoor
open Go.ChangeShapes Go.WideShapes Go.ChangeAt Go.RowKit

set_option maxHeartbeats 4000000 in
theorem igcd_s (l1 l2 l3 : List Nat) (b1 b2 b3 : Bool) (h1 : limbs l1) (h2 : limbs l2) (h3 : limbs l3) (e1 : l1.length ≤ 9223372036854775807) (e2 : l2.length ≤ 9223372036854775807) (e3 : l3.length ≤ 9223372036854775807) :
    Spec Tryd.prog 7 [.ag [.im (lv l1) l1.length, .sc (.bool b1)], .ag [.im (lv l2) l2.length, .sc (.bool b2)], .ag [.im (lv l3) l3.length, .sc (.bool b3)]] (.sc (.bool true)) := by
  have k1 := take_le l1 6
  have k2 := take_le l2 6
  have k3 := take_le l3 2
  have m1 := lawmade_s (l1.take 6) _ b1 (limbs_take h1 6) rfl (by omega)
  have m2 := lawmade_s (l2.take 6) _ b2 (limbs_take h2 6) rfl (by omega)
  have m3 := lawmade_s (l3.take 2) _ b3 (limbs_take h3 2) rfl (by omega)
  have fa := (made12_take h1 6 b1).mono (L := 100) (by omega)
  have fb := (made12_take h2 6 b2).mono (L := 100) (by omega)
  have fc := (made12_take h3 2 b3).mono (L := 100) (by omega)
  generalize made12 (l1.take 6) b1 = a at *
  generalize made12 (l2.take 6) b2 = b at *
  generalize made12 (l3.take 2) b3 = c at *
  have w1 := min_take l1 6
  have w2 := min_take l2 6
  have w3 := min_take l3 2
  simp only [Int.cast_ofNat_Int] at w1 w2 w3
  have u1 := take_take_len l1 6
  have u2 := take_take_len l2 6
  have u3 := take_take_len l3 2
  have fac := fa.mul fc
  have fbc := fb.mul fc
  have hgle : Int.gcd a b ≤ a.natAbs + b.natAbs := by
    rcases Nat.eq_zero_or_pos a.natAbs with h | h
    · have : a = 0 := by omega
      subst this; simp
    · have : Int.gcd a b ∣ a.natAbs := Int.gcd_dvd_natAbs_left a b
      have := Nat.le_of_dvd h this; omega
  have fg : Fits 101 (Int.gcd a b : Int) := by
    have : 4294967296 ^ 101 = 4294967296 ^ 100 * 4294967296 := by rw [← Nat.pow_succ]
    unfold Fits at *; rw [this]
    generalize 4294967296 ^ 100 = M at *
    rw [Int.natAbs_natCast]; omega
  have hcabs : Fits 100 (c.natAbs : Int) := by unfold Fits at *; rw [Int.natAbs_natCast]; exact fc
  have c1 := pgcd_i a b 100 fa fb (by omega)
  have c2 := mul_i a c 100 fa fc (by omega)
  have c3 := mul_i b c 100 fb fc (by omega)
  have c4 := pgcd_i (a * c) (b * c) 200 fac fbc (by omega)
  have hgc : (Int.gcd (a * c) (b * c) : Int) = (Int.gcd a b : Int) * (c.natAbs : Int) := by rw [Int.gcd_mul_right]; simp
  rw [hgc] at c4
  have c5 := rgcd_i a b 100 fa fb (by omega)
  have c6 := same_i (Int.gcd a b) (Int.gcd a b) (fits_short fg (by omega)) (fits_short fg (by omega))
  rw [decide_eq_true rfl] at c6
  have c7 := pgcd_i b a 100 fb fa (by omega)
  rw [Int.gcd_comm b a] at c7
  have c8 := rvalid_i (Int.gcd a b) 101 fg (by omega)
  have c9 := made_nat c.natAbs (by have := fits_len fc; omega)
  have c10 := mul_i (Int.gcd a b) c.natAbs 101 fg (hcabs.mono (by omega)) (by omega)
  have fgc : Fits 202 ((Int.gcd a b : Int) * (c.natAbs : Int)) := (fg.mul (hcabs.mono (L := 101) (by omega))).mono (by omega)
  have c11 := same_i ((Int.gcd a b : Int) * (c.natAbs : Int)) ((Int.gcd a b : Int) * (c.natAbs : Int)) (fits_short fgc (by omega)) (fits_short fgc (by omega))
  rw [decide_eq_true rfl] at c11
  have c12 := sign_i (Int.gcd a b) 101 fg (by omega)
  have c13 := sign_i a 100 fa (by omega)
  have c14 := sign_i b 100 fb (by omega)
  by_cases h0 : Int.gcd a b = 0
  · have ha0 : a = 0 := by have := Int.gcd_eq_zero_iff.1 h0; exact this.1
    have hb0 : b = 0 := by have := Int.gcd_eq_zero_iff.1 h0; exact this.2
    have q1 : (((Int.gcd a b : Int)).sign == 0) = true := by rw [h0]; rfl
    have q2 : (a.sign == 0) = true := by rw [ha0]; rfl
    have q3 : (b.sign == 0) = true := by rw [hb0]; rfl
    unfold iv sv at *
    generalize (Int.gcd a b : Int).sign = sg at *
    generalize (Int.gcd a b : Int) * (c.natAbs : Int) = gc at *
    generalize a.sign = sa at *
    generalize b.sign = sb at *
    refine Spec.run Tryd.func7 rfl Tryd.ntmps7 (by simp) (by simp (disch := omega) only [go_sem, Nat.reduceAdd]; rfl) fun B hB => ?_
    (repeat (first | refine DO.nil (by kernel_rfl) ?_ | with_reducible refine SC.seq ?_ | with_reducible refine SC.skip ?_ | with_reducible refine SC.label ?_ | with_reducible refine SC.block ?_ | with_reducible refine SC.scope ?_ | with_reducible refine SC.nil ?_ | with_reducible refine SC.exit ?_ | with_reducible refine SC.ret ?_ | with_reducible refine SO.nil ?_ | with_reducible refine tq_normal ?_ | with_reducible refine bq_normal ?_ | with_reducible refine bq_same ?_ | with_reducible refine bq_other (by decide) ?_ | with_reducible refine tq_exit ?_ | with_reducible refine tq_ret ?_ | with_reducible refine bq_ret ?_ | with_reducible refine sq_normal ?_ | with_reducible refine sq_exit ?_ | with_reducible refine sq_ret ?_ | ((with_reducible apply SC.condB); (focus (simp (disch := omega) only [go_sem, ↓reduceIte]; rfl)); (first | refine pickT ?_ | refine pickF ?_)) | ((with_reducible apply SC.region); (focus (simp (disch := omega) only [go_sem, ↓reduceIte, Nat.reduceEqDiff, Nat.reduceLeDiff, Nat.reduceAdd, reduceCtorEq]; rfl))) | ((with_reducible refine SC.draw Tab.mixed ?_ ?_); (focus (first | rfl | simp (disch := omega) only [go_sem, ↓reduceIte, Nat.reduceEqDiff, Nat.reduceLT, Nat.reduceLeDiff, Nat.reduceAdd, Nat.reduceMul, Nat.reduceSub, reduceCtorEq, Nat.reduceBEq, Int.reduceToNat, Int.reducePow, if_pos, if_neg, beq_self_eq_true, q1, q2, q3, w1, w2, w3, u1, u2, u3, lv_len, lv_take]))) | (with_reducible refine SC.ops ?_) | ((first | apply SO.call | apply DO.call); (focus (simp (disch := omega) only [go_sem])); (focus (simp (disch := omega) only [go_sem, ↓reduceIte, Nat.reduceEqDiff]; rfl)); (focus (simp (disch := omega) only [go_sem, ↓reduceIte, Nat.reduceEqDiff, beq_self_eq_true] <;> rfl)); (first | (apply SCall.of; (focus (first | assumption | exact sanity_s)); (focus (simp (disch := omega) only [go_sem]; rfl))) | (apply DCall.of; (focus (first | assumption | exact sanity_s)); (focus (simp (disch := omega) only [go_sem]; rfl))) | (apply SCall.ofF; (focus (first | assumption | exact sanity_s)); (focus (simp (disch := omega) only [go_sem, ↓reduceIte, Nat.reduceEqDiff, Nat.reduceLT, Nat.reduceLeDiff, Nat.reduceAdd, Nat.reduceMul, Nat.reduceSub, reduceCtorEq, Nat.reduceBEq, Int.reduceToNat, Int.reducePow, if_pos, if_neg, beq_self_eq_true, q1, q2, q3, w1, w2, w3, u1, u2, u3, lv_len, lv_take]; rfl))))) | ((first | with_reducible apply SO.run | with_reducible apply DO.run); (focus (simp (disch := omega) only [go_sem, ↓reduceIte, Nat.reduceEqDiff, Nat.reduceLeDiff, Nat.reduceAdd, reduceCtorEq, if_pos, beq_self_eq_true, q1, q2, q3, w1, w2, w3, u1, u2, u3, lv_take]; rfl)))))
    exact retQ_ret Tryd.results7 (by simp (disch := omega) only [go_sem, ↓reduceIte]; rfl) (by simp (disch := omega) only [go_sem]; rfl) rfl
  · have q1 : (((Int.gcd a b : Int)).sign == 0) = false := by rw [beq_eq_false_iff_ne]; intro h; exact h0 (by have := Int.sign_eq_zero_iff_zero.1 h; omega)
    have q2 : decide (0 < ((Int.gcd a b : Int)).sign) = true := by rw [decide_eq_true_eq, Int.sign_eq_one_of_pos (by omega)]; omega
    have c15 := divmod_i a (Int.gcd a b) 101 (fa.mono (by omega)) fg (by omega) (by omega)
    have c16 := divmod_i b (Int.gcd a b) 101 (fb.mono (by omega)) fg (by omega) (by omega)
    rw [Int.emod_eq_zero_of_dvd (Int.gcd_dvd_left a b)] at c15
    rw [Int.emod_eq_zero_of_dvd (Int.gcd_dvd_right a b)] at c16
    have c17 := sign_i 0 100 (Fits.zero _) (by omega)
    have q4 : (((0 : Int).sign) == 0) = true := by decide
    unfold iv sv at *
    generalize (Int.gcd a b : Int).sign = sg at *
    generalize (Int.gcd a b : Int) * (c.natAbs : Int) = gc at *
    refine Spec.run Tryd.func7 rfl Tryd.ntmps7 (by simp) (by simp (disch := omega) only [go_sem, Nat.reduceAdd]; rfl) fun B hB => ?_
    (repeat (first | refine DO.nil (by kernel_rfl) ?_ | with_reducible refine SC.seq ?_ | with_reducible refine SC.skip ?_ | with_reducible refine SC.label ?_ | with_reducible refine SC.block ?_ | with_reducible refine SC.scope ?_ | with_reducible refine SC.nil ?_ | with_reducible refine SC.exit ?_ | with_reducible refine SC.ret ?_ | with_reducible refine SO.nil ?_ | with_reducible refine tq_normal ?_ | with_reducible refine bq_normal ?_ | with_reducible refine bq_same ?_ | with_reducible refine bq_other (by decide) ?_ | with_reducible refine tq_exit ?_ | with_reducible refine tq_ret ?_ | with_reducible refine bq_ret ?_ | with_reducible refine sq_normal ?_ | with_reducible refine sq_exit ?_ | with_reducible refine sq_ret ?_ | ((with_reducible apply SC.condB); (focus (simp (disch := omega) only [go_sem, ↓reduceIte]; rfl)); (first | refine pickT ?_ | refine pickF ?_)) | ((with_reducible apply SC.region); (focus (simp (disch := omega) only [go_sem, ↓reduceIte, Nat.reduceEqDiff, Nat.reduceLeDiff, Nat.reduceAdd, reduceCtorEq]; rfl))) | ((with_reducible refine SC.draw Tab.mixed ?_ ?_); (focus (first | rfl | simp (disch := omega) only [go_sem, ↓reduceIte, Nat.reduceEqDiff, Nat.reduceLT, Nat.reduceLeDiff, Nat.reduceAdd, Nat.reduceMul, Nat.reduceSub, reduceCtorEq, Nat.reduceBEq, Int.reduceToNat, Int.reducePow, if_pos, if_neg, beq_self_eq_true, q1, q2, q4, w1, w2, w3, u1, u2, u3, lv_len, lv_take]))) | (with_reducible refine SC.ops ?_) | ((first | apply SO.call | apply DO.call); (focus (simp (disch := omega) only [go_sem])); (focus (simp (disch := omega) only [go_sem, ↓reduceIte, Nat.reduceEqDiff]; rfl)); (focus (simp (disch := omega) only [go_sem, ↓reduceIte, Nat.reduceEqDiff, beq_self_eq_true] <;> rfl)); (first | (apply SCall.of; (focus (first | assumption | exact sanity_s)); (focus (simp (disch := omega) only [go_sem]; rfl))) | (apply DCall.of; (focus (first | assumption | exact sanity_s)); (focus (simp (disch := omega) only [go_sem]; rfl))) | (apply SCall.ofF; (focus (first | assumption | exact sanity_s)); (focus (simp (disch := omega) only [go_sem, ↓reduceIte, Nat.reduceEqDiff, Nat.reduceLT, Nat.reduceLeDiff, Nat.reduceAdd, Nat.reduceMul, Nat.reduceSub, reduceCtorEq, Nat.reduceBEq, Int.reduceToNat, Int.reducePow, if_pos, if_neg, beq_self_eq_true, q1, q2, q4, w1, w2, w3, u1, u2, u3, lv_len, lv_take]; rfl))))) | ((first | with_reducible apply SO.run | with_reducible apply DO.run); (focus (simp (disch := omega) only [go_sem, ↓reduceIte, Nat.reduceEqDiff, Nat.reduceLT, Nat.reduceLeDiff, Nat.reduceAdd, reduceCtorEq, if_pos, beq_self_eq_true, q1, q2, q4, w1, w2, w3, u1, u2, u3, lv_take]; rfl)))))
    exact retQ_ret Tryd.results7 (by simp (disch := omega) only [go_sem, ↓reduceIte]; rfl) (by simp (disch := omega) only [go_sem]; rfl) rfl

theorem spec_all (xs : List V) (h : Shp.Vals [.st [.slc (.int .u32), .bool], .st [.slc (.int .u32), .bool], .st [.slc (.int .u32), .bool]] xs) : Spec Tryd.prog 7 xs (.sc (.bool true)) := by
  obtain ⟨x0, ys0, rfl, h0, x1, ys1, rfl, h1, x2, ys2, rfl, h2, rfl⟩ := h
  obtain ⟨l0, b0, rfl, hl0, hm0⟩ := number_shape h0
  obtain ⟨l1, b1, rfl, hl1, hm1⟩ := number_shape h1
  obtain ⟨l2, b2, rfl, hl2, hm2⟩ := number_shape h2
  exact igcd_s l0 l1 l2 b0 b1 b2 hl0 hl1 hl2 (by unfold maxLen at hm0; omega) (by unfold maxLen at hm1; omega) (by unfold maxLen at hm2; omega)

theorem own : ownKnob Tryd.prog.godebug = none := by kernel_rfl
theorem laidOut : laidOutB Tryd.prog = true := by kernel_rfl

set_option maxRecDepth 100000 in
theorem law_contract (H : Type) (enc : TypeId × Value → H) (W : World) (base : Nat) (args : Array Value) (ds gs : List (DataW H)) (before : List MemPlace)
    (hval : ∀ (j : Nat) t v, Tryd.f7.params[j]? = some t → args[j]? = some v → Value.okWide Tryd.prog W .any 0 t v)
    (hW : DataW.Whole enc Tryd.prog Tryd.f7.params.toList Rows.integerGcdSpec.vars false W args.toList ds gs before) (hL : laidMetH Tryd.prog Rows.integerGcdRow.laid W) :
    Calls Tryd.prog 7 args W fun e W' => ∃ v, e = .returned v ∧ Rows.integerGcdSpec.post enc Tryd.prog Tryd.f7 false true false false W args v W' := by
  have hW' := hW
  obtain ⟨p, q, hA0, hV, rfl, hfz, hnd⟩ := hW
  obtain ⟨hl, hc⟩ := law_calls (enc := enc) [.st [.slc (.int .u32), .bool], .st [.slc (.int .u32), .bool], .st [.slc (.int .u32), .bool]] (by kernel_rfl) hval hA0 (tabs hL) spec_all
  refine hc.mono fun e W' ⟨he, hb⟩ => ?_
  subst he
  rw [show Tryd.f7.params.size = 3 by kernel_rfl] at hl
  obtain ⟨d0, d1, d2, rfl⟩ : ∃ d0 d1 d2, ds = [d0, d1, d2] := by
    match ds, hl with
    | [a0, a1, a2], _ => exact ⟨a0, a1, a2, rfl⟩
  exact ⟨_, rfl, law_post laidOut (by kernel_rfl) (by kernel_rfl) Tryd.underlying4 rfl rfl hW' hb⟩

theorem laid_met (os : Os) : laidMet Tryd.prog Rows.integerGcdRow.laid ((laidWorld os).forCall (fun _ _ => 0) ⟨#[], #[.agg #[.slice none 0 0, .bool false], .agg #[.slice none 0 0, .bool false], .agg #[.slice none 0 0, .bool false]], []⟩).memory :=
  laidMet_of_run' 8 (by kernel_rfl) (by kernel_rfl)
theorem wit_reads (os : Os) {H : Type} (enc : TypeId × Value → H) : ∃ places, DataW.whole enc Tryd.prog ((laidWorld os).forCall (fun _ _ => 0) ⟨#[], #[.agg #[.slice none 0 0, .bool false], .agg #[.slice none 0 0, .bool false], .agg #[.slice none 0 0, .bool false]], []⟩).memory Tryd.f7.params.toList Rows.integerGcdSpec.vars false (#[.agg #[.slice none 0 0, .bool false], .agg #[.slice none 0 0, .bool false], .agg #[.slice none 0 0, .bool false]] : Array Value).toList 8 = some ([.agg [.nil, .lit (.bool false)], .agg [.nil, .lit (.bool false)], .agg [.nil, .lit (.bool false)]], [], places) :=
  ⟨[], by kernel_rfl⟩

set_option maxRecDepth 100000 in
theorem law_lifted (os : Os) (started : os.Started) (H : Type) (enc : TypeId × Value → H) (F : Stop.Interp) :
    ReturnsInHanded {} Tryd.checked os 7 .any ((OpenSpec.ofChange Rows.integerGcdSpec).preRow enc Tryd.prog Tryd.f7 Rows.integerGcdRow.domain false Rows.integerGcdRow.laid) (((OpenSpec.ofChange Rows.integerGcdSpec).at F).post enc Tryd.prog Tryd.f7 false true false false) := by
  obtain ⟨places, hx⟩ := wit_reads os enc
  refine returnsInHanded_of_row (C := Tryd.checked) (s := OpenSpec.ofChange Rows.integerGcdSpec) own started (by kernel_rfl) Tryd.func7
    (witness_row_at (enc := enc) (C := Tryd.checked) false (laidWorld os) #[.agg #[.slice none 0 0, .bool false], .agg #[.slice none 0 0, .bool false], .agg #[.slice none 0 0, .bool false]] rfl (by kernel_rfl) (by kernel_rfl) (by kernel_rfl)
      (OpenSpec.preRow_of_cond 8 hx (by kernel_rfl) (fun k hk => by cases hk) (by kernel_rfl) (laid_met os))) ?_
  intro W base args ds gs before hval hW _ _ _ hL _ _
  exact law_contract H enc W base args ds gs before hval hW hL

theorem said : Rows.IntegerGcdSaid :=
  OpenClaim.holds_of_cond 7 Tryd.f7 rfl rfl rfl rfl rfl rfl rfl ⟨rfl, rfl, rfl, rfl, rfl⟩ rfl rfl rfl rfl rfl (by kernel_rfl) Tryd.func7 (by kernel_rfl)
    (of_decide_eq_true (by kernel_rfl)) (by unfold Func.isWrapper; first | (rw [if_pos (by decide +kernel)]; kernel_rfl) | (rw [if_neg (by decide +kernel)]; exact ⟨rfl, rfl⟩))
    (fun os started H enc _ F => by rw [OpenClaim.pre_eq_preRow]; exact law_lifted os started H enc F)

/-- no parameter wants a stand-in; the program's own looks are off -/
theorem plain (f : FuncId) (fn : Func) (hf : Tryd.pinned.checked.prog.funcNamed "torsion/torsionlaw01.IntegerGcd" = some f) (hfn : Tryd.pinned.checked.prog.funcs[f]? = some fn) :
    false = Tryd.pinned.checked.prog.looks [] ∧ ∀ (j : Nat) t, fn.params[j]? = some t → Tryd.pinned.checked.prog.wantsStandIn t = false := by
  obtain rfl : f = 7 := Option.some.inj ((show Tryd.prog.funcNamed "torsion/torsionlaw01.IntegerGcd" = some 7 by kernel_rfl).symm.trans hf) |>.symm
  obtain rfl : fn = Tryd.f7 := (Option.some.inj (Tryd.func7.symm.trans hfn)).symm
  refine ⟨by kernel_rfl, fun j t ht => ?_⟩
  have hm : t ∈ Tryd.f7.params.toList := by simpa using Array.mem_of_getElem? ht
  have hall : (Tryd.f7.params.toList.all fun t => !Tryd.prog.wantsStandIn t) = true := by kernel_rfl
  have := List.all_eq_true.1 hall t hm
  exact (show Tryd.prog.wantsStandIn t = false by simpa using this)

theorem law_holds : Rows.IntegerGcdCardSaid :=
  Claim7.holds_tied_plain_at .later [] _ _ _ _ said (fun _ h => by cases h) (by kernel_rfl) (fun _ h => by cases h) integerGcd_row_tie rfl ⟨rfl, rfl⟩ (by kernel_rfl) rfl plain (by kernel_rfl)
#print axioms law_holds
end Go.Proofs.YtbpcgeanpkokkaaDoor
