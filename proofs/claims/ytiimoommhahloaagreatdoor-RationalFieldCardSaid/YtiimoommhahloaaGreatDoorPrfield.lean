/- 'RationalField' returns true for every input, and each argument reads afterwards as it read before; the package-level tables as the program's text lays them. No other conditions. -/
import Derived.Test.YtiimoommhahloaaGreatDoorRows
import Derived.Test.YtiimoommhahloaaGreatDoorCards
import Derived.Test.YtiimoommhahloaaGreatDoorTie
import Derived.Test.YtiimoommhahloaaGreatDoorZc
import Derived.Test.YtiimoommhahloaaGreatDoorZd
import Derived.Test.YtiimoommhahloaaGreatDoorZi
set_option linter.all false

namespace Go.Proofs.YtiimoommhahloaaGreatDoor
open Go.ChangeShapes Go.WideShapes Go.ChangeAt Go.RowKit

set_option maxRecDepth 20000 in
set_option maxHeartbeats 8000000 in
theorem rfield_s (x1 x2 x3 : V) (a b c : Rat) (ha : RF 3 a) (hb : RF 3 b) (hc : RF 3 c) (hx1 : ∃ (l1 l2 : List Nat) (b : Bool), x1 = .ag [.im (lv l1) l1.length, .im (lv l2) l2.length, .sc (.bool b)]) (hx2 : ∃ (l1 l2 : List Nat) (b : Bool), x2 = .ag [.im (lv l1) l1.length, .im (lv l2) l2.length, .sc (.bool b)]) (hx3 : ∃ (l1 l2 : List Nat) (b : Bool), x3 = .ag [.im (lv l1) l1.length, .im (lv l2) l2.length, .sc (.bool b)]) (m1 : Spec Tryz.prog 10 [x1] (rv a)) (m2 : Spec Tryz.prog 10 [x2] (rv b)) (m3 : Spec Tryz.prog 10 [x3] (rv c)) :
    Spec Tryz.prog 8 [x1, x2, x3] (.sc (.bool true)) := by
  have fa := ha.mono (L := 20) (by omega)
  have fb := hb.mono (L := 20) (by omega)
  have fc := hc.mono (L := 20) (by omega)
  have e0 : ((0 : Int) : Rat) = 0 := by simp
  have e1 : ((1 : Int) : Rat) = 1 := by simp
  have f0 : RF 20 0 := ⟨Fits.zero _, Fits.one (by omega)⟩
  have f1 : RF 20 1 := ⟨Fits.one (by omega), Fits.one (by omega)⟩
  have fs := (fa.add fb).mono (L := 100) (by omega)
  have fp := (fa.mul fb).mono (L := 100) (by omega)
  have fbc := (fb.add fc).mono (L := 100) (by omega)
  have fmbc := (fb.mul fc).mono (L := 100) (by omega)
  have fmac := (fa.mul fc).mono (L := 100) (by omega)
  have ga := fa.mono (L := 100) (by omega)
  have gb := fb.mono (L := 100) (by omega)
  have gc := fc.mono (L := 100) (by omega)
  have g0 := f0.mono (L := 100) (by omega)
  have c1 := pAdd_i a b 20 fa fb (by omega)
  have c2 := pMul_i a b 20 fa fb (by omega)
  have c3 := of_i 0 (by omega) (by omega)
  have c4 := of_i 1 (by omega) (by omega)
  have c5 := pWhole_i 0 1 (Fits.zero _) (by omega)
  have c6 := pWhole_i 1 1 (Fits.one (by omega)) (by omega)
  rw [e0] at c5
  rw [e1] at c6
  have c7 := pAdd_i (a + b) c 100 fs gc (by omega)
  have c8 := pAdd_i b c 20 fb fc (by omega)
  have c9 := pAdd_i a (b + c) 100 ga fbc (by omega)
  rw [← Rat.add_assoc] at c9
  have c10 := rSame_t (a + b + c) 201 (fs.add gc) (by omega)
  have c11 := pAdd_i b a 20 fb fa (by omega)
  rw [Rat.add_comm b a] at c11
  have c12 := rSame_t (a + b) 100 fs (by omega)
  have c13 := pAdd_i a 0 20 fa f0 (by omega)
  rw [Rat.add_zero] at c13
  have c14 := rSame_t a 20 fa (by omega)
  have c15 := pNeg_i a 20 fa (by omega)
  have c16 := pAdd_i a (-a) 20 fa fa.neg (by omega)
  rw [show a + -a = 0 by grind] at c16
  have c17 := rSame_t 0 20 f0 (by omega)
  have c18 := pSub_i (a + b) b 100 fs gb (by omega)
  rw [show a + b - b = a by grind] at c18
  have c19 := pMul_i (a * b) c 100 fp gc (by omega)
  have c20 := pMul_i b c 20 fb fc (by omega)
  have c21 := pMul_i a (b * c) 100 ga fmbc (by omega)
  rw [← Rat.mul_assoc] at c21
  have c22 := rSame_t (a * b * c) 200 (fp.mul gc) (by omega)
  have c23 := pMul_i b a 20 fb fa (by omega)
  rw [Rat.mul_comm b a] at c23
  have c24 := rSame_t (a * b) 100 fp (by omega)
  have c25 := pMul_i a 1 20 fa f1 (by omega)
  rw [Rat.mul_one] at c25
  have c26 := pMul_i (a + b) c 100 fs gc (by omega)
  have c27 := pMul_i a c 20 fa fc (by omega)
  have c28 := pAdd_i (a * c) (b * c) 100 fmac fmbc (by omega)
  rw [← Rat.add_mul] at c28
  have c29 := rSame_t ((a + b) * c) 200 (fs.mul gc) (by omega)
  have c30 := pSign_i b 20 fb (by omega)
  obtain ⟨y1, z1, b1, rfl⟩ := hx1
  obtain ⟨y2, z2, b2, rfl⟩ := hx2
  obtain ⟨y3, z3, b3, rfl⟩ := hx3
  by_cases h0 : b = 0
  · have q1 : (b.num.sign == 0) = true := by rw [h0]; rfl
    have c31 := pDiv_zero (a * b)
    have hb0 : rv (0 : Rat) = rv b := by rw [h0]
    rw [hb0] at c31
    generalize hsum : a + b = s at *
    generalize hprod : a * b = p at *
    generalize s + c = r1 at *
    generalize b + c = r2 at *
    generalize p * c = r3 at *
    generalize b * c = r4 at *
    generalize s * c = r5 at *
    generalize a * c = r6 at *
    generalize -a = r7 at *
    generalize b.num.sign = sb at *
    ((try unfold rv at *); (try unfold rt at *); (try unfold iv at *); (try unfold sv at *))
    refine Spec.run Tryz.func8 rfl Tryz.ntmps8 (by simp) (by simp (disch := omega) only [go_sem, Nat.reduceAdd]; rfl) fun B hB => ?_
    (repeat (first | refine DO.nil (by kernel_rfl) ?_ | with_reducible refine SC.seq ?_ | with_reducible refine SC.skip ?_ | with_reducible refine SC.label ?_ | with_reducible refine SC.block ?_ | with_reducible refine SC.scope ?_ | with_reducible refine SC.nil ?_ | with_reducible refine SC.exit ?_ | with_reducible refine SC.ret ?_ | with_reducible refine SO.nil ?_ | with_reducible refine tq_normal ?_ | with_reducible refine bq_normal ?_ | with_reducible refine bq_same ?_ | with_reducible refine bq_other (by decide) ?_ | with_reducible refine tq_exit ?_ | with_reducible refine tq_ret ?_ | with_reducible refine bq_ret ?_ | with_reducible refine sq_normal ?_ | with_reducible refine sq_exit ?_ | with_reducible refine sq_ret ?_ | ((with_reducible apply SC.condB); (focus (simp (disch := omega) only [go_sem, ↓reduceIte]; rfl)); (first | refine pickT ?_ | refine pickF ?_)) | ((with_reducible apply SC.region); (focus (simp (disch := omega) only [go_sem, ↓reduceIte, Nat.reduceEqDiff, Nat.reduceLeDiff, Nat.reduceAdd, reduceCtorEq, beq_self_eq_true]; rfl))) | ((with_reducible refine SC.draw Tab.mixed ?_ ?_); (focus (first | rfl | simp (disch := omega) only [go_sem, ↓reduceIte, Nat.reduceEqDiff, Nat.reduceLT, Nat.reduceLeDiff, Nat.reduceAdd, Nat.reduceMul, Nat.reduceSub, reduceCtorEq, Nat.reduceBEq, Int.reduceToNat, Int.reducePow, if_pos, if_neg, beq_self_eq_true, q1]))) | (with_reducible refine SC.ops ?_) | ((first | apply SO.call | apply DO.call); (focus (simp (disch := omega) only [go_sem])); (focus (simp (disch := omega) only [go_sem, ↓reduceIte, Nat.reduceEqDiff]; rfl)); (focus (simp (disch := omega) only [go_sem, ↓reduceIte, Nat.reduceEqDiff, beq_self_eq_true] <;> rfl)); (first | (apply SCall.of; (focus (first | assumption | exact sanity2_s)); (focus (simp (disch := omega) only [go_sem]; rfl))) | (apply DCall.of; (focus (first | assumption | exact sanity2_s)); (focus (simp (disch := omega) only [go_sem]; rfl))) | (apply SCall.ofF; (focus (first | assumption | exact sanity2_s)); (focus (simp (disch := omega) only [go_sem, ↓reduceIte, Nat.reduceEqDiff, Nat.reduceLT, Nat.reduceLeDiff, Nat.reduceAdd, Nat.reduceMul, Nat.reduceSub, reduceCtorEq, Nat.reduceBEq, Int.reduceToNat, Int.reducePow, if_pos, if_neg, beq_self_eq_true, q1]; rfl))))) | ((first | with_reducible apply SO.run | with_reducible apply DO.run); (focus (simp (disch := omega) only [go_sem, ↓reduceIte, Nat.reduceEqDiff, Nat.reduceLeDiff, Nat.reduceAdd, reduceCtorEq, beq_self_eq_true, q1]; rfl)))))
    exact retQ_ret Tryz.results8 (by simp (disch := omega) only [go_sem, ↓reduceIte]; rfl) (by simp (disch := omega) only [go_sem]; rfl) rfl
  · have q1 : (b.num.sign == 0) = false := by rw [beq_eq_false_iff_ne]; exact fun h => num_ne h0 (Int.sign_eq_zero_iff_zero.1 h)
    have c31 := pDiv_i (a * b) b 100 fp gb (by omega) h0
    rw [show a * b / b = a by grind] at c31
    generalize hsum : a + b = s at *
    generalize hprod : a * b = p at *
    generalize s + c = r1 at *
    generalize b + c = r2 at *
    generalize p * c = r3 at *
    generalize b * c = r4 at *
    generalize s * c = r5 at *
    generalize a * c = r6 at *
    generalize -a = r7 at *
    generalize b.num.sign = sb at *
    ((try unfold rv at *); (try unfold rt at *); (try unfold iv at *); (try unfold sv at *))
    refine Spec.run Tryz.func8 rfl Tryz.ntmps8 (by simp) (by simp (disch := omega) only [go_sem, Nat.reduceAdd]; rfl) fun B hB => ?_
    (repeat (first | refine DO.nil (by kernel_rfl) ?_ | with_reducible refine SC.seq ?_ | with_reducible refine SC.skip ?_ | with_reducible refine SC.label ?_ | with_reducible refine SC.block ?_ | with_reducible refine SC.scope ?_ | with_reducible refine SC.nil ?_ | with_reducible refine SC.exit ?_ | with_reducible refine SC.ret ?_ | with_reducible refine SO.nil ?_ | with_reducible refine tq_normal ?_ | with_reducible refine bq_normal ?_ | with_reducible refine bq_same ?_ | with_reducible refine bq_other (by decide) ?_ | with_reducible refine tq_exit ?_ | with_reducible refine tq_ret ?_ | with_reducible refine bq_ret ?_ | with_reducible refine sq_normal ?_ | with_reducible refine sq_exit ?_ | with_reducible refine sq_ret ?_ | ((with_reducible apply SC.condB); (focus (simp (disch := omega) only [go_sem, ↓reduceIte]; rfl)); (first | refine pickT ?_ | refine pickF ?_)) | ((with_reducible apply SC.region); (focus (simp (disch := omega) only [go_sem, ↓reduceIte, Nat.reduceEqDiff, Nat.reduceLeDiff, Nat.reduceAdd, reduceCtorEq, beq_self_eq_true]; rfl))) | ((with_reducible refine SC.draw Tab.mixed ?_ ?_); (focus (first | rfl | simp (disch := omega) only [go_sem, ↓reduceIte, Nat.reduceEqDiff, Nat.reduceLT, Nat.reduceLeDiff, Nat.reduceAdd, Nat.reduceMul, Nat.reduceSub, reduceCtorEq, Nat.reduceBEq, Int.reduceToNat, Int.reducePow, if_pos, if_neg, beq_self_eq_true, q1]))) | (with_reducible refine SC.ops ?_) | ((first | apply SO.call | apply DO.call); (focus (simp (disch := omega) only [go_sem])); (focus (simp (disch := omega) only [go_sem, ↓reduceIte, Nat.reduceEqDiff]; rfl)); (focus (simp (disch := omega) only [go_sem, ↓reduceIte, Nat.reduceEqDiff, beq_self_eq_true] <;> rfl)); (first | (apply SCall.of; (focus (first | assumption | exact sanity2_s)); (focus (simp (disch := omega) only [go_sem]; rfl))) | (apply DCall.of; (focus (first | assumption | exact sanity2_s)); (focus (simp (disch := omega) only [go_sem]; rfl))) | (apply SCall.ofF; (focus (first | assumption | exact sanity2_s)); (focus (simp (disch := omega) only [go_sem, ↓reduceIte, Nat.reduceEqDiff, Nat.reduceLT, Nat.reduceLeDiff, Nat.reduceAdd, Nat.reduceMul, Nat.reduceSub, reduceCtorEq, Nat.reduceBEq, Int.reduceToNat, Int.reducePow, if_pos, if_neg, beq_self_eq_true, q1]; rfl))))) | ((first | with_reducible apply SO.run | with_reducible apply DO.run); (focus (simp (disch := omega) only [go_sem, ↓reduceIte, Nat.reduceEqDiff, Nat.reduceLT, Nat.reduceLeDiff, Nat.reduceAdd, reduceCtorEq, beq_self_eq_true, q1]; rfl)))))
    exact retQ_ret Tryz.results8 (by simp (disch := omega) only [go_sem, ↓reduceIte]; rfl) (by simp (disch := omega) only [go_sem]; rfl) rfl

theorem spec_all (xs : List V) (h : Shp.Vals [.st [.slc (.int .u32), .slc (.int .u32), .bool], .st [.slc (.int .u32), .slc (.int .u32), .bool], .st [.slc (.int .u32), .slc (.int .u32), .bool]] xs) : Spec Tryz.prog 8 xs (.sc (.bool true)) := by
  obtain ⟨x0, ys0, rfl, h0, x1, ys1, rfl, h1, x2, ys2, rfl, h2, rfl⟩ := h
  obtain ⟨a, ha, ma, ka⟩ := from_shape h0
  obtain ⟨b, hb, mb, kb⟩ := from_shape h1
  obtain ⟨c, hc, mc, kc⟩ := from_shape h2
  exact rfield_s x0 x1 x2 a b c ha hb hc ka kb kc ma mb mc

theorem own : ownKnob Tryz.prog.godebug = none := by kernel_rfl
theorem laidOut : laidOutB Tryz.prog = true := by kernel_rfl

set_option maxRecDepth 100000 in
theorem law_contract (H : Type) (enc : TypeId × Value → H) (W : World) (base : Nat) (args : Array Value) (ds gs : List (DataW H)) (before : List MemPlace)
    (hval : ∀ (j : Nat) t v, Tryz.f8.params[j]? = some t → args[j]? = some v → Value.okWide Tryz.prog W .any 0 t v)
    (hW : DataW.Whole enc Tryz.prog Tryz.f8.params.toList Rows.rationalFieldSpec.vars false W args.toList ds gs before) (hL : laidMetH Tryz.prog Rows.rationalFieldRow.laid W) :
    Calls Tryz.prog 8 args W fun e W' => ∃ v, e = .returned v ∧ Rows.rationalFieldSpec.post enc Tryz.prog Tryz.f8 false true false false W args v W' := by
  have hW' := hW
  obtain ⟨p, q, hA0, hV, rfl, hfz, hnd⟩ := hW
  obtain ⟨hl, hc⟩ := law_calls (enc := enc) [.st [.slc (.int .u32), .slc (.int .u32), .bool], .st [.slc (.int .u32), .slc (.int .u32), .bool], .st [.slc (.int .u32), .slc (.int .u32), .bool]] (by kernel_rfl) hval hA0 (tabs hL) spec_all
  refine hc.mono fun e W' ⟨he, hb⟩ => ?_
  subst he
  rw [show Tryz.f8.params.size = 3 by kernel_rfl] at hl
  obtain ⟨d0, d1, d2, rfl⟩ : ∃ d0 d1 d2, ds = [d0, d1, d2] := by
    match ds, hl with
    | [a0, a1, a2], _ => exact ⟨a0, a1, a2, rfl⟩
  exact ⟨_, rfl, law_post laidOut (by kernel_rfl) (by kernel_rfl) Tryz.underlying4 rfl rfl hW' hb⟩

theorem laid_met (os : Os) : laidMet Tryz.prog Rows.rationalFieldRow.laid ((laidWorld os).forCall (fun _ _ => 0) ⟨#[], #[.agg #[.slice none 0 0, .slice none 0 0, .bool false], .agg #[.slice none 0 0, .slice none 0 0, .bool false], .agg #[.slice none 0 0, .slice none 0 0, .bool false]], []⟩).memory :=
  laidMet_of_run' 8 (by kernel_rfl) (by kernel_rfl)
theorem wit_reads (os : Os) {H : Type} (enc : TypeId × Value → H) : ∃ places, DataW.whole enc Tryz.prog ((laidWorld os).forCall (fun _ _ => 0) ⟨#[], #[.agg #[.slice none 0 0, .slice none 0 0, .bool false], .agg #[.slice none 0 0, .slice none 0 0, .bool false], .agg #[.slice none 0 0, .slice none 0 0, .bool false]], []⟩).memory Tryz.f8.params.toList Rows.rationalFieldSpec.vars false (#[.agg #[.slice none 0 0, .slice none 0 0, .bool false], .agg #[.slice none 0 0, .slice none 0 0, .bool false], .agg #[.slice none 0 0, .slice none 0 0, .bool false]] : Array Value).toList 8 = some ([.agg [.nil, .nil, .lit (.bool false)], .agg [.nil, .nil, .lit (.bool false)], .agg [.nil, .nil, .lit (.bool false)]], [], places) :=
  ⟨[], by kernel_rfl⟩

set_option maxRecDepth 100000 in
theorem law_lifted (os : Os) (started : os.Started) (H : Type) (enc : TypeId × Value → H) (F : Stop.Interp) :
    ReturnsInHanded {} Tryz.checked os 8 .any ((OpenSpec.ofChange Rows.rationalFieldSpec).preRow enc Tryz.prog Tryz.f8 Rows.rationalFieldRow.domain false Rows.rationalFieldRow.laid) (((OpenSpec.ofChange Rows.rationalFieldSpec).at F).post enc Tryz.prog Tryz.f8 false true false false) := by
  obtain ⟨places, hx⟩ := wit_reads os enc
  refine returnsInHanded_of_row (C := Tryz.checked) (s := OpenSpec.ofChange Rows.rationalFieldSpec) own started (by kernel_rfl) Tryz.func8
    (witness_row_at (enc := enc) (C := Tryz.checked) false (laidWorld os) #[.agg #[.slice none 0 0, .slice none 0 0, .bool false], .agg #[.slice none 0 0, .slice none 0 0, .bool false], .agg #[.slice none 0 0, .slice none 0 0, .bool false]] rfl (by kernel_rfl) (by kernel_rfl) (by kernel_rfl)
      (OpenSpec.preRow_of_cond 8 hx (by kernel_rfl) (fun k hk => by cases hk) (by kernel_rfl) (laid_met os))) ?_
  intro W base args ds gs before hval hW _ _ _ hL _ _
  exact law_contract H enc W base args ds gs before hval hW hL

theorem said : Rows.RationalFieldSaid :=
  OpenClaim.holds_of_cond 8 Tryz.f8 rfl rfl rfl rfl rfl rfl rfl ⟨rfl, rfl, rfl, rfl, rfl⟩ rfl rfl rfl rfl rfl (by kernel_rfl) Tryz.func8 (by kernel_rfl)
    (of_decide_eq_true (by kernel_rfl)) (by unfold Func.isWrapper; first | (rw [if_pos (by decide +kernel)]; kernel_rfl) | (rw [if_neg (by decide +kernel)]; exact ⟨rfl, rfl⟩))
    (fun os started H enc _ F => by rw [OpenClaim.pre_eq_preRow]; exact law_lifted os started H enc F)

/-- no parameter wants a stand-in; the program's own looks are off -/
theorem plain (f : FuncId) (fn : Func) (hf : Tryz.pinned.checked.prog.funcNamed "torsion/torsionlaw02.RationalField" = some f) (hfn : Tryz.pinned.checked.prog.funcs[f]? = some fn) :
    false = Tryz.pinned.checked.prog.looks [] ∧ ∀ (j : Nat) t, fn.params[j]? = some t → Tryz.pinned.checked.prog.wantsStandIn t = false := by
  obtain rfl : f = 8 := Option.some.inj ((show Tryz.prog.funcNamed "torsion/torsionlaw02.RationalField" = some 8 by kernel_rfl).symm.trans hf) |>.symm
  obtain rfl : fn = Tryz.f8 := (Option.some.inj (Tryz.func8.symm.trans hfn)).symm
  refine ⟨by kernel_rfl, fun j t ht => ?_⟩
  have hm : t ∈ Tryz.f8.params.toList := by simpa using Array.mem_of_getElem? ht
  have hall : (Tryz.f8.params.toList.all fun t => !Tryz.prog.wantsStandIn t) = true := by kernel_rfl
  have := List.all_eq_true.1 hall t hm
  exact (show Tryz.prog.wantsStandIn t = false by simpa using this)

theorem law_holds : Rows.RationalFieldCardSaid :=
  Claim7.holds_tied_plain_at .later [] _ _ _ _ said (fun _ h => by cases h) (by kernel_rfl) (fun _ h => by cases h) rationalField_row_tie rfl ⟨rfl, rfl⟩ (by kernel_rfl) rfl plain (by kernel_rfl)
#print axioms law_holds
end Go.Proofs.YtiimoommhahloaaGreatDoor
