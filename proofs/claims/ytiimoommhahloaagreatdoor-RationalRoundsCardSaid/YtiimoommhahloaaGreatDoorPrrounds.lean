/- 'RationalRounds' returns true for every input, and each argument reads afterwards as it read before; the package-level tables as the program's text lays them. No other conditions. -/
import Derived.Test.YtiimoommhahloaaGreatDoorRows
import Derived.Test.YtiimoommhahloaaGreatDoorCards
import Derived.Test.YtiimoommhahloaaGreatDoorTie
import Derived.Test.YtiimoommhahloaaGreatDoorZc
import Derived.Test.YtiimoommhahloaaGreatDoorZd
import Derived.Test.YtiimoommhahloaaGreatDoorZi
set_option linter.all false

namespace Go.Proofs.YtiimoommhahloaaGreatDoor
open Go.ChangeShapes Go.WideShapes Go.ChangeAt Go.RowKit

set_option maxRecDepth 20000 in
set_option maxHeartbeats 8000000 in
theorem rrounds_s (x1 : V) (a : Rat) (ha : RF 3 a) (hx1 : ∃ (l1 l2 : List Nat) (b : Bool), x1 = .ag [.im (lv l1) l1.length, .im (lv l2) l2.length, .sc (.bool b)]) (m1 : Spec Tryz.prog 10 [x1] (rv a)) :
    Spec Tryz.prog 4 [x1] (.sc (.bool true)) := by
  have fa := ha.mono (L := 20) (by omega)
  have c1 := pFloor_i a 20 fa (by omega)
  have c2 := pRound_i a 20 fa (by omega)
  have fl : Fits 20 (a.num / (a.den : Int)) := fa.1.ediv
  have fr : Fits 22 (rround a) := by
    unfold rround
    exact (((fa.1.add fa.1).add (fa.2.mono (by omega))).mono (by omega)).ediv
  have c3 := rvalid_i _ 20 fl (by omega)
  have c4 := rvalid_i _ 22 fr (by omega)
  have c5 := rWhole_i (a.num / (a.den : Int))
  have c6 := rWhole_i (rround a)
  have gl : RF 30 ((a.num / (a.den : Int) : Int) : Rat) := ⟨by rw [Rat.num_intCast]; exact fl.mono (by omega), by rw [Rat.den_intCast]; exact Fits.one (by omega)⟩
  have gr : RF 30 ((rround a : Int) : Rat) := ⟨by rw [Rat.num_intCast]; exact fr.mono (by omega), by rw [Rat.den_intCast]; exact Fits.one (by omega)⟩
  have ga := fa.mono (L := 30) (by omega)
  have c7 := rSub_i a _ 30 ga gl (by omega)
  have c8 := rSub_i _ a 30 gr ga (by omega)
  have f7 := (ga.sub gl).mono (L := 100) (by omega)
  have f8 := (gr.sub ga).mono (L := 100) (by omega)
  have c9 := rSign_i _ 100 f7 (by omega)
  have c10 := rNumber_i 1 (by omega) (by omega)
  have f1 : RF 100 ((1 : Int) : Rat) := ⟨by rw [Rat.num_intCast]; exact Fits.one (by omega), by rw [Rat.den_intCast]; exact Fits.one (by omega)⟩
  have c11 := rCmp_i _ _ 100 f7 f1 (by omega)
  have c12 := rMade_i (-1) 2 (by omega) (by omega) (by omega) (by omega) (by omega)
  have c13 := rMade_i 1 2 (by omega) (by omega) (by omega) (by omega) (by omega)
  have fm1 : RF 100 (Rat.divInt (-1) 2) := (RF.divInt (K := 2) (fits_two (by omega)) (fits_two (by omega)) (by omega)).mono (by omega)
  have fm2 : RF 100 (Rat.divInt 1 2) := (RF.divInt (K := 2) (fits_two (by omega)) (fits_two (by omega)) (by omega)).mono (by omega)
  have c14 := rCmp_i _ _ 100 f8 fm1 (by omega)
  have c15 := rCmp_i _ _ 100 f8 fm2 (by omega)
  have c16 := pIntegral_i a 20 fa (by omega) (by omega)
  have c17 := rSign_i _ 100 f8 (by omega)
  obtain ⟨p1, p2, p3⟩ := floor_spec a
  obtain ⟨o1, o2, o3⟩ := round_spec a
  rw [p2] at c11
  rw [o1] at c14
  have q1 := decide_eq_true p1
  have q2 := decide_eq_true o2
  have q3 : decide ((-1 : Int) < 0) = true := by decide
  have q4 : decide ((0 : Int) < 1) = true := by decide
  have bo : -1 ≤ rcmp ((rround a : Rat) - a) (Rat.divInt 1 2) ∧ rcmp ((rround a : Rat) - a) (Rat.divInt 1 2) ≤ 1 := by
    have := rcmp_cases ((rround a : Rat) - a) (Rat.divInt 1 2); omega
  clear p1 p2 o1 o2 bo
  generalize a - ((a.num / (a.den : Int) : Int) : Rat) = r1 at *
  generalize ((rround a : Int) : Rat) - a = r2 at *
  generalize ((a.num / (a.den : Int) : Int) : Rat) = r3 at *
  generalize ((rround a : Int) : Rat) = r4 at *
  generalize rcmp r2 (Rat.divInt 1 2) = z1 at *
  generalize Rat.divInt 1 2 = r5 at *
  generalize Rat.divInt (-1) 2 = r6 at *
  generalize ((1 : Int) : Rat) = r7 at *
  generalize r1.num.sign = s1 at *
  generalize r2.num.sign = s2 at *
  generalize a.num / (a.den : Int) = fl' at *
  generalize rround a = rr at *
  generalize decide (a.den = 1) = di at *
  obtain ⟨y1, z1, b1, rfl⟩ := hx1
  ((try unfold rv at *); (try unfold rt at *); (try unfold iv at *); (try unfold sv at *))
  refine Spec.run Tryz.func4 rfl Tryz.ntmps4 (by simp) (by simp (disch := omega) only [go_sem]; rfl) fun B hB => ?_
  (repeat (first | refine DO.nil (by kernel_rfl) ?_ | with_reducible refine SC.seq ?_ | with_reducible refine SC.skip ?_ | with_reducible refine SC.label ?_ | with_reducible refine SC.block ?_ | with_reducible refine SC.scope ?_ | with_reducible refine SC.nil ?_ | with_reducible refine SC.exit ?_ | with_reducible refine SC.ret ?_ | with_reducible refine SO.nil ?_ | with_reducible refine tq_normal ?_ | with_reducible refine bq_normal ?_ | with_reducible refine bq_same ?_ | with_reducible refine bq_other (by decide) ?_ | with_reducible refine tq_exit ?_ | with_reducible refine tq_ret ?_ | with_reducible refine bq_ret ?_ | with_reducible refine sq_normal ?_ | with_reducible refine sq_exit ?_ | with_reducible refine sq_ret ?_ | ((with_reducible apply SC.condB); (focus (simp (disch := omega) only [go_sem, ↓reduceIte]; rfl)); (first | refine pickT ?_ | refine pickF ?_)) | ((with_reducible apply SC.region); (focus (simp (disch := omega) only [go_sem, ↓reduceIte, Nat.reduceEqDiff, Nat.reduceLeDiff, Nat.reduceAdd]; rfl))) | ((with_reducible refine SC.draw Tab.mixed ?_ ?_); (focus (first | rfl | simp (disch := omega) only [go_sem, ↓reduceIte, Nat.reduceEqDiff, Nat.reduceLT, Nat.reduceLeDiff, Nat.reduceAdd, Nat.reduceMul, Nat.reduceSub, reduceCtorEq, Nat.reduceBEq, Int.reduceToNat, Int.reducePow, if_pos, if_neg, beq_self_eq_true, q1, q2, q3, q4, p3, o3]))) | (with_reducible refine SC.ops ?_) | ((first | apply SO.call | apply DO.call); (focus (simp (disch := omega) only [go_sem])); (focus (simp (disch := omega) only [go_sem, ↓reduceIte, Nat.reduceEqDiff]; rfl)); (focus (simp (disch := omega) only [go_sem, ↓reduceIte, Nat.reduceEqDiff, beq_self_eq_true] <;> rfl)); (first | (apply SCall.of; (focus (first | assumption | exact sanity2_s)); (focus (simp (disch := omega) only [go_sem]; rfl))) | (apply DCall.of; (focus (first | assumption | exact sanity2_s)); (focus (simp (disch := omega) only [go_sem]; rfl))) | (apply SCall.ofF; (focus (first | assumption | exact sanity2_s)); (focus (simp (disch := omega) only [go_sem, ↓reduceIte, Nat.reduceEqDiff, Nat.reduceLT, Nat.reduceLeDiff, Nat.reduceAdd, Nat.reduceMul, Nat.reduceSub, reduceCtorEq, Nat.reduceBEq, Int.reduceToNat, Int.reducePow, if_pos, if_neg, beq_self_eq_true, q1, q2, q3, q4, p3, o3]; rfl))))) | ((first | with_reducible apply SO.run | with_reducible apply DO.run); (focus (simp (disch := omega) only [go_sem, ↓reduceIte, Nat.reduceEqDiff, Nat.reduceLT, Nat.reduceLeDiff, Nat.reduceAdd, beq_self_eq_true, q1, q2, q3, q4, p3, o3]; rfl)))))
  exact retQ_ret Tryz.results4 (by simp (disch := omega) only [go_sem, ↓reduceIte]; rfl) (by simp (disch := omega) only [go_sem]; rfl) rfl

theorem spec_all (xs : List V) (h : Shp.Vals [.st [.slc (.int .u32), .slc (.int .u32), .bool]] xs) : Spec Tryz.prog 4 xs (.sc (.bool true)) := by
  obtain ⟨x0, ys0, rfl, h0, rfl⟩ := h
  obtain ⟨a, ha, ma, ka⟩ := from_shape h0
  exact rrounds_s x0 a ha ka ma

theorem own : ownKnob Tryz.prog.godebug = none := by kernel_rfl
theorem laidOut : laidOutB Tryz.prog = true := by kernel_rfl

set_option maxRecDepth 100000 in
theorem law_contract (H : Type) (enc : TypeId × Value → H) (W : World) (base : Nat) (args : Array Value) (ds gs : List (DataW H)) (before : List MemPlace)
    (hval : ∀ (j : Nat) t v, Tryz.f4.params[j]? = some t → args[j]? = some v → Value.okWide Tryz.prog W .any 0 t v)
    (hW : DataW.Whole enc Tryz.prog Tryz.f4.params.toList Rows.rationalRoundsSpec.vars false W args.toList ds gs before) (hL : laidMetH Tryz.prog Rows.rationalRoundsRow.laid W) :
    Calls Tryz.prog 4 args W fun e W' => ∃ v, e = .returned v ∧ Rows.rationalRoundsSpec.post enc Tryz.prog Tryz.f4 false true false false W args v W' := by
  have hW' := hW
  obtain ⟨p, q, hA0, hV, rfl, hfz, hnd⟩ := hW
  obtain ⟨hl, hc⟩ := law_calls (enc := enc) [.st [.slc (.int .u32), .slc (.int .u32), .bool]] (by kernel_rfl) hval hA0 (tabs hL) spec_all
  refine hc.mono fun e W' ⟨he, hb⟩ => ?_
  subst he
  rw [show Tryz.f4.params.size = 1 by kernel_rfl] at hl
  obtain ⟨d0, rfl⟩ : ∃ d0, ds = [d0] := by
    match ds, hl with
    | [a0], _ => exact ⟨a0, rfl⟩
  exact ⟨_, rfl, law_post laidOut (by kernel_rfl) (by kernel_rfl) Tryz.underlying4 rfl rfl hW' hb⟩

theorem laid_met (os : Os) : laidMet Tryz.prog Rows.rationalRoundsRow.laid ((laidWorld os).forCall (fun _ _ => 0) ⟨#[], #[.agg #[.slice none 0 0, .slice none 0 0, .bool false]], []⟩).memory :=
  laidMet_of_run' 8 (by kernel_rfl) (by kernel_rfl)
theorem wit_reads (os : Os) {H : Type} (enc : TypeId × Value → H) : ∃ places, DataW.whole enc Tryz.prog ((laidWorld os).forCall (fun _ _ => 0) ⟨#[], #[.agg #[.slice none 0 0, .slice none 0 0, .bool false]], []⟩).memory Tryz.f4.params.toList Rows.rationalRoundsSpec.vars false (#[.agg #[.slice none 0 0, .slice none 0 0, .bool false]] : Array Value).toList 8 = some ([.agg [.nil, .nil, .lit (.bool false)]], [], places) :=
  ⟨[], by kernel_rfl⟩

set_option maxRecDepth 100000 in
theorem law_lifted (os : Os) (started : os.Started) (H : Type) (enc : TypeId × Value → H) (F : Stop.Interp) :
    ReturnsInHanded {} Tryz.checked os 4 .any ((OpenSpec.ofChange Rows.rationalRoundsSpec).preRow enc Tryz.prog Tryz.f4 Rows.rationalRoundsRow.domain false Rows.rationalRoundsRow.laid) (((OpenSpec.ofChange Rows.rationalRoundsSpec).at F).post enc Tryz.prog Tryz.f4 false true false false) := by
  obtain ⟨places, hx⟩ := wit_reads os enc
  refine returnsInHanded_of_row (C := Tryz.checked) (s := OpenSpec.ofChange Rows.rationalRoundsSpec) own started (by kernel_rfl) Tryz.func4
    (witness_row_at (enc := enc) (C := Tryz.checked) false (laidWorld os) #[.agg #[.slice none 0 0, .slice none 0 0, .bool false]] rfl (by kernel_rfl) (by kernel_rfl) (by kernel_rfl)
      (OpenSpec.preRow_of_cond 8 hx (by kernel_rfl) (fun k hk => by cases hk) (by kernel_rfl) (laid_met os))) ?_
  intro W base args ds gs before hval hW _ _ _ hL _ _
  exact law_contract H enc W base args ds gs before hval hW hL

theorem said : Rows.RationalRoundsSaid :=
  OpenClaim.holds_of_cond 4 Tryz.f4 rfl rfl rfl rfl rfl rfl rfl ⟨rfl, rfl, rfl, rfl, rfl⟩ rfl rfl rfl rfl rfl (by kernel_rfl) Tryz.func4 (by kernel_rfl)
    (of_decide_eq_true (by kernel_rfl)) (by unfold Func.isWrapper; first | (rw [if_pos (by decide +kernel)]; kernel_rfl) | (rw [if_neg (by decide +kernel)]; exact ⟨rfl, rfl⟩))
    (fun os started H enc _ F => by rw [OpenClaim.pre_eq_preRow]; exact law_lifted os started H enc F)

/-- no parameter wants a stand-in; the program's own looks are off -/
theorem plain (f : FuncId) (fn : Func) (hf : Tryz.pinned.checked.prog.funcNamed "torsion/torsionlaw02.RationalRounds" = some f) (hfn : Tryz.pinned.checked.prog.funcs[f]? = some fn) :
    false = Tryz.pinned.checked.prog.looks [] ∧ ∀ (j : Nat) t, fn.params[j]? = some t → Tryz.pinned.checked.prog.wantsStandIn t = false := by
  obtain rfl : f = 4 := Option.some.inj ((show Tryz.prog.funcNamed "torsion/torsionlaw02.RationalRounds" = some 4 by kernel_rfl).symm.trans hf) |>.symm
  obtain rfl : fn = Tryz.f4 := (Option.some.inj (Tryz.func4.symm.trans hfn)).symm
  refine ⟨by kernel_rfl, fun j t ht => ?_⟩
  have hm : t ∈ Tryz.f4.params.toList := by simpa using Array.mem_of_getElem? ht
  have hall : (Tryz.f4.params.toList.all fun t => !Tryz.prog.wantsStandIn t) = true := by kernel_rfl
  have := List.all_eq_true.1 hall t hm
  exact (show Tryz.prog.wantsStandIn t = false by simpa using this)

theorem law_holds : Rows.RationalRoundsCardSaid :=
  Claim7.holds_tied_plain_at .later [] _ _ _ _ said (fun _ h => by cases h) (by kernel_rfl) (fun _ h => by cases h) rationalRounds_row_tie rfl ⟨rfl, rfl⟩ (by kernel_rfl) rfl plain (by kernel_rfl)
#print axioms law_holds
end Go.Proofs.YtiimoommhahloaaGreatDoor
