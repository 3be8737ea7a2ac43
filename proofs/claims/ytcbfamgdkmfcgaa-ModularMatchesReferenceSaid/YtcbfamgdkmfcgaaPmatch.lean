/- 'ModularMatchesReference' returns true for every input, and each argument reads afterwards as it read before. No conditions. -/
import Derived.Test.YtcbfamgdkmfcgaaRows
import Derived.Test.YtcbfamgdkmfcgaaGl
import Derived.Test.YtcbfamgdkmfcgaaMl
namespace Go.Proofs.Ytcbfamgdkmfcgaa
open Go.ChangeShapes Go.WideShapes Go.ChangeAt Go.RowKit

theorem primesP (i : Nat) (hi : i < 15) : 1 < primesL.getD i 0 ∧ primesL.getD i 0 ≤ 2147483647 := by
  have : ∀ j, j < 15 → 1 < primesL.getD j 0 ∧ primesL.getD j 0 ≤ 2147483647 := by decide
  exact this i hi

theorem own : ownKnob Try.prog.godebug = none := by kernel_rfl
theorem laidOut : laidOutB Try.prog = true := by kernel_rfl

theorem match_calls {H : Type} {enc : TypeId × Value → H} {W : World} {args : Array Value} {ds : List (DataW H)} {p : List MemPlace} (hval : ∀ (j : Nat) t v, Try.f6.params[j]? = some t → args[j]? = some v → Value.okWide Try.prog W .any 0 t v)
    (hA : DataW.TrodAll enc Try.prog W 0 (fun _ => true) true Try.f6.params.toList args.toList ds p) :
    ds.length = 2 ∧ Calls Try.prog 6 args W fun e W' => e = .returned (.bool true) ∧ Below W.heap.size W W' := by
  rw [Try.params6] at hA hval
  obtain ⟨v0, vs0, d0, ds0, p0, q0, hargs, rfl, rfl, h0, r0⟩ := trodAll_cons hA
  obtain ⟨v1, vs1, d1, ds1, p1, q1, rfl, rfl, rfl, h1, r1⟩ := trodAll_cons r0
  obtain ⟨rfl, rfl, rfl⟩ := trodAll_nil r1
  obtain rfl : args = #[v0, v1] := by cases args; simp_all
  refine ⟨rfl, ?_⟩
  obtain ⟨k, rfl, hk⟩ := open_nat Try.underlying5 u8_wf (hval 0 _ v0 rfl rfl) h0
  obtain ⟨xs, hx, rfl, hxw⟩ := open_intarr Try.underlying44 Try.underlying22 (by kernel_rfl) (by kernel_rfl) (hval 1 _ v1 rfl rfl) h1
  obtain ⟨x0, x1, x2, rfl⟩ : ∃ a b c, xs = [a, b, c] := by
    match xs, hx with
    | [a, b, c], _ => exact ⟨a, b, c, rfl⟩
  have a0 := u64_wf x0 (hxw x0 (by simp))
  have a1 := u64_wf x1 (hxw x1 (by simp))
  have a2 := u64_wf x2 (hxw x2 (by simp))
  obtain ⟨x0, rfl⟩ := Int.eq_ofNat_of_zero_le a0.1
  obtain ⟨x1, rfl⟩ := Int.eq_ofNat_of_zero_le a1.1
  obtain ⟨x2, rfl⟩ := Int.eq_ofNat_of_zero_le a2.1
  obtain ⟨q1, q2⟩ := primesP (k % 15) (by omega)
  refine Spec.law (match_s k x0 x1 x2 _ rfl q1 q2 hk (by omega) (by omega) (by omega)) ?_
  exact AllC.cons (Rc.sc _ _ _) (AllC.cons (Rc.scs _ _ [_, _, _]) (AllC.nil _ _))

set_option maxRecDepth 100000 in
theorem match_lifted (os : Os) (started : os.Started) (H : Type) (enc : TypeId × Value → H) :
    ReturnsInHanded {} Try.checked os 6 .any (Rows.modularMatchesReferenceSpec.pre6 enc Try.prog Try.f6 Rows.modularMatchesReferenceRow.domain false) (Rows.modularMatchesReferenceSpec.post enc Try.prog Try.f6 false true false false) := by
  refine returnsInHanded_of_change (C := Try.checked) own started (by kernel_rfl) Try.func6
    (ChangeSpec.witness6 (enc := enc) (C := Try.checked) false ⟨#[], #[.int .u8 0, .agg #[.int .u64 0, .int .u64 0, .int .u64 0]], []⟩ 8 (by kernel_rfl) (by kernel_rfl) (by kernel_rfl) (by kernel_rfl)) ?_
  intro W base args ds gs before hval0 hW hcnd _
  have hW' := hW
  obtain ⟨p, q, hA0, hV, rfl, hfz, hnd⟩ := hW
  obtain ⟨hl, hc⟩ := match_calls (enc := enc) hval0 hA0
  refine hc.mono fun e W' ⟨he, hb⟩ => ?_
  subst he
  obtain ⟨d0, d1, rfl⟩ : ∃ a b, ds = [a, b] := by
    match ds, hl with
    | [a, b], _ => exact ⟨a, b, rfl⟩
  exact ⟨_, rfl, law_post laidOut (by kernel_rfl) (by kernel_rfl) Try.underlying4 rfl rfl hW' hb⟩

theorem match_holds : Rows.ModularMatchesReferenceSaid :=
  OpenClaim.holds_of_wide 6 Try.f6 rfl rfl rfl rfl rfl rfl rfl ⟨rfl, rfl, rfl, rfl, rfl⟩ rfl rfl rfl rfl rfl (by kernel_rfl) Try.func6 (by kernel_rfl)
    (of_decide_eq_true (by kernel_rfl)) (by unfold Func.isWrapper; first | (rw [if_pos (by decide +kernel)]; kernel_rfl) | (rw [if_neg (by decide +kernel)]; exact ⟨rfl, rfl⟩))
    (fun os started H enc _ => match_lifted os started H enc)
#print axioms match_holds
end Go.Proofs.Ytcbfamgdkmfcgaa
