/- From a contract by value to a row: the arguments opened, what is shown behind the call. -/
import Derived.Test.YtbpcgeanpkokkaaDoorSi
import Derived.WalkKit
import Derived.ProofKit
import Derived.OpenShut
import Derived.Carry
namespace Go.Proofs.YtbpcgeanpkokkaaDoor
open Go.ChangeShapes Go.WideShapes Go.ChangeAt Go.RowKit

section
variable {H : Type} {enc : TypeId × Value → H} {P : Program} {W W' : World}

theorem trodAll_below (hl : laidOutB P = true) (hb : Below W.heap.size W W') : ∀ {ts : List TypeId} {vs : List Value} {ds : List (DataW H)} {ps : List MemPlace}, (ts.all fun t => P.readableRec t && decide (t < P.types.size)) = true → (∀ x ∈ ps, x.block < W.heap.size) →
    DataW.TrodAll enc P W 0 (fun _ => true) true ts vs ds ps → DataW.TrodAll enc P W' 0 (fun b => decide (b < W.heap.size)) true ts vs ds ps
  | [], vs, ds, ps, _, _, h => by obtain ⟨rfl, rfl, rfl⟩ := trodAll_nil h; exact trodAll_mk0
  | t :: ts, vs, ds, ps, hr, hlt, h => by
    obtain ⟨v, vs', d, ds', p, q, rfl, rfl, rfl, h1, h2⟩ := trodAll_cons h
    simp only [List.all_cons, Bool.and_eq_true, decide_eq_true_eq] at hr
    exact trodAll_cons_mk (Below.trod hl hr.1.1 hr.1.2 h1 hb fun x hx => hlt x (List.mem_append.2 (.inl hx))) (trodAll_below hl hb hr.2 (fun x hx => hlt x (List.mem_append.2 (.inr hx))) h2)

/-- a law's row: true, and nothing has turned -/
theorem law_post {f : Func} {s : ChangeSpec} {args : Array Value} {ds gs : List (DataW H)} {before : List MemPlace} {tb : TypeId} (hl : laidOutB P = true) (hr : (f.params.toList.all fun t => P.readableRec t && decide (t < P.types.size)) = true) (hres : f.resultTypes = #[tb])
    (htb : P.underlying tb = some .bool) (hvars : s.vars = []) (hs : s.fn H ds = { results := [.lit (.bool true)], args := ds }) (hW : DataW.Whole enc P f.params.toList s.vars false W args.toList ds gs before) (hb : Below W.heap.size W W') :
    s.post enc P f false true false false W args (.bool true) W' := by
  have hW' := hW
  obtain ⟨p, q, hA, hV, rfl, hz, hn⟩ := hW
  have hlt := hW'.lt
  rw [hvars] at hV
  obtain ⟨rfl, rfl⟩ := trodVars_none hV
  have e : s.fn H (ds ++ []) = { results := [.lit (.bool true)], args := ds } := by rw [List.append_nil]; exact hs
  refine ⟨ds, [], p ++ [], [], p, [], hW', ?_, ?_, ?_, hb.frame _, fun h => by cases h⟩
  · rw [e, hres]; exact trodAll_mk1 (shut_bool htb true)
  · rw [e]; exact trodAll_below hl hb hr (fun x hx => hlt x (List.mem_append.2 (.inl hx))) hA
  · rw [e, hvars]; exact rfl

theorem Rc.sc (S : Nat → Prop) (w : World) (v : Value) : Rc S w (.sc v) v := R.sc v
theorem Rc.scs (S : Nat → Prop) (w : World) (l : List Value) : Rc S w (.ag (l.map .sc)) (.agg l.toArray) :=
  R.ag (by simp) fun i x u hx hu => by
    rw [List.getElem?_map] at hx
    rw [List.getElem?_toArray] at hu
    rw [hu] at hx
    cases hx; exact .sc _
theorem AllC.nil (S : Nat → Prop) (w : World) : AllC S w [] [] := ⟨rfl, fun i x u hx => by simp at hx⟩
theorem AllC.cons {S : Nat → Prop} {w : World} {x : V} {v : Value} {xs : List V} {vs : List Value} (h : Rc S w x v) (k : AllC S w xs vs) : AllC S w (x :: xs) (v :: vs) :=
  ⟨by simp [k.1], fun i y u hy hu => by
    cases i with
    | zero => simp at hy hu; subst hy; subst hu; exact h
    | succ i => simp at hy hu; exact k.2 i y u hy hu⟩

/-- a law's function that returns true by value -/
theorem Spec.law {f : Nat} {xs : List V} {args : Array Value} (h : Spec P f xs (.sc (.bool true))) (ht : TabOK (fun b => b < W.heap.size) W) (ha : AllC (fun b => b < W.heap.size) W xs args.toList) : Calls P f args W fun e W' => e = .returned (.bool true) ∧ Below W.heap.size W W' := by
  refine (h _ W args (fun _ h => h) ht ha).mono ?_
  rintro e W' ⟨v, rfl, hg, hx⟩
  have : v = .bool true := by
    generalize hq : V.sc (.bool true) = q at hx
    cases hx <;> cases hq
    rfl
  exact ⟨by rw [this], hg.os, hg.tape, hg.output, hg.size, hg.block⟩

/-- an integer that is in its kind's range -/
theorem open_nat {t : TypeId} {k : IntKind} {v : Value} {d : DataW H} {ps : List MemPlace} {M : Nat} (ht : P.underlying t = some (.int k)) (hk : ∀ n, (Lit.int k n).wf = true → 0 ≤ n ∧ n ≤ M) (hval : Value.okWide P W .any 0 t v) (hd : DataW.Trod enc P W 0 (fun _ => true) true t v d ps) : ∃ n : Nat, v = .int k n ∧ n ≤ M := by
  obtain ⟨n, rfl, _, _, hw⟩ := open_int ht hval hd
  obtain ⟨h1, h2⟩ := hk n hw
  exact ⟨n.toNat, by congr 1; omega, by omega⟩
/-- an array of integers by value -/
theorem open_intarr {t e : TypeId} {k : IntKind} {v : Value} {d : DataW H} {ps : List MemPlace} {n : Nat} (ht : P.underlying t = some (.array n e)) (he : P.underlying e = some (.int k)) (hce : P.cellsOf e = 1) (hct : P.cellsOf t = n) (hval : Value.okWide P W .any 0 t v) (hd : DataW.Trod enc P W 0 (fun _ => true) true t v d ps) :
    ∃ zs : List Int, zs.length = n ∧ v = .agg (zs.map (.int k)).toArray ∧ ∀ z ∈ zs, (Lit.int k z).wf = true := by
  obtain ⟨cs, rfl, hsz, _⟩ : ∃ cs, v = .agg cs ∧ cs.size = P.cellsOf t ∧ Row.okWide P W .any 0 t cs := by simpa [Value.okWide, ht] using hval
  rw [hct] at hsz
  obtain ⟨fuel, hf⟩ := hd
  obtain ⟨xs, m, _, _, _, hl, hel⟩ := DataW.trod_array ht hf
  have each : ∀ i, i < n → ∃ z, cs.toList[i]? = some (.int k z) ∧ (Lit.int k z).wf = true := by
    intro i hi
    have h1 := hel i hi
    rw [hce, Nat.mul_one, List.getElem?_eq_getElem (by omega)] at h1
    obtain ⟨z, h2, _, h3⟩ := DataW.trod_int he h1
    refine ⟨z, ?_, h3⟩
    have h4 : ((Value.agg cs).cells.toList.drop i).take 1 = [.int k z] := h2
    have h5 : cs.toList.drop i = .int k z :: (cs.toList.drop i).drop 1 := by
      have := List.take_append_drop 1 (cs.toList.drop i)
      have h6 : (cs.toList.drop i).take 1 = [.int k z] := by simpa [Value.cells] using h4
      rw [h6] at this
      simpa using this.symm
    have := congrArg (fun l => l[0]?) h5
    simpa using this
  refine ⟨cs.toList.map fun v => match v with | .int _ z => z | _ => 0, by simp [hsz], ?_, ?_⟩
  · congr 1
    apply Array.toList_inj.1
    refine List.ext_getElem? fun i => ?_
    rcases Nat.lt_or_ge i n with hi | hi
    · obtain ⟨z, hz, _⟩ := each i hi
      simp only [List.getElem?_map, hz, Option.map_some]
    · rw [List.getElem?_eq_none (by simp [hsz]; exact hi), List.getElem?_eq_none (by simp [hsz]; exact hi)]
  · intro z hz
    obtain ⟨v, hv, rfl⟩ := List.mem_map.1 hz
    obtain ⟨i, hi⟩ := List.mem_iff_getElem?.1 hv
    have hlt := (List.getElem?_eq_some_iff.1 hi).1
    obtain ⟨z, h1, h2⟩ := each i (by simpa [hsz] using hlt)
    rw [hi] at h1; cases h1
    exact h2
theorem u8_wf (n : Int) (h : (Lit.int .u8 n).wf = true) : 0 ≤ n ∧ n ≤ (255 : Nat) := by
  have h1 : IntKind.u8.min = 0 := rfl
  have h2 : IntKind.u8.max = 255 := rfl
  simp [Lit.wf] at h
  omega
theorem u16_wf (n : Int) (h : (Lit.int .u16 n).wf = true) : 0 ≤ n ∧ n ≤ (65535 : Nat) := by
  have h1 : IntKind.u16.min = 0 := rfl
  have h2 : IntKind.u16.max = 65535 := rfl
  simp [Lit.wf] at h
  omega
theorem u32_wf (n : Int) (h : (Lit.int .u32 n).wf = true) : 0 ≤ n ∧ n ≤ (4294967295 : Nat) := by
  have h1 : IntKind.u32.min = 0 := rfl
  have h2 : IntKind.u32.max = 4294967295 := rfl
  simp [Lit.wf] at h
  omega
theorem u64_wf (n : Int) (h : (Lit.int .u64 n).wf = true) : 0 ≤ n ∧ n ≤ (18446744073709551615 : Nat) := by
  have h1 : IntKind.u64.min = 0 := rfl
  have h2 : IntKind.u64.max = 18446744073709551615 := rfl
  simp [Lit.wf] at h
  omega
end
end Go.Proofs.YtbpcgeanpkokkaaDoor
