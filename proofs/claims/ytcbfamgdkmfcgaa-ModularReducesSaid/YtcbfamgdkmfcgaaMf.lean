/- Walks: the iterators upward and downward, and first. -/
import Derived.RangeFuncNested
import Derived.RangeFuncBound
import Derived.RangeFuncCalls
import Derived.RangeFuncLeaves
import Derived.Shelf.RegionOpen
import Derived.OwnWalkIn
import Derived.TacticsInMore
import Derived.LoopNIn
import Derived.LoopIn
import Derived.Test.YtcbfamgdkmfcgaaMe
namespace Go.Proofs.Ytcbfamgdkmfcgaa
open Go.RowKit Go.Shelf
attribute [local go_sem] Oper.semAt_some

abbrev U64 := { x : Nat // x ≤ 18446744073709551615 }
def ups (n k : Nat) : List Nat := (List.range k).map (fun i => n + 1 + i)
def downs (n k : Nat) : List Nat := (List.range k).map (fun i => n - 1 - i)
theorem ups_succ (n k : Nat) : ups n (k + 1) = ups n k ++ [n + 1 + k] := by simp [ups, List.range_succ]
theorem downs_succ (n k : Nat) : downs n (k + 1) = downs n k ++ [n - 1 - k] := by simp [downs, List.range_succ]
theorem ups_prefix (n : Nat) {j k : Nat} (h : j ≤ k) : ups n j <+: ups n k := by
  obtain ⟨d, rfl⟩ := Nat.exists_eq_add_of_le h
  refine ⟨(List.range d).map (fun i => n + 1 + (j + i)), ?_⟩
  simp [ups, List.range_add, Function.comp_def]
theorem downs_prefix (n : Nat) {j k : Nat} (h : j ≤ k) : downs n j <+: downs n k := by
  obtain ⟨d, rfl⟩ := Nat.exists_eq_add_of_le h
  refine ⟨(List.range d).map (fun i => n - 1 - (j + i)), ?_⟩
  simp [downs, List.range_add, Function.comp_def]
theorem ups_len (n k : Nat) : (ups n k).length = k := by simp [ups]
theorem downs_len (n k : Nat) : (downs n k).length = k := by simp [downs]
def u64s (xs : List U64) : List Nat := xs.map (·.1)
theorem u64s_snoc (xs : List U64) (x : U64) : u64s (xs ++ [x]) = u64s xs ++ [x.1] := by simp [u64s]
def natOf : Value → Nat
  | .int _ x => x.toNat
  | _ => 0

set_option maxHeartbeats 1000000 in
theorem up1_in (F : Fence) (n : Nat) (hf : F.fn 50) (hro : F.round = none) (hn : 1 ≤ n) (l Bn n₀ m M : Nat) (hM : Hid (2147483647 - m = M)) (hm : m ≤ 18446744073709551615) (J Jx : List U64 → World → Prop)
    (hY : ∀ pre x W, J pre W → pre.length < M → YieldAt F (n - 1) Try.prog l #[.int .u64 (x : U64).1] W fun e W' =>
      (e = .returned (.bool true) ∧ J (pre ++ [x]) W' ∧ Below n₀ W W') ∨ (e = .returned (.bool false) ∧ Jx (pre ++ [x]) W'))
    (W : World) (hBn : W.cell? ⟨Bn, 0, none⟩ = some (.int .u64 m)) (h0 : J [] W) :
    CallsIn F n Try.prog 50 #[.func (.yield l) #[] #[], .pointer (some ⟨Bn, 0, none⟩)] W fun e W' => (∃ v, e = .returned v) ∧
      ((∃ ys, u64s ys = ups m (M) ∧ J ys W') ∨ (∃ pre, u64s pre <+: ups m (M) ∧ Jx pre W')) := by
  refine callsIn_of_wp Try.func50 rfl hf ?_ hro
  simp only [Try.ntmps50, List.size_toArray, List.length_cons, List.length_nil, Nat.reduceAdd, Nat.reduceSub, Array.replicate_succ, Array.replicate_zero, List.push_toArray, List.append_toArray, List.nil_append, List.cons_append]
  gi_wp2
  gi_loopw [3] (fun p wr => ∃ (pre : List U64) (k c : Nat), p = .int .u64 c ∧ c = m + k ∧ k ≤ M ∧ Hid (u64s pre = ups m k) ∧ J pre wr)
    (fun p wr => 2147483647 - natOf p)
  case atStart =>
    exact ⟨[], 0, m, rfl, by omega, by omega, rfl, h0⟩
  case round =>
    obtain ⟨pre, k, c, rfl, hc, hk, hpre, hJs⟩ := hrel
    have hMo := hM.out
    have hpl : pre.length = k := by have := congrArg List.length hpre.out; simpa [u64s, ups_len] using this
    by_cases hlt : c < 2147483647
    · have hd : decide ((c : Int) < 2147483647) = true := by simp; omega
      obtain ⟨X, hX⟩ : ∃ X : U64, X.1 = c + 1 := ⟨⟨c + 1, by omega⟩, rfl⟩
      obtain ⟨fn, tmps, assign, body, hy, hR⟩ := hY pre X wr hJs (by omega)
      have hcc : ((X.1 : Nat) : Int) = (c : Int) + 1 := by omega
      rw [hcc] at hy
      have hstep2 : Hid (u64s (pre ++ [X]) = ups m (k + 1)) := by
        show _ = _
        have he : c + 1 = m + 1 + k := by omega
        rw [ups_succ, u64s_snoc, hpre.out, hX, he]
      have hkl : k + 1 ≤ M := by omega
      have hk0 : Hid (c + 1 = m + (k + 1)) := hid (by omega)
      have hme : Hid (2147483647 - (c + 1) < 2147483647 - c) := hid (by omega)
      clear hpl hpre hcc hMo hX hc hk
      gi_wp2
      refine hR.mono ?_
      rintro e W3 (⟨rfl, hJ3, hk3⟩ | ⟨rfl, hJx3⟩)
      · gi_wp2
        go_roundw
        case rel => exact ⟨_, k + 1, c + 1, by go_num, hk0.out, hkl, hstep2, hJ3⟩
        case measure => exact hme.out
      · gi_wp2
        refine bodyPost_ret (results_none rfl _ _ _) rfl ?_
        exact ⟨⟨_, rfl⟩, .inr ⟨_, hstep2.out ▸ ups_prefix m hkl, hJx3⟩⟩
    · have hd : decide ((c : Int) < 2147483647) = false := by simp; omega
      have hk2 : Hid (k = M) := hid (by omega)
      clear hlt hk hc hpl hMo
      gi_wp2_with fail
      go_end0
      exact ⟨⟨_, rfl⟩, .inl ⟨pre, by rw [hpre.out, hk2.out], hJs⟩⟩

set_option maxHeartbeats 1000000 in
theorem dn1_in (F : Fence) (n : Nat) (hf : F.fn 51) (hro : F.round = none) (hn : 1 ≤ n) (l Bn n₀ m M : Nat) (hM : Hid (min m 2147483648 = M)) (hm : m ≤ 18446744073709551615) (J Jx : List U64 → World → Prop)
    (hY : ∀ pre x W, J pre W → pre.length < M → YieldAt F (n - 1) Try.prog l #[.int .u64 (x : U64).1] W fun e W' =>
      (e = .returned (.bool true) ∧ J (pre ++ [x]) W' ∧ Below n₀ W W') ∨ (e = .returned (.bool false) ∧ Jx (pre ++ [x]) W'))
    (W : World) (hBn : W.cell? ⟨Bn, 0, none⟩ = some (.int .u64 m)) (h0 : J [] W) :
    CallsIn F n Try.prog 51 #[.func (.yield l) #[] #[], .pointer (some ⟨Bn, 0, none⟩)] W fun e W' => (∃ v, e = .returned v) ∧
      ((∃ ys, u64s ys = downs M M ∧ J ys W') ∨ (∃ pre, u64s pre <+: downs M M ∧ Jx pre W')) := by
  refine callsIn_of_wp Try.func51 rfl hf ?_ hro
  simp only [Try.ntmps51, List.size_toArray, List.length_cons, List.length_nil, Nat.reduceAdd, Nat.reduceSub, Array.replicate_succ, Array.replicate_zero, List.push_toArray, List.append_toArray, List.nil_append, List.cons_append]
  gi_wp2
  all_goals
    gi_loopw [3] (fun p wr => ∃ (pre : List U64) (k c : Nat), p = .int .u64 c ∧ c + k = M ∧ Hid (u64s pre = downs M k) ∧ J pre wr)
      (fun p wr => natOf p)
    case atStart =>
      rename_i hcmp
      have hMo := hM.out
      first
        | exact ⟨[], 0, m, rfl, by omega, rfl, h0⟩
        | exact ⟨[], 0, 2147483648, rfl, by omega, rfl, h0⟩
    case round =>
      obtain ⟨pre, k, c, rfl, hc, hpre, hJs⟩ := hrel
      have hMo := hM.out
      have hM64 : c ≤ 2147483648 := by omega
      have hpl : pre.length = k := by have := congrArg List.length hpre.out; simpa [u64s, downs_len] using this
      by_cases hlt : 0 < c
      · have hd : decide (0 < (c : Int)) = true := by simp; omega
        obtain ⟨X, hX⟩ : ∃ X : U64, X.1 = c - 1 := ⟨⟨c - 1, by omega⟩, rfl⟩
        obtain ⟨fn, tmps, assign, body, hy, hR⟩ := hY pre X wr hJs (by omega)
        have hcc : ((X.1 : Nat) : Int) = (c : Int) - 1 := by omega
        rw [hcc] at hy
        have hstep2 : Hid (u64s (pre ++ [X]) = downs M (k + 1)) := by
          show _ = _
          have he : c - 1 = M - 1 - k := by omega
          rw [downs_succ, u64s_snoc, hpre.out, hX, he]
        have hkl : Hid (k + 1 ≤ M) := hid (by omega)
        have hk0 : Hid (c - 1 + (k + 1) = M) := hid (by omega)
        have hme : Hid (c - 1 < c) := hid (by omega)
        clear hpl hpre hcc hMo hX hc
        gi_wp2
        refine hR.mono ?_
        rintro e W3 (⟨rfl, hJ3, hk3⟩ | ⟨rfl, hJx3⟩)
        · gi_wp2
          go_roundw
          case rel => exact ⟨_, k + 1, c - 1, by go_num, hk0.out, hstep2, hJ3⟩
          case measure => have := hme.out; simp [natOf]; omega
        · gi_wp2
          refine bodyPost_ret (results_none rfl _ _ _) rfl ?_
          exact ⟨⟨_, rfl⟩, .inr ⟨_, hstep2.out ▸ downs_prefix M hkl.out, hJx3⟩⟩
      · have hd : decide (0 < (c : Int)) = false := by simp; omega
        have hk2 : Hid (k = M) := hid (by omega)
        have hlt2 : ¬ (0 < (c : Int)) := by omega
        clear hlt hc hpl hMo
        gi_wp2
        go_end0
        exact ⟨⟨_, rfl⟩, .inl ⟨pre, by rw [hpre.out, hk2.out], hJs⟩⟩
end Go.Proofs.Ytcbfamgdkmfcgaa
