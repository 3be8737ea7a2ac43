/- Walks: Next, Before; and contracts by value out of walks. -/
import Derived.Test.YtcbfamgdkmfcgaaMg
import Derived.Test.YtcbfamgdkmfcgaaSi
namespace Go.Proofs.Ytcbfamgdkmfcgaa
open Go.RowKit Go.Shelf
attribute [local go_sem] Oper.semAt_some

theorem upward_any (n : Nat) (w : World) : Calls Try.prog 37 #[.int .u64 n] w fun e w' => e = .returned (.func (.func 50) #[] #[.pointer (some ⟨w.heap.size, 0, none⟩)]) ∧ w' = w.alloc (.cells #[.int .u64 n] 22) := by
  go_enter Try.func37, Try.ntmps37
  go_wp2
  go_ret
  exact ⟨rfl, rfl⟩
theorem downward_any (n : Nat) (w : World) : Calls Try.prog 38 #[.int .u64 n] w fun e w' => e = .returned (.func (.func 51) #[] #[.pointer (some ⟨w.heap.size, 0, none⟩)]) ∧ w' = w.alloc (.cells #[.int .u64 n] 22) := by
  go_enter Try.func38, Try.ntmps38
  go_wp2
  go_ret
  exact ⟨rfl, rfl⟩

theorem Next_any (n M : Nat) (hM : Hid (2147483647 - n = M)) (hn : n ≤ 18446744073709551615) (w : World) : Calls Try.prog 11 #[.int .u64 n] w (Ret (fun _ v => v = .int .u64 (firstB (ups n M))) w) := by
  have hc : (w.alloc (.cells #[.int .u64 (n : Int)] 22)).cell? ⟨w.heap.size, 0, none⟩ = some (.int .u64 n) := by simp
  have hf := first_any 50 w.heap.size n M (ups n M) (w.alloc (.cells #[.int .u64 (n : Int)] 22)) (enters_of Try.func50 (by kernel_rfl) rfl)
    (fun n₀ w' he => up_stops Fence.wide 2 trivial rfl (by omega) w.heap.size n₀ n M hM hn w' (Nat.lt_of_lt_of_le (by simp) he.size) ((he.cell _ _ (by simp)).trans hc))
  go_enter Try.func11, Try.ntmps11
  go_wp2_with (first | (go_at_call 37; refine (upward_any n _).mono ?_; rintro e w' ⟨rfl, rfl⟩) | (go_at_call 36; refine hf.mono ?_; rintro e w' ⟨v, rfl, rfl, he⟩))
  go_ret
  exact ⟨_, rfl, rfl, ((Ext.refl w).alloc _).trans he⟩
theorem Before_any (n M : Nat) (hM : Hid (min n 2147483648 = M)) (hn : n ≤ 18446744073709551615) (w : World) : Calls Try.prog 13 #[.int .u64 n] w (Ret (fun _ v => v = .int .u64 (firstB (downs M M))) w) := by
  have hc : (w.alloc (.cells #[.int .u64 (n : Int)] 22)).cell? ⟨w.heap.size, 0, none⟩ = some (.int .u64 n) := by simp
  have hf := first_any 51 w.heap.size n M (downs M M) (w.alloc (.cells #[.int .u64 (n : Int)] 22)) (enters_of Try.func51 (by kernel_rfl) rfl)
    (fun n₀ w' he => dn_stops Fence.wide 2 trivial rfl (by omega) w.heap.size n₀ n M hM hn w' (Nat.lt_of_lt_of_le (by simp) he.size) ((he.cell _ _ (by simp)).trans hc))
  go_enter Try.func13, Try.ntmps13
  go_wp2_with (first | (go_at_call 38; refine (downward_any n _).mono ?_; rintro e w' ⟨rfl, rfl⟩) | (go_at_call 36; refine hf.mono ?_; rintro e w' ⟨v, rfl, rfl, he⟩))
  go_ret
  exact ⟨_, rfl, rfl, ((Ext.refl w).alloc _).trans he⟩

/-! ### contracts by value -/
def ints (l : List (IntKind × Int)) : List Value := l.map fun p => .int p.1 p.2
theorem AllC.scs {S : Nat → Prop} {w : World} : ∀ {vs us : List Value}, AllC S w (vs.map .sc) us → us = vs
  | vs, us, h => by
    obtain ⟨h1, h2⟩ := h
    refine List.ext_getElem? fun i => ?_
    rcases Nat.lt_or_ge i vs.length with hi | hi
    · have hu : i < us.length := by simp at h1; omega
      have := h2 i (.sc vs[i]) us[i] (by simp [hi]) (by simp [hu])
      rw [List.getElem?_eq_getElem hi, List.getElem?_eq_getElem hu]
      generalize us[i] = a at this ⊢
      generalize vs[i] = b at this ⊢
      cases this; rfl
    · rw [List.getElem?_eq_none (by simp at h1; omega), List.getElem?_eq_none hi]
theorem Spec.scalars {P : Program} {f : Nat} {vs : List Value} {v : Value} (h : ∀ w, Calls P f vs.toArray w (Ret (fun _ u => u = v) w)) : Spec P f (vs.map .sc) (.sc v) := by
  intro S w us hS ha
  have := AllC.scs ha
  have e : us = vs.toArray := by rw [← this]
  rw [e]
  refine (h w).mono ?_
  rintro e w' ⟨u, rfl, rfl, he⟩
  exact ⟨_, rfl, ⟨he.os, he.tape, he.output, he.size, he.block⟩, .sc _⟩
theorem Spec.same {P : Program} {f : Nat} {vs : List Value} {v : Value} (h : ∀ w, Calls P f vs.toArray w fun e w' => e = .returned v ∧ w = w') : Spec P f (vs.map .sc) (.sc v) :=
  Spec.scalars fun w => (h w).mono fun e w' ⟨h1, h2⟩ => ⟨v, h1, rfl, h2 ▸ Ext.refl w⟩
end Go.Proofs.Ytcbfamgdkmfcgaa
