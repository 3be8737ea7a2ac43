/- Texts joined: Mh Mi Mj. -/
import Derived.Test.YtcbfamgdkmfcgaaZa
import Derived.Test.YtcbfamgdkmfcgaaZb
import Derived.Test.YtcbfamgdkmfcgaaZb
import Derived.Test.YtcbfamgdkmfcgaaZc
set_option linter.all false
/- Walks: Next, Before; and contracts by value out of walks. -/
namespace Go.Proofs.Ytcbfamgdkmfcgaa
open Go.RowKit Go.Shelf
attribute [local go_sem] Oper.semAt_some

theorem upward_any (n : Nat) (w : World) : Calls Try.prog 37 #[.int .u64 n] w fun e w' => e = .returned (.func (.func 50) #[] #[.pointer (some ⟨w.heap.size, 0, none⟩)]) ∧ w' = w.alloc (.cells #[.int .u64 n] 22) := by
  go_enter Try.func37, Try.ntmps37
  go_wp2
  go_ret
  exact ⟨rfl, rfl⟩
theorem downward_any (n : Nat) (w : World) : Calls Try.prog 38 #[.int .u64 n] w fun e w' => e = .returned (.func (.func 51) #[] #[.pointer (some ⟨w.heap.size, 0, none⟩)]) ∧ w' = w.alloc (.cells #[.int .u64 n] 22) := by
  go_enter Try.func38, Try.ntmps38
  go_wp2
  go_ret
  exact ⟨rfl, rfl⟩

theorem Next_any (n M : Nat) (hM : Hid (2147483647 - n = M)) (hn : n ≤ 18446744073709551615) (w : World) : Calls Try.prog 11 #[.int .u64 n] w (Ret (fun _ v => v = .int .u64 (firstB (ups n M))) w) := by
  have hc : (w.alloc (.cells #[.int .u64 (n : Int)] 22)).cell? ⟨w.heap.size, 0, none⟩ = some (.int .u64 n) := by simp
  have hf := first_any 50 w.heap.size n M (ups n M) (w.alloc (.cells #[.int .u64 (n : Int)] 22)) (enters_of Try.func50 (by kernel_rfl) rfl)
    (fun n₀ w' he => up_stops Fence.wide 2 trivial rfl (by omega) w.heap.size n₀ n M hM hn w' (Nat.lt_of_lt_of_le (by simp) he.size) ((he.cell _ _ (by simp)).trans hc))
  go_enter Try.func11, Try.ntmps11
  go_wp2_with (first | (go_at_call 37; refine (upward_any n _).mono ?_; rintro e w' ⟨rfl, rfl⟩) | (go_at_call 36; refine hf.mono ?_; rintro e w' ⟨v, rfl, rfl, he⟩))
  go_ret
  exact ⟨_, rfl, rfl, ((Ext.refl w).alloc _).trans he⟩
theorem Before_any (n M : Nat) (hM : Hid (min n 2147483648 = M)) (hn : n ≤ 18446744073709551615) (w : World) : Calls Try.prog 13 #[.int .u64 n] w (Ret (fun _ v => v = .int .u64 (firstB (downs M M))) w) := by
  have hc : (w.alloc (.cells #[.int .u64 (n : Int)] 22)).cell? ⟨w.heap.size, 0, none⟩ = some (.int .u64 n) := by simp
  have hf := first_any 51 w.heap.size n M (downs M M) (w.alloc (.cells #[.int .u64 (n : Int)] 22)) (enters_of Try.func51 (by kernel_rfl) rfl)
    (fun n₀ w' he => dn_stops Fence.wide 2 trivial rfl (by omega) w.heap.size n₀ n M hM hn w' (Nat.lt_of_lt_of_le (by simp) he.size) ((he.cell _ _ (by simp)).trans hc))
  go_enter Try.func13, Try.ntmps13
  go_wp2_with (first | (go_at_call 38; refine (downward_any n _).mono ?_; rintro e w' ⟨rfl, rfl⟩) | (go_at_call 36; refine hf.mono ?_; rintro e w' ⟨v, rfl, rfl, he⟩))
  go_ret
  exact ⟨_, rfl, rfl, ((Ext.refl w).alloc _).trans he⟩

/-! ### contracts by value -/
def ints (l : List (IntKind × Int)) : List Value := l.map fun p => .int p.1 p.2
theorem AllC.scs {S : Nat → Prop} {w : World} : ∀ {vs us : List Value}, AllC S w (vs.map .sc) us → us = vs
  | vs, us, h => by
    obtain ⟨h1, h2⟩ := h
    refine List.ext_getElem? fun i => ?_
    rcases Nat.lt_or_ge i vs.length with hi | hi
    · have hu : i < us.length := by simp at h1; omega
      have := h2 i (.sc vs[i]) us[i] (by simp [hi]) (by simp [hu])
      rw [List.getElem?_eq_getElem hi, List.getElem?_eq_getElem hu]
      generalize us[i] = a at this ⊢
      generalize vs[i] = b at this ⊢
      cases this; rfl
    · rw [List.getElem?_eq_none (by simp at h1; omega), List.getElem?_eq_none hi]
theorem Spec.scalars {P : Program} {f : Nat} {vs : List Value} {v : Value} (h : ∀ w, Calls P f vs.toArray w (Ret (fun _ u => u = v) w)) : Spec P f (vs.map .sc) (.sc v) := by
  intro S w us hS _ ha
  have := AllC.scs ha
  have e : us = vs.toArray := by rw [← this]
  rw [e]
  refine (h w).mono ?_
  rintro e w' ⟨u, rfl, rfl, he⟩
  exact ⟨_, rfl, ⟨he.os, he.tape, he.output, he.size, he.block⟩, .sc _⟩
theorem Spec.same {P : Program} {f : Nat} {vs : List Value} {v : Value} (h : ∀ w, Calls P f vs.toArray w fun e w' => e = .returned v ∧ w = w') : Spec P f (vs.map .sc) (.sc v) :=
  Spec.scalars fun w => (h w).mono fun e w' ⟨h1, h2⟩ => ⟨v, h1, rfl, h2 ▸ Ext.refl w⟩
end Go.Proofs.Ytcbfamgdkmfcgaa

/- The fixed examples of the law's package: a closed run. -/
namespace Go.Proofs.Ytcbfamgdkmfcgaa
open Go.RowKit

/-! ### powers and the test of primality, to be reckoned -/
def pmF : Nat → Nat → Nat → Nat → Nat
  | 0, p, _, _ => 1 % p
  | f + 1, p, a, e => match e with
    | 0 => 1 % p
    | e + 1 => if (e + 1) % 2 = 1 then a * pmF f p (a * a % p) ((e + 1) / 2) % p else pmF f p (a * a % p) ((e + 1) / 2)
theorem pm_eq (f : Nat) : ∀ (p a e : Nat), e < 2 ^ f → pm p a e = pmF f p a e := by
  induction f with
  | zero => intro p a e h; have : e = 0 := by simp at h; exact h
            subst this; rw [pm_zero]; rfl
  | succ f ih =>
    intro p a e h
    cases e with
    | zero => rw [pm_zero]; rfl
    | succ e =>
      have hs := pm_step p a (e + 1) 1
      rw [Nat.one_mul, Nat.one_mul] at hs
      have hlt : (e + 1) / 2 < 2 ^ f := by rw [Nat.pow_succ] at h; omega
      have hm : pm p a (e + 1) % p = pm p a (e + 1) := by unfold pm; rw [Nat.mod_mod]
      have hm2 : pm p (a * a % p) ((e + 1) / 2) % p = pm p (a * a % p) ((e + 1) / 2) := by unfold pm; rw [Nat.mod_mod]
      rw [hm] at hs
      rw [hs, pmF]
      split
      · rw [ih p (a * a % p) _ hlt, Nat.mod_mul_mod]
      · rw [Nat.one_mul, hm2, ih p (a * a % p) _ hlt]
def spF (n b o t : Nat) : Bool := pmF 32 n b o == 1 || pmF 32 n b o == n - 1 || sqLoop n (t - 1) (pmF 32 n b o)
def basesF (n o t : Nat) : List Nat → Bool
  | [] => true
  | b :: r => if n = b then true else if spF n b o t then basesF n o t r else false
def primeF (n : Nat) : Bool := if n < 2 ∨ 2147483648 ≤ n then false else if n % 2 = 0 then n == 2 else basesF n (oddTwos 64 (n - 1)).1 (oddTwos 64 (n - 1)).2 [2, 3, 5, 7]
theorem basesF_eq (n o t : Nat) (h : o < 2 ^ 32) : ∀ l, basesB n o t l = basesF n o t l
  | [] => rfl
  | b :: r => by
    have : spB n b o t = spF n b o t := by unfold spB spF; rw [pm_eq 32 n b o h]
    rw [basesB, basesF, this, basesF_eq n o t h r]
theorem oddTwos_le : ∀ (f m : Nat), (oddTwos f m).1 ≤ m
  | 0, m => Nat.le_refl _
  | f + 1, m => by
    simp only [oddTwos]
    split
    · exact Nat.le_trans (oddTwos_le f (m / 2)) (Nat.div_le_self _ _)
    · exact Nat.le_refl _
theorem primeF_eq (n : Nat) : primeB n = primeF n := by
  unfold primeB primeF
  split
  · rfl
  · rename_i h
    split
    · rfl
    · rw [basesF_eq]
      exact Nat.lt_of_le_of_lt (oddTwos_le 64 (n - 1)) (by omega)

theorem ups_cons (n k : Nat) : ups n (k + 1) = (n + 1) :: ups (n + 1) k := by
  refine List.ext_getElem (by simp [ups]) fun i h1 h2 => ?_
  cases i with
  | zero => simp [ups]
  | succ i => simp [ups]; omega
theorem downs_cons (n k : Nat) : downs n (k + 1) = (n - 1) :: downs (n - 1) k := by
  refine List.ext_getElem (by simp [downs]) fun i h1 h2 => ?_
  cases i with
  | zero => simp [downs]
  | succ i => simp [downs]; omega
theorem firstB_cons (x : Nat) (l : List Nat) : firstB (x :: l) = if primeF x then x else firstB l := by
  rw [← primeF_eq]
  unfold firstB
  rw [List.find?_cons]
  cases primeB x <;> rfl

theorem next_c1 : firstB (ups 2147483628 19) = 2147483629 := by rw [show (19 : Nat) = 18 + 1 by rfl, ups_cons, firstB_cons, if_pos (by kernel_rfl)]
theorem next_c2 : firstB (ups 2147483647 0) = 0 := rfl
theorem next_c3 : firstB (ups 0 2147483647) = 2 := by
  have h1 : ¬ primeF (0 + 1) = true := by
    have : primeF (0 + 1) = false := by kernel_rfl
    rw [this]; simp
  have h2 : primeF (0 + 1 + 1) = true := by kernel_rfl
  rw [show (2147483647 : Nat) = 2147483645 + 1 + 1 by rfl, ups_cons, firstB_cons, if_neg h1, ups_cons, firstB_cons, if_pos h2]
theorem before_c1 : firstB (downs 2 2) = 0 := by kernel_rfl
theorem before_c2 : firstB (downs 3 3) = 2 := by rw [show (3 : Nat) = 2 + 1 by rfl, downs_cons, firstB_cons, if_pos (by kernel_rfl)]
theorem before_c3 : firstB (downs 2147483648 2147483648) = 2147483647 := by
  have : downs 2147483648 (2147483647 + 1) = (2147483648 - 1) :: downs (2147483648 - 1) 2147483647 := downs_cons _ _
  rw [show downs 2147483648 2147483648 = downs 2147483648 (2147483647 + 1) by rfl, this, firstB_cons, if_pos (by kernel_rfl)]

/-- what is known of calls -/
def K03 : Nat → List V → Option V
  | 9, [.sc (.int .u64 (.ofNat n))] => if n ≤ 18446744073709551615 then some (.sc (.bool (primeF n))) else none
  | 11, [.sc (.int .u64 (.ofNat n))] => if n = 2147483628 then some (.sc (.int .u64 2147483629)) else if n = 2147483647 then some (.sc (.int .u64 0)) else if n = 0 then some (.sc (.int .u64 2)) else none
  | 13, [.sc (.int .u64 (.ofNat n))] => if n = 2 then some (.sc (.int .u64 0)) else if n = 3 then some (.sc (.int .u64 2)) else if n = 1099511627776 then some (.sc (.int .u64 2147483647)) else none
  | _, _ => none
theorem K03_sound : KSound Try.prog K03 := by
  intro f ys x h
  unfold K03 at h
  split at h
  · rename_i n
    split at h
    · rename_i hn
      cases h
      have := Spec.same (P := Try.prog) (f := 9) (vs := [.int .u64 n]) (v := .bool (primeB n)) fun w => Prime_any n w hn
      rw [primeF_eq] at this
      exact this
    · cases h
  · rename_i n
    have key : ∀ M r : Nat, 2147483647 - n = M → n ≤ 18446744073709551615 → firstB (ups n M) = r → Spec Try.prog 11 [.sc (.int .u64 (.ofNat n))] (.sc (.int .u64 (r : Int))) := fun M r h1 h2 h3 =>
      Spec.scalars (P := Try.prog) (f := 11) (vs := [.int .u64 n]) (v := .int .u64 (r : Int)) fun w => by have := Next_any n M h1 h2 w; rw [h3] at this; exact this
    split at h
    · rename_i hn; subst hn; cases h; exact key 19 _ (by rfl) (by omega) next_c1
    · split at h
      · rename_i hn; subst hn; cases h; exact key 0 _ (by rfl) (by omega) next_c2
      · split at h
        · rename_i hn; subst hn; cases h; exact key 2147483647 _ (by rfl) (by omega) next_c3
        · cases h
  · rename_i n
    have key : ∀ M r : Nat, min n 2147483648 = M → n ≤ 18446744073709551615 → firstB (downs M M) = r → Spec Try.prog 13 [.sc (.int .u64 (.ofNat n))] (.sc (.int .u64 (r : Int))) := fun M r h1 h2 h3 =>
      Spec.scalars (P := Try.prog) (f := 13) (vs := [.int .u64 n]) (v := .int .u64 (r : Int)) fun w => by have := Before_any n M h1 h2 w; rw [h3] at this; exact this
    split at h
    · rename_i hn; subst hn; cases h; exact key 2 _ (by rfl) (by omega) before_c1
    · split at h
      · rename_i hn; subst hn; cases h; exact key 3 _ (by rfl) (by omega) before_c2
      · split at h
        · rename_i hn; subst hn; cases h; exact key 2147483648 _ (by rfl) (by omega) before_c3
        · cases h
  · cases h

set_option maxRecDepth 100000 in
theorem sanity_s : Spec Try.prog 8 [] (.sc (.bool true)) := Spec.eval K03_sound 500 (fun _ => false) (by kernel_rfl)
end Go.Proofs.Ytcbfamgdkmfcgaa

/- Contracts by value: arithmetic modulo primes. -/
namespace Go.Proofs.Ytcbfamgdkmfcgaa
open Go.RowKit

theorem mAdd_s (p a b : Nat) (hp : 0 < p) (hp2 : p ≤ 2147483648) (ha : a < p) (hb : b < p) : Spec Try.prog 28 [.sc (.int .u64 p), .sc (.int .u64 a), .sc (.int .u64 b)] (.sc (.int .u64 ((a + b) % p : Nat))) :=
  Spec.same (vs := [.int .u64 p, .int .u64 a, .int .u64 b]) fun w => mAdd_any p a b w hp hp2 ha hb
theorem mSub_s (p a b : Nat) (hp : 0 < p) (hp2 : p ≤ 2147483648) (ha : a < p) (hb : b < p) : Spec Try.prog 29 [.sc (.int .u64 p), .sc (.int .u64 a), .sc (.int .u64 b)] (.sc (.int .u64 ((a + p - b) % p : Nat))) :=
  Spec.same (vs := [.int .u64 p, .int .u64 a, .int .u64 b]) fun w => mSub_any p a b w hp hp2 ha hb
theorem mMul_s (p a b : Nat) (hp : 0 < p) (hp2 : p ≤ 2147483648) (ha : a < p) (hb : b < p) : Spec Try.prog 31 [.sc (.int .u64 p), .sc (.int .u64 a), .sc (.int .u64 b)] (.sc (.int .u64 (a * b % p : Nat))) :=
  Spec.same (vs := [.int .u64 p, .int .u64 a, .int .u64 b]) fun w => mMul_any p a b w hp hp2 ha hb
theorem mPow_s (p a e : Nat) (hp : 1 < p) (hp2 : p ≤ 2147483648) (ha : a < p) (he : e ≤ 18446744073709551615) : Spec Try.prog 32 [.sc (.int .u64 p), .sc (.int .u64 a), .sc (.int .u64 e)] (.sc (.int .u64 (pm p a e : Nat))) :=
  Spec.same (vs := [.int .u64 p, .int .u64 a, .int .u64 e]) fun w => mPow_any p a e w hp hp2 ha he

theorem AllC.rc1 {S : Nat → Prop} {w : World} {x y : Value} : Rc S w (.tu [.sc x, .sc y]) (.tuple #[x, y]) :=
  .tu (by simp) fun i a u ha hu => by
    match i with
    | 0 => simp at ha hu; subst ha; subst hu; exact .sc _
    | 1 => simp at ha hu; subst ha; subst hu; exact .sc _
    | n + 2 => simp at ha
theorem Spec.pair {P : Program} {f : Nat} {vs : List Value} {x y : Value} (h : ∀ w, Calls P f vs.toArray w fun e w' => e = .returned (.tuple #[x, y]) ∧ w = w') : Spec P f (vs.map .sc) (.tu [.sc x, .sc y]) := by
  intro S w us hS _ ha
  have e : us = vs.toArray := by rw [← AllC.scs ha]
  rw [e]
  refine (h w).mono ?_
  rintro e w' ⟨rfl, rfl⟩
  exact ⟨_, rfl, Grow.refl w, AllC.rc1⟩
theorem mInv_s (p a : Nat) (hp : 1 < p) (hp2 : p ≤ 2147483648) (ha : a < p) : Spec Try.prog 26 [.sc (.int .u64 p), .sc (.int .u64 a)] (.tu [.sc (.int .u64 (if a = 0 then 0 else pm p a (p - 2) : Nat)), .sc (.int .i64 (if a = 0 then 30 else 0 : Int))]) :=
  Spec.pair (vs := [.int .u64 p, .int .u64 a]) fun w => mInv_any p a w hp hp2 ha

def primesL : List Nat := [2, 3, 5, 7, 11, 101, 65521, 65537, 1000003, 2147483549, 2147483563, 2147483579, 2147483587, 2147483629, 2147483647]
theorem primes_len (g : Nat → V) : (primesL.map g).length = 15 := by rw [List.length_map]; rfl
theorem primes_get {i : Nat} (h : i < 15) : primesL[i]? = some (primesL.getD i 0) := by
  rw [List.getElem?_eq_getElem (by exact h), List.getD_eq_getElem?_getD, List.getElem?_eq_getElem (by exact h)]; rfl
theorem primes_s : Spec Try.prog 39 [] (.im (primesL.map fun (n : Nat) => .sc (.int .u64 n)) 15) := Spec.eval K03_sound 50 (fun _ => false) (by kernel_rfl)
theorem made_s (k : Nat) (hk : k ≤ 255) : Spec Try.prog 15 [.sc (.int .u8 k)] (.sc (.int .u64 (primesL.getD (k % 15) 0 : Nat))) := by
  have hm : ((k : Int) % 15).toNat = k % 15 := by omega
  have hg := primes_get (i := k % 15) (by omega)
  refine Spec.run Try.func15 rfl Try.ntmps15 (by simp) (by simp (disch := omega) only [go_sem]; rfl) fun B hB => ?_
  (repeat (first | with_reducible refine SC.seq ?_ | with_reducible refine SC.skip ?_ | with_reducible refine SC.label ?_ | with_reducible refine SC.block ?_ | with_reducible refine SC.scope ?_ | with_reducible refine SC.nil ?_ | with_reducible refine SC.exit ?_ | with_reducible refine SC.ret ?_ | with_reducible refine SO.nil ?_ | with_reducible refine tq_normal ?_ | with_reducible refine bq_normal ?_ | with_reducible refine bq_same ?_ | with_reducible refine bq_other (by decide) ?_ | with_reducible refine tq_exit ?_ | with_reducible refine tq_ret ?_ | with_reducible refine bq_ret ?_ | with_reducible refine sq_normal ?_ | with_reducible refine sq_exit ?_ | with_reducible refine sq_ret ?_ | ((with_reducible apply SC.region); (focus (simp (disch := omega) only [go_sem, ↓reduceIte]; rfl))) | (with_reducible refine SC.draw Tab.mixed rfl ?_; (repeat (refine DO.run (by simp (disch := omega) only [go_sem, ↓reduceIte, Nat.reduceEqDiff, Nat.reduceLT, Nat.reduceLeDiff, Nat.reduceAdd, Nat.reduceMul, Nat.reduceSub, reduceCtorEq, Nat.reduceBEq, Int.reduceToNat, Int.reducePow, if_pos, if_neg]; rfl) ?_)); refine DO.nil (by kernel_rfl) ?_)))
  refine SC.ops ?_
  repeat (refine SO.run (by simp (disch := omega) only [go_sem, ↓reduceIte]; rfl) ?_)
  refine SO.call Tab.go39 (by simp (disch := omega) only [go_sem]; rfl) (by simp (disch := omega) only [go_sem]) ?_
  refine SCall.of primes_s (by simp (disch := omega) only [go_sem]; rfl) ?_
  repeat (refine SO.run (by simp (disch := omega) only [go_sem, ↓reduceIte]; rfl) ?_)
  (repeat (first | with_reducible refine SC.seq ?_ | with_reducible refine SC.skip ?_ | with_reducible refine SC.label ?_ | with_reducible refine SC.block ?_ | with_reducible refine SC.scope ?_ | with_reducible refine SC.nil ?_ | with_reducible refine SC.exit ?_ | with_reducible refine SC.ret ?_ | with_reducible refine SO.nil ?_ | with_reducible refine tq_normal ?_ | with_reducible refine bq_normal ?_ | with_reducible refine bq_same ?_ | with_reducible refine bq_other (by decide) ?_ | with_reducible refine tq_exit ?_ | with_reducible refine tq_ret ?_ | with_reducible refine bq_ret ?_ | with_reducible refine sq_normal ?_ | with_reducible refine sq_exit ?_ | with_reducible refine sq_ret ?_ | ((with_reducible apply SC.region); (focus (simp (disch := omega) only [go_sem, ↓reduceIte, Nat.reduceEqDiff, reduceCtorEq, if_neg]; rfl))) | (with_reducible refine SC.draw Tab.mixed rfl ?_; (repeat (refine DO.run (by simp (disch := omega) only [go_sem, ↓reduceIte, Nat.reduceEqDiff, Nat.reduceLT, Nat.reduceLeDiff, Nat.reduceAdd, Nat.reduceMul, Nat.reduceSub, reduceCtorEq, Nat.reduceBEq, Int.reduceToNat, Int.reducePow, if_pos, if_neg]; rfl) ?_)); refine DO.nil (by kernel_rfl) ?_)))
  refine SC.ops ?_
  repeat (refine SO.run (by simp (disch := omega) only [go_sem, ↓reduceIte, Nat.reduceEqDiff, Nat.reduceLT, reduceCtorEq, if_pos, if_neg, primes_len, hm, hg, List.getElem?_drop, List.getElem?_map, Int.cast_ofNat_Int]; rfl) ?_)
  (repeat (first | with_reducible refine SC.seq ?_ | with_reducible refine SC.skip ?_ | with_reducible refine SC.label ?_ | with_reducible refine SC.block ?_ | with_reducible refine SC.scope ?_ | with_reducible refine SC.nil ?_ | with_reducible refine SC.exit ?_ | with_reducible refine SC.ret ?_ | with_reducible refine SO.nil ?_ | with_reducible refine tq_normal ?_ | with_reducible refine bq_normal ?_ | with_reducible refine bq_same ?_ | with_reducible refine bq_other (by decide) ?_ | with_reducible refine tq_exit ?_ | with_reducible refine tq_ret ?_ | with_reducible refine bq_ret ?_ | with_reducible refine sq_normal ?_ | with_reducible refine sq_exit ?_ | with_reducible refine sq_ret ?_ | ((with_reducible apply SC.region); (focus (simp (disch := omega) only [go_sem, ↓reduceIte, Nat.reduceEqDiff, Nat.reduceLT, Nat.reduceLeDiff, Nat.reduceAdd, Nat.reduceMul, Nat.reduceSub, reduceCtorEq, Nat.reduceBEq, Int.reduceToNat, Int.reducePow, if_pos, if_neg]; rfl))) | (with_reducible refine SC.draw Tab.mixed rfl ?_; (repeat (refine DO.run (by simp (disch := omega) only [go_sem, ↓reduceIte, Nat.reduceEqDiff, Nat.reduceLT, Nat.reduceLeDiff, Nat.reduceAdd, Nat.reduceMul, Nat.reduceSub, reduceCtorEq, Nat.reduceBEq, Int.reduceToNat, Int.reducePow, if_pos, if_neg]; rfl) ?_)); refine DO.nil (by kernel_rfl) ?_)))
  exact retQ_ret Try.results15 (by simp (disch := omega) only [go_sem, ↓reduceIte]; rfl) (by simp (disch := omega) only [go_sem]; rfl) rfl
end Go.Proofs.Ytcbfamgdkmfcgaa
