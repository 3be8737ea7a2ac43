/- The law's function ModularField returns true, where the primes are prime. -/
import Derived.Test.YtcbfamgdkmfcgaaMj
namespace Go.Proofs.Ytcbfamgdkmfcgaa
open Go.RowKit

/-- what is asked of a modulus -/
structure FieldP (p : Nat) : Prop where
  lo : 1 < p
  hi : p ≤ 2147483647
  one : ∀ a, 0 < a → a < p → pm p a (p - 1) = 1

theorem field_s (k x0 x1 x2 w0 w1 p : Nat) (hp : p = primesL.getD (k % 15) 0) (hF : FieldP p) (hk : k ≤ 255) (h0 : x0 ≤ 18446744073709551615) (h1 : x1 ≤ 18446744073709551615) (h2 : x2 ≤ 18446744073709551615) (h3 : w0 ≤ 65535) (h4 : w1 ≤ 65535) :
    Spec Try.prog 7 [.sc (.int .u8 k), .ag [.sc (.int .u64 x0), .sc (.int .u64 x1), .sc (.int .u64 x2)], .ag [.sc (.int .u16 w0), .sc (.int .u16 w1)]] (.sc (.bool true)) := by
  have hp1 := hF.lo
  have hp2 := hF.hi
  have e0 : ∀ n : Nat, V.sc (.int .u64 (n : Int)) = V.sc (.int .u64 n) := fun _ => rfl
  obtain ⟨a, ea⟩ : ∃ a, a = x0 % p := ⟨_, rfl⟩
  obtain ⟨b, eb⟩ : ∃ b, b = x1 % p := ⟨_, rfl⟩
  obtain ⟨c, ec⟩ : ∃ c, c = x2 % p := ⟨_, rfl⟩
  have ha : a < p := ea ▸ Nat.mod_lt _ (by omega)
  have hb : b < p := eb ▸ Nat.mod_lt _ (by omega)
  have hc : c < p := ec ▸ Nat.mod_lt _ (by omega)
  have mul : ∀ x y z : Nat, x < p → y < p → z = x * y % p → Spec Try.prog 31 [.sc (.int .u64 p), .sc (.int .u64 x), .sc (.int .u64 y)] (.sc (.int .u64 z)) := fun x y z hx hy hz => hz ▸ mMul_s p x y (by omega) (by omega) hx hy
  have add : ∀ x y z : Nat, x < p → y < p → z = (x + y) % p → Spec Try.prog 28 [.sc (.int .u64 p), .sc (.int .u64 x), .sc (.int .u64 y)] (.sc (.int .u64 z)) := fun x y z hx hy hz => hz ▸ mAdd_s p x y (by omega) (by omega) hx hy
  have sub : ∀ x y z : Nat, x < p → y < p → z = (x + p - y) % p → Spec Try.prog 29 [.sc (.int .u64 p), .sc (.int .u64 x), .sc (.int .u64 y)] (.sc (.int .u64 z)) := fun x y z hx hy hz => hz ▸ mSub_s p x y (by omega) (by omega) hx hy
  have lt : ∀ x : Nat, x % p < p := fun x => Nat.mod_lt _ (by omega)
  obtain ⟨ab, eab⟩ : ∃ n, n = a * b % p := ⟨_, rfl⟩
  obtain ⟨sum, esum⟩ : ∃ n, n = (a + b) % p := ⟨_, rfl⟩
  obtain ⟨abc, eabc⟩ : ∃ n, n = ab * c % p := ⟨_, rfl⟩
  obtain ⟨bc, ebc⟩ : ∃ n, n = b * c % p := ⟨_, rfl⟩
  obtain ⟨ac, eac⟩ : ∃ n, n = a * c % p := ⟨_, rfl⟩
  obtain ⟨sc, esc⟩ : ∃ n, n = sum * c % p := ⟨_, rfl⟩
  have hab : ab < p := eab ▸ lt _
  have hsum : sum < p := esum ▸ lt _
  have hbc : bc < p := ebc ▸ lt _
  have hac : ac < p := eac ▸ lt _
  have m1 : ab = b * a % p := by rw [eab, Nat.mul_comm]
  have m2 : sum = (b + a) % p := by rw [esum, Nat.add_comm]
  have m3 : abc = a * bc % p := by rw [eabc, eab, ebc, Nat.mod_mul_mod, Nat.mul_mod_mod, Nat.mul_assoc]
  have m4 : sc = (ac + bc) % p := by rw [esc, esum, eac, ebc, Nat.mod_mul_mod, ← Nat.add_mod, Nat.add_mul]
  have m5 : a = (sum + p - b) % p := by
    rw [esum]
    rcases Nat.lt_or_ge (a + b) p with h | h
    · rw [Nat.mod_eq_of_lt h, show a + b + p - b = a + p by omega, Nat.add_mod_right, Nat.mod_eq_of_lt ha]
    · have e : (a + b) % p = a + b - p := by rw [Nat.mod_eq_sub_mod h, Nat.mod_eq_of_lt (by omega)]
      rw [e, show a + b - p + p - b = a by omega, Nat.mod_eq_of_lt ha]
  have m6 : a = a * 1 % p := by rw [Nat.mul_one, Nat.mod_eq_of_lt ha]
  have ia : (x0 : Int) % (p : Int) = (a : Int) := by rw [ea]; simp
  have ib : (x1 : Int) % (p : Int) = (b : Int) := by rw [eb]; simp
  have ic : (x2 : Int) % (p : Int) = (c : Int) := by rw [ec]; simp
  have pow : ∀ e : Nat, e ≤ 18446744073709551615 → Spec Try.prog 32 [.sc (.int .u64 p), .sc (.int .u64 a), .sc (.int .u64 e)] (.sc (.int .u64 (pm p a e : Nat))) := fun e he => mPow_s p a e hp1 (by omega) ha he
  have f1 : decide ((ab : Int) ≥ (p : Int)) = false := by simp; omega
  have f2 : decide ((sum : Int) ≥ (p : Int)) = false := by simp; omega
  refine Spec.run Try.func7 rfl Try.ntmps7 (by simp) (by simp (disch := omega) only [go_sem, Nat.reduceAdd]; rfl) fun B hB => ?_
  (repeat (first | with_reducible refine SC.seq ?_ | with_reducible refine SC.skip ?_ | with_reducible refine SC.label ?_ | with_reducible refine SC.block ?_ | with_reducible refine SC.scope ?_ | with_reducible refine SC.nil ?_ | with_reducible refine SC.exit ?_ | with_reducible refine SC.ret ?_ | with_reducible refine SO.nil ?_ | with_reducible refine tq_normal ?_ | with_reducible refine bq_normal ?_ | with_reducible refine bq_same ?_ | with_reducible refine bq_other (by decide) ?_ | with_reducible refine tq_exit ?_ | with_reducible refine tq_ret ?_ | with_reducible refine bq_ret ?_ | with_reducible refine sq_normal ?_ | with_reducible refine sq_exit ?_ | with_reducible refine sq_ret ?_ | ((with_reducible apply SC.region); (focus (simp (disch := omega) only [go_sem, ↓reduceIte, Nat.reduceEqDiff, Nat.reduceAdd, reduceCtorEq]; rfl)))))
  refine SC.ops ?_
  (refine SO.call Tab.go8 (by simp (disch := omega) only [go_sem]; rfl) (by simp (disch := omega) only [go_sem] <;> rfl) ?_)
  (refine SCall.of (sanity_s) (by simp (disch := omega) only [go_sem]; rfl) ?_)
  (repeat (refine SO.run (by simp (disch := omega) only [go_sem, ↓reduceIte]; rfl) ?_))
  (repeat (first | with_reducible refine SC.seq ?_ | with_reducible refine SC.skip ?_ | with_reducible refine SC.label ?_ | with_reducible refine SC.block ?_ | with_reducible refine SC.scope ?_ | with_reducible refine SC.nil ?_ | with_reducible refine SC.exit ?_ | with_reducible refine SC.ret ?_ | with_reducible refine SO.nil ?_ | with_reducible refine tq_normal ?_ | with_reducible refine bq_normal ?_ | with_reducible refine bq_same ?_ | with_reducible refine bq_other (by decide) ?_ | with_reducible refine tq_exit ?_ | with_reducible refine tq_ret ?_ | with_reducible refine bq_ret ?_ | with_reducible refine sq_normal ?_ | with_reducible refine sq_exit ?_ | with_reducible refine sq_ret ?_ | ((with_reducible apply SC.region); (focus (simp (disch := omega) only [go_sem, ↓reduceIte, reduceCtorEq]; rfl)))))
  refine SC.ops ?_
  (repeat (refine SO.run (by simp (disch := omega) only [go_sem, ↓reduceIte, reduceCtorEq]; rfl) ?_))
  (refine SO.call Tab.go15 (by simp (disch := omega) only [go_sem, ↓reduceIte]; rfl) (by simp (disch := omega) only [go_sem] <;> rfl) ?_)
  (refine SCall.of (made_s k hk) (by simp (disch := omega) only [go_sem]; rfl) ?_)
  (repeat (refine SO.run (by simp (disch := omega) only [go_sem, ↓reduceIte]; rfl) ?_))
  rw [← hp]
  (repeat (first | with_reducible refine SC.seq ?_ | with_reducible refine SC.skip ?_ | with_reducible refine SC.label ?_ | with_reducible refine SC.block ?_ | with_reducible refine SC.scope ?_ | with_reducible refine SC.nil ?_ | with_reducible refine SC.exit ?_ | with_reducible refine SC.ret ?_ | with_reducible refine SO.nil ?_ | with_reducible refine tq_normal ?_ | with_reducible refine bq_normal ?_ | with_reducible refine bq_same ?_ | with_reducible refine bq_other (by decide) ?_ | with_reducible refine tq_exit ?_ | with_reducible refine tq_ret ?_ | with_reducible refine bq_ret ?_ | with_reducible refine sq_normal ?_ | with_reducible refine sq_exit ?_ | with_reducible refine sq_ret ?_ | ((with_reducible apply SC.region); (focus (simp (disch := omega) only [go_sem, ↓reduceIte, Nat.reduceEqDiff, reduceCtorEq, Int.reduceToNat, if_pos, if_neg]; rfl)))))
  refine SC.ops ?_
  (repeat (refine SO.run (by simp (disch := omega) only [go_sem, ↓reduceIte, Nat.reduceEqDiff]; rfl) ?_))
  rw [ia, ib, ic]
  (refine SO.call Tab.go31 (by simp (disch := omega) only [go_sem, ↓reduceIte, Nat.reduceEqDiff]; rfl) (by simp (disch := omega) only [go_sem] <;> rfl) ?_)
  (refine SCall.of (mul a b ab ha hb eab) (by simp (disch := omega) only [go_sem]; rfl) ?_)
  (repeat (refine SO.run (by simp (disch := omega) only [go_sem, ↓reduceIte]; rfl) ?_))
  (repeat (first | with_reducible refine SC.seq ?_ | with_reducible refine SC.skip ?_ | with_reducible refine SC.label ?_ | with_reducible refine SC.block ?_ | with_reducible refine SC.scope ?_ | with_reducible refine SC.nil ?_ | with_reducible refine SC.exit ?_ | with_reducible refine SC.ret ?_ | with_reducible refine SO.nil ?_ | with_reducible refine tq_normal ?_ | with_reducible refine bq_normal ?_ | with_reducible refine bq_same ?_ | with_reducible refine bq_other (by decide) ?_ | with_reducible refine tq_exit ?_ | with_reducible refine tq_ret ?_ | with_reducible refine bq_ret ?_ | with_reducible refine sq_normal ?_ | with_reducible refine sq_exit ?_ | with_reducible refine sq_ret ?_ | ((with_reducible apply SC.region); (focus (simp (disch := omega) only [go_sem, ↓reduceIte, Nat.reduceEqDiff]; rfl)))))
  refine SC.ops ?_
  (repeat (refine SO.run (by simp (disch := omega) only [go_sem, ↓reduceIte, Nat.reduceEqDiff]; rfl) ?_))
  (refine SO.call Tab.go28 (by simp (disch := omega) only [go_sem, ↓reduceIte, Nat.reduceEqDiff]; rfl) (by simp (disch := omega) only [go_sem] <;> rfl) ?_)
  (refine SCall.of (add a b sum ha hb esum) (by simp (disch := omega) only [go_sem]; rfl) ?_)
  (repeat (refine SO.run (by simp (disch := omega) only [go_sem, ↓reduceIte]; rfl) ?_))
  (repeat (first | with_reducible refine SC.seq ?_ | with_reducible refine SC.skip ?_ | with_reducible refine SC.label ?_ | with_reducible refine SC.block ?_ | with_reducible refine SC.scope ?_ | with_reducible refine SC.nil ?_ | with_reducible refine SC.exit ?_ | with_reducible refine SC.ret ?_ | with_reducible refine SO.nil ?_ | with_reducible refine tq_normal ?_ | with_reducible refine bq_normal ?_ | with_reducible refine bq_same ?_ | with_reducible refine bq_other (by decide) ?_ | with_reducible refine tq_exit ?_ | with_reducible refine tq_ret ?_ | with_reducible refine bq_ret ?_ | with_reducible refine sq_normal ?_ | with_reducible refine sq_exit ?_ | with_reducible refine sq_ret ?_ | ((with_reducible apply SC.region); (focus (simp (disch := omega) only [go_sem, ↓reduceIte, Nat.reduceEqDiff, Nat.reduceLT, Nat.reduceLeDiff, Nat.reduceAdd, Nat.reduceMul, Nat.reduceSub, reduceCtorEq, Nat.reduceBEq, Int.reduceToNat, Int.reducePow, if_pos, if_neg]; rfl)))))
  refine SC.ops ?_
  (repeat (refine SO.run (by simp (disch := omega) only [go_sem, ↓reduceIte, Nat.reduceEqDiff, f1, f2]; rfl) ?_))
  (refine SO.call Tab.go31 (by simp (disch := omega) only [go_sem, ↓reduceIte, Nat.reduceEqDiff]; rfl) (by simp (disch := omega) only [go_sem] <;> rfl) ?_)
  (refine SCall.of (mul b a ab hb ha m1) (by simp (disch := omega) only [go_sem]; rfl) ?_)
  (repeat (refine SO.run (by simp (disch := omega) only [go_sem, ↓reduceIte, Nat.reduceEqDiff, bne_self_eq_false]; rfl) ?_))
  (refine SO.call Tab.go28 (by simp (disch := omega) only [go_sem, ↓reduceIte, Nat.reduceEqDiff]; rfl) (by simp (disch := omega) only [go_sem] <;> rfl) ?_)
  (refine SCall.of (add b a sum hb ha m2) (by simp (disch := omega) only [go_sem]; rfl) ?_)
  (repeat (refine SO.run (by simp (disch := omega) only [go_sem, ↓reduceIte, Nat.reduceEqDiff, bne_self_eq_false]; rfl) ?_))
  (refine SO.call Tab.go31 (by simp (disch := omega) only [go_sem, ↓reduceIte, Nat.reduceEqDiff]; rfl) (by simp (disch := omega) only [go_sem] <;> rfl) ?_)
  (refine SCall.of (mul ab c abc hab hc eabc) (by simp (disch := omega) only [go_sem]; rfl) ?_)
  (repeat (refine SO.run (by simp (disch := omega) only [go_sem, ↓reduceIte, Nat.reduceEqDiff]; rfl) ?_))
  (refine SO.call Tab.go31 (by simp (disch := omega) only [go_sem, ↓reduceIte, Nat.reduceEqDiff]; rfl) (by simp (disch := omega) only [go_sem] <;> rfl) ?_)
  (refine SCall.of (mul b c bc hb hc ebc) (by simp (disch := omega) only [go_sem]; rfl) ?_)
  (repeat (refine SO.run (by simp (disch := omega) only [go_sem, ↓reduceIte]; rfl) ?_))
  (refine SO.call Tab.go31 (by simp (disch := omega) only [go_sem, ↓reduceIte, Nat.reduceEqDiff]; rfl) (by simp (disch := omega) only [go_sem] <;> rfl) ?_)
  (refine SCall.of (mul a bc abc ha hbc m3) (by simp (disch := omega) only [go_sem]; rfl) ?_)
  (repeat (refine SO.run (by simp (disch := omega) only [go_sem, ↓reduceIte, Nat.reduceEqDiff, bne_self_eq_false]; rfl) ?_))
  (refine SO.call Tab.go31 (by simp (disch := omega) only [go_sem, ↓reduceIte, Nat.reduceEqDiff]; rfl) (by simp (disch := omega) only [go_sem] <;> rfl) ?_)
  (refine SCall.of (mul sum c sc hsum hc esc) (by simp (disch := omega) only [go_sem]; rfl) ?_)
  (repeat (refine SO.run (by simp (disch := omega) only [go_sem, ↓reduceIte, Nat.reduceEqDiff]; rfl) ?_))
  (refine SO.call Tab.go31 (by simp (disch := omega) only [go_sem, ↓reduceIte, Nat.reduceEqDiff]; rfl) (by simp (disch := omega) only [go_sem] <;> rfl) ?_)
  (refine SCall.of (mul a c ac ha hc eac) (by simp (disch := omega) only [go_sem]; rfl) ?_)
  (repeat (refine SO.run (by simp (disch := omega) only [go_sem, ↓reduceIte, Nat.reduceEqDiff]; rfl) ?_))
  (refine SO.call Tab.go31 (by simp (disch := omega) only [go_sem, ↓reduceIte, Nat.reduceEqDiff]; rfl) (by simp (disch := omega) only [go_sem] <;> rfl) ?_)
  (refine SCall.of (mul b c bc hb hc ebc) (by simp (disch := omega) only [go_sem]; rfl) ?_)
  (repeat (refine SO.run (by simp (disch := omega) only [go_sem, ↓reduceIte]; rfl) ?_))
  (refine SO.call Tab.go28 (by simp (disch := omega) only [go_sem, ↓reduceIte, Nat.reduceEqDiff]; rfl) (by simp (disch := omega) only [go_sem] <;> rfl) ?_)
  (refine SCall.of (add ac bc sc hac hbc m4) (by simp (disch := omega) only [go_sem]; rfl) ?_)
  (repeat (refine SO.run (by simp (disch := omega) only [go_sem, ↓reduceIte, Nat.reduceEqDiff, bne_self_eq_false]; rfl) ?_))
  (refine SO.call Tab.go29 (by simp (disch := omega) only [go_sem, ↓reduceIte, Nat.reduceEqDiff]; rfl) (by simp (disch := omega) only [go_sem] <;> rfl) ?_)
  (refine SCall.of (sub sum b a hsum hb m5) (by simp (disch := omega) only [go_sem]; rfl) ?_)
  (repeat (refine SO.run (by simp (disch := omega) only [go_sem, ↓reduceIte, Nat.reduceEqDiff, bne_self_eq_false]; rfl) ?_))
  (refine SO.call Tab.go31 (by simp (disch := omega) only [go_sem, ↓reduceIte, Nat.reduceEqDiff]; rfl) (by simp (disch := omega) only [go_sem] <;> rfl) ?_)
  (refine SCall.of (mul a 1 a ha hp1 m6) (by simp (disch := omega) only [go_sem]; rfl) ?_)
  (repeat (refine SO.run (by simp (disch := omega) only [go_sem, ↓reduceIte, Nat.reduceEqDiff, bne_self_eq_false]; rfl) ?_))
  (repeat (first | with_reducible refine SC.seq ?_ | with_reducible refine SC.skip ?_ | with_reducible refine SC.label ?_ | with_reducible refine SC.block ?_ | with_reducible refine SC.scope ?_ | with_reducible refine SC.nil ?_ | with_reducible refine SC.exit ?_ | with_reducible refine SC.ret ?_ | with_reducible refine SO.nil ?_ | with_reducible refine tq_normal ?_ | with_reducible refine bq_normal ?_ | with_reducible refine bq_same ?_ | with_reducible refine bq_other (by decide) ?_ | with_reducible refine tq_exit ?_ | with_reducible refine tq_ret ?_ | with_reducible refine bq_ret ?_ | with_reducible refine sq_normal ?_ | with_reducible refine sq_exit ?_ | with_reducible refine sq_ret ?_ | ((with_reducible apply SC.region); (focus (simp (disch := omega) only [go_sem, ↓reduceIte, Nat.reduceEqDiff, Nat.reduceLT, Nat.reduceLeDiff, Nat.reduceAdd, Nat.reduceMul, Nat.reduceSub, reduceCtorEq, Nat.reduceBEq, Int.reduceToNat, Int.reducePow, if_pos, if_neg]; rfl)))))
  refine SC.cond (by simp (disch := omega) only [go_sem, ↓reduceIte]; rfl) ?_ ?_
  · intro h; cases h
  intro _
  (repeat (first | with_reducible refine SC.seq ?_ | with_reducible refine SC.skip ?_ | with_reducible refine SC.label ?_ | with_reducible refine SC.block ?_ | with_reducible refine SC.scope ?_ | with_reducible refine SC.nil ?_ | with_reducible refine SC.exit ?_ | with_reducible refine SC.ret ?_ | with_reducible refine SO.nil ?_ | with_reducible refine tq_normal ?_ | with_reducible refine bq_normal ?_ | with_reducible refine bq_same ?_ | with_reducible refine bq_other (by decide) ?_ | with_reducible refine tq_exit ?_ | with_reducible refine tq_ret ?_ | with_reducible refine bq_ret ?_ | with_reducible refine sq_normal ?_ | with_reducible refine sq_exit ?_ | with_reducible refine sq_ret ?_ | ((with_reducible apply SC.region); (focus (simp (disch := omega) only [go_sem, ↓reduceIte, Nat.reduceEqDiff, Int.reduceToNat, if_pos]; rfl)))))
  refine SC.ops ?_
  (repeat (refine SO.run (by simp (disch := omega) only [go_sem, ↓reduceIte, Nat.reduceEqDiff]; rfl) ?_))
  (refine SO.call Tab.go32 (by simp (disch := omega) only [go_sem, ↓reduceIte, Nat.reduceEqDiff]; rfl) (by simp (disch := omega) only [go_sem] <;> rfl) ?_)
  (refine SCall.of (pow w0 (by omega)) (by simp (disch := omega) only [go_sem]; rfl) ?_)
  (repeat (refine SO.run (by simp (disch := omega) only [go_sem, ↓reduceIte, Nat.reduceEqDiff]; rfl) ?_))
  (refine SO.call Tab.go32 (by simp (disch := omega) only [go_sem, ↓reduceIte, Nat.reduceEqDiff]; rfl) (by simp (disch := omega) only [go_sem] <;> rfl) ?_)
  (refine SCall.of (pow w1 (by omega)) (by simp (disch := omega) only [go_sem]; rfl) ?_)
  (refine SO.call Tab.go31 (by simp (disch := omega) only [go_sem, ↓reduceIte, Nat.reduceEqDiff]; rfl) (by simp (disch := omega) only [go_sem] <;> rfl) ?_)
  (refine SCall.of (mul (pm p a w0) (pm p a w1) (pm p a (w0 + w1)) (pm_lt (by omega)) (pm_lt (by omega)) (pm_mul p a w0 w1).symm) (by simp (disch := omega) only [go_sem]; rfl) ?_)
  (repeat (refine SO.run (by simp (disch := omega) only [go_sem, ↓reduceIte, Nat.reduceEqDiff]; rfl) ?_))
  rw [← Int.natCast_add]
  (refine SO.call Tab.go32 (by simp (disch := omega) only [go_sem, ↓reduceIte, Nat.reduceEqDiff]; rfl) (by simp (disch := omega) only [go_sem] <;> rfl) ?_)
  (refine SCall.of (pow (w0 + w1) (by omega)) (by simp (disch := omega) only [go_sem]; rfl) ?_)
  (repeat (refine SO.run (by simp (disch := omega) only [go_sem, ↓reduceIte, Nat.reduceEqDiff, bne_self_eq_false]; rfl) ?_))
  (repeat (first | with_reducible refine SC.seq ?_ | with_reducible refine SC.skip ?_ | with_reducible refine SC.label ?_ | with_reducible refine SC.block ?_ | with_reducible refine SC.scope ?_ | with_reducible refine SC.nil ?_ | with_reducible refine SC.exit ?_ | with_reducible refine SC.ret ?_ | with_reducible refine SO.nil ?_ | with_reducible refine tq_normal ?_ | with_reducible refine bq_normal ?_ | with_reducible refine bq_same ?_ | with_reducible refine bq_other (by decide) ?_ | with_reducible refine tq_exit ?_ | with_reducible refine tq_ret ?_ | with_reducible refine bq_ret ?_ | with_reducible refine sq_normal ?_ | with_reducible refine sq_exit ?_ | with_reducible refine sq_ret ?_ | ((with_reducible apply SC.region); (focus (simp (disch := omega) only [go_sem, ↓reduceIte, Nat.reduceEqDiff, Nat.reduceLT, Nat.reduceLeDiff, Nat.reduceAdd, Nat.reduceMul, Nat.reduceSub, reduceCtorEq, Nat.reduceBEq, Int.reduceToNat, Int.reducePow, if_pos, if_neg]; rfl)))))
  refine SC.cond (by simp (disch := omega) only [go_sem, ↓reduceIte]; rfl) ?_ ?_
  · intro h; cases h
  intro _
  (repeat (first | with_reducible refine SC.seq ?_ | with_reducible refine SC.skip ?_ | with_reducible refine SC.label ?_ | with_reducible refine SC.block ?_ | with_reducible refine SC.scope ?_ | with_reducible refine SC.nil ?_ | with_reducible refine SC.exit ?_ | with_reducible refine SC.ret ?_ | with_reducible refine SO.nil ?_ | with_reducible refine tq_normal ?_ | with_reducible refine bq_normal ?_ | with_reducible refine bq_same ?_ | with_reducible refine bq_other (by decide) ?_ | with_reducible refine tq_exit ?_ | with_reducible refine tq_ret ?_ | with_reducible refine bq_ret ?_ | with_reducible refine sq_normal ?_ | with_reducible refine sq_exit ?_ | with_reducible refine sq_ret ?_ | ((with_reducible apply SC.region); (focus (simp (disch := omega) only [go_sem, ↓reduceIte, Nat.reduceEqDiff]; rfl)))))
  refine SC.ops ?_
  (repeat (refine SO.run (by simp (disch := omega) only [go_sem, ↓reduceIte, Nat.reduceEqDiff]; rfl) ?_))
  (refine SO.call Tab.go26 (by simp (disch := omega) only [go_sem, ↓reduceIte, Nat.reduceEqDiff]; rfl) (by simp (disch := omega) only [go_sem] <;> rfl) ?_)
  (refine SCall.of (mInv_s p a hp1 (by omega) ha) (by simp (disch := omega) only [go_sem]; rfl) ?_)
  by_cases ha0 : a = 0
  · subst ha0
    rw [if_pos rfl, if_pos rfl]
    (repeat (refine SO.run (by simp (disch := omega) only [go_sem, ↓reduceIte, Nat.reduceEqDiff]; rfl) ?_))
    (repeat (first | with_reducible refine SC.seq ?_ | with_reducible refine SC.skip ?_ | with_reducible refine SC.label ?_ | with_reducible refine SC.block ?_ | with_reducible refine SC.scope ?_ | with_reducible refine SC.nil ?_ | with_reducible refine SC.exit ?_ | with_reducible refine SC.ret ?_ | with_reducible refine SO.nil ?_ | with_reducible refine tq_normal ?_ | with_reducible refine bq_normal ?_ | with_reducible refine bq_same ?_ | with_reducible refine bq_other (by decide) ?_ | with_reducible refine tq_exit ?_ | with_reducible refine tq_ret ?_ | with_reducible refine bq_ret ?_ | with_reducible refine sq_normal ?_ | with_reducible refine sq_exit ?_ | with_reducible refine sq_ret ?_ | ((with_reducible apply SC.region); (focus (simp (disch := omega) only [go_sem, ↓reduceIte, Nat.reduceEqDiff]; rfl)))))
    refine SC.cond (by simp (disch := omega) only [go_sem, ↓reduceIte]; rfl) ?_ ?_
    · intro _
      (repeat (first | with_reducible refine SC.seq ?_ | with_reducible refine SC.skip ?_ | with_reducible refine SC.label ?_ | with_reducible refine SC.block ?_ | with_reducible refine SC.scope ?_ | with_reducible refine SC.nil ?_ | with_reducible refine SC.exit ?_ | with_reducible refine SC.ret ?_ | with_reducible refine SO.nil ?_ | with_reducible refine tq_normal ?_ | with_reducible refine bq_normal ?_ | with_reducible refine bq_same ?_ | with_reducible refine bq_other (by decide) ?_ | with_reducible refine tq_exit ?_ | with_reducible refine tq_ret ?_ | with_reducible refine bq_ret ?_ | with_reducible refine sq_normal ?_ | with_reducible refine sq_exit ?_ | with_reducible refine sq_ret ?_ | ((with_reducible apply SC.region); (focus (simp (disch := omega) only [go_sem, ↓reduceIte, Nat.reduceEqDiff, beq_self_eq_true, Int.cast_ofNat_Int]; rfl)))))
      exact retQ_ret Try.results7 (by simp (disch := omega) only [go_sem, ↓reduceIte]; rfl) (by simp (disch := omega) only [go_sem]; rfl) rfl
    · intro h; simp at h
  · rw [if_neg ha0, if_neg ha0]
    have hinv : 1 = a * pm p a (p - 2) % p := by
      have h1 := pm_mul p a 1 (p - 2)
      rw [pm_one ha, show 1 + (p - 2) = p - 1 by omega, hF.one a (by omega) ha] at h1
      exact h1.symm
    obtain ⟨d, ed⟩ : ∃ d, d = pm p a (p - 2) := ⟨_, rfl⟩
    rw [← ed] at hinv ⊢
    have hd : d < p := ed ▸ pm_lt (by omega)
    have hd0 : 0 < d := by
      rcases Nat.eq_zero_or_pos d with h | h
      · rw [h, Nat.mul_zero, Nat.zero_mod] at hinv; cases hinv
      · exact h
    (repeat (refine SO.run (by simp (disch := omega) only [go_sem, ↓reduceIte, Nat.reduceEqDiff]; rfl) ?_))
    (repeat (first | with_reducible refine SC.seq ?_ | with_reducible refine SC.skip ?_ | with_reducible refine SC.label ?_ | with_reducible refine SC.block ?_ | with_reducible refine SC.scope ?_ | with_reducible refine SC.nil ?_ | with_reducible refine SC.exit ?_ | with_reducible refine SC.ret ?_ | with_reducible refine SO.nil ?_ | with_reducible refine tq_normal ?_ | with_reducible refine bq_normal ?_ | with_reducible refine bq_same ?_ | with_reducible refine bq_other (by decide) ?_ | with_reducible refine tq_exit ?_ | with_reducible refine tq_ret ?_ | with_reducible refine bq_ret ?_ | with_reducible refine sq_normal ?_ | with_reducible refine sq_exit ?_ | with_reducible refine sq_ret ?_ | ((with_reducible apply SC.region); (focus (simp (disch := omega) only [go_sem, ↓reduceIte, Nat.reduceEqDiff]; rfl)))))
    refine SC.cond (by simp (disch := omega) only [go_sem, ↓reduceIte]; rfl) ?_ ?_
    · intro h; simp at h; omega
    intro _
    have g1 : decide ((d : Int) > 0) = true := by simp; omega
    have g2 : decide ((d : Int) < (p : Int)) = true := by simp; omega
    have ip : (p : Int) - 1 = ((p - 1 : Nat) : Int) := by omega
    have hpow := pow (p - 1) (by omega)
    rw [hF.one a (by omega) ha] at hpow
    (repeat (first | with_reducible refine SC.seq ?_ | with_reducible refine SC.skip ?_ | with_reducible refine SC.label ?_ | with_reducible refine SC.block ?_ | with_reducible refine SC.scope ?_ | with_reducible refine SC.nil ?_ | with_reducible refine SC.exit ?_ | with_reducible refine SC.ret ?_ | with_reducible refine SO.nil ?_ | with_reducible refine tq_normal ?_ | with_reducible refine bq_normal ?_ | with_reducible refine bq_same ?_ | with_reducible refine bq_other (by decide) ?_ | with_reducible refine tq_exit ?_ | with_reducible refine tq_ret ?_ | with_reducible refine bq_ret ?_ | with_reducible refine sq_normal ?_ | with_reducible refine sq_exit ?_ | with_reducible refine sq_ret ?_ | ((with_reducible apply SC.region); (focus (simp (disch := omega) only [go_sem, ↓reduceIte, Nat.reduceEqDiff]; rfl)))))
    refine SC.ops ?_
    (repeat (refine SO.run (by simp (disch := omega) only [go_sem, ↓reduceIte, Nat.reduceEqDiff, g1, g2, beq_self_eq_true]; rfl) ?_))
    (refine SO.call Tab.go31 (by simp (disch := omega) only [go_sem, ↓reduceIte, Nat.reduceEqDiff]; rfl) (by simp (disch := omega) only [go_sem, ↓reduceIte, Nat.reduceEqDiff] <;> rfl) ?_)
    (refine SCall.of (mul a d 1 ha hd hinv) (by simp (disch := omega) only [go_sem]; rfl) ?_)
    (repeat (refine SO.run (by simp (disch := omega) only [go_sem, ↓reduceIte, Nat.reduceEqDiff, beq_self_eq_true, Int.cast_ofNat_Int]; rfl) ?_))
    rw [ip]
    (refine SO.call Tab.go32 (by simp (disch := omega) only [go_sem, ↓reduceIte, Nat.reduceEqDiff]; rfl) (by simp (disch := omega) only [go_sem, ↓reduceIte, Nat.reduceEqDiff] <;> rfl) ?_)
    (refine SCall.of (hpow) (by simp (disch := omega) only [go_sem]; rfl) ?_)
    (repeat (refine SO.run (by simp (disch := omega) only [go_sem, ↓reduceIte, Nat.reduceEqDiff, Nat.reduceLT, beq_self_eq_true, Int.cast_ofNat_Int]; rfl) ?_))
    (repeat (first | with_reducible refine SC.seq ?_ | with_reducible refine SC.skip ?_ | with_reducible refine SC.label ?_ | with_reducible refine SC.block ?_ | with_reducible refine SC.scope ?_ | with_reducible refine SC.nil ?_ | with_reducible refine SC.exit ?_ | with_reducible refine SC.ret ?_ | with_reducible refine SO.nil ?_ | with_reducible refine tq_normal ?_ | with_reducible refine bq_normal ?_ | with_reducible refine bq_same ?_ | with_reducible refine bq_other (by decide) ?_ | with_reducible refine tq_exit ?_ | with_reducible refine tq_ret ?_ | with_reducible refine bq_ret ?_ | with_reducible refine sq_normal ?_ | with_reducible refine sq_exit ?_ | with_reducible refine sq_ret ?_ | ((with_reducible apply SC.region); (focus (simp (disch := omega) only [go_sem, ↓reduceIte, Nat.reduceEqDiff, Nat.reduceLT, Nat.reduceLeDiff, Nat.reduceAdd, Nat.reduceMul, Nat.reduceSub, reduceCtorEq, Nat.reduceBEq, Int.reduceToNat, Int.reducePow, if_pos, if_neg]; rfl)))))
    exact retQ_ret Try.results7 (by simp (disch := omega) only [go_sem, ↓reduceIte]; rfl) (by simp (disch := omega) only [go_sem]; rfl) rfl
end Go.Proofs.Ytcbfamgdkmfcgaa
