/- The reference's integers by value: plus, minus. -/
import Derived.Test.YtbpcgeanpkokkaaDoorJe
import Derived.Test.YtbpcgeanpkokkaaDoorSx
namespace Go.Proofs.YtbpcgeanpkokkaaDoor
open Go.RowKit

theorem lv_snoc {l : List Nat} {x : Nat} {e : Int} (h : e = (x : Int)) : lv l ++ [.sc (.int .u32 e)] = lv (l ++ [x]) := by subst h; simp [lv]
theorem lv_ok (ok : Nat → Bool) (l : List Nat) : (lv l).all (okL ok) = true := by simp [lv, okL]
theorem LLe.lv {ok : Nat → Bool} {cs : List V} {l : List Nat} (h : cs = Go.Proofs.YtbpcgeanpkokkaaDoor.lv l) : LLe ok cs (Go.Proofs.YtbpcgeanpkokkaaDoor.lv l) := by subst h; exact LLe.refl (lv_ok _ _)
theorem lv_ren (f : Nat → Nat) (l : List Nat) : V.renL f (lv l) = lv l := by unfold lv; rw [show (l.map fun (n : Nat) => V.sc (.int .u32 (n : Int))) = (l.map fun (n : Nat) => Value.int .u32 (n : Int)).map .sc by simp]; exact renL_map_sc f _
theorem lv_snoc' {f : Nat → Nat} {l : List Nat} {x : Nat} {e : Int} (h : e = (x : Int)) : V.renL f (lv l ++ [.sc (.int .u32 e)]) = lv (l ++ [x]) := by rw [renL_app, lv_ren, ← lv_snoc h]; simp [V.renL, V.ren]
/-- the limbs of a number, as many as asked for -/
def dg : Nat → Nat → List Nat
  | 0, _ => []
  | k + 1, n => n % 4294967296 :: dg k (n / 4294967296)
theorem dg_len : ∀ (k n : Nat), (dg k n).length = k
  | 0, _ => rfl
  | k + 1, n => by simp [dg, dg_len k]
theorem dg_limbs : ∀ (k n : Nat), limbs (dg k n)
  | 0, _ => fun x hx => by simp [dg] at hx
  | k + 1, n => fun x hx => by
    rcases List.mem_cons.1 hx with rfl | hx
    · omega
    · exact dg_limbs k _ x hx
theorem dg_val : ∀ (k n : Nat), n < 4294967296 ^ k → val (dg k n) = n
  | 0, n, h => by simp at h; subst h; rfl
  | k + 1, n, h => by
    rw [Nat.pow_succ] at h
    simp only [dg, val]
    rw [dg_val k _ (by omega)]
    omega
theorem dg_eq {l : List Nat} (h : limbs l) : dg l.length (val l) = l :=
  val_inj (dg_limbs _ _) h (dg_len _ _) (dg_val _ _ (val_lt h))
/-- the length of a sum -/
def sumLen (a b : List Nat) : Nat := max a.length b.length + (if 4294967296 ^ max a.length b.length ≤ val a + val b then 1 else 0)
theorem sum_fits {a b : List Nat} (ha : limbs a) (hb : limbs b) : val a + val b < 4294967296 ^ sumLen a b := by
  have h1 := val_lt ha
  have h2 := val_lt hb
  have h3 : 4294967296 ^ a.length ≤ 4294967296 ^ max a.length b.length := Nat.pow_le_pow_right (by omega) (by omega)
  have h4 : 4294967296 ^ b.length ≤ 4294967296 ^ max a.length b.length := Nat.pow_le_pow_right (by omega) (by omega)
  unfold sumLen
  split
  · rw [Nat.pow_succ]; omega
  · simp only [Nat.add_zero]; omega

theorem plus_i (a b : List Nat) (ha : limbs a) (hb : limbs b) (hma : a.length ≤ 1000000000) (hmb : b.length ≤ 1000000000) : Spec Tryd.prog 59 [sv a, sv b] (sv (dg (sumLen a b) (val a + val b))) := by
  unfold sv
  refine Spec.run Tryd.func59 rfl Tryd.ntmps59 (by simp) (by simp (disch := omega) only [go_sem, Nat.reduceAdd]; rfl) fun B hB => ?_
  (repeat (first | with_reducible refine SC.seq ?_ | with_reducible refine SC.skip ?_ | with_reducible refine SC.label ?_ | with_reducible refine SC.block ?_ | with_reducible refine SC.scope ?_ | with_reducible refine SC.nil ?_ | with_reducible refine SC.exit ?_ | with_reducible refine SC.ret ?_ | with_reducible refine SO.nil ?_ | with_reducible refine tq_normal ?_ | with_reducible refine bq_normal ?_ | with_reducible refine bq_same ?_ | with_reducible refine bq_other (by decide) ?_ | with_reducible refine tq_exit ?_ | with_reducible refine tq_ret ?_ | with_reducible refine bq_ret ?_ | with_reducible refine sq_normal ?_ | with_reducible refine sq_exit ?_ | with_reducible refine sq_ret ?_ | ((with_reducible apply SC.region); (focus (simp (disch := omega) only [go_sem, ↓reduceIte, Nat.reduceLeDiff]; rfl))) | (with_reducible refine SC.draw Tab.mixed rfl ?_; (repeat (refine DO.run (by simp (disch := omega) only [go_sem, ↓reduceIte, Nat.reduceEqDiff, Nat.reduceLT, Nat.reduceLeDiff, Nat.reduceAdd, Nat.reduceMul, Nat.reduceSub, reduceCtorEq, Nat.reduceBEq, Int.reduceToNat, Int.reducePow, if_pos, if_neg]; rfl) ?_)); refine DO.nil (by kernel_rfl) ?_)))
  refine SC.loop (fun x : Nat × Nat × List Nat => ⟨[(0, .im (lv a) a.length), (1, .im (lv b) b.length), (5, .sl 0 0 x.2.2.length 1 none), (6, .sc (.int .u64 x.2.1)), (7, .sc (.int .i64 x.1))], [(0, ⟨26, lv x.2.2, false⟩)], 1, 55⟩)
    (fun x => x.2.1 ≤ 1 ∧ (x.1 ≤ max a.length b.length ∨ x.1 = max a.length b.length + 1 ∧ x.2.1 = 0 ∧ 4294967296 ^ max a.length b.length ≤ val a + val b) ∧ plusInv a b x.1 x.2.1 x.2.2) (fun x => max a.length b.length + 1 - x.1) (0, 0, []) ?_ ?_ ?_
  · (refine Le.of [] hB (by first | exact ⟨Nat.zero_le _, fun _ _ => Nat.zero_le _⟩ | (constructor <;> (try simp) <;> (try omega))) ?_ ?_ <;> (repeat' (first | exact leSl_nil | exact leHp_nil | refine leSl_cons (by simp (disch := omega) only [go_sem, ↓reduceIte, Nat.reduceEqDiff, reduceCtorEq]; rfl) ?_ ?_ | refine leHp_cons (by simp (disch := omega) only [go_sem, ↓reduceIte]; rfl) ?_ ?_ | exact VLe.junk _ | exact VLe.refl rfl | exact VLe.nil_sl _ _ _ | exact VLe.int (by first | rfl | omega | (dsimp only; omega)) | exact VLe.bool rfl | exact VLe.sl rfl (by first | rfl | omega | (dsimp only; omega) | (simp; done)) | exact VLe.cap rfl (by first | rfl | omega | (dsimp only; omega) | (simp; done)) | exact VLe.im rfl rfl | exact HLe.new rfl | exact HLe.same rfl (LLe.refl rfl) | refine HLe.same rfl ?_ | exact LLe.nil _ | exact LLe.refl rfl | refine LLe.cons ?_ ?_)))
  · exact ⟨Nat.zero_le _, .inl (Nat.zero_le _), rfl, fun x hx => by simp at hx, by simp [val]⟩
  · rintro ⟨k, c, l⟩ ⟨hc, hk, hI⟩ K hK
    simp only at hc hk hI ⊢
    have hlk : l.length = k := hI.1
    have hst := hI.step _ _ rfl rfl
    have xa := limbs_getD ha k
    have xb := limbs_getD hb k
    have hgo : ∀ (c' : Nat), c' = c + a.getD k 0 + b.getD k 0 → c' / 4294967296 ≤ 1 ∧ c' / 4294967296 < 2 ∧ c' ≤ 18446744073709551615 := fun c' e => by omega
    by_cases hend : k < a.length ∨ k < b.length ∨ 0 < c
    · have hk' : k ≤ max a.length b.length := by omega
      have dC := decide_eq_true (p := (0 : Int) < c)
      have dA := decide_eq_true (p := (k : Int) < a.length)
      have dB := decide_eq_true (p := (k : Int) < b.length)
      have dA' := decide_eq_false (p := (k : Int) < a.length)
      have dB' := decide_eq_false (p := (k : Int) < b.length)
      have fin : ∀ s', Le B s' ⟨[(0, .im (lv a) a.length), (1, .im (lv b) b.length), (5, .sl 0 0 (l.length + 1) 1 none), (6, .sc (.int .u64 ((c + a.getD k 0 + b.getD k 0) / 4294967296 : Nat))), (7, .sc (.int .i64 (k + 1 : Nat)))], [(0, ⟨26, lv (l ++ [(c + a.getD k 0 + b.getD k 0) % 4294967296]), false⟩)], 1, 55⟩ → K s' := by
        intro s' hs'
        refine hK _ (k + 1, (c + a.getD k 0 + b.getD k 0) / 4294967296, l ++ [(c + a.getD k 0 + b.getD k 0) % 4294967296]) ?_ ⟨by simp only; omega, ?_, hst⟩ (by simp only; omega)
        · simpa using hs'
        · simp only
          rcases Nat.lt_or_ge k (max a.length b.length) with h | h
          · exact .inl h
          · have h1 : k = max a.length b.length := by omega
            have hxa := getD_ge (l := a) (k := k) (by omega)
            have hxb := getD_ge (l := b) (k := k) (by omega)
            rw [hxa, hxb] at hst ⊢
            have hc1 : c = 1 := by omega
            refine .inr ⟨by omega, by omega, ?_⟩
            have h3 := hI.2.2
            rw [List.take_of_length_le (by omega), List.take_of_length_le (by omega), hc1, h1] at h3
            omega
      rcases Nat.lt_or_ge k a.length with hA | hA <;> rcases Nat.lt_or_ge k b.length with hB' | hB'
      · (repeat (first | refine DO.nil (by kernel_rfl) ?_ | (with_reducible refine SC.condB (by simp (disch := omega) only [go_sem, ↓reduceIte]; rfl) ?_; first | with_reducible refine pickT ?_ | with_reducible refine pickF ?_) | with_reducible refine SC.seq ?_ | with_reducible refine SC.skip ?_ | with_reducible refine SC.label ?_ | with_reducible refine SC.block ?_ | with_reducible refine SC.scope ?_ | with_reducible refine SC.nil ?_ | with_reducible refine SC.exit ?_ | with_reducible refine SC.ret ?_ | with_reducible refine SO.nil ?_ | with_reducible refine tq_normal ?_ | with_reducible refine bq_normal ?_ | with_reducible refine bq_same ?_ | with_reducible refine bq_other (by decide) ?_ | with_reducible refine tq_exit ?_ | with_reducible refine tq_ret ?_ | with_reducible refine bq_ret ?_ | with_reducible refine sq_normal ?_ | with_reducible refine sq_exit ?_ | with_reducible refine sq_ret ?_ | ((with_reducible apply SC.region); (focus (simp (disch := omega) only [go_sem, ↓reduceIte, Nat.reduceEqDiff, Nat.reduceLeDiff, Nat.reduceAdd, reduceCtorEq, if_pos, if_neg, dA (by omega), dB (by omega), lv_get hA, lv_get hB', lv_len, List.getElem?_drop, lv_take, List.take_length]; rfl))) | (with_reducible refine SC.draw Tab.mixed rfl ?_; (repeat (refine DO.run (by simp (disch := omega) only [go_sem, ↓reduceIte, Nat.reduceEqDiff, Nat.reduceLT, Nat.reduceLeDiff, Nat.reduceAdd, Nat.reduceMul, Nat.reduceSub, reduceCtorEq, Nat.reduceBEq, Int.reduceToNat, Int.reducePow, if_pos, if_neg, dA (by omega), dB (by omega), lv_get hA, lv_get hB', lv_len, List.getElem?_drop, lv_all, lv_take, List.take_length]; rfl) ?_)); refine DO.nil (by kernel_rfl) ?_)))
        refine fin _ (Le.swap 0 2 hB (by omega) (by omega) ?_)
        (refine Le.of [] hB (by first | exact ⟨Nat.zero_le _, fun _ _ => Nat.zero_le _⟩ | (constructor <;> (try simp) <;> (try omega))) ?_ ?_ <;> (repeat' (first | exact leSl_nil | exact leHp_nil | refine leSl_cons (by simp (disch := omega) only [go_sem, ↓reduceIte, Nat.reduceEqDiff, reduceCtorEq]; rfl) ?_ ?_ | refine leHp_cons (by simp (disch := omega) only [go_sem, ↓reduceIte]; rfl) ?_ ?_ | exact VLe.junk _ | exact VLe.refl rfl | exact VLe.nil_sl _ _ _ | exact VLe.int (by first | rfl | omega | (dsimp only; omega)) | exact VLe.bool rfl | exact VLe.sl rfl (by first | rfl | omega | (dsimp only; omega) | (simp; done)) | exact VLe.cap rfl (by first | rfl | omega | (dsimp only; omega) | (simp; done)) | exact VLe.im rfl rfl | exact HLe.new rfl | exact HLe.same rfl (LLe.refl rfl) | refine HLe.same rfl ?_ | exact LLe.nil _ | exact LLe.refl rfl | refine LLe.cons ?_ ?_)))
        exact LLe.lv (lv_snoc' (by omega))
      · have hz := getD_ge (l := b) (k := k) (by omega)
        have q1 := dA (by omega)
        have q2 := dB' (by omega)
        (repeat (first | refine DO.nil (by kernel_rfl) ?_ | (with_reducible refine SC.condB (by simp (disch := omega) only [go_sem, ↓reduceIte]; rfl) ?_; first | with_reducible refine pickT ?_ | with_reducible refine pickF ?_) | with_reducible refine SC.seq ?_ | with_reducible refine SC.skip ?_ | with_reducible refine SC.label ?_ | with_reducible refine SC.block ?_ | with_reducible refine SC.scope ?_ | with_reducible refine SC.nil ?_ | with_reducible refine SC.exit ?_ | with_reducible refine SC.ret ?_ | with_reducible refine SO.nil ?_ | with_reducible refine tq_normal ?_ | with_reducible refine bq_normal ?_ | with_reducible refine bq_same ?_ | with_reducible refine bq_other (by decide) ?_ | with_reducible refine tq_exit ?_ | with_reducible refine tq_ret ?_ | with_reducible refine bq_ret ?_ | with_reducible refine sq_normal ?_ | with_reducible refine sq_exit ?_ | with_reducible refine sq_ret ?_ | ((with_reducible apply SC.region); (focus (simp (disch := omega) only [go_sem, ↓reduceIte, Nat.reduceEqDiff, Nat.reduceLeDiff, Nat.reduceAdd, reduceCtorEq, if_pos, if_neg, q1, q2, lv_get hA, lv_len, List.getElem?_drop, lv_take, List.take_length]; rfl))) | (with_reducible refine SC.draw Tab.mixed rfl ?_; (repeat (refine DO.run (by simp (disch := omega) only [go_sem, ↓reduceIte, Nat.reduceEqDiff, Nat.reduceLT, Nat.reduceLeDiff, Nat.reduceAdd, Nat.reduceMul, Nat.reduceSub, reduceCtorEq, Nat.reduceBEq, Int.reduceToNat, Int.reducePow, if_pos, if_neg, q1, q2, lv_get hA, lv_len, List.getElem?_drop, lv_all, lv_take, List.take_length]; rfl) ?_)); refine DO.nil (by kernel_rfl) ?_)))
        refine fin _ (Le.swap 0 2 hB (by omega) (by omega) ?_)
        (refine Le.of [] hB (by first | exact ⟨Nat.zero_le _, fun _ _ => Nat.zero_le _⟩ | (constructor <;> (try simp) <;> (try omega))) ?_ ?_ <;> (repeat' (first | exact leSl_nil | exact leHp_nil | refine leSl_cons (by simp (disch := omega) only [go_sem, ↓reduceIte, Nat.reduceEqDiff, reduceCtorEq]; rfl) ?_ ?_ | refine leHp_cons (by simp (disch := omega) only [go_sem, ↓reduceIte]; rfl) ?_ ?_ | exact VLe.junk _ | exact VLe.refl rfl | exact VLe.nil_sl _ _ _ | exact VLe.int (by first | rfl | omega | (dsimp only; omega)) | exact VLe.bool rfl | exact VLe.sl rfl (by first | rfl | omega | (dsimp only; omega) | (simp; done)) | exact VLe.cap rfl (by first | rfl | omega | (dsimp only; omega) | (simp; done)) | exact VLe.im rfl rfl | exact HLe.new rfl | exact HLe.same rfl (LLe.refl rfl) | refine HLe.same rfl ?_ | exact LLe.nil _ | exact LLe.refl rfl | refine LLe.cons ?_ ?_)))
        exact LLe.lv (lv_snoc' (by omega))
      · have hz := getD_ge (l := a) (k := k) (by omega)
        have q1 := dA' (by omega)
        have q2 := dB (by omega)
        (repeat (first | refine DO.nil (by kernel_rfl) ?_ | (with_reducible refine SC.condB (by simp (disch := omega) only [go_sem, ↓reduceIte]; rfl) ?_; first | with_reducible refine pickT ?_ | with_reducible refine pickF ?_) | with_reducible refine SC.seq ?_ | with_reducible refine SC.skip ?_ | with_reducible refine SC.label ?_ | with_reducible refine SC.block ?_ | with_reducible refine SC.scope ?_ | with_reducible refine SC.nil ?_ | with_reducible refine SC.exit ?_ | with_reducible refine SC.ret ?_ | with_reducible refine SO.nil ?_ | with_reducible refine tq_normal ?_ | with_reducible refine bq_normal ?_ | with_reducible refine bq_same ?_ | with_reducible refine bq_other (by decide) ?_ | with_reducible refine tq_exit ?_ | with_reducible refine tq_ret ?_ | with_reducible refine bq_ret ?_ | with_reducible refine sq_normal ?_ | with_reducible refine sq_exit ?_ | with_reducible refine sq_ret ?_ | ((with_reducible apply SC.region); (focus (simp (disch := omega) only [go_sem, ↓reduceIte, Nat.reduceEqDiff, Nat.reduceLeDiff, Nat.reduceAdd, reduceCtorEq, if_pos, if_neg, q1, q2, lv_get hB', lv_len, List.getElem?_drop, lv_take, List.take_length]; rfl))) | (with_reducible refine SC.draw Tab.mixed rfl ?_; (repeat (refine DO.run (by simp (disch := omega) only [go_sem, ↓reduceIte, Nat.reduceEqDiff, Nat.reduceLT, Nat.reduceLeDiff, Nat.reduceAdd, Nat.reduceMul, Nat.reduceSub, reduceCtorEq, Nat.reduceBEq, Int.reduceToNat, Int.reducePow, if_pos, if_neg, q1, q2, lv_get hB', lv_len, List.getElem?_drop, lv_all, lv_take, List.take_length]; rfl) ?_)); refine DO.nil (by kernel_rfl) ?_)))
        refine fin _ (Le.swap 0 2 hB (by omega) (by omega) ?_)
        (refine Le.of [] hB (by first | exact ⟨Nat.zero_le _, fun _ _ => Nat.zero_le _⟩ | (constructor <;> (try simp) <;> (try omega))) ?_ ?_ <;> (repeat' (first | exact leSl_nil | exact leHp_nil | refine leSl_cons (by simp (disch := omega) only [go_sem, ↓reduceIte, Nat.reduceEqDiff, reduceCtorEq]; rfl) ?_ ?_ | refine leHp_cons (by simp (disch := omega) only [go_sem, ↓reduceIte]; rfl) ?_ ?_ | exact VLe.junk _ | exact VLe.refl rfl | exact VLe.nil_sl _ _ _ | exact VLe.int (by first | rfl | omega | (dsimp only; omega)) | exact VLe.bool rfl | exact VLe.sl rfl (by first | rfl | omega | (dsimp only; omega) | (simp; done)) | exact VLe.cap rfl (by first | rfl | omega | (dsimp only; omega) | (simp; done)) | exact VLe.im rfl rfl | exact HLe.new rfl | exact HLe.same rfl (LLe.refl rfl) | refine HLe.same rfl ?_ | exact LLe.nil _ | exact LLe.refl rfl | refine LLe.cons ?_ ?_)))
        exact LLe.lv (lv_snoc' (by omega))
      · have hz := getD_ge (l := a) (k := k) (by omega)
        have hz := getD_ge (l := b) (k := k) (by omega)
        have q1 := dA' (by omega)
        have q2 := dB' (by omega)
        have q3 := dC (by omega)
        (repeat (first | refine DO.nil (by kernel_rfl) ?_ | (with_reducible refine SC.condB (by simp (disch := omega) only [go_sem, ↓reduceIte]; rfl) ?_; first | with_reducible refine pickT ?_ | with_reducible refine pickF ?_) | with_reducible refine SC.seq ?_ | with_reducible refine SC.skip ?_ | with_reducible refine SC.label ?_ | with_reducible refine SC.block ?_ | with_reducible refine SC.scope ?_ | with_reducible refine SC.nil ?_ | with_reducible refine SC.exit ?_ | with_reducible refine SC.ret ?_ | with_reducible refine SO.nil ?_ | with_reducible refine tq_normal ?_ | with_reducible refine bq_normal ?_ | with_reducible refine bq_same ?_ | with_reducible refine bq_other (by decide) ?_ | with_reducible refine tq_exit ?_ | with_reducible refine tq_ret ?_ | with_reducible refine bq_ret ?_ | with_reducible refine sq_normal ?_ | with_reducible refine sq_exit ?_ | with_reducible refine sq_ret ?_ | ((with_reducible apply SC.region); (focus (simp (disch := omega) only [go_sem, ↓reduceIte, Nat.reduceEqDiff, Nat.reduceLeDiff, Nat.reduceAdd, reduceCtorEq, if_pos, if_neg, q1, q2, q3, lv_len, lv_take, List.take_length]; rfl))) | (with_reducible refine SC.draw Tab.mixed rfl ?_; (repeat (refine DO.run (by simp (disch := omega) only [go_sem, ↓reduceIte, Nat.reduceEqDiff, Nat.reduceLT, Nat.reduceLeDiff, Nat.reduceAdd, Nat.reduceMul, Nat.reduceSub, reduceCtorEq, Nat.reduceBEq, Int.reduceToNat, Int.reducePow, if_pos, if_neg, q1, q2, q3, lv_len, List.getElem?_drop, lv_all, lv_take, List.take_length]; rfl) ?_)); refine DO.nil (by kernel_rfl) ?_)))
        refine fin _ (Le.swap 0 2 hB (by omega) (by omega) ?_)
        (refine Le.of [] hB (by first | exact ⟨Nat.zero_le _, fun _ _ => Nat.zero_le _⟩ | (constructor <;> (try simp) <;> (try omega))) ?_ ?_ <;> (repeat' (first | exact leSl_nil | exact leHp_nil | refine leSl_cons (by simp (disch := omega) only [go_sem, ↓reduceIte, Nat.reduceEqDiff, reduceCtorEq]; rfl) ?_ ?_ | refine leHp_cons (by simp (disch := omega) only [go_sem, ↓reduceIte]; rfl) ?_ ?_ | exact VLe.junk _ | exact VLe.refl rfl | exact VLe.nil_sl _ _ _ | exact VLe.int (by first | rfl | omega | (dsimp only; omega)) | exact VLe.bool rfl | exact VLe.sl rfl (by first | rfl | omega | (dsimp only; omega) | (simp; done)) | exact VLe.cap rfl (by first | rfl | omega | (dsimp only; omega) | (simp; done)) | exact VLe.im rfl rfl | exact HLe.new rfl | exact HLe.same rfl (LLe.refl rfl) | refine HLe.same rfl ?_ | exact LLe.nil _ | exact LLe.refl rfl | refine LLe.cons ?_ ?_)))
        exact LLe.lv (lv_snoc' (by omega))
    · have hc0 : c = 0 := by omega
      subst hc0
      have dA := decide_eq_false (p := (k : Int) < a.length) (by omega)
      have dB := decide_eq_false (p := (k : Int) < b.length) (by omega)
      have hd := hI.done (by omega) (by omega)
      have hl : l.length = sumLen a b := by
        unfold sumLen
        have hv := val_lt hI.2.1
        rcases hk with hk | ⟨h1, h2, h3⟩
        · have h1 : k = max a.length b.length := by omega
          rw [hlk, h1] at hv
          rw [if_neg (by omega), hlk, h1]; rfl
        · rw [if_pos h3]; omega
      have he := dg_eq hI.2.1
      rw [hd, hl] at he
      have dC : decide ((0 : Int) < ((0 : Nat) : Int)) = false := by simp
      (repeat (first | refine DO.nil (by kernel_rfl) ?_ | (with_reducible refine SC.condB (by simp (disch := omega) only [go_sem, ↓reduceIte]; rfl) ?_; first | with_reducible refine pickT ?_ | with_reducible refine pickF ?_) | with_reducible refine SC.seq ?_ | with_reducible refine SC.skip ?_ | with_reducible refine SC.label ?_ | with_reducible refine SC.block ?_ | with_reducible refine SC.scope ?_ | with_reducible refine SC.nil ?_ | with_reducible refine SC.exit ?_ | with_reducible refine SC.ret ?_ | with_reducible refine SO.nil ?_ | with_reducible refine tq_normal ?_ | with_reducible refine bq_normal ?_ | with_reducible refine bq_same ?_ | with_reducible refine bq_other (by decide) ?_ | with_reducible refine tq_exit ?_ | with_reducible refine tq_ret ?_ | with_reducible refine bq_ret ?_ | with_reducible refine sq_normal ?_ | with_reducible refine sq_exit ?_ | with_reducible refine sq_ret ?_ | ((with_reducible apply SC.region); (focus (simp (disch := omega) only [go_sem, ↓reduceIte, Nat.reduceEqDiff, Nat.reduceLT, reduceCtorEq, dA, dB, dC]; rfl))) | (with_reducible refine SC.draw Tab.mixed rfl ?_; (repeat (refine DO.run (by simp (disch := omega) only [go_sem, ↓reduceIte, Nat.reduceEqDiff, Nat.reduceLT, Nat.reduceLeDiff, Nat.reduceAdd, Nat.reduceMul, Nat.reduceSub, reduceCtorEq, Nat.reduceBEq, Int.reduceToNat, Int.reducePow, if_pos, if_neg, dA, dB, dC, lv_len, lv_take, List.take_length]; rfl) ?_)); refine DO.nil (by kernel_rfl) ?_)))
      refine retQ_ret Tryd.results59 (by simp (disch := omega) only [go_sem, ↓reduceIte]; rfl) (by simp (disch := omega) only [go_sem, ↓reduceIte, if_pos, lv_len, lv_take, lv_clo, List.take_length]; rfl) ?_
      rw [he, hl]
end Go.Proofs.YtbpcgeanpkokkaaDoor
