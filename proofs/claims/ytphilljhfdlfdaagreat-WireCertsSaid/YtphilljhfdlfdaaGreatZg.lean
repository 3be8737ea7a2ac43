/- Texts joined: Da Db De Df Dg Dc Dh Di. -/
import Derived.Test.YtphilljhfdlfdaaGreatZc
import Derived.Test.YtphilljhfdlfdaaGreatZd
set_option linter.all false
open Nat renaming reduceEqDiff → zn1, reduceLT → zn2, reduceLeDiff → zn3, reduceAdd → zn4, reduceMul → zn5, reduceSub → zn6, reduceBEq → zn7, mul_one → zn8, zero_add → zn9, one_mul → zna, le_refl → znb, zero_le → znc, add_sub_cancel_left → znd, sub_eq_zero_of_le → zne, add_assoc → znf
open Int renaming reduceToNat → zi1, reducePow → zi2
open List renaming length_append → zl1, drop_zero → zl2, take_succ_cons → zl3, take_zero → zl4, getElem?_drop → zl5, append_assoc → zl6, nil_append → zl7, cons_append → zl8, drop_succ_cons → zl9, take_of_length_le → zla, getElem?_eq_getElem → zlb, getElem?_eq_some_iff → zlc, map_cons → zld, map_nil → zle, all_eq_true → zlf
namespace Go.Proofs.YtphilljhfdlfdaaGreat
open Go.RowKit
def bw (l : List Int) : List V := l.map fun x => .sc (.int .u8 x)
theorem bw_len (l : List Int) : (bw l).length = l.length := by simp [bw]
theorem bw_app (a b : List Int) : bw (a ++ b) = bw a ++ bw b := by simp [bw]
theorem bw_clo (l : List Int) : (bw l).all clo = true := by simp [bw, clo]
theorem bw_one (l : List Int) : (bw l).all V.one = true := by simp [bw, V.one, Value.oneCell']
theorem bw_sc {l : List Int} : ∀ y ∈ bw l, ∃ v, y = .sc v := by
  intro y hy
  obtain ⟨x, _, rfl⟩ := List.mem_map.1 hy
  exact ⟨_, rfl⟩
theorem bw_get {l : List Int} {i : Nat} (h : i < l.length) : (bw l)[i]? = some (.sc (.int .u8 (l.getD i 0))) := by
  simp [bw, zlb h, List.getD]
theorem bw_take (l : List Int) (n : Nat) : (bw l).take n = bw (l.take n) := by simp [bw, List.map_take]
def PutA (f : Nat) (xs : List V) (l : List Int) : Prop :=
  ∀ (id : Nat) (c : List Int) (cap : Option Nat), c.length + l.length ≤ 1000000000 → AppC Tryz.prog f (.sl id 0 c.length 1 cap :: xs) id ⟨5, bw c, false⟩ 0 (c.length + l.length) 1 none ⟨5, bw (c ++ l), false⟩
def PutR (c l : List Int) (y : V) (hp' : List (Nat × Blk)) (nx' : Nat) : Prop :=
  ∃ q, q < nx' ∧ y = .sl q 0 (c.length + l.length) 1 none ∧ hp' = [(q, ⟨5, bw (c ++ l), false⟩)]
theorem PutA.of {f : Nat} {xs : List V} {l : List Int} (hl : 0 < l.length)
    (h : ∀ (id : Nat) (c : List Int) (cap : Option Nat) (nx : Nat), c.length + l.length ≤ 1000000000 → id < nx → InlQ Tryz.prog f (.sl id 0 c.length 1 cap :: xs) [(id, ⟨5, bw c, false⟩)] nx (PutR c l)) : PutA f xs l :=
  fun id c cap hc => AppC.of (by omega) rfl bw_sc fun nx hi => h id c cap nx hc hi
def num (n : Nat) : List Int := if n < 128 then [(n : Int)] else ((n % 128 + 128 : Nat) : Int) :: num (n / 128)
termination_by n
decreasing_by omega
theorem num_lt {n : Nat} (h : n < 128) : num n = [(n : Int)] := by rw [num, if_pos h]
theorem num_ge {n : Nat} (h : ¬ n < 128) : num n = ((n % 128 + 128 : Nat) : Int) :: num (n / 128) := by rw [num, if_neg h]
theorem num_len : ∀ (k n : Nat), n < 128 ^ (k + 1) → (num n).length ≤ k + 1
  | 0, n, h => by rw [num_lt (by omega)]; simp
  | k + 1, n, h => by
    by_cases hn : n < 128
    · rw [num_lt hn]; simp
    · rw [num_ge hn, List.length_cons]
      have := num_len k (n / 128) (by rw [Nat.pow_succ] at h; omega)
      omega
theorem num_pos (n : Nat) : 0 < (num n).length := by
  by_cases hn : n < 128
  · rw [num_lt hn]; simp
  · rw [num_ge hn]; simp
theorem num_10 {n : Nat} (h : n < 18446744073709551616) : (num n).length ≤ 10 := num_len 9 n (Nat.lt_of_lt_of_le h (by decide))
theorem or128 (n : Nat) : (n % 256) ||| 128 = n % 128 + 128 := by
  have key : ∀ m : Fin 256, m.val ||| 128 = m.val % 128 + 128 := by decide +kernel
  have h := key ⟨n % 256, Nat.mod_lt _ (by omega)⟩
  simp only at h
  omega
theorem bv_i {w n : Nat} (h : n < 2 ^ w) : (BitVec.ofInt w (n : Int)).toNat = n := by
  rw [BitVec.ofInt_natCast, BitVec.toNat_ofNat]; exact Nat.mod_eq_of_lt h
theorem bits_or8 {m n : Nat} (hm : m < 256) (hn : n < 256) : bits .or .u8 (m : Int) (n : Int) = ((m ||| n : Nat) : Int) := by
  have hl : m ||| n < 2 ^ 8 := Nat.or_lt_two_pow hm hn
  show IntKind.u8.wrap ((BitVec.ofInt 8 (m : Int) ||| BitVec.ofInt 8 (n : Int)).toNat : Int) = ((m ||| n : Nat) : Int)
  rw [BitVec.toNat_or, bv_i hm, bv_i hn, IntKind.wrap_u8]; omega
theorem bits_and8 {m n : Nat} (hm : m < 256) (hn : n < 256) : bits .and .u8 (m : Int) (n : Int) = ((m &&& n : Nat) : Int) := by
  have hl : m &&& n < 2 ^ 8 := Nat.and_lt_two_pow m hn
  show IntKind.u8.wrap ((BitVec.ofInt 8 (m : Int) &&& BitVec.ofInt 8 (n : Int)).toNat : Int) = ((m &&& n : Nat) : Int)
  rw [BitVec.toNat_and, bv_i hm, bv_i hn, IntKind.wrap_u8]; omega
theorem bits_or32 {m n : Nat} (hm : m < 4294967296) (hn : n < 4294967296) : bits .or .u32 (m : Int) (n : Int) = ((m ||| n : Nat) : Int) := by
  have hl : m ||| n < 2 ^ 32 := Nat.or_lt_two_pow hm hn
  show IntKind.u32.wrap ((BitVec.ofInt 32 (m : Int) ||| BitVec.ofInt 32 (n : Int)).toNat : Int) = ((m ||| n : Nat) : Int)
  rw [BitVec.toNat_or, bv_i hm, bv_i hn, IntKind.wrap_u32]; omega
theorem bits_or64 {m n : Nat} (hm : m < 18446744073709551616) (hn : n < 18446744073709551616) : bits .or .u64 (m : Int) (n : Int) = ((m ||| n : Nat) : Int) := by
  have hl : m ||| n < 2 ^ 64 := Nat.or_lt_two_pow hm hn
  show IntKind.u64.wrap ((BitVec.ofInt 64 (m : Int) ||| BitVec.ofInt 64 (n : Int)).toNat : Int) = ((m ||| n : Nat) : Int)
  rw [BitVec.toNat_or, bv_i hm, bv_i hn, IntKind.wrap_u64]; omega
theorem bits_and64 {m n : Nat} (hm : m < 18446744073709551616) (hn : n < 18446744073709551616) : bits .and .u64 (m : Int) (n : Int) = ((m &&& n : Nat) : Int) := by
  have hl : m &&& n < 2 ^ 64 := Nat.and_lt_two_pow m hn
  show IntKind.u64.wrap ((BitVec.ofInt 64 (m : Int) &&& BitVec.ofInt 64 (n : Int)).toNat : Int) = ((m &&& n : Nat) : Int)
  rw [BitVec.toNat_and, bv_i hm, bv_i hn, IntKind.wrap_u64]; omega
theorem or_i (m : Nat) : bits .or .u8 ((m : Int) % 256) 128 = (m : Int) % 128 + 128 := by
  have h := bits_or8 (m := m % 256) (n := 128) (Nat.mod_lt _ (by omega)) (by omega)
  rw [or128] at h
  rw [show ((m : Int) % 256) = ((m % 256 : Nat) : Int) by omega]
  refine Eq.trans h ?_
  omega
theorem rnumber_s (n : Nat) (h : n < 18446744073709551616) : PutA 35 [.sc (.int .u64 n)] (num n) := by
  refine PutA.of (num_pos n) fun id c cap nx hc hi => ?_
  refine InlQ.run Tryz.func35 rfl Tryz.ntmps35 (by simp) (by simp (disch := omega) only [go_sem, zn4]; rfl) fun B hB => ?_
  (repeat (first | (with_reducible refine oz (by constructor <;> decide) ?_) | ((with_reducible apply SC.region); (simp (disch := omega) only [go_sem, ↓reduceIte] <;> rfl); (fail_if_success with_reducible refine pickA ?_))))
  refine SC.loop (fun x : List Int × Nat × Nat × Nat => ⟨[(0, .sl x.2.2.1 0 (c ++ x.1).length 1 none), (1, .sc (.int .u64 x.2.1))], [(x.2.2.1, ⟨5, bw (c ++ x.1), false⟩)], x.2.2.2, 21⟩)
    (fun x => x.1 ++ num x.2.1 = num n ∧ x.2.1 ≤ n ∧ x.2.2.1 < x.2.2.2) (fun x => x.2.1) ([], n, id, nx) ?_ ?_ ?_
  · simp only [List.append_nil]
    (refine Le.slots ?_ ?_ ?_ <;> (repeat' (first | (exact fun _ _ h => h) | exact znb _ | exact leSl_nil | refine leSl_cons (by simp (disch := omega) only [go_sem, ↓reduceIte, zn1, reduceCtorEq] <;> rfl) ?_ ?_ | exact VLe.refl rfl | exact VLe.cap rfl (by rfl))))
  · exact ⟨rfl, znb _, hi⟩
  · rintro ⟨p, m, q, k⟩ ⟨hp, hm, hq⟩ K hK
    simp only at hp hm hq ⊢
    have gl := bw_len (c ++ p)
    have gt : (bw (c ++ p)).take (c ++ p).length = bw (c ++ p) := zla (by omega)
    have hcl : (c ++ p).length ≤ 1000000000 := by rw [zl1]; have := congrArg List.length hp; rw [zl1] at this; omega
    by_cases hlt : m < 128
    · have q1 : decide ((m : Int) ≥ 128) = false := by rw [decide_eq_false_iff_not]; omega
      (repeat (first | (with_reducible refine oz (by constructor <;> decide) ?_) | ((with_reducible first | apply SC.condB | apply SC.region); (simp (disch := omega) only [go_sem, ↓reduceIte, zn1, zn2, zn3, reduceCtorEq, if_pos, if_neg, q1, gl, gt, zn8, zna, zl2, zl3, zl4] <;> rfl); (first | refine pickF ?_ | fail_if_success with_reducible refine pickA ?_))))
      refine retIQ_ret (.sl (k + 1) 0 (c.length + (num n).length) 1 none) [(k + 1, ⟨5, bw (c ++ num n), false⟩)] (k + 2) Tryz.results35 (by simp (disch := omega) only [go_sem, ↓reduceIte]; rfl) ⟨k + 1, by omega, rfl, rfl⟩ ?_
      have e1 : c ++ num n = c ++ p ++ [(m : Int)] := by rw [← hp, num_lt hlt, zl6]
      have e2 : c.length + (num n).length = (c ++ p).length + 1 := by rw [← zl1, e1, zl1]; rfl
      have e3 : bw (c ++ num n) = bw (c ++ p) ++ [.sc (.int .u8 m)] := by rw [e1, bw_app (c ++ p)]; rfl
      rw [e2, e3]
      (refine Le.slots ?_ ?_ ?_ <;> (repeat' (first | exact znb _ | exact leSl_nil | refine leSl_cons (by simp (disch := omega) only [go_sem, ↓reduceIte] <;> rfl) ?_ ?_ | exact VLe.refl rfl | (refine fun id k h => ?_; simp only [hget] at h ⊢; (repeat' (split at h)) <;> first | (cases h; done) | (simp (disch := omega) only [if_pos]; exact h)))))
    · have q1 : decide ((m : Int) ≥ 128) = true := by rw [decide_eq_true_iff]; omega
      (repeat (first | (with_reducible refine oz (by constructor <;> decide) ?_) | ((with_reducible first | apply SC.condB | apply SC.region); (simp (disch := omega) only [go_sem, ↓reduceIte, zn1, zn3, reduceCtorEq, if_pos, if_neg, q1, gl, gt, zn8, zna, zl2, zl3, zl4] <;> rfl); (first | refine pickT ?_ | fail_if_success with_reducible refine pickA ?_))))
      have e0 : num m = ((m % 128 + 128 : Nat) : Int) :: num (m / 128) := num_ge hlt
      have e1 : c ++ (p ++ [((m : Int) % 128 + 128)]) = c ++ p ++ [((m : Int) % 128 + 128)] := (zl6 ..).symm
      have e2 : (c ++ (p ++ [((m : Int) % 128 + 128)])).length = (c ++ p).length + 1 := by rw [e1, zl1]; rfl
      have e3 : bw (c ++ (p ++ [((m : Int) % 128 + 128)])) = bw (c ++ p) ++ [.sc (.int .u8 ((m : Int) % 128 + 128))] := by rw [e1, bw_app (c ++ p)]; rfl
      refine hK _ (p ++ [((m : Int) % 128 + 128)], m / 128, k + 1, k + 2) ?_ ⟨?_, by simp only; omega, by simp only; omega⟩ (by simp only; omega)
      · simp only [e2, e3, Int.natCast_ediv]
        (refine Le.slots ?_ ?_ ?_ <;> (repeat' (first | exact znb _ | exact leSl_nil | refine leSl_cons (by simp (disch := omega) only [go_sem, ↓reduceIte, reduceCtorEq] <;> rfl) ?_ ?_ | exact VLe.refl rfl | (refine fun id k h => ?_; simp only [hget] at h ⊢; (repeat' (split at h)) <;> first | (cases h; done) | (simp (disch := omega) only [if_pos]; exact h)))))
      · simp only
        rw [← hp, e0, zl6]; rfl
theorem number_s (n : Nat) (h : n < 18446744073709551616) : PutA 25 [.sc (.int .u64 n)] (num n) := by
  refine PutA.of (num_pos n) fun id c cap nx hc hi => ?_
  refine InlQ.run Tryz.func25 rfl Tryz.ntmps25 (by simp) (by simp (disch := omega) only [go_sem, zn4]; rfl) fun B hB => ?_
  (repeat (first | (with_reducible refine oz (by constructor <;> decide) ?_) | ((with_reducible apply SC.region); (simp (disch := omega) only [go_sem, ↓reduceIte] <;> rfl); (fail_if_success with_reducible refine pickA ?_))))
  refine SC.loop (fun x : List Int × Nat × Nat × Nat => ⟨[(0, .sl x.2.2.1 0 (c ++ x.1).length 1 none), (1, .sc (.int .u64 x.2.1))], [(x.2.2.1, ⟨5, bw (c ++ x.1), false⟩)], x.2.2.2, 20⟩)
    (fun x => x.1 ++ num x.2.1 = num n ∧ x.2.1 ≤ n ∧ x.2.2.1 < x.2.2.2) (fun x => x.2.1) ([], n, id, nx) ?_ ?_ ?_
  · simp only [List.append_nil]
    (refine Le.slots ?_ ?_ ?_ <;> (repeat' (first | (exact fun _ _ h => h) | exact znb _ | exact leSl_nil | refine leSl_cons (by simp (disch := omega) only [go_sem, ↓reduceIte, zn1, reduceCtorEq] <;> rfl) ?_ ?_ | exact VLe.refl rfl | exact VLe.cap rfl (by rfl))))
  · exact ⟨rfl, znb _, hi⟩
  · rintro ⟨p, m, q, k⟩ ⟨hp, hm, hq⟩ K hK
    simp only at hp hm hq ⊢
    have gl := bw_len (c ++ p)
    have gt : (bw (c ++ p)).take (c ++ p).length = bw (c ++ p) := zla (by omega)
    have o1 := or_i m
    have d1 : ((m : Int)).fdiv 128 = (m : Int) / 128 := Int.fdiv_eq_ediv_of_nonneg _ (by omega)
    have hcl : (c ++ p).length ≤ 1000000000 := by rw [zl1]; have := congrArg List.length hp; rw [zl1] at this; omega
    by_cases hlt : m < 128
    · have q1 : decide ((m : Int) ≥ 128) = false := by rw [decide_eq_false_iff_not]; omega
      (repeat (first | (with_reducible refine oz (by constructor <;> decide) ?_) | ((with_reducible first | apply SC.condB | apply SC.region); (simp (disch := omega) only [go_sem, ↓reduceIte, zn1, zn2, zn3, reduceCtorEq, if_pos, if_neg, q1, gl, gt, zn8, zna, zl2, zl3, zl4] <;> rfl); (first | refine pickF ?_ | fail_if_success with_reducible refine pickA ?_))))
      refine retIQ_ret (.sl (k + 1) 0 (c.length + (num n).length) 1 none) [(k + 1, ⟨5, bw (c ++ num n), false⟩)] (k + 2) Tryz.results25 (by simp (disch := omega) only [go_sem, ↓reduceIte]; rfl) ⟨k + 1, by omega, rfl, rfl⟩ ?_
      have e1 : c ++ num n = c ++ p ++ [(m : Int)] := by rw [← hp, num_lt hlt, zl6]
      have e2 : c.length + (num n).length = (c ++ p).length + 1 := by rw [← zl1, e1, zl1]; rfl
      have e3 : bw (c ++ num n) = bw (c ++ p) ++ [.sc (.int .u8 m)] := by rw [e1, bw_app (c ++ p)]; rfl
      rw [e2, e3]
      (refine Le.slots ?_ ?_ ?_ <;> (repeat' (first | exact znb _ | exact leSl_nil | refine leSl_cons (by simp (disch := omega) only [go_sem, ↓reduceIte] <;> rfl) ?_ ?_ | exact VLe.refl rfl | (refine fun id k h => ?_; simp only [hget] at h ⊢; (repeat' (split at h)) <;> first | (cases h; done) | (simp (disch := omega) only [if_pos]; exact h)))))
    · have q1 : decide ((m : Int) ≥ 128) = true := by rw [decide_eq_true_iff]; omega
      (repeat (first | (with_reducible refine oz (by constructor <;> decide) ?_) | ((with_reducible first | apply SC.condB | apply SC.region); (simp (disch := omega) only [go_sem, ↓reduceIte, zn1, zn3, reduceCtorEq, zi1, if_pos, if_neg, q1, gl, gt, o1, zn8, zna, zl2, zl3, zl4] <;> rfl); (first | refine pickT ?_ | fail_if_success with_reducible refine pickA ?_))))
      have e0 : num m = ((m % 128 + 128 : Nat) : Int) :: num (m / 128) := num_ge hlt
      have e1 : c ++ (p ++ [((m : Int) % 128 + 128)]) = c ++ p ++ [((m : Int) % 128 + 128)] := (zl6 ..).symm
      have e2 : (c ++ (p ++ [((m : Int) % 128 + 128)])).length = (c ++ p).length + 1 := by rw [e1, zl1]; rfl
      have e3 : bw (c ++ (p ++ [((m : Int) % 128 + 128)])) = bw (c ++ p) ++ [.sc (.int .u8 ((m : Int) % 128 + 128))] := by rw [e1, bw_app (c ++ p)]; rfl
      refine hK _ (p ++ [((m : Int) % 128 + 128)], m / 128, k + 1, k + 2) ?_ ⟨?_, by simp only; omega, by simp only; omega⟩ (by simp only; omega)
      · simp only [e2, e3, Int.natCast_ediv]
        (refine Le.slots ?_ ?_ ?_ <;> (repeat' (first | exact znb _ | exact leSl_nil | refine leSl_cons (by simp (disch := omega) only [go_sem, ↓reduceIte, reduceCtorEq] <;> rfl) ?_ ?_ | exact VLe.refl rfl | (refine fun id k h => ?_; simp only [hget] at h ⊢; (repeat' (split at h)) <;> first | (cases h; done) | (simp (disch := omega) only [if_pos]; exact h)))))
      · simp only
        rw [← hp, e0, zl6]; rfl
def I64 (n : Int) : Prop := -9223372036854775808 ≤ n ∧ n < 9223372036854775808
def zig (n : Int) : Nat := if n < 0 then (2 * (-n - 1) + 1).toNat else (2 * n).toNat
theorem zig_lt {n : Int} (h : I64 n) : zig n < 18446744073709551616 := by unfold zig I64 at *; split <;> omega
def whl (n : Int) : List Int := num (zig n)
theorem whl_pos (n : Int) : 0 < (whl n).length := num_pos _
theorem whl_10 {n : Int} (h : I64 n) : (whl n).length ≤ 10 := num_10 (zig_lt h)
theorem bits_not64 {m : Nat} (hm : m < 18446744073709551616) : bits .xor .u64 (if IntKind.u64.signed = true then -1 else IntKind.u64.max) (m : Int) = ((18446744073709551615 - m : Nat) : Int) := by
  show IntKind.u64.wrap ((BitVec.ofInt 64 (18446744073709551615 : Int) ^^^ BitVec.ofInt 64 (m : Int)).toNat : Int) = _
  have e : BitVec.ofInt 64 (18446744073709551615 : Int) = BitVec.allOnes 64 := by decide
  rw [e, BitVec.allOnes_xor, BitVec.toNat_not, bv_i hm, IntKind.wrap_u64]; omega
theorem zneg {n : Int} (h : I64 n) (hn : n < 0) : bits .xor .u64 (if IntKind.u64.signed = true then -1 else IntKind.u64.max) (IntKind.u64.wrap (IntKind.u64.wrap n * 2 ^ min 1 64)) = ((zig n : Nat) : Int) := by
  unfold I64 at h
  have e1 : IntKind.u64.wrap (IntKind.u64.wrap n * 2 ^ min 1 64) = ((18446744073709551616 + 2 * n).toNat : Int) := by
    rw [show min 1 64 = 1 from rfl, IntKind.wrap_u64, IntKind.wrap_u64]; omega
  rw [e1, bits_not64 (by omega)]
  unfold zig; rw [if_pos hn]; omega
theorem zpos {n : Int} (h : I64 n) (hn : ¬ n < 0) : IntKind.u64.wrap (n * 2 ^ min 1 64) = ((zig n : Nat) : Int) := by
  unfold I64 at h
  rw [show min 1 64 = 1 from rfl, IntKind.wrap_u64]
  unfold zig; rw [if_neg hn]; omega
theorem zrneg {n : Int} (hn : n < 0) : 2 * (0 - (n + 1)) + 1 = ((zig n : Nat) : Int) := by unfold zig; rw [if_pos hn]; omega
theorem zrpos {n : Int} (hn : ¬ n < 0) : 2 * n = ((zig n : Nat) : Int) := by unfold zig; rw [if_neg hn]; omega
theorem rwhole_s {n : Int} (h : I64 n) : PutA 33 [.sc (.int .i64 n)] (whl n) := by
  refine PutA.of (whl_pos n) fun id c cap nx hc hi => ?_
  have c1 := rnumber_s (zig n) (zig_lt h) id c cap hc
  have h0 := h
  unfold I64 at h
  refine InlQ.run Tryz.func33 rfl Tryz.ntmps33 (by simp) (by simp (disch := omega) only [go_sem, zn4]; rfl) fun B hB => ?_
  by_cases hn : n < 0
  · have q1 : decide (n < 0) = true := decide_eq_true hn
    (repeat (first | (with_reducible refine oz (by constructor <;> decide) ?_) | ((with_reducible first | apply SC.condB | apply SC.region | apply SO.run); (simp (disch := omega) only [go_sem, ↓reduceIte, zn1, reduceCtorEq, q1] <;> rfl); (first | refine pickT ?_ | fail_if_success with_reducible refine pickA ?_)) | (with_reducible apply SC.ops)))
    rw [zrneg hn]
    (refine SO.callA Tab.go35 (by simp (disch := omega) only [go_sem, ↓reduceIte, zn1] <;> rfl) (by simp (disch := omega) only [go_sem] <;> rfl) (SApp.of (c1) (by simp (disch := omega) only [go_sem, ↓reduceIte] <;> rfl) rfl (by simp (disch := omega) only [go_sem, ↓reduceIte] <;> rfl) ?_))
    (repeat (first | (with_reducible refine oz (by constructor <;> decide) ?_) | ((with_reducible apply SO.run); (simp (disch := omega) only [go_sem, ↓reduceIte] <;> rfl); (fail_if_success with_reducible refine pickA ?_))))
    refine retIQ_ret (.sl nx 0 (c.length + (num (zig n)).length) 1 none) [(nx, ⟨5, bw (c ++ num (zig n)), false⟩)] (nx + 1) Tryz.results33 (by simp (disch := omega) only [go_sem, ↓reduceIte]; rfl) ⟨nx, by omega, rfl, rfl⟩ ?_
    (refine Le.slots ?_ ?_ ?_ <;> (repeat' (first | (exact fun _ _ h => h) | exact znb _ | exact leSl_nil | refine leSl_cons (by simp (disch := omega) only [go_sem, ↓reduceIte] <;> rfl) ?_ ?_ | exact VLe.refl rfl)))
  · have q1 : decide (n < 0) = false := decide_eq_false hn
    (repeat (first | (with_reducible refine oz (by constructor <;> decide) ?_) | ((with_reducible first | apply SC.condB | apply SC.region | apply SO.run); (simp (disch := omega) only [go_sem, ↓reduceIte, zn1, zn2, reduceCtorEq, q1] <;> rfl); (first | refine pickF ?_ | fail_if_success with_reducible refine pickA ?_)) | (with_reducible apply SC.ops)))
    rw [zrpos hn]
    (refine SO.callA Tab.go35 (by simp (disch := omega) only [go_sem, ↓reduceIte, zn1] <;> rfl) (by simp (disch := omega) only [go_sem, zn2] <;> rfl) (SApp.of (c1) (by simp (disch := omega) only [go_sem, ↓reduceIte] <;> rfl) rfl (by simp (disch := omega) only [go_sem, ↓reduceIte] <;> rfl) ?_))
    (repeat (first | (with_reducible refine oz (by constructor <;> decide) ?_) | ((with_reducible apply SO.run); (simp (disch := omega) only [go_sem, ↓reduceIte] <;> rfl); (fail_if_success with_reducible refine pickA ?_))))
    refine retIQ_ret (.sl nx 0 (c.length + (num (zig n)).length) 1 none) [(nx, ⟨5, bw (c ++ num (zig n)), false⟩)] (nx + 1) Tryz.results33 (by simp (disch := omega) only [go_sem, ↓reduceIte]; rfl) ⟨nx, by omega, rfl, rfl⟩ ?_
    (refine Le.slots ?_ ?_ ?_ <;> (repeat' (first | (exact fun _ _ h => h) | exact znb _ | exact leSl_nil | refine leSl_cons (by simp (disch := omega) only [go_sem, ↓reduceIte] <;> rfl) ?_ ?_ | exact VLe.refl rfl)))
theorem whole_s {n : Int} (h : I64 n) : PutA 22 [.sc (.int .i64 n)] (whl n) := by
  refine PutA.of (whl_pos n) fun id c cap nx hc hi => ?_
  have c1 := number_s (zig n) (zig_lt h) id c cap hc
  have h0 := h
  unfold I64 at h
  refine InlQ.run Tryz.func22 rfl Tryz.ntmps22 (by simp) (by simp (disch := omega) only [go_sem, zn4]; rfl) fun B hB => ?_
  by_cases hn : n < 0
  · have q1 : decide (n < 0) = true := decide_eq_true hn
    (repeat (first | (with_reducible refine oz (by constructor <;> decide) ?_) | ((with_reducible first | apply SC.condB | apply SC.region | apply SO.run); (simp (disch := omega) only [go_sem, ↓reduceIte, zn1, zn2, reduceCtorEq, zi1, if_neg, q1] <;> rfl); (first | refine pickT ?_ | fail_if_success with_reducible refine pickA ?_)) | (with_reducible apply SC.ops)))
    rw [zneg h0 hn]
    (refine SO.callA Tab.go25 (by simp (disch := omega) only [go_sem, ↓reduceIte, zn1] <;> rfl) (by simp (disch := omega) only [go_sem, zn2] <;> rfl) (SApp.of (c1) (by simp (disch := omega) only [go_sem, ↓reduceIte] <;> rfl) rfl (by simp (disch := omega) only [go_sem, ↓reduceIte] <;> rfl) ?_))
    (repeat (first | (with_reducible refine oz (by constructor <;> decide) ?_) | ((with_reducible apply SO.run); (simp (disch := omega) only [go_sem, ↓reduceIte] <;> rfl); (fail_if_success with_reducible refine pickA ?_))))
    refine retIQ_ret (.sl nx 0 (c.length + (num (zig n)).length) 1 none) [(nx, ⟨5, bw (c ++ num (zig n)), false⟩)] (nx + 1) Tryz.results22 (by simp (disch := omega) only [go_sem, ↓reduceIte]; rfl) ⟨nx, by omega, rfl, rfl⟩ ?_
    (refine Le.slots ?_ ?_ ?_ <;> (repeat' (first | (exact fun _ _ h => h) | exact znb _ | exact leSl_nil | refine leSl_cons (by simp (disch := omega) only [go_sem, ↓reduceIte] <;> rfl) ?_ ?_ | exact VLe.refl rfl)))
  · have q1 : decide (n < 0) = false := decide_eq_false hn
    (repeat (first | (with_reducible refine oz (by constructor <;> decide) ?_) | ((with_reducible first | apply SC.condB | apply SC.region | apply SO.run); (simp (disch := omega) only [go_sem, ↓reduceIte, zn1, zn2, reduceCtorEq, zi1, if_neg, q1] <;> rfl); (first | refine pickF ?_ | fail_if_success with_reducible refine pickA ?_)) | (with_reducible apply SC.ops)))
    rw [zpos h0 hn]
    (refine SO.callA Tab.go25 (by simp (disch := omega) only [go_sem, ↓reduceIte, zn1] <;> rfl) (by simp (disch := omega) only [go_sem, zn2] <;> rfl) (SApp.of (c1) (by simp (disch := omega) only [go_sem, ↓reduceIte] <;> rfl) rfl (by simp (disch := omega) only [go_sem, ↓reduceIte] <;> rfl) ?_))
    (repeat (first | (with_reducible refine oz (by constructor <;> decide) ?_) | ((with_reducible apply SO.run); (simp (disch := omega) only [go_sem, ↓reduceIte] <;> rfl); (fail_if_success with_reducible refine pickA ?_))))
    refine retIQ_ret (.sl nx 0 (c.length + (num (zig n)).length) 1 none) [(nx, ⟨5, bw (c ++ num (zig n)), false⟩)] (nx + 1) Tryz.results22 (by simp (disch := omega) only [go_sem, ↓reduceIte]; rfl) ⟨nx, by omega, rfl, rfl⟩ ?_
    (refine Le.slots ?_ ?_ ?_ <;> (repeat' (first | (exact fun _ _ h => h) | exact znb _ | exact leSl_nil | refine leSl_cons (by simp (disch := omega) only [go_sem, ↓reduceIte] <;> rfl) ?_ ?_ | exact VLe.refl rfl)))
def flg (x : Bool) : List Int := [if x then 1 else 0]
theorem flag_s (x : Bool) : PutA 32 [.sc (.bool x)] (flg x) := by
  refine PutA.of (by cases x <;> simp [flg]) fun id c cap nx hc hi => ?_
  have gl := bw_len c
  have gt : (bw c).take c.length = bw c := zla (by omega)
  have h1 : (flg x).length = 1 := rfl
  rw [h1] at hc
  refine InlQ.run Tryz.func32 rfl Tryz.ntmps32 (by simp) (by simp (disch := omega) only [go_sem, zn4]; rfl) fun B hB => ?_
  cases x
  · have e3 : bw (c ++ flg false) = bw c ++ [.sc (.int .u8 0)] := by rw [bw_app c]; rfl
    (repeat (first | (with_reducible refine oz (by constructor <;> decide) ?_) | ((with_reducible first | apply SC.condB | apply SC.region); (simp (disch := omega) only [go_sem, ↓reduceIte, zn1, zn2, zn3, reduceCtorEq, if_pos, if_neg, gl, gt, zn8, zna, zl2, zl3, zl4] <;> rfl); (first | refine pickF ?_ | fail_if_success with_reducible refine pickA ?_))))
    refine retIQ_ret (.sl (nx + 1) 0 (c.length + 1) 1 none) [(nx + 1, ⟨5, bw (c ++ flg false), false⟩)] (nx + 2) Tryz.results32 (by simp (disch := omega) only [go_sem, ↓reduceIte]; rfl) ⟨nx + 1, by omega, rfl, rfl⟩ ?_
    rw [e3]
    (refine Le.slots ?_ ?_ ?_ <;> (repeat' (first | exact znb _ | exact leSl_nil | refine leSl_cons (by simp (disch := omega) only [go_sem, ↓reduceIte] <;> rfl) ?_ ?_ | exact VLe.refl rfl | (refine fun id k h => ?_; simp only [hget] at h ⊢; (repeat' (split at h)) <;> first | (cases h; done) | (simp (disch := omega) only [if_pos]; exact h)))))
  · have e3 : bw (c ++ flg true) = bw c ++ [.sc (.int .u8 1)] := by rw [bw_app c]; rfl
    (repeat (first | (with_reducible refine oz (by constructor <;> decide) ?_) | ((with_reducible first | apply SC.condB | apply SC.region); (simp (disch := omega) only [go_sem, ↓reduceIte, zn1, zn3, reduceCtorEq, if_pos, if_neg, gl, gt, zn8, zna, zl2, zl3, zl4] <;> rfl); (first | refine pickT ?_ | fail_if_success with_reducible refine pickA ?_))))
    refine retIQ_ret (.sl (nx + 1) 0 (c.length + 1) 1 none) [(nx + 1, ⟨5, bw (c ++ flg true), false⟩)] (nx + 2) Tryz.results32 (by simp (disch := omega) only [go_sem, ↓reduceIte]; rfl) ⟨nx + 1, by omega, rfl, rfl⟩ ?_
    rw [e3]
    (refine Le.slots ?_ ?_ ?_ <;> (repeat' (first | exact znb _ | exact leSl_nil | refine leSl_cons (by simp (disch := omega) only [go_sem, ↓reduceIte] <;> rfl) ?_ ?_ | exact VLe.refl rfl | (refine fun id k h => ?_; simp only [hget] at h ⊢; (repeat' (split at h)) <;> first | (cases h; done) | (simp (disch := omega) only [if_pos]; exact h)))))
section
variable {P : Program}
def RdQ (P : Program) (f : Nat) (xs : List V) (kd kd' : Blk) (y : V) : Prop :=
  Only (fun _ => False) y ∧ kd'.cs.all clo = true ∧ ∀ k nx, k < nx → InlQ P f (.pt k 0 :: xs) [(k, kd)] nx (fun y' hp' nx' => y' = y ∧ hp' = [(k, kd')] ∧ nx' = nx)
theorem SInlQ.rd {B : Base} {s s' : SS} {ops : Array Oper} {l : List Oper} {cs : List Code} {Q : Exit → SS → Prop} {f k n : Nat} {xs : List V} {d : Option Nat} {kd kd' : Blk} {y : V} (h : RdQ P f xs kd kd' y) (hk : hget s.hp k = some kd) (hn : s.nx = n) (hlt : k < n) (hp : s.put d y (.set k kd') = s')
    (ho : SO P B ops l cs Q s') : SInlQ P B f (.pt k 0 :: xs) d ops l cs Q s := by
  subst hn; subst hp
  obtain ⟨h1, h2, h3⟩ := h
  refine ⟨[(k, kd)], _, fun id b hb => ?_, h3 k s.nx hlt, ?_⟩
  · simp only [hget] at hb
    split at hb
    · rename_i e; subst e; cases hb; exact hk
    · cases hb
  · rintro x hp' nx' ⟨rfl, rfl, rfl⟩
    refine ⟨h1.mono fun _ h => h.elim, ⟨fun z hz => Only.clo (List.all_eq_true.1 h2 z hz), trivial⟩, SO.weak (Le.less (fun id b hb => ?_) (znb _)) ho⟩
    rw [hget_app]
    simp only [Eff.heap, hget_hset] at hb
    by_cases e : id = k
    · subst e; rw [if_pos rfl, hk] at hb; cases hb; simp [hget]
    · rw [if_neg e] at hb
      have : hget [(k, kd')] id = none := by simp [hget, e]
      rw [this, hget_rest]
      have h0 : hasId [(k, kd)] id = false := by simp [hasId, e]
      rw [h0]; simpa using hb
theorem Only.same {f : Nat → Nat} {D : Nat → Prop} {x : V} (h : Only (fun _ => False) x) : VMap f D x x :=
  fun S rho A w v hx => ((hx.only h (A' := fun _ => False) (fun _ h => h.elim)).mono (fun _ h => ⟨h, rfl⟩) (fun _ h => h.elim))
def rdP (y : V) (k : Nat) (kd' : Blk) (nx : Nat) : V → List (Nat × Blk) → Nat → Prop := fun y' hp' nx' => y' = y ∧ hp' = [(k, kd')] ∧ nx' = nx
theorem rd_ret {B : Base} {s : SS} {fn : Func} {y : V} {k nx : Nat} {kd' : Blk} {rs : List ResultVar} (hB : B.Old nx) (hk : k < nx) (hy : Only (fun _ => False) y) (hc : kd'.cs.all clo = true) (hr : fn.results = rs.toArray) (h1 : resG P s rs = some y) (h2 : hget s.hp k = some kd') :
    retIQ P fn B (rdP y k kd' nx) .ret s := by
  refine retIQ_ret y [(k, kd')] nx hr h1 ⟨rfl, rfl, rfl⟩ (Le.map (fun i => i) (fun i => i < nx) hB (fun i hi => ⟨hi, rfl⟩) (fun i hi => hi) (fun i j _ _ e => e) ⟨hy.same, trivial⟩ fun i k' hk' hi => ?_)
  simp only [hget] at hk'
  split at hk'
  · rename_i e; subst e; cases hk'
    show BMap _ _ (hget s.hp i) kd'
    rw [h2]; exact BMap.clo hc
  · cases hk'
theorem rd_normal {B : Base} {s : SS} {fn : Func} {y : V} {k nx : Nat} {kd' : Blk} {rs : List ResultVar} (hB : B.Old nx) (hk : k < nx) (hy : Only (fun _ => False) y) (hc : kd'.cs.all clo = true) (hr : fn.results = rs.toArray) (h1 : resG P s rs = some y) (h2 : hget s.hp k = some kd') :
    retIQ P fn B (rdP y k kd' nx) .normal s := rd_ret hB hk hy hc hr h1 h2
end
structure Rd where
  at_ : Nat
  e : Nat
def rdB (b : List Int) (n : Nat) (s : Rd) : Blk := ⟨100, [.im (bw b) n, .sc (.int .i64 s.at_), .sc (.int .i64 s.e)], false⟩
theorem rdB_clo (b : List Int) (n : Nat) (s : Rd) : (rdB b n s).cs.all clo = true := rfl
def Rd.fail (s : Rd) (e : Nat) : Rd := if s.e = 0 then ⟨s.at_, e⟩ else s
def Rd.next (b : List Int) (n : Nat) (s : Rd) : Int × Rd := if s.e = 0 then (if s.at_ < n then (b.getD s.at_ 0, ⟨s.at_ + 1, 0⟩) else (0, ⟨s.at_, 5⟩)) else (0, s)
theorem fail_s (b : List Int) (n : Nat) (s : Rd) (e : Nat) : RdQ Tryz.prog 66 [.sc (.int .i64 e)] (rdB b n s) (rdB b n (s.fail e)) (.tu []) := by
  refine ⟨.tu fun x hx => (by cases hx), rdB_clo _ _ _, fun k nx hk => ?_⟩
  refine InlQ.run Tryz.func66 rfl Tryz.ntmps66 (by simp) (by simp only [go_sem, zn4]; rfl) fun B hB => ?_
  obtain ⟨a, e0⟩ := s
  unfold rdB Rd.fail
  by_cases h : e0 = 0
  · subst h
    (repeat (first | (with_reducible refine oz (by constructor <;> decide) ?_) | ((with_reducible first | apply SC.condB | apply SC.region); (simp only [go_sem, ↓reduceIte, zn1, zn2, zn3, zn4, reduceCtorEq] <;> rfl); (first | refine pickT ?_ | fail_if_success with_reducible refine pickA ?_))))
    exact rd_normal hB hk (.tu fun x hx => (by cases hx)) rfl Tryz.results66 rfl (by simp only [go_sem, ↓reduceIte] <;> rfl)
  · have q1 : ((e0 : Int) == 0) = false := by rw [beq_eq_false_iff_ne]; omega
    simp only [h]
    (repeat (first | (with_reducible refine oz (by constructor <;> decide) ?_) | ((with_reducible first | apply SC.condB | apply SC.region); (simp (disch := omega) only [go_sem, ↓reduceIte, reduceCtorEq, q1] <;> rfl); (first | refine pickF ?_ | fail_if_success with_reducible refine pickA ?_))))
    exact rd_normal hB hk (.tu fun x hx => (by cases hx)) rfl Tryz.results66 rfl (by simp only [go_sem, ↓reduceIte] <;> rfl)
theorem onlySc {v : Value} : Only (fun _ => False) (.sc v) := .sc v
theorem next_s (b : List Int) (n : Nat) (s : Rd) (hn : n ≤ b.length) (hb : n ≤ 1000000000) : RdQ Tryz.prog 74 [] (rdB b n s) (rdB b n (s.next b n).2) (.sc (.int .u8 (s.next b n).1)) := by
  refine ⟨onlySc, rdB_clo _ _ _, fun k nx hk => ?_⟩
  refine InlQ.run Tryz.func74 rfl Tryz.ntmps74 (by simp) (by simp only [go_sem]; rfl) fun B hB => ?_
  have c5 := fail_s b n s 5
  have gl := bw_len b
  obtain ⟨a, e0⟩ := s
  unfold rdB Rd.next
  unfold rdB Rd.fail at c5
  by_cases h : e0 = 0
  · subst h
    by_cases ha : a < n
    · have q1 : decide ((a : Int) ≥ (n : Int)) = false := by rw [decide_eq_false_iff_not]; omega
      have gx := bw_get (l := b) (i := a) (by omega)
      have x0 : ((a : Int)).toNat = a := rfl
      have x1 : (a : Int) + 1 - 1 = (a : Int) := by omega
      simp only [ha, if_true]
      (repeat (first | refine DO.nil (by kernel_rfl) ?_ | (with_reducible refine oz (by constructor <;> decide) ?_) | ((with_reducible first | apply SC.condB | apply SC.region | apply DO.run); (simp (disch := omega) only [go_sem, ↓reduceIte, zn1, zn2, zn3, zn4, reduceCtorEq, if_pos, q1, gx, x0, x1, zl5, Nat.add_zero, zn8] <;> rfl); (first | refine pickF ?_ | fail_if_success with_reducible refine pickA ?_)) | ((with_reducible refine SC.draw Tab.mixed ?_ ?_); (simp (disch := omega) only [go_sem, if_pos]))))
      exact rd_ret hB hk onlySc rfl Tryz.results74 (by simp (disch := omega) only [go_sem, ↓reduceIte] <;> rfl) (by simp (disch := omega) only [go_sem, ↓reduceIte] <;> rfl)
    · have q1 : decide ((a : Int) ≥ (n : Int)) = true := by rw [decide_eq_true_iff]; omega
      simp only [ha, if_true, if_false] at c5 ⊢
      (repeat (first | refine DO.nil (by kernel_rfl) ?_ | (with_reducible refine oz (by constructor <;> decide) ?_) | ((with_reducible first | apply wa | apply wb | apply wc | apply wd); (simp (disch := omega) only [go_sem, ↓reduceIte, zn1, reduceCtorEq, q1] <;> rfl); (first | refine pT ?_ | refine pF ?_ | fail_if_success with_reducible refine pA ?_)) | ((with_reducible refine SC.draw Tab.mixed ?_ ?_); (simp (disch := omega) only [go_sem, if_pos])) | (with_reducible apply SC.ops)))
      (refine SO.inlQ (by simp (disch := omega) only [go_sem] <;> rfl) Tab.go66 (by simp (disch := omega) only [go_sem, ↓reduceIte] <;> rfl) (by simp (disch := omega) only [go_sem] <;> rfl) (SInlQ.rd (c5) (by simp (disch := omega) only [go_sem, ↓reduceIte] <;> rfl) rfl (by omega) (by simp (disch := omega) only [go_sem, ↓reduceIte] <;> rfl) ?_))
      (repeat (first | (with_reducible refine oz (by constructor <;> decide) ?_) | ((with_reducible apply SC.region); (simp only [go_sem, ↓reduceIte] <;> rfl); (fail_if_success with_reducible refine pickA ?_))))
      exact rd_ret hB hk onlySc rfl Tryz.results74 (by simp only [go_sem, ↓reduceIte] <;> rfl) (by simp only [go_sem, ↓reduceIte] <;> rfl)
  · have q1 : ((e0 : Int) != 0) = true := by rw [bne_iff_ne]; omega
    simp only [h, if_false]
    (repeat (first | (with_reducible refine oz (by constructor <;> decide) ?_) | ((with_reducible first | apply SC.condB | apply SC.region); (simp (disch := omega) only [go_sem, ↓reduceIte, reduceCtorEq, q1] <;> rfl); (first | refine pickT ?_ | fail_if_success with_reducible refine pickA ?_))))
    exact rd_ret hB hk onlySc rfl Tryz.results74 (by simp only [go_sem, ↓reduceIte] <;> rfl) (by simp only [go_sem, ↓reduceIte] <;> rfl)
def U8s (b : List Int) : Prop := ∀ x ∈ b, 0 ≤ x ∧ x < 256
def badN (i : Nat) (x : Int) : Prop := (i = 9 ∧ x > 1) ∨ (i > 0 ∧ x = 0)
instance (i : Nat) (x : Int) : Decidable (badN i x) := by unfold badN; exact inferInstance
def Rd.numR (b : List Int) (n : Nat) : Nat → Nat → Nat → Rd → Nat × Rd
  | 0, _, acc, s => (acc, s)
  | f + 1, i, acc, s =>
    let x := (s.next b n).1
    let s2 := if badN i x then (s.next b n).2.fail 4 else (s.next b n).2
    let acc' := acc + x.toNat % 128 * 128 ^ i
    if x < 128 then (acc', s2) else if s2.e = 0 then Rd.numR b n f (i + 1) acc' s2 else (acc', s2)
def outR (r : Nat × Rd) : Nat × Rd := if r.2.e = 0 then r else (0, r.2)
def Rd.number (b : List Int) (n : Nat) (s : Rd) : Nat × Rd := if s.e = 0 then outR (Rd.numR b n 10 0 0 s) else (0, s)
theorem next_u8 {b : List Int} (n : Nat) (s : Rd) (hu : U8s b) (hn : n ≤ b.length) : 0 ≤ (s.next b n).1 ∧ (s.next b n).1 < 256 := by
  unfold Rd.next
  split
  · split
    · rename_i h
      have : b.getD s.at_ 0 ∈ b := by simp [List.getD, show s.at_ < b.length by omega]
      exact hu _ this
    · simp
  · simp
theorem and127 {x : Int} (h0 : 0 ≤ x) (h1 : x < 256) : bits .and .u8 x 127 = ((x.toNat % 128 : Nat) : Int) := by
  have h := bits_and8 (m := x.toNat) (n := 127) (by omega) (by omega)
  have e : x.toNat &&& 127 = x.toNat % 128 := by
    have := Nat.and_two_pow_sub_one_eq_mod x.toNat 7
    simpa using this
  rw [e] at h
  rw [Int.toNat_of_nonneg h0] at h
  exact h
theorem numR_step {b : List Int} {n : Nat} (f i acc : Nat) {s : Rd} {x : Int} {s2 : Rd} (h : s.next b n = (x, s2)) : Rd.numR b n (f + 1) i acc s = (if x < 128 then (acc + x.toNat % 128 * 128 ^ i, if badN i x then s2.fail 4 else s2) else if (if badN i x then s2.fail 4 else s2).e = 0 then Rd.numR b n f (i + 1) (acc + x.toNat % 128 * 128 ^ i) (if badN i x then s2.fail 4 else s2) else (acc + x.toNat % 128 * 128 ^ i, if badN i x then s2.fail 4 else s2)) := by
  rw [Rd.numR, h]
theorem fail_ne (s : Rd) : (s.fail 4).e ≠ 0 := by
  unfold Rd.fail
  split
  · simp
  · assumption
theorem next_e {b : List Int} {n : Nat} {s : Rd} {x : Int} {s2 : Rd} (h : s.next b n = (x, s2)) (he : s.e = 0) (hx : x ≠ 0) : s2.e = 0 := by
  unfold Rd.next at h
  rw [if_pos he] at h
  split at h
  · injection h with h1 h2; rw [← h2]
  · injection h with h1 h2; exact absurd h1.symm hx
theorem shlor {a m i : Nat} (ha : a < 128 ^ i) (hi : i ≤ 9) (hm : m < 128) (hm9 : i = 9 → m ≤ 1) : bits .or .u64 (a : Int) (IntKind.u64.wrap (((m : Nat) : Int) * 2 ^ min (7 * (i : Int)).toNat 64)) = ((a + m * 128 ^ i : Nat) : Int) := by
  have e1 : min (7 * (i : Int)).toNat 64 = 7 * i := by omega
  have e2 : (2 : Nat) ^ (7 * i) = 128 ^ i := by rw [Nat.pow_mul]
  have h8 : i ≤ 8 → (128 : Nat) ^ i ≤ 128 ^ 8 := fun h => Nat.pow_le_pow_right (by omega) h
  have c8 : (128 : Nat) ^ 8 = 72057594037927936 := by decide
  have c9 : (128 : Nat) ^ 9 = 9223372036854775808 := by decide
  have hb : m * 128 ^ i < 18446744073709551616 := by
    by_cases h : i = 9
    · have := hm9 h; subst h; rw [c9]; omega
    · have h1 := h8 (by omega)
      rw [c8] at h1
      have := Nat.mul_le_mul (by omega : m ≤ 127) h1
      omega
  have hb2 : 128 ^ i ≤ 9223372036854775808 := by rw [← c9]; exact Nat.pow_le_pow_right (by omega) hi
  have e3 : IntKind.u64.wrap (((m : Nat) : Int) * 2 ^ min (7 * (i : Int)).toNat 64) = ((m * 128 ^ i : Nat) : Int) := by
    rw [e1, IntKind.wrap_u64]
    have : ((m : Nat) : Int) * 2 ^ (7 * i) = ((m * 128 ^ i : Nat) : Int) := by rw [← e2]; push_cast; rfl
    rw [this]; omega
  rw [e3, bits_or64 (by omega) hb]
  have h1 := Nat.shiftLeft_add_eq_or_of_lt (i := 7 * i) (b := a) (by rw [e2]; exact ha) m
  rw [Nat.shiftLeft_eq, e2] at h1
  rw [Nat.or_comm, ← h1, Nat.add_comm]
theorem acc_lt {a m i : Nat} (ha : a < 128 ^ i) (hm : m < 128) : a + m * 128 ^ i < 128 ^ (i + 1) := by
  have := Nat.mul_le_mul_right (128 ^ i) (by omega : m ≤ 127)
  rw [Nat.pow_succ]; omega
set_option maxHeartbeats 8000000 in
theorem rnum_s (b : List Int) (n : Nat) (s : Rd) (hu : U8s b) (hn : n ≤ b.length) (hb : n ≤ 1000000000) : RdQ Tryz.prog 59 [] (rdB b n s) (rdB b n (s.number b n).2) (.sc (.int .u64 (s.number b n).1)) := by
  refine ⟨onlySc, rdB_clo _ _ _, fun k nx hk => ?_⟩
  refine InlQ.run Tryz.func59 rfl Tryz.ntmps59 (by simp) (by simp only [go_sem]; rfl) fun B hB => ?_
  (repeat (first | (with_reducible refine oz (by constructor <;> decide) ?_) | ((with_reducible apply SC.region); (simp only [go_sem, ↓reduceIte] <;> rfl); (fail_if_success with_reducible refine pickA ?_))))
  refine SC.loop (fun x : Nat × Int × Rd => ⟨[(0, .pt k 0), (3, .sc (.int .u64 x.2.1)), (4, .sc (.int .i64 x.1))], [(k, rdB b n x.2.2)], nx, 47⟩)
    (fun x => (x.2.2.e = 0 ∧ x.1 ≤ 9 ∧ (∃ a : Nat, x.2.1 = a ∧ a < 128 ^ x.1 ∧ outR (Rd.numR b n (10 - x.1) x.1 a x.2.2) = s.number b n)) ∨ (x.2.2.e ≠ 0 ∧ (0, x.2.2) = s.number b n)) (fun x => if x.2.2.e = 0 then 11 - x.1 else 0) (0, 0, s) ?_ ?_ ?_
  · (refine Le.slots ?_ ?_ ?_ <;> (repeat' (first | (exact fun _ _ h => h) | exact znb _ | exact leSl_nil | refine leSl_cons (by simp only [go_sem, ↓reduceIte, zn1, reduceCtorEq] <;> rfl) ?_ ?_ | exact VLe.refl rfl)))
  · by_cases h : s.e = 0
    · exact .inl ⟨h, by simp, 0, rfl, by simp, by unfold Rd.number; rw [if_pos h]; rfl⟩
    · exact .inr ⟨h, by unfold Rd.number; rw [if_neg h]⟩
  · rintro ⟨i, acc, s1⟩ hI K hK
    simp only at hI hK ⊢
    rcases hI with ⟨he, hi, a, rfl, ha2, hr⟩ | ⟨he, hr⟩
    · obtain ⟨x, s2, hs⟩ : ∃ x s2, s1.next b n = (x, s2) := ⟨_, _, rfl⟩
      have c1 := next_s b n s1 hn hb
      have hx := next_u8 n s1 hu hn
      rw [hs] at c1 hx
      (try simp only at c1); (try simp only at hx)
      have q0 : ((s1.e : Int) == 0) = true := by rw [he]; rfl
      have e10 : 10 - i = (9 - i) + 1 := by omega
      rw [e10, numR_step _ _ _ hs] at hr
      have ga := and127 hx.1 hx.2
      have hm : x.toNat % 128 < 128 := Nat.mod_lt _ (by omega)
      have cf := fail_s b n s2 4
      have hfe := fail_ne s2
      generalize s2.fail 4 = s3 at *
      generalize hac : a + x.toNat % 128 * 128 ^ i = a' at *
      by_cases h9 : i = 9
      · have q1 : ((i : Int) == 9) = true := by rw [h9]; rfl
        have q3 : decide ((i : Int) > 0) = true := by rw [decide_eq_true_iff]; omega
        by_cases h1 : x > 1
        · have q2 : decide (x > 1) = true := decide_eq_true h1
          by_cases h128 : x < 128
          · have hb : badN i x := by unfold badN; omega
            rw [if_pos hb] at hr
            rw [if_pos h128] at hr
            have q5 : decide (x < 128) = true := decide_eq_true h128
            unfold rdB at c1 cf ⊢
            (repeat (first | (with_reducible refine oz (by constructor <;> decide) ?_) | ((with_reducible first | apply SC.condB | apply SC.region | apply SO.run); (simp (disch := omega) only [go_sem, ↓reduceIte, reduceCtorEq, q0] <;> rfl); (first | refine pickT ?_ | fail_if_success with_reducible refine pickA ?_)) | (with_reducible apply SC.ops)))
            (refine SO.inlQ (by simp (disch := omega) only [go_sem] <;> rfl) Tab.go74 (by simp (disch := omega) only [go_sem, ↓reduceIte] <;> rfl) (by simp (disch := omega) only [go_sem] <;> rfl) (SInlQ.rd (c1) (by simp (disch := omega) only [go_sem, ↓reduceIte] <;> rfl) rfl (by omega) (by simp (disch := omega) only [go_sem, ↓reduceIte] <;> rfl) ?_))
            (repeat (first | (with_reducible refine oz (by constructor <;> decide) ?_) | ((with_reducible first | apply SC.condB | apply SC.region | apply SO.run); (simp only [go_sem, ↓reduceIte, zn1, reduceCtorEq, q1, q2] <;> rfl); (first | refine pickT ?_ | fail_if_success with_reducible refine pickA ?_)) | (with_reducible apply SC.ops)))
            (refine SO.inlQ (by simp (disch := omega) only [go_sem] <;> rfl) Tab.go66 (by simp (disch := omega) only [go_sem, ↓reduceIte] <;> rfl) (by simp (disch := omega) only [go_sem] <;> rfl) (SInlQ.rd (cf) (by simp (disch := omega) only [go_sem, ↓reduceIte] <;> rfl) rfl (by omega) (by simp (disch := omega) only [go_sem, ↓reduceIte] <;> rfl) ?_))
            (repeat (first | (with_reducible refine oz (by constructor <;> decide) ?_) | ((with_reducible first | apply SC.condB | apply SC.region); (simp (disch := omega) only [go_sem, ↓reduceIte, zn1, reduceCtorEq, if_neg, q5, ga] <;> rfl); (first | refine pickT ?_ | fail_if_success with_reducible refine pickA ?_))))
            have hfin : s.number b n = (0, s3) := by rw [← hr]; unfold outR; rw [if_neg hfe]
            have q6 : ((s3.e : Int) != 0) = true := by rw [bne_iff_ne]; omega
            rw [hfin]
            (repeat (first | (with_reducible refine oz (by constructor <;> decide) ?_) | ((with_reducible first | apply SC.condB | apply SC.region); (simp only [go_sem, ↓reduceIte, q6] <;> rfl); (first | refine pickT ?_ | fail_if_success with_reducible refine pickA ?_))))
            exact rd_ret hB hk onlySc rfl Tryz.results59 (by simp only [go_sem, ↓reduceIte] <;> rfl) (by simp only [go_sem, ↓reduceIte] <;> rfl)
          · have hb : badN i x := by unfold badN; omega
            rw [if_pos hb] at hr
            rw [if_neg h128] at hr
            have q5 : decide (x < 128) = false := decide_eq_false h128
            unfold rdB at c1 cf ⊢
            (repeat (first | (with_reducible refine oz (by constructor <;> decide) ?_) | ((with_reducible first | apply SC.condB | apply SC.region | apply SO.run); (simp (disch := omega) only [go_sem, ↓reduceIte, reduceCtorEq, q0] <;> rfl); (first | refine pickT ?_ | fail_if_success with_reducible refine pickA ?_)) | (with_reducible apply SC.ops)))
            (refine SO.inlQ (by simp (disch := omega) only [go_sem] <;> rfl) Tab.go74 (by simp (disch := omega) only [go_sem, ↓reduceIte] <;> rfl) (by simp (disch := omega) only [go_sem] <;> rfl) (SInlQ.rd (c1) (by simp (disch := omega) only [go_sem, ↓reduceIte] <;> rfl) rfl (by omega) (by simp (disch := omega) only [go_sem, ↓reduceIte] <;> rfl) ?_))
            (repeat (first | (with_reducible refine oz (by constructor <;> decide) ?_) | ((with_reducible first | apply SC.condB | apply SC.region | apply SO.run); (simp only [go_sem, ↓reduceIte, zn1, reduceCtorEq, q1, q2] <;> rfl); (first | refine pickT ?_ | fail_if_success with_reducible refine pickA ?_)) | (with_reducible apply SC.ops)))
            (refine SO.inlQ (by simp (disch := omega) only [go_sem] <;> rfl) Tab.go66 (by simp (disch := omega) only [go_sem, ↓reduceIte] <;> rfl) (by simp (disch := omega) only [go_sem] <;> rfl) (SInlQ.rd (cf) (by simp (disch := omega) only [go_sem, ↓reduceIte] <;> rfl) rfl (by omega) (by simp (disch := omega) only [go_sem, ↓reduceIte] <;> rfl) ?_))
            (repeat (first | (with_reducible refine oz (by constructor <;> decide) ?_) | ((with_reducible first | apply SC.condB | apply SC.region); (simp (disch := omega) only [go_sem, ↓reduceIte, zn1, reduceCtorEq, if_neg, q5, ga] <;> rfl); (first | refine pickF ?_ | fail_if_success with_reducible refine pickA ?_))))
            rw [if_neg hfe] at hr
            refine hK _ (i + 1, bits .or .u64 (a : Int) (IntKind.u64.wrap (((x.toNat % 128 : Nat) : Int) * 2 ^ min (7 * (i : Int)).toNat 64)), s3) ?_ (.inr ⟨hfe, by rw [← hr]; unfold outR; rw [if_neg hfe]⟩) (by simp only; rw [if_neg hfe, if_pos he]; omega)
            unfold rdB
            (refine Le.slots ?_ ?_ ?_ <;> (repeat' (first | (exact fun _ _ h => h) | exact znb _ | exact leSl_nil | refine leSl_cons (by simp only [go_sem, ↓reduceIte, zn1, reduceCtorEq] <;> rfl) ?_ ?_ | exact VLe.refl rfl)))
        · have q2 : decide (x > 1) = false := decide_eq_false h1
          have h128 : x < 128 := by omega
          by_cases h0 : x = 0
          · have q4 : (x == 0) = true := by rw [h0]; rfl
            have hb : badN i x := by unfold badN; omega
            rw [if_pos hb] at hr
            rw [if_pos h128] at hr
            have q5 : decide (x < 128) = true := decide_eq_true h128
            unfold rdB at c1 cf ⊢
            (repeat (first | (with_reducible refine oz (by constructor <;> decide) ?_) | ((with_reducible first | apply SC.condB | apply SC.region | apply SO.run); (simp (disch := omega) only [go_sem, ↓reduceIte, reduceCtorEq, q0] <;> rfl); (first | refine pickT ?_ | fail_if_success with_reducible refine pickA ?_)) | (with_reducible apply SC.ops)))
            (refine SO.inlQ (by simp (disch := omega) only [go_sem] <;> rfl) Tab.go74 (by simp (disch := omega) only [go_sem, ↓reduceIte] <;> rfl) (by simp (disch := omega) only [go_sem] <;> rfl) (SInlQ.rd (c1) (by simp (disch := omega) only [go_sem, ↓reduceIte] <;> rfl) rfl (by omega) (by simp (disch := omega) only [go_sem, ↓reduceIte] <;> rfl) ?_))
            (repeat (first | (with_reducible refine oz (by constructor <;> decide) ?_) | ((with_reducible first | apply SC.condB | apply SC.region | apply SO.run); (simp only [go_sem, ↓reduceIte, zn1, reduceCtorEq, q1, q2, q3, q4] <;> rfl); (first | refine pickT ?_ | fail_if_success with_reducible refine pickA ?_)) | (with_reducible apply SC.ops)))
            (refine SO.inlQ (by simp (disch := omega) only [go_sem] <;> rfl) Tab.go66 (by simp (disch := omega) only [go_sem, ↓reduceIte] <;> rfl) (by simp (disch := omega) only [go_sem] <;> rfl) (SInlQ.rd (cf) (by simp (disch := omega) only [go_sem, ↓reduceIte] <;> rfl) rfl (by omega) (by simp (disch := omega) only [go_sem, ↓reduceIte] <;> rfl) ?_))
            (repeat (first | (with_reducible refine oz (by constructor <;> decide) ?_) | ((with_reducible first | apply SC.condB | apply SC.region); (simp (disch := omega) only [go_sem, ↓reduceIte, zn1, reduceCtorEq, if_neg, q5, ga] <;> rfl); (first | refine pickT ?_ | fail_if_success with_reducible refine pickA ?_))))
            have hfin : s.number b n = (0, s3) := by rw [← hr]; unfold outR; rw [if_neg hfe]
            have q6 : ((s3.e : Int) != 0) = true := by rw [bne_iff_ne]; omega
            rw [hfin]
            (repeat (first | (with_reducible refine oz (by constructor <;> decide) ?_) | ((with_reducible first | apply SC.condB | apply SC.region); (simp only [go_sem, ↓reduceIte, q6] <;> rfl); (first | refine pickT ?_ | fail_if_success with_reducible refine pickA ?_))))
            exact rd_ret hB hk onlySc rfl Tryz.results59 (by simp only [go_sem, ↓reduceIte] <;> rfl) (by simp only [go_sem, ↓reduceIte] <;> rfl)
          · have q4 : (x == 0) = false := by rw [beq_eq_false_iff_ne]; omega
            have hb : ¬ badN i x := by unfold badN; omega
            rw [if_neg hb] at hr
            have oo := shlor (m := x.toNat % 128) ha2 hi hm (by omega)
            rw [hac] at oo
            rw [if_pos h128] at hr
            have q5 : decide (x < 128) = true := decide_eq_true h128
            unfold rdB at c1 cf ⊢
            (repeat (first | (with_reducible refine oz (by constructor <;> decide) ?_) | ((with_reducible first | apply SC.condB | apply SC.region | apply SO.run); (simp (disch := omega) only [go_sem, ↓reduceIte, reduceCtorEq, q0] <;> rfl); (first | refine pickT ?_ | fail_if_success with_reducible refine pickA ?_)) | (with_reducible apply SC.ops)))
            (refine SO.inlQ (by simp (disch := omega) only [go_sem] <;> rfl) Tab.go74 (by simp (disch := omega) only [go_sem, ↓reduceIte] <;> rfl) (by simp (disch := omega) only [go_sem] <;> rfl) (SInlQ.rd (c1) (by simp (disch := omega) only [go_sem, ↓reduceIte] <;> rfl) rfl (by omega) (by simp (disch := omega) only [go_sem, ↓reduceIte] <;> rfl) ?_))
            (repeat (first | (with_reducible refine oz (by constructor <;> decide) ?_) | ((with_reducible first | apply SC.condB | apply SC.region | apply SO.run); (simp (disch := omega) only [go_sem, ↓reduceIte, zn1, reduceCtorEq, if_neg, q1, q2, q3, q4, oo, q5, ga] <;> rfl); (first | refine pT ?_ | refine pF ?_ | fail_if_success with_reducible refine pA ?_))))
            by_cases h2 : s2.e = 0
            · have hfin : s.number b n = (a', s2) := by rw [← hr]; unfold outR; rw [if_pos h2]
              have q6 : ((s2.e : Int) != 0) = false := by rw [h2]; rfl
              rw [hfin]
              (repeat (first | (with_reducible refine oz (by constructor <;> decide) ?_) | ((with_reducible first | apply SC.condB | apply SC.region); (simp (disch := omega) only [go_sem, ↓reduceIte, zn1, zn2, q6] <;> rfl); (first | refine pickF ?_ | fail_if_success with_reducible refine pickA ?_))))
              exact rd_ret hB hk onlySc rfl Tryz.results59 (by simp (disch := omega) only [go_sem, ↓reduceIte] <;> rfl) (by simp (disch := omega) only [go_sem, ↓reduceIte] <;> rfl)
            · have hfin : s.number b n = (0, s2) := by rw [← hr]; unfold outR; rw [if_neg h2]
              have q6 : ((s2.e : Int) != 0) = true := by rw [bne_iff_ne]; omega
              rw [hfin]
              (repeat (first | (with_reducible refine oz (by constructor <;> decide) ?_) | ((with_reducible first | apply SC.condB | apply SC.region); (simp (disch := omega) only [go_sem, ↓reduceIte, q6] <;> rfl); (first | refine pickT ?_ | fail_if_success with_reducible refine pickA ?_))))
              exact rd_ret hB hk onlySc rfl Tryz.results59 (by simp (disch := omega) only [go_sem, ↓reduceIte] <;> rfl) (by simp (disch := omega) only [go_sem, ↓reduceIte] <;> rfl)
      · have q1 : ((i : Int) == 9) = false := by rw [beq_eq_false_iff_ne]; omega
        by_cases hi0 : i = 0
        · have q3 : decide ((i : Int) > 0) = false := by rw [decide_eq_false_iff_not]; omega
          by_cases h128 : x < 128
          · have hb : ¬ badN i x := by unfold badN; omega
            rw [if_neg hb] at hr
            have oo := shlor (m := x.toNat % 128) ha2 hi hm (by omega)
            rw [hac] at oo
            rw [if_pos h128] at hr
            have q5 : decide (x < 128) = true := decide_eq_true h128
            unfold rdB at c1 cf ⊢
            (repeat (first | (with_reducible refine oz (by constructor <;> decide) ?_) | ((with_reducible first | apply SC.condB | apply SC.region | apply SO.run); (simp (disch := omega) only [go_sem, ↓reduceIte, reduceCtorEq, q0] <;> rfl); (first | refine pickT ?_ | fail_if_success with_reducible refine pickA ?_)) | (with_reducible apply SC.ops)))
            (refine SO.inlQ (by simp (disch := omega) only [go_sem] <;> rfl) Tab.go74 (by simp (disch := omega) only [go_sem, ↓reduceIte] <;> rfl) (by simp (disch := omega) only [go_sem] <;> rfl) (SInlQ.rd (c1) (by simp (disch := omega) only [go_sem, ↓reduceIte] <;> rfl) rfl (by omega) (by simp (disch := omega) only [go_sem, ↓reduceIte] <;> rfl) ?_))
            (repeat (first | (with_reducible refine oz (by constructor <;> decide) ?_) | ((with_reducible first | apply SC.condB | apply SC.region | apply SO.run); (simp (disch := omega) only [go_sem, ↓reduceIte, zn1, reduceCtorEq, if_neg, q1, q3, oo, q5, ga] <;> rfl); (first | refine pT ?_ | refine pF ?_ | fail_if_success with_reducible refine pA ?_))))
            by_cases h2 : s2.e = 0
            · have hfin : s.number b n = (a', s2) := by rw [← hr]; unfold outR; rw [if_pos h2]
              have q6 : ((s2.e : Int) != 0) = false := by rw [h2]; rfl
              rw [hfin]
              (repeat (first | (with_reducible refine oz (by constructor <;> decide) ?_) | ((with_reducible first | apply SC.condB | apply SC.region); (simp (disch := omega) only [go_sem, ↓reduceIte, zn1, zn2, q6] <;> rfl); (first | refine pickF ?_ | fail_if_success with_reducible refine pickA ?_))))
              exact rd_ret hB hk onlySc rfl Tryz.results59 (by simp (disch := omega) only [go_sem, ↓reduceIte] <;> rfl) (by simp (disch := omega) only [go_sem, ↓reduceIte] <;> rfl)
            · have hfin : s.number b n = (0, s2) := by rw [← hr]; unfold outR; rw [if_neg h2]
              have q6 : ((s2.e : Int) != 0) = true := by rw [bne_iff_ne]; omega
              rw [hfin]
              (repeat (first | (with_reducible refine oz (by constructor <;> decide) ?_) | ((with_reducible first | apply SC.condB | apply SC.region); (simp (disch := omega) only [go_sem, ↓reduceIte, q6] <;> rfl); (first | refine pickT ?_ | fail_if_success with_reducible refine pickA ?_))))
              exact rd_ret hB hk onlySc rfl Tryz.results59 (by simp (disch := omega) only [go_sem, ↓reduceIte] <;> rfl) (by simp (disch := omega) only [go_sem, ↓reduceIte] <;> rfl)
          · have hb : ¬ badN i x := by unfold badN; omega
            rw [if_neg hb] at hr
            have oo := shlor (m := x.toNat % 128) ha2 hi hm (by omega)
            rw [hac] at oo
            rw [if_neg h128] at hr
            have q5 : decide (x < 128) = false := decide_eq_false h128
            unfold rdB at c1 cf ⊢
            (repeat (first | (with_reducible refine oz (by constructor <;> decide) ?_) | ((with_reducible first | apply SC.condB | apply SC.region | apply SO.run); (simp (disch := omega) only [go_sem, ↓reduceIte, reduceCtorEq, q0] <;> rfl); (first | refine pickT ?_ | fail_if_success with_reducible refine pickA ?_)) | (with_reducible apply SC.ops)))
            (refine SO.inlQ (by simp (disch := omega) only [go_sem] <;> rfl) Tab.go74 (by simp (disch := omega) only [go_sem, ↓reduceIte] <;> rfl) (by simp (disch := omega) only [go_sem] <;> rfl) (SInlQ.rd (c1) (by simp (disch := omega) only [go_sem, ↓reduceIte] <;> rfl) rfl (by omega) (by simp (disch := omega) only [go_sem, ↓reduceIte] <;> rfl) ?_))
            (repeat (first | (with_reducible refine oz (by constructor <;> decide) ?_) | ((with_reducible first | apply SC.condB | apply SC.region | apply SO.run); (simp (disch := omega) only [go_sem, ↓reduceIte, zn1, reduceCtorEq, if_neg, q1, q3, oo, q5, ga] <;> rfl); (first | refine pickF ?_ | fail_if_success with_reducible refine pickA ?_))))
            have h2 : s2.e = 0 := next_e hs he (by omega)
            rw [if_pos h2] at hr
            refine hK _ (i + 1, (a' : Int), s2) ?_ (.inl ⟨h2, by simp only; omega, a', rfl, by rw [← hac]; exact acc_lt ha2 hm, by rw [← hr, show 10 - (i + 1) = 9 - i by omega]⟩) (by simp only; rw [if_pos h2, if_pos he]; omega)
            unfold rdB
            (refine Le.slots ?_ ?_ ?_ <;> (repeat' (first | (exact fun _ _ h => h) | exact znb _ | exact leSl_nil | refine leSl_cons (by simp only [go_sem, ↓reduceIte, zn1, reduceCtorEq] <;> rfl) ?_ ?_ | exact VLe.refl rfl)))
        · have q3 : decide ((i : Int) > 0) = true := by rw [decide_eq_true_iff]; omega
          by_cases h0 : x = 0
          · have q4 : (x == 0) = true := by rw [h0]; rfl
            have h128 : x < 128 := by omega
            have hb : badN i x := by unfold badN; omega
            rw [if_pos hb] at hr
            rw [if_pos h128] at hr
            have q5 : decide (x < 128) = true := decide_eq_true h128
            unfold rdB at c1 cf ⊢
            (repeat (first | (with_reducible refine oz (by constructor <;> decide) ?_) | ((with_reducible first | apply SC.condB | apply SC.region | apply SO.run); (simp (disch := omega) only [go_sem, ↓reduceIte, reduceCtorEq, q0] <;> rfl); (first | refine pickT ?_ | fail_if_success with_reducible refine pickA ?_)) | (with_reducible apply SC.ops)))
            (refine SO.inlQ (by simp (disch := omega) only [go_sem] <;> rfl) Tab.go74 (by simp (disch := omega) only [go_sem, ↓reduceIte] <;> rfl) (by simp (disch := omega) only [go_sem] <;> rfl) (SInlQ.rd (c1) (by simp (disch := omega) only [go_sem, ↓reduceIte] <;> rfl) rfl (by omega) (by simp (disch := omega) only [go_sem, ↓reduceIte] <;> rfl) ?_))
            (repeat (first | (with_reducible refine oz (by constructor <;> decide) ?_) | ((with_reducible first | apply SC.condB | apply SC.region | apply SO.run); (simp only [go_sem, ↓reduceIte, zn1, reduceCtorEq, q1, q3, q4] <;> rfl); (first | refine pickT ?_ | fail_if_success with_reducible refine pickA ?_)) | (with_reducible apply SC.ops)))
            (refine SO.inlQ (by simp (disch := omega) only [go_sem] <;> rfl) Tab.go66 (by simp (disch := omega) only [go_sem, ↓reduceIte] <;> rfl) (by simp (disch := omega) only [go_sem] <;> rfl) (SInlQ.rd (cf) (by simp (disch := omega) only [go_sem, ↓reduceIte] <;> rfl) rfl (by omega) (by simp (disch := omega) only [go_sem, ↓reduceIte] <;> rfl) ?_))
            (repeat (first | (with_reducible refine oz (by constructor <;> decide) ?_) | ((with_reducible first | apply SC.condB | apply SC.region); (simp (disch := omega) only [go_sem, ↓reduceIte, zn1, reduceCtorEq, if_neg, q5, ga] <;> rfl); (first | refine pickT ?_ | fail_if_success with_reducible refine pickA ?_))))
            have hfin : s.number b n = (0, s3) := by rw [← hr]; unfold outR; rw [if_neg hfe]
            have q6 : ((s3.e : Int) != 0) = true := by rw [bne_iff_ne]; omega
            rw [hfin]
            (repeat (first | (with_reducible refine oz (by constructor <;> decide) ?_) | ((with_reducible first | apply SC.condB | apply SC.region); (simp only [go_sem, ↓reduceIte, q6] <;> rfl); (first | refine pickT ?_ | fail_if_success with_reducible refine pickA ?_))))
            exact rd_ret hB hk onlySc rfl Tryz.results59 (by simp only [go_sem, ↓reduceIte] <;> rfl) (by simp only [go_sem, ↓reduceIte] <;> rfl)
          · have q4 : (x == 0) = false := by rw [beq_eq_false_iff_ne]; omega
            by_cases h128 : x < 128
            · have hb : ¬ badN i x := by unfold badN; omega
              rw [if_neg hb] at hr
              have oo := shlor (m := x.toNat % 128) ha2 hi hm (by omega)
              rw [hac] at oo
              rw [if_pos h128] at hr
              have q5 : decide (x < 128) = true := decide_eq_true h128
              unfold rdB at c1 cf ⊢
              (repeat (first | (with_reducible refine oz (by constructor <;> decide) ?_) | ((with_reducible first | apply SC.condB | apply SC.region | apply SO.run); (simp (disch := omega) only [go_sem, ↓reduceIte, reduceCtorEq, q0] <;> rfl); (first | refine pickT ?_ | fail_if_success with_reducible refine pickA ?_)) | (with_reducible apply SC.ops)))
              (refine SO.inlQ (by simp (disch := omega) only [go_sem] <;> rfl) Tab.go74 (by simp (disch := omega) only [go_sem, ↓reduceIte] <;> rfl) (by simp (disch := omega) only [go_sem] <;> rfl) (SInlQ.rd (c1) (by simp (disch := omega) only [go_sem, ↓reduceIte] <;> rfl) rfl (by omega) (by simp (disch := omega) only [go_sem, ↓reduceIte] <;> rfl) ?_))
              (repeat (first | (with_reducible refine oz (by constructor <;> decide) ?_) | ((with_reducible first | apply SC.condB | apply SC.region | apply SO.run); (simp (disch := omega) only [go_sem, ↓reduceIte, zn1, reduceCtorEq, if_neg, q1, q3, q4, oo, q5, ga] <;> rfl); (first | refine pT ?_ | refine pF ?_ | fail_if_success with_reducible refine pA ?_))))
              by_cases h2 : s2.e = 0
              · have hfin : s.number b n = (a', s2) := by rw [← hr]; unfold outR; rw [if_pos h2]
                have q6 : ((s2.e : Int) != 0) = false := by rw [h2]; rfl
                rw [hfin]
                (repeat (first | (with_reducible refine oz (by constructor <;> decide) ?_) | ((with_reducible first | apply SC.condB | apply SC.region); (simp (disch := omega) only [go_sem, ↓reduceIte, zn1, zn2, q6] <;> rfl); (first | refine pickF ?_ | fail_if_success with_reducible refine pickA ?_))))
                exact rd_ret hB hk onlySc rfl Tryz.results59 (by simp (disch := omega) only [go_sem, ↓reduceIte] <;> rfl) (by simp (disch := omega) only [go_sem, ↓reduceIte] <;> rfl)
              · have hfin : s.number b n = (0, s2) := by rw [← hr]; unfold outR; rw [if_neg h2]
                have q6 : ((s2.e : Int) != 0) = true := by rw [bne_iff_ne]; omega
                rw [hfin]
                (repeat (first | (with_reducible refine oz (by constructor <;> decide) ?_) | ((with_reducible first | apply SC.condB | apply SC.region); (simp (disch := omega) only [go_sem, ↓reduceIte, q6] <;> rfl); (first | refine pickT ?_ | fail_if_success with_reducible refine pickA ?_))))
                exact rd_ret hB hk onlySc rfl Tryz.results59 (by simp (disch := omega) only [go_sem, ↓reduceIte] <;> rfl) (by simp (disch := omega) only [go_sem, ↓reduceIte] <;> rfl)
            · have hb : ¬ badN i x := by unfold badN; omega
              rw [if_neg hb] at hr
              have oo := shlor (m := x.toNat % 128) ha2 hi hm (by omega)
              rw [hac] at oo
              rw [if_neg h128] at hr
              have q5 : decide (x < 128) = false := decide_eq_false h128
              unfold rdB at c1 cf ⊢
              (repeat (first | (with_reducible refine oz (by constructor <;> decide) ?_) | ((with_reducible first | apply SC.condB | apply SC.region | apply SO.run); (simp (disch := omega) only [go_sem, ↓reduceIte, reduceCtorEq, q0] <;> rfl); (first | refine pickT ?_ | fail_if_success with_reducible refine pickA ?_)) | (with_reducible apply SC.ops)))
              (refine SO.inlQ (by simp (disch := omega) only [go_sem] <;> rfl) Tab.go74 (by simp (disch := omega) only [go_sem, ↓reduceIte] <;> rfl) (by simp (disch := omega) only [go_sem] <;> rfl) (SInlQ.rd (c1) (by simp (disch := omega) only [go_sem, ↓reduceIte] <;> rfl) rfl (by omega) (by simp (disch := omega) only [go_sem, ↓reduceIte] <;> rfl) ?_))
              (repeat (first | (with_reducible refine oz (by constructor <;> decide) ?_) | ((with_reducible first | apply SC.condB | apply SC.region | apply SO.run); (simp (disch := omega) only [go_sem, ↓reduceIte, zn1, reduceCtorEq, if_neg, q1, q3, q4, oo, q5, ga] <;> rfl); (first | refine pickF ?_ | fail_if_success with_reducible refine pickA ?_))))
              have h2 : s2.e = 0 := next_e hs he (by omega)
              rw [if_pos h2] at hr
              refine hK _ (i + 1, (a' : Int), s2) ?_ (.inl ⟨h2, by simp only; omega, a', rfl, by rw [← hac]; exact acc_lt ha2 hm, by rw [← hr, show 10 - (i + 1) = 9 - i by omega]⟩) (by simp only; rw [if_pos h2, if_pos he]; omega)
              unfold rdB
              (refine Le.slots ?_ ?_ ?_ <;> (repeat' (first | (exact fun _ _ h => h) | exact znb _ | exact leSl_nil | refine leSl_cons (by simp only [go_sem, ↓reduceIte, zn1, reduceCtorEq] <;> rfl) ?_ ?_ | exact VLe.refl rfl)))
    · have q0 : ((s1.e : Int) == 0) = false := by rw [beq_eq_false_iff_ne]; omega
      have q6 : ((s1.e : Int) != 0) = true := by rw [bne_iff_ne]; omega
      unfold rdB
      rw [← hr]
      (repeat (first | (with_reducible refine oz (by constructor <;> decide) ?_) | ((with_reducible first | apply SC.condB | apply SC.region); (simp (disch := omega) only [go_sem, ↓reduceIte, reduceCtorEq, q0, q6] <;> rfl); (first | refine pT ?_ | refine pF ?_ | fail_if_success with_reducible refine pA ?_))))
      exact rd_ret hB hk onlySc rfl Tryz.results59 (by simp only [go_sem, ↓reduceIte] <;> rfl) (by simp only [go_sem, ↓reduceIte] <;> rfl)
theorem numR_lt (b : List Int) (n : Nat) : ∀ (f i acc : Nat) (s : Rd), i + f = 10 → acc < 128 ^ i → 0 < f → (Rd.numR b n f i acc s).2.e = 0 → (Rd.numR b n f i acc s).1 < 18446744073709551616
  | 0, _, _, _, _, _, h0, _ => by omega
  | f + 1, i, acc, s, hi, ha, _, he => by
    obtain ⟨x, s2, hs⟩ : ∃ x s2, s.next b n = (x, s2) := ⟨_, _, rfl⟩
    rw [numR_step _ _ _ hs] at he ⊢
    have hm : x.toNat % 128 < 128 := Nat.mod_lt _ (by omega)
    have c9 : (128 : Nat) ^ 9 = 9223372036854775808 := by decide
    by_cases h128 : x < 128
    · rw [if_pos h128] at he ⊢
      simp only at he ⊢
      by_cases h9 : i = 9
      · subst h9
        have hb : ¬ badN 9 x := fun hb => by rw [if_pos hb] at he; exact fail_ne _ he
        have : ¬ x > 1 := fun h => hb (.inl ⟨rfl, h⟩)
        rw [c9] at ha ⊢
        have : x.toNat % 128 ≤ 1 := by omega
        omega
      · have h1 := acc_lt ha hm
        have h2 : (128 : Nat) ^ (i + 1) ≤ 128 ^ 9 := Nat.pow_le_pow_right (by omega) (by omega)
        omega
    · rw [if_neg h128] at he ⊢
      generalize hs3 : (if badN i x then s2.fail 4 else s2) = s3 at *
      by_cases h0 : s3.e = 0
      · rw [if_pos h0] at he ⊢
        have h9 : i ≠ 9 := fun h => by
          have hb : badN i x := .inl ⟨h, by omega⟩
          rw [if_pos hb] at hs3
          rw [← hs3] at h0
          exact fail_ne _ h0
        exact numR_lt b n f (i + 1) _ s3 (by omega) (acc_lt ha hm) (by omega) he
      · rw [if_neg h0] at he
        exact absurd he h0
theorem number_lt (b : List Int) (n : Nat) (s : Rd) : (s.number b n).1 < 18446744073709551616 := by
  unfold Rd.number outR
  split
  · split
    · rename_i h; exact numR_lt b n 10 0 0 s rfl (by simp) (by omega) h
    · simp
  · simp
def zag (u : Nat) : Int := if u % 2 = 1 then -((u / 2 : Nat) : Int) - 1 else ((u / 2 : Nat) : Int)
def Rd.whole (b : List Int) (n : Nat) (s : Rd) : Int × Rd := (zag (s.number b n).1, (s.number b n).2)
def Rd.flag (b : List Int) (n : Nat) (s : Rd) : Bool × Rd := (decide ((s.next b n).1 = 1), if (s.next b n).1 > 1 then (s.next b n).2.fail 4 else (s.next b n).2)
def Rd.size (b : List Int) (n lim : Nat) (s : Rd) : Nat × Rd := if (s.number b n).1 > lim then (0, (s.number b n).2.fail 2) else s.number b n
theorem bits_noti {m : Nat} (hm : m < 9223372036854775808) : bits .xor .i64 (if IntKind.i64.signed = true then -1 else IntKind.i64.max) (m : Int) = -(m : Int) - 1 := by
  show IntKind.i64.wrap ((BitVec.ofInt 64 (-1 : Int) ^^^ BitVec.ofInt 64 (m : Int)).toNat : Int) = _
  have e : BitVec.ofInt 64 (-1 : Int) = BitVec.allOnes 64 := by decide
  rw [e, BitVec.allOnes_xor, BitVec.toNat_not, bv_i (by omega), IntKind.wrap_i64]; omega
theorem and1 {u : Nat} (h : u < 18446744073709551616) : bits .and .u64 (u : Int) 1 = ((u % 2 : Nat) : Int) := by
  have h := bits_and64 (m := u) (n := 1) h (by omega)
  rw [Nat.and_one_is_mod] at h
  exact h
section
variable (b : List Int) (n : Nat) (s : Rd) (hu : U8s b) (hn : n ≤ b.length) (hb : n ≤ 1000000000)
include hu hn hb
theorem rwh_s : RdQ Tryz.prog 58 [] (rdB b n s) (rdB b n (s.whole b n).2) (.sc (.int .i64 (s.whole b n).1)) := by
  refine ⟨onlySc, rdB_clo _ _ _, fun k nx hk => ?_⟩
  refine InlQ.run Tryz.func58 rfl Tryz.ntmps58 (by simp) (by simp only [go_sem]; rfl) fun B hB => ?_
  have c1 := rnum_s b n s hu hn hb
  have hl := number_lt b n s
  unfold Rd.whole
  generalize s.number b n = r at *
  obtain ⟨u, s2⟩ := r
  (try simp only at c1); (try simp only at hl); (try simp only)
  unfold rdB at c1 ⊢
  have x1 : (u : Int).fdiv 2 = ((u / 2 : Nat) : Int) := by rw [Int.fdiv_eq_ediv_of_nonneg _ (by omega)]; omega
  have x1b : (u : Int) / 2 = ((u / 2 : Nat) : Int) := by omega
  have n1 : min 1 64 = 1 := rfl
  have a1 := and1 hl
  have nn := bits_noti (m := u / 2) (by omega)
  have hz : zag u = if u % 2 = 1 then -((u / 2 : Nat) : Int) - 1 else ((u / 2 : Nat) : Int) := rfl
  (repeat (first | (with_reducible refine oz (by constructor <;> decide) ?_) | ((with_reducible first | apply SC.region | apply SO.run); (simp only [go_sem, ↓reduceIte, reduceCtorEq] <;> rfl); (fail_if_success with_reducible refine pickA ?_)) | (with_reducible apply SC.ops)))
  (refine SO.inlQ (by simp (disch := omega) only [go_sem] <;> rfl) Tab.go59 (by simp (disch := omega) only [go_sem, ↓reduceIte] <;> rfl) (by simp (disch := omega) only [go_sem] <;> rfl) (SInlQ.rd (c1) (by simp (disch := omega) only [go_sem, ↓reduceIte] <;> rfl) rfl (by omega) (by simp (disch := omega) only [go_sem, ↓reduceIte] <;> rfl) ?_))
  by_cases h1 : u % 2 = 1
  · have q1 : (((u % 2 : Nat) : Int) == 1) = true := by rw [h1]; rfl
    rw [hz, if_pos h1]
    (repeat (first | (with_reducible refine oz (by constructor <;> decide) ?_) | ((with_reducible first | apply SC.condB | apply SC.region | apply SO.run); (simp (disch := omega) only [go_sem, ↓reduceIte, zn1, zn2, zi1, zi2, if_neg, n1, a1, x1, q1, nn] <;> rfl); (first | refine pickT ?_ | fail_if_success with_reducible refine pickA ?_))))
    exact rd_ret hB hk onlySc rfl Tryz.results58 (by simp only [go_sem, ↓reduceIte] <;> rfl) (by simp only [go_sem, ↓reduceIte] <;> rfl)
  · have q1 : (((u % 2 : Nat) : Int) == 1) = false := by rw [beq_eq_false_iff_ne]; omega
    rw [hz, if_neg h1]
    (repeat (first | (with_reducible refine oz (by constructor <;> decide) ?_) | ((with_reducible first | apply SC.condB | apply SC.region | apply SO.run); (simp (disch := omega) only [go_sem, ↓reduceIte, zn1, zn2, zi1, zi2, if_neg, n1, a1, x1, q1] <;> rfl); (first | refine pickF ?_ | fail_if_success with_reducible refine pickA ?_))))
    exact rd_ret hB hk onlySc rfl Tryz.results58 (by simp only [go_sem, ↓reduceIte] <;> rfl) (by simp only [go_sem, ↓reduceIte] <;> rfl)
theorem rflag_s : RdQ Tryz.prog 65 [] (rdB b n s) (rdB b n (s.flag b n).2) (.sc (.bool (s.flag b n).1)) := by
  refine ⟨onlySc, rdB_clo _ _ _, fun k nx hk => ?_⟩
  refine InlQ.run Tryz.func65 rfl Tryz.ntmps65 (by simp) (by simp only [go_sem]; rfl) fun B hB => ?_
  have c1 := next_s b n s hn hb
  unfold Rd.flag
  generalize s.next b n = r at *
  obtain ⟨x, s2⟩ := r
  (try simp only at c1); (try simp only)
  have cf := fail_s b n s2 4
  unfold rdB at c1 cf ⊢
  have q2 : (x == 1) = decide (x = 1) := by by_cases h : x = 1 <;> simp [h]
  (repeat (first | (with_reducible refine oz (by constructor <;> decide) ?_) | ((with_reducible first | apply SC.region | apply SO.run); (simp only [go_sem, ↓reduceIte, reduceCtorEq] <;> rfl); (fail_if_success with_reducible refine pickA ?_)) | (with_reducible apply SC.ops)))
  (refine SO.inlQ (by simp (disch := omega) only [go_sem] <;> rfl) Tab.go74 (by simp (disch := omega) only [go_sem, ↓reduceIte] <;> rfl) (by simp (disch := omega) only [go_sem] <;> rfl) (SInlQ.rd (c1) (by simp (disch := omega) only [go_sem, ↓reduceIte] <;> rfl) rfl (by omega) (by simp (disch := omega) only [go_sem, ↓reduceIte] <;> rfl) ?_))
  by_cases h1 : x > 1
  · have q1 : decide (x > 1) = true := decide_eq_true h1
    rw [if_pos h1]
    (repeat (first | (with_reducible refine oz (by constructor <;> decide) ?_) | ((with_reducible first | apply SC.condB | apply SC.region | apply SO.run); (simp only [go_sem, ↓reduceIte, reduceCtorEq, q1] <;> rfl); (first | refine pickT ?_ | fail_if_success with_reducible refine pickA ?_)) | (with_reducible apply SC.ops)))
    (refine SO.inlQ (by simp (disch := omega) only [go_sem] <;> rfl) Tab.go66 (by simp (disch := omega) only [go_sem, ↓reduceIte] <;> rfl) (by simp (disch := omega) only [go_sem] <;> rfl) (SInlQ.rd (cf) (by simp (disch := omega) only [go_sem, ↓reduceIte] <;> rfl) rfl (by omega) (by simp (disch := omega) only [go_sem, ↓reduceIte] <;> rfl) ?_))
    (repeat (first | (with_reducible refine oz (by constructor <;> decide) ?_) | ((with_reducible apply SC.region); (simp only [go_sem, ↓reduceIte, zn1, zn2, q2] <;> rfl); (fail_if_success with_reducible refine pickA ?_))))
    exact rd_ret hB hk onlySc rfl Tryz.results65 (by simp only [go_sem, ↓reduceIte] <;> rfl) (by simp only [go_sem, ↓reduceIte] <;> rfl)
  · have q1 : decide (x > 1) = false := decide_eq_false h1
    rw [if_neg h1]
    (repeat (first | (with_reducible refine oz (by constructor <;> decide) ?_) | ((with_reducible first | apply SC.condB | apply SC.region | apply SO.run); (simp only [go_sem, ↓reduceIte, zn1, zn2, q1, q2] <;> rfl); (first | refine pickF ?_ | fail_if_success with_reducible refine pickA ?_))))
    exact rd_ret hB hk onlySc rfl Tryz.results65 (by simp only [go_sem, ↓reduceIte] <;> rfl) (by simp only [go_sem, ↓reduceIte] <;> rfl)
theorem rsize_s (lim : Nat) (hlim : lim ≤ 1000000) : RdQ Tryz.prog 68 [.sc (.int .u64 lim)] (rdB b n s) (rdB b n (s.size b n lim).2) (.sc (.int .i64 (s.size b n lim).1)) := by
  refine ⟨onlySc, rdB_clo _ _ _, fun k nx hk => ?_⟩
  refine InlQ.run Tryz.func68 rfl Tryz.ntmps68 (by simp) (by simp only [go_sem, zn4]; rfl) fun B hB => ?_
  have c1 := rnum_s b n s hu hn hb
  unfold Rd.size
  generalize s.number b n = r at *
  obtain ⟨u, s2⟩ := r
  (try simp only at c1); (try simp only)
  have cf := fail_s b n s2 2
  unfold rdB at c1 cf ⊢
  (repeat (first | (with_reducible refine oz (by constructor <;> decide) ?_) | ((with_reducible first | apply SC.region | apply SO.run); (simp only [go_sem, ↓reduceIte, reduceCtorEq] <;> rfl); (fail_if_success with_reducible refine pickA ?_)) | (with_reducible apply SC.ops)))
  (refine SO.inlQ (by simp (disch := omega) only [go_sem] <;> rfl) Tab.go59 (by simp (disch := omega) only [go_sem, ↓reduceIte] <;> rfl) (by simp (disch := omega) only [go_sem] <;> rfl) (SInlQ.rd (c1) (by simp (disch := omega) only [go_sem, ↓reduceIte] <;> rfl) rfl (by omega) (by simp (disch := omega) only [go_sem, ↓reduceIte] <;> rfl) ?_))
  by_cases h1 : u > lim
  · have q1 : decide ((u : Int) > (lim : Int)) = true := by rw [decide_eq_true_iff]; omega
    rw [if_pos h1]
    (repeat (first | (with_reducible refine oz (by constructor <;> decide) ?_) | ((with_reducible first | apply SC.condB | apply SC.region | apply SO.run); (simp only [go_sem, ↓reduceIte, zn1, reduceCtorEq, q1] <;> rfl); (first | refine pickT ?_ | fail_if_success with_reducible refine pickA ?_)) | (with_reducible apply SC.ops)))
    (refine SO.inlQ (by simp (disch := omega) only [go_sem] <;> rfl) Tab.go66 (by simp (disch := omega) only [go_sem, ↓reduceIte] <;> rfl) (by simp (disch := omega) only [go_sem] <;> rfl) (SInlQ.rd (cf) (by simp (disch := omega) only [go_sem, ↓reduceIte] <;> rfl) rfl (by omega) (by simp (disch := omega) only [go_sem, ↓reduceIte] <;> rfl) ?_))
    (repeat (first | (with_reducible refine oz (by constructor <;> decide) ?_) | ((with_reducible apply SC.region); (simp only [go_sem, ↓reduceIte] <;> rfl); (fail_if_success with_reducible refine pickA ?_))))
    exact rd_ret hB hk onlySc rfl Tryz.results68 (by simp only [go_sem, ↓reduceIte] <;> rfl) (by simp only [go_sem, ↓reduceIte] <;> rfl)
  · have q1 : decide ((u : Int) > (lim : Int)) = false := by rw [decide_eq_false_iff_not]; omega
    rw [if_neg h1]
    (repeat (first | (with_reducible refine oz (by constructor <;> decide) ?_) | ((with_reducible first | apply SC.condB | apply SC.region | apply SO.run); (simp only [go_sem, ↓reduceIte, zn1, zn2, reduceCtorEq, q1] <;> rfl); (first | refine pickF ?_ | fail_if_success with_reducible refine pickA ?_))))
    exact rd_ret hB hk onlySc rfl Tryz.results68 (by simp (disch := omega) only [go_sem, ↓reduceIte] <;> rfl) (by simp (disch := omega) only [go_sem, ↓reduceIte] <;> rfl)
end
def b4 (x : Nat) : List Int := [((x % 256 : Nat) : Int), ((x / 256 % 256 : Nat) : Int), ((x / 65536 % 256 : Nat) : Int), ((x / 16777216 % 256 : Nat) : Int)]
def lbs (l : List Nat) : List Int := l.flatMap b4
theorem lbs_len (l : List Nat) : (lbs l).length = 4 * l.length := by
  induction l with
  | nil => rfl
  | cons x r ih =>
    show (b4 x ++ lbs r).length = _
    rw [zl1, ih, List.length_cons]
    show 4 + _ = _
    omega
theorem lbs_snoc {l : List Nat} {i : Nat} (h : i < l.length) : lbs (l.take (i + 1)) = lbs (l.take i) ++ b4 (l.getD i 0) := by
  have e : l.take (i + 1) = l.take i ++ [l.getD i 0] := by
    rw [List.take_succ_eq_append_getElem h]; simp [List.getD, h]
  rw [e]; unfold lbs; rw [List.flatMap_append]; simp
def hdI (z : Int) : Nat := 2 * (limbsOf z.natAbs).length + (if z < 0 then 1 else 0)
def int_ (z : Int) : List Int := num (hdI z) ++ lbs (limbsOf z.natAbs)
theorem int_pos (z : Int) : 0 < (int_ z).length := by
  unfold int_; rw [zl1]; have := num_pos (hdI z); omega
theorem fdN (n k : Nat) : ((n : Int)).fdiv (k : Int) = (n : Int) / (k : Int) := Int.fdiv_eq_ediv_of_nonneg _ (by omega)
theorem b4_bw (x : Nat) : bw (b4 x) = [.sc (.int .u8 ((x : Int) % 256)), .sc (.int .u8 ((x : Int).fdiv 256 % 256)), .sc (.int .u8 ((x : Int).fdiv 65536 % 256)), .sc (.int .u8 ((x : Int).fdiv 16777216 % 256))] := by
  have d1 : (x : Int).fdiv 256 = (x : Int) / 256 := fdN x 256
  have d2 : (x : Int).fdiv 65536 = (x : Int) / 65536 := fdN x 65536
  have d3 : (x : Int).fdiv 16777216 = (x : Int) / 16777216 := fdN x 16777216
  rw [d1, d2, d3]
  unfold bw b4
  simp only [zld, zle, Int.natCast_emod, Int.natCast_ediv]
  rfl
theorem lim_getD {l : List Nat} (h : limbs l) {i : Nat} (hi : i < l.length) : l.getD i 0 < 4294967296 := by
  have : l.getD i 0 ∈ l := by simp [List.getD, hi]
  exact h _ this
set_option maxHeartbeats 2000000 in
theorem putint_s (z : Int) (hz : (limbsOf z.natAbs).length ≤ 100000000) : PutA 24 [iv z] (int_ z) := by
  refine PutA.of (int_pos z) fun id c cap nx hc hi => ?_
  have ge : (int_ z).length = (num (hdI z)).length + 4 * (limbsOf z.natAbs).length := by unfold int_; rw [zl1, lbs_len]
  have hh : hdI z = 2 * (limbsOf z.natAbs).length + (if z < 0 then 1 else 0) := rfl
  have hlim := limbsOf_limbs z.natAbs
  unfold iv sv
  generalize hl : limbsOf z.natAbs = l at *
  have hb : hdI z < 18446744073709551616 := by rw [hh]; split <;> omega
  have c1 := number_s (hdI z) hb id c cap (by omega)
  have gl := lv_len l
  refine InlQ.run Tryz.func24 rfl Tryz.ntmps24 (by simp) (by simp (disch := omega) only [go_sem, zn4]; rfl) fun B hB => ?_
  by_cases hn : z < 0
  · have q1 : decide (z < 0) = true := decide_eq_true hn
    have hu : (hdI z : Int) = 2 * (l.length : Int) + 1 := by rw [hh, if_pos hn]; omega
    (repeat (first | (with_reducible refine oz (by constructor <;> decide) ?_) | ((with_reducible first | apply SC.condB | apply SC.region | apply SO.run); (simp (disch := omega) only [go_sem, ↓reduceIte, zn1, reduceCtorEq, q1] <;> rfl); (first | refine pickT ?_ | fail_if_success with_reducible refine pickA ?_)) | (with_reducible apply SC.ops)))
    rw [hu] at c1
    (refine SO.callA Tab.go25 (by simp (disch := omega) only [go_sem, ↓reduceIte, zn1] <;> rfl) (by simp (disch := omega) only [go_sem] <;> rfl) (SApp.of (c1) (by simp (disch := omega) only [go_sem, ↓reduceIte, if_neg] <;> rfl) rfl (by simp (disch := omega) only [go_sem, ↓reduceIte, if_neg] <;> rfl) ?_))
    (repeat (first | (with_reducible refine oz (by constructor <;> decide) ?_) | ((with_reducible first | apply SC.region | apply SO.run); (simp (disch := omega) only [go_sem, ↓reduceIte, zn1, reduceCtorEq, if_neg] <;> rfl); (fail_if_success with_reducible refine pickA ?_))))
    refine SC.loop (fun x : Nat × Nat × Nat => ⟨[(0, .sl x.2.1 0 (c ++ num (hdI z) ++ lbs (l.take x.1)).length 1 none), (3, .pt nx 0), (21, .im (lv l) l.length), (22, .sc (.int .i64 l.length)), (23, .sc (.int .i64 x.1))], [(x.2.1, ⟨5, bw (c ++ num (hdI z) ++ lbs (l.take x.1)), false⟩), (nx, ⟨24, [.sc (.bool true), .im (lv l) l.length], false⟩)], x.2.2, 43⟩)
      (fun x => x.1 ≤ l.length ∧ nx < x.2.1 ∧ x.2.1 < x.2.2) (fun x => l.length - x.1) (0, nx + 1, nx + 2) ?_ ?_ ?_
    · simp only [zl4, lbs, List.flatMap_nil, List.append_nil, zl1]
      (refine Le.slots ?_ ?_ ?_ <;> (repeat' (first | (exact fun _ _ h => h) | exact znb _ | exact leSl_nil | refine leSl_cons (by simp (disch := omega) only [go_sem, ↓reduceIte, zn1, reduceCtorEq] <;> rfl) ?_ ?_ | exact VLe.refl rfl)))
    · exact ⟨znc _, by simp only; omega, by simp only; omega⟩
    · rintro ⟨i, q, m⟩ ⟨hi1, hq1, hq2⟩ K hK
      simp only at hi1 hq1 hq2 ⊢
      have gw := bw_len (c ++ num (hdI z) ++ lbs (l.take i))
      have gt : (bw (c ++ num (hdI z) ++ lbs (l.take i))).take (c ++ num (hdI z) ++ lbs (l.take i)).length = bw (c ++ num (hdI z) ++ lbs (l.take i)) := zla (by omega)
      have gm : (c ++ num (hdI z) ++ lbs (l.take i)).length = c.length + (num (hdI z)).length + 4 * i := by
        rw [zl1, zl1, lbs_len, List.length_take, Nat.min_eq_left hi1]
      by_cases hlt : i < l.length
      · have gx := lv_get hlt
        have hx : l.getD i 0 < 4294967296 := lim_getD hlim hlt
        have n24 : min 24 32 = 24 := rfl
        have n16 : min 16 32 = 16 := rfl
        have n8 : min 8 32 = 8 := rfl
        have q2 : decide ((i : Int) < (l.length : Int)) = true := by rw [decide_eq_true_iff]; omega
        have x0 : ((i : Int)).toNat = i := rfl
        rw [gm] at gw gt
        (repeat (first | (with_reducible refine oz (by constructor <;> decide) ?_) | ((with_reducible first | apply SC.condB | apply SC.region); (simp (disch := omega) only [go_sem, ↓reduceIte, zn1, zn3, zn4, reduceCtorEq, zi1, zi2, if_pos, if_neg, q2, gx, x0, gw, gt, gm, zl5, Nat.add_zero, n24, n16, n8, zn8, zl2, zl3, zl4] <;> rfl); (first | refine pickT ?_ | fail_if_success with_reducible refine pickA ?_))))
        have e4 : bw (c ++ num (hdI z) ++ lbs (l.take (i + 1))) = bw (c ++ num (hdI z) ++ lbs (l.take i)) ++ [.sc (.int .u8 (((l.getD i 0 : Nat) : Int) % 256)), .sc (.int .u8 (((l.getD i 0 : Nat) : Int).fdiv 256 % 256)), .sc (.int .u8 (((l.getD i 0 : Nat) : Int).fdiv 65536 % 256)), .sc (.int .u8 (((l.getD i 0 : Nat) : Int).fdiv 16777216 % 256))] := by
          rw [← b4_bw, ← bw_app, lbs_snoc hlt]; congr 1; exact (zl6 ..).symm
        have e5 : (c ++ num (hdI z) ++ lbs (l.take (i + 1))).length = c.length + (num (hdI z)).length + 4 * i + 4 := by
          rw [zl1, zl1, lbs_len, List.length_take, Nat.min_eq_left (by omega : i + 1 ≤ l.length)]; omega
        refine hK _ (i + 1, m + 1, m + 2) ?_ ⟨by simp only; omega, by simp only; omega, by simp only; omega⟩ (by simp only; omega)
        simp only [e4, e5]
        (refine Le.slots ?_ ?_ ?_ <;> (repeat' (first | exact znb _ | exact leSl_nil | refine leSl_cons (by simp (disch := omega) only [go_sem, ↓reduceIte, zn1, reduceCtorEq] <;> rfl) ?_ ?_ | exact VLe.refl rfl | (refine fun id k h => ?_; simp only [hget] at h ⊢; (repeat' (split at h)) <;> first | (cases h; done) | (simp (disch := omega) only [if_pos, if_neg]; exact h)))))
      · have q2 : decide ((i : Int) < (l.length : Int)) = false := by rw [decide_eq_false_iff_not]; omega
        have hie : i = l.length := by omega
        have e6 : c ++ num (hdI z) ++ lbs (l.take i) = c ++ int_ z := by rw [hie, List.take_length, zl6]; unfold int_; rw [hl]
        have e7 : (c ++ num (hdI z) ++ lbs (l.take i)).length = c.length + (int_ z).length := by rw [e6, zl1]
        rw [e6] at gw gt ⊢
        rw [e6] at e7
        rw [e7]
        (repeat (first | (with_reducible refine oz (by constructor <;> decide) ?_) | ((with_reducible first | apply SC.condB | apply SC.region); (simp (disch := omega) only [go_sem, ↓reduceIte, zn1, zn2, reduceCtorEq, q2] <;> rfl); (first | refine pickF ?_ | fail_if_success with_reducible refine pickA ?_))))
        refine retIQ_ret (.sl q 0 (c.length + (int_ z).length) 1 none) [(q, ⟨5, bw (c ++ int_ z), false⟩)] m Tryz.results24 (by simp (disch := omega) only [go_sem, ↓reduceIte]; rfl) ⟨q, by omega, rfl, rfl⟩ ?_
        (refine Le.slots ?_ ?_ ?_ <;> (repeat' (first | exact znb _ | exact leSl_nil | refine leSl_cons (by simp (disch := omega) only [go_sem, ↓reduceIte] <;> rfl) ?_ ?_ | exact VLe.refl rfl | (refine fun id k h => ?_; simp only [hget] at h ⊢; (repeat' (split at h)) <;> first | (cases h; done) | (simp (disch := omega) only [if_pos]; exact h)))))
  · have q1 : decide (z < 0) = false := decide_eq_false hn
    have hu : (hdI z : Int) = 2 * (l.length : Int) := by rw [hh, if_neg hn]; omega
    (repeat (first | (with_reducible refine oz (by constructor <;> decide) ?_) | ((with_reducible first | apply SC.condB | apply SC.region | apply SO.run); (simp (disch := omega) only [go_sem, ↓reduceIte, zn1, reduceCtorEq, q1] <;> rfl); (first | refine pickF ?_ | fail_if_success with_reducible refine pickA ?_)) | (with_reducible apply SC.ops)))
    rw [hu] at c1
    (refine SO.callA Tab.go25 (by simp (disch := omega) only [go_sem, ↓reduceIte, zn1] <;> rfl) (by simp (disch := omega) only [go_sem] <;> rfl) (SApp.of (c1) (by simp (disch := omega) only [go_sem, ↓reduceIte, if_neg] <;> rfl) rfl (by simp (disch := omega) only [go_sem, ↓reduceIte, if_neg] <;> rfl) ?_))
    (repeat (first | (with_reducible refine oz (by constructor <;> decide) ?_) | ((with_reducible first | apply SC.region | apply SO.run); (simp (disch := omega) only [go_sem, ↓reduceIte, zn1, reduceCtorEq, if_neg] <;> rfl); (fail_if_success with_reducible refine pickA ?_))))
    refine SC.loop (fun x : Nat × Nat × Nat => ⟨[(0, .sl x.2.1 0 (c ++ num (hdI z) ++ lbs (l.take x.1)).length 1 none), (3, .pt nx 0), (21, .im (lv l) l.length), (22, .sc (.int .i64 l.length)), (23, .sc (.int .i64 x.1))], [(x.2.1, ⟨5, bw (c ++ num (hdI z) ++ lbs (l.take x.1)), false⟩), (nx, ⟨24, [.sc (.bool false), .im (lv l) l.length], false⟩)], x.2.2, 43⟩)
      (fun x => x.1 ≤ l.length ∧ nx < x.2.1 ∧ x.2.1 < x.2.2) (fun x => l.length - x.1) (0, nx + 1, nx + 2) ?_ ?_ ?_
    · simp only [zl4, lbs, List.flatMap_nil, List.append_nil, zl1]
      (refine Le.slots ?_ ?_ ?_ <;> (repeat' (first | (exact fun _ _ h => h) | exact znb _ | exact leSl_nil | refine leSl_cons (by simp (disch := omega) only [go_sem, ↓reduceIte, zn1, reduceCtorEq] <;> rfl) ?_ ?_ | exact VLe.refl rfl)))
    · exact ⟨znc _, by simp only; omega, by simp only; omega⟩
    · rintro ⟨i, q, m⟩ ⟨hi1, hq1, hq2⟩ K hK
      simp only at hi1 hq1 hq2 ⊢
      have gw := bw_len (c ++ num (hdI z) ++ lbs (l.take i))
      have gt : (bw (c ++ num (hdI z) ++ lbs (l.take i))).take (c ++ num (hdI z) ++ lbs (l.take i)).length = bw (c ++ num (hdI z) ++ lbs (l.take i)) := zla (by omega)
      have gm : (c ++ num (hdI z) ++ lbs (l.take i)).length = c.length + (num (hdI z)).length + 4 * i := by
        rw [zl1, zl1, lbs_len, List.length_take, Nat.min_eq_left hi1]
      by_cases hlt : i < l.length
      · have gx := lv_get hlt
        have hx : l.getD i 0 < 4294967296 := lim_getD hlim hlt
        have n24 : min 24 32 = 24 := rfl
        have n16 : min 16 32 = 16 := rfl
        have n8 : min 8 32 = 8 := rfl
        have q2 : decide ((i : Int) < (l.length : Int)) = true := by rw [decide_eq_true_iff]; omega
        have x0 : ((i : Int)).toNat = i := rfl
        rw [gm] at gw gt
        (repeat (first | (with_reducible refine oz (by constructor <;> decide) ?_) | ((with_reducible first | apply SC.condB | apply SC.region); (simp (disch := omega) only [go_sem, ↓reduceIte, zn1, zn3, zn4, reduceCtorEq, zi1, zi2, if_pos, if_neg, q2, gx, x0, gw, gt, gm, zl5, Nat.add_zero, n24, n16, n8, zn8, zl2, zl3, zl4] <;> rfl); (first | refine pickT ?_ | fail_if_success with_reducible refine pickA ?_))))
        have e4 : bw (c ++ num (hdI z) ++ lbs (l.take (i + 1))) = bw (c ++ num (hdI z) ++ lbs (l.take i)) ++ [.sc (.int .u8 (((l.getD i 0 : Nat) : Int) % 256)), .sc (.int .u8 (((l.getD i 0 : Nat) : Int).fdiv 256 % 256)), .sc (.int .u8 (((l.getD i 0 : Nat) : Int).fdiv 65536 % 256)), .sc (.int .u8 (((l.getD i 0 : Nat) : Int).fdiv 16777216 % 256))] := by
          rw [← b4_bw, ← bw_app, lbs_snoc hlt]; congr 1; exact (zl6 ..).symm
        have e5 : (c ++ num (hdI z) ++ lbs (l.take (i + 1))).length = c.length + (num (hdI z)).length + 4 * i + 4 := by
          rw [zl1, zl1, lbs_len, List.length_take, Nat.min_eq_left (by omega : i + 1 ≤ l.length)]; omega
        refine hK _ (i + 1, m + 1, m + 2) ?_ ⟨by simp only; omega, by simp only; omega, by simp only; omega⟩ (by simp only; omega)
        simp only [e4, e5]
        (refine Le.slots ?_ ?_ ?_ <;> (repeat' (first | exact znb _ | exact leSl_nil | refine leSl_cons (by simp (disch := omega) only [go_sem, ↓reduceIte, zn1, reduceCtorEq] <;> rfl) ?_ ?_ | exact VLe.refl rfl | (refine fun id k h => ?_; simp only [hget] at h ⊢; (repeat' (split at h)) <;> first | (cases h; done) | (simp (disch := omega) only [if_pos, if_neg]; exact h)))))
      · have q2 : decide ((i : Int) < (l.length : Int)) = false := by rw [decide_eq_false_iff_not]; omega
        have hie : i = l.length := by omega
        have e6 : c ++ num (hdI z) ++ lbs (l.take i) = c ++ int_ z := by rw [hie, List.take_length, zl6]; unfold int_; rw [hl]
        have e7 : (c ++ num (hdI z) ++ lbs (l.take i)).length = c.length + (int_ z).length := by rw [e6, zl1]
        rw [e6] at gw gt ⊢
        rw [e6] at e7
        rw [e7]
        (repeat (first | (with_reducible refine oz (by constructor <;> decide) ?_) | ((with_reducible first | apply SC.condB | apply SC.region); (simp (disch := omega) only [go_sem, ↓reduceIte, zn1, zn2, reduceCtorEq, q2] <;> rfl); (first | refine pickF ?_ | fail_if_success with_reducible refine pickA ?_))))
        refine retIQ_ret (.sl q 0 (c.length + (int_ z).length) 1 none) [(q, ⟨5, bw (c ++ int_ z), false⟩)] m Tryz.results24 (by simp (disch := omega) only [go_sem, ↓reduceIte]; rfl) ⟨q, by omega, rfl, rfl⟩ ?_
        (refine Le.slots ?_ ?_ ?_ <;> (repeat' (first | exact znb _ | exact leSl_nil | refine leSl_cons (by simp (disch := omega) only [go_sem, ↓reduceIte] <;> rfl) ?_ ?_ | exact VLe.refl rfl | (refine fun id k h => ?_; simp only [hget] at h ⊢; (repeat' (split at h)) <;> first | (cases h; done) | (simp (disch := omega) only [if_pos]; exact h)))))
section
variable {P : Program}
theorem rd_retV {B : Base} {s : SS} {fn : Func} {y0 y : V} {k nx : Nat} {kd' : Blk} {rs : List ResultVar} (hB : B.Old nx) (hk : k < nx) (hv : VMap (fun i => i) (fun i => i < nx) y0 y) (hc : kd'.cs.all clo = true) (hr : fn.results = rs.toArray) (h1 : resG P s rs = some y0) (h2 : hget s.hp k = some kd') :
    retIQ P fn B (rdP y k kd' nx) .ret s := by
  refine retIQ_ret y [(k, kd')] nx hr h1 ⟨rfl, rfl, rfl⟩ (Le.map (fun i => i) (fun i => i < nx) hB (fun i hi => ⟨hi, rfl⟩) (fun i hi => hi) (fun i j _ _ e => e) ⟨hv, trivial⟩ fun i k' hk' hi => ?_)
  simp only [hget] at hk'
  split at hk'
  · rename_i e; subst e; cases hk'
    show BMap _ _ (hget s.hp i) kd'
    rw [h2]; exact BMap.clo hc
  · cases hk'
theorem rd_retF {B : Base} {s : SS} {fn : Func} {y0 y : V} {k nx : Nat} {kd' : Blk} {rs : List ResultVar} {ids : List Nat} (hB : B.Old nx) (hk : k < nx) (hr : fn.results = rs.toArray) (h1 : resG P s rs = some y0) (hf : frz 8 s.hp y0 = some (y, ids)) (hy : Only (fun _ => False) y) (hc : kd'.cs.all clo = true) (h2 : hget (fzHp s.hp ids) k = some kd') :
    retIQ P fn B (rdP y k kd' nx) .ret s := by
  refine retIQ_ret y [(k, kd')] nx hr h1 ⟨rfl, rfl, rfl⟩ (Le.trans (Le.frz (nt := 1) 0 (by omega) (y := y) (ids := ids) hf) (Le.map (fun i => i) (fun i => i < nx) hB (fun i hi => ⟨hi, rfl⟩) (fun i hi => hi) (fun i j _ _ e => e) ⟨?_, trivial⟩ fun i k' hk' hi => ?_))
  · exact hy.same
  · simp only [hget] at hk'
    split at hk'
    · rename_i e; subst e; cases hk'
      show BMap _ _ (hget (fzHp s.hp ids) i) kd'
      rw [h2]; exact BMap.clo hc
    · cases hk'
end
theorem iv_only (z : Int) : Only (fun _ => False) (iv z) := by
  refine .ag fun x hx => ?_
  simp only [List.mem_cons, List.not_mem_nil, or_false] at hx
  rcases hx with rfl | rfl
  · exact .sc _
  · exact .im _ _
theorem iv_zero {f : Nat → Nat} {D : Nat → Prop} : VMap f D (.ag [.sc (.bool false), .sc (.slice none 0 0)]) (iv 0) := by
  intro S rho A w v h
  cases h with
  | ag hl hi =>
    rename_i vs
    refine .ag (cs := [.sc (.bool (decide ((0 : Int) < 0))), sv (limbsOf (0 : Int).natAbs)]) hl fun i x u hx hu => ?_
    match i, hx with
    | 0, hx => cases hx; have := hi 0 _ u rfl hu; cases this; exact .sc _
    | 1, hx => cases hx; have := hi 1 _ u rfl hu; cases this; exact .im0 (znb _) (by unfold maxLen; omega) (fun _ => rfl)
    | i + 2, hx => simp at hx
def vLim (neg : Bool) (l : List Nat) : Bool := if l.length = 0 then !neg else ((l.getD (l.length - 1) 0 : Nat) : Int) != 0
theorem vlim_s (neg : Bool) {l : List Nat} (hl : l.length ≤ 1000000) : Spec Tryz.prog 67 [.ag [.sc (.bool neg), .im (lv l) l.length]] (.sc (.bool (vLim neg l))) := by
  unfold vLim
  by_cases h : l.length = 0
  · rw [if_pos h]
    have q1 : decide ((l.length : Int) > 0) = false := decide_eq_false (by omega)
    have q2 : decide ((0 : Int) < l.length) = false := decide_eq_false (by omega)
    refine Spec.run Tryz.func67 rfl Tryz.ntmps67 (by simp) (by simp only [go_sem]; rfl) fun B hB => ?_
    (repeat (first | (with_reducible refine oz (by constructor <;> decide) ?_) | ((with_reducible first | apply SC.condB | apply SC.region); (simp only [go_sem, ↓reduceIte, zn1, zn2, reduceCtorEq, q1] <;> rfl); (first | refine pickF ?_ | fail_if_success with_reducible refine pickA ?_))))
    exact retQ_ret Tryz.results67 (by simp only [go_sem, ↓reduceIte] <;> rfl) (by simp only [go_sem] <;> rfl) rfl
  · rw [if_neg h]
    have q1 : decide ((l.length : Int) > 0) = true := decide_eq_true (by omega)
    have q2 : decide ((0 : Int) < l.length) = true := decide_eq_true (by omega)
    have g1 := lv_get (l := l) (i := l.length - 1) (by omega)
    have g2 := lv_len l
    have x1 : ((l.length : Int) - 1).toNat = l.length - 1 := by omega
    refine Spec.run Tryz.func67 rfl Tryz.ntmps67 (by simp) (by simp only [go_sem]; rfl) fun B hB => ?_
    (repeat (first | (with_reducible refine oz (by constructor <;> decide) ?_) | ((with_reducible first | apply SC.condB | apply SC.region); (simp (disch := omega) only [go_sem, ↓reduceIte, zn1, reduceCtorEq, if_pos, q1, g1, g2, x1, zl5, zn8] <;> rfl); (first | refine pickT ?_ | fail_if_success with_reducible refine pickA ?_))))
    exact retQ_ret Tryz.results67 (by simp only [go_sem, ↓reduceIte] <;> rfl) (by simp only [go_sem] <;> rfl) rfl
theorem nilRowZ {B : Base} {sl sl' : List (Nat × V)} {hp rest : List (Nat × Blk)} {nx nt m z : Nat} {pre : List V} {tM tO : TypeId} (d q0 : Nat) (hB : B.Old m) (hd : hget hp d = some ⟨tM, pre ++ [.sc (.slice none 0 0)], false⟩) (hpre : pre.all clo = true) (hdq : d < q0)
    (hr : restLt hp q0 d q0 [] rest) (hm : m ≤ q0) (hs : mapSl (fun i => i) (fun i => i < q0) sl sl') :
    Le B ⟨sl, hp, nx, nt⟩ ⟨sl', (d, ⟨tM, pre ++ [.sl q0 0 0 z none], false⟩) :: (q0, ⟨tO, [], false⟩) :: rest, q0 + 1, nt⟩ := by
  refine Le.map (fun i => i) (fun i => i < q0) hB (fun i hi => ⟨by omega, rfl⟩) (fun i hi => by omega) (fun i j _ _ e => e) hs fun i b hb hlt => ?_
  simp only [hget] at hb
  split at hb
  · rename_i e
    subst e
    cases hb
    rw [hd]
    exact ⟨_, rfl, rfl, rfl, clo_map hpre (VMap.nil_sl _ _ _)⟩
  · split at hb
    · omega
    · obtain ⟨h1, h2, h3, _, h4, h5⟩ := restLt_get hr i b hb
      rw [h4]
      exact BMap.cloN h5
def le4 (b : List Int) (p : Nat) : Nat := (b.getD p 0).toNat + 256 * (b.getD (p + 1) 0).toNat + 65536 * (b.getD (p + 2) 0).toNat + 16777216 * (b.getD (p + 3) 0).toNat
def lims (b : List Int) (a m : Nat) : List Nat := (List.range m).map fun j => le4 b (a + 4 * j)
theorem lims_len (b : List Int) (a m : Nat) : (lims b a m).length = m := by simp [lims]
theorem lims_succ (b : List Int) (a m : Nat) : lims b a (m + 1) = lims b a m ++ [le4 b (a + 4 * m)] := by simp [lims, List.range_succ]
def Rd.int (b : List Int) (n : Nat) (s : Rd) : Int × Rd :=
  let u := (s.number b n).1
  let s1 := (s.number b n).2
  let s2 := if u / 2 > 4000 then s1.fail 2 else s1
  let s3 := if s2.e = 0 ∧ (n - s2.at_) / 4 < u / 2 then s2.fail 5 else s2
  if s3.e = 0 then
    if vLim (u % 2 == 1) (lims b s3.at_ (u / 2)) then (sgn (u % 2 == 1) (val (lims b s3.at_ (u / 2))), ⟨s3.at_ + 4 * (u / 2), 0⟩) else (0, ⟨s3.at_ + 4 * (u / 2), 4⟩)
  else (0, s3)
theorem fail_at (s : Rd) (e : Nat) : (s.fail e).at_ = s.at_ := by unfold Rd.fail; split <;> rfl
theorem next_at {b : List Int} {n : Nat} {s : Rd} (h : s.at_ ≤ n) : (s.next b n).2.at_ ≤ n := by
  unfold Rd.next
  split
  · split <;> simp only <;> omega
  · exact h
theorem numR_at (b : List Int) (n : Nat) : ∀ (f i acc : Nat) (s : Rd), s.at_ ≤ n → (Rd.numR b n f i acc s).2.at_ ≤ n
  | 0, _, _, _, h => h
  | f + 1, i, acc, s, h => by
    obtain ⟨x, s2, hs⟩ : ∃ x s2, s.next b n = (x, s2) := ⟨_, _, rfl⟩
    have h2 : s2.at_ ≤ n := by have := next_at (b := b) h; rw [hs] at this; exact this
    rw [numR_step _ _ _ hs]
    have h3 : (if badN i x then s2.fail 4 else s2).at_ ≤ n := by split <;> (try rw [fail_at]) <;> exact h2
    generalize (if badN i x then s2.fail 4 else s2) = s3 at *
    split
    · exact h3
    · split
      · exact numR_at b n f _ _ _ h3
      · exact h3
theorem number_at {b : List Int} {n : Nat} {s : Rd} (h : s.at_ ≤ n) : (s.number b n).2.at_ ≤ n := by
  unfold Rd.number outR
  split
  · split <;> exact numR_at b n _ _ _ _ h
  · exact h
theorem le4_lt {b : List Int} (hu : U8s b) (p : Nat) : le4 b p < 4294967296 := by
  have h : ∀ j, (b.getD j 0).toNat < 256 := fun j => by
    by_cases hj : j < b.length
    · have : b.getD j 0 ∈ b := by simp [List.getD, hj]
      have := hu _ this
      omega
    · have : b.getD j 0 = 0 := by simp [List.getD, List.getElem?_eq_none (by omega : b.length ≤ j)]
      rw [this]; decide
  unfold le4
  have := h p; have := h (p + 1); have := h (p + 2); have := h (p + 3)
  omega
theorem lims_limbs {b : List Int} (hu : U8s b) (a m : Nat) : limbs (lims b a m) := by
  intro x hx
  obtain ⟨j, _, rfl⟩ := List.mem_map.1 hx
  exact le4_lt hu _
theorem vlim_canon {neg : Bool} {l : List Nat} (h : vLim neg l = true) : canon l := by
  intro hn
  unfold vLim at h
  rw [if_neg (by cases l <;> simp_all)] at h
  rw [List.getLast_eq_getElem]
  intro e
  have h2 : l.getD (l.length - 1) 0 = 0 := by
    have : l.length - 1 < l.length := by cases l <;> simp_all
    simp [List.getD, this, e]
  rw [h2] at h
  exact absurd h (by decide)
theorem vlim_iv {neg : Bool} {l : List Nat} (hl : limbs l) (h : vLim neg l = true) : iv (sgn neg (val l)) = .ag [.sc (.bool neg), .im (lv l) l.length] := by
  have hc := vlim_canon h
  unfold iv sv
  rw [sgn_natAbs, limbsOf_eq hl hc]
  congr 3
  by_cases h0 : l.length = 0
  · unfold vLim at h
    rw [if_pos h0] at h
    cases neg
    · simp [sgn]
    · simp at h
  · have hne : l ≠ [] := by intro e; rw [e] at h0; exact h0 rfl
    have hv : val l ≠ 0 := by
      intro e
      have h1 := limbsOf_eq hl hc
      rw [e, limbsOf_zero] at h1
      exact hne h1.symm
    cases neg
    · simp [sgn]
    · simp [sgn]; omega
theorem fail_ne2 (s : Rd) {e : Nat} (h : e ≠ 0) : (s.fail e).e ≠ 0 := by
  unfold Rd.fail
  split
  · exact h
  · assumption
theorem take4 {l : List V} {p : Nat} {x0 x1 x2 x3 : V} (g0 : l[p]? = some x0) (g1 : l[p + 1]? = some x1) (g2 : l[p + 2]? = some x2) (g3 : l[p + 3]? = some x3) : (l.drop p).take 4 = [x0, x1, x2, x3] := by
  refine List.ext_getElem? fun j => ?_
  rw [List.getElem?_take]
  split
  · rw [zl5]
    match j with
    | 0 => exact g0
    | 1 => exact g1
    | 2 => exact g2
    | 3 => exact g3
    | j + 4 => omega
  · rename_i h
    match j with
    | j + 4 => rfl
    | 0 | 1 | 2 | 3 => omega
theorem orAdd {a m k : Nat} (h : a < 2 ^ k) : a ||| (m * 2 ^ k) = a + m * 2 ^ k := by
  have h1 := Nat.shiftLeft_add_eq_or_of_lt h m
  rw [Nat.shiftLeft_eq] at h1
  rw [Nat.or_comm, ← h1, Nat.add_comm]
theorem or4 {x0 x1 x2 x3 : Int} (h0 : 0 ≤ x0 ∧ x0 < 256) (h1 : 0 ≤ x1 ∧ x1 < 256) (h2 : 0 ≤ x2 ∧ x2 < 256) (h3 : 0 ≤ x3 ∧ x3 < 256) :
    bits .or .u32 (bits .or .u32 (bits .or .u32 (x0 % 4294967296) (x1 % 4294967296 * 2 ^ min 8 32 % 4294967296)) (x2 % 4294967296 * 2 ^ min 16 32 % 4294967296)) (x3 % 4294967296 * 2 ^ min 24 32 % 4294967296) = ((x0.toNat + 256 * x1.toNat + 65536 * x2.toNat + 16777216 * x3.toNat : Nat) : Int) := by
  have e0 : x0 % 4294967296 = ((x0.toNat : Nat) : Int) := by omega
  have e1 : x1 % 4294967296 * 2 ^ min 8 32 % 4294967296 = ((x1.toNat * 2 ^ 8 : Nat) : Int) := by
    rw [show min 8 32 = 8 from rfl]; omega
  have e2 : x2 % 4294967296 * 2 ^ min 16 32 % 4294967296 = ((x2.toNat * 2 ^ 16 : Nat) : Int) := by
    rw [show min 16 32 = 16 from rfl]; omega
  have e3 : x3 % 4294967296 * 2 ^ min 24 32 % 4294967296 = ((x3.toNat * 2 ^ 24 : Nat) : Int) := by
    rw [show min 24 32 = 24 from rfl]; omega
  rw [e0, e1, e2, e3, bits_or32 (by omega) (by omega), orAdd (by omega), bits_or32 (by omega) (by omega), orAdd (by omega), bits_or32 (by omega) (by omega), orAdd (by omega)]
  omega
theorem u8_getD {b : List Int} (hu : U8s b) (j : Nat) : 0 ≤ b.getD j 0 ∧ b.getD j 0 < 256 := by
  by_cases hj : j < b.length
  · have : b.getD j 0 ∈ b := by simp [List.getD, hj]
    exact hu _ this
  · have : b.getD j 0 = 0 := by simp [List.getD, List.getElem?_eq_none (by omega : b.length ≤ j)]
    rw [this]; decide
set_option maxHeartbeats 8000000 in
theorem rint_s (b : List Int) (n : Nat) (s : Rd) (hu : U8s b) (hn : n ≤ b.length) (hb : n ≤ 1000000000) (ha : s.at_ ≤ n) : RdQ Tryz.prog 46 [] (rdB b n s) (rdB b n (s.int b n).2) (iv (s.int b n).1) := by
  refine ⟨iv_only _, rdB_clo _ _ _, fun k nx hk => ?_⟩
  refine InlQ.run Tryz.func46 rfl Tryz.ntmps46 (by simp) (by simp only [go_sem]; rfl) fun B hB => ?_
  have c1 := rnum_s b n s hu hn hb
  have hl := number_lt b n s
  have hat := number_at (b := b) ha
  unfold Rd.int
  generalize s.number b n = r at *
  obtain ⟨u, s1⟩ := r
  (try simp only at c1); (try simp only at hl); (try simp only at hat); (try simp only)
  have c2 := fail_s b n s1 2
  have c5 := fail_s b n s1 5
  have f2 := fail_ne2 s1 (e := 2) (by omega)
  have f5 := fail_ne2 s1 (e := 5) (by omega)
  generalize s1.fail 2 = s2 at *
  generalize hs5 : s1.fail 5 = s5 at *
  have x1 : (u : Int) / 2 = ((u / 2 : Nat) : Int) := by omega
  by_cases h4 : u / 2 > 4000
  · have q1 : decide (((u / 2 : Nat) : Int) > 4000) = true := by rw [decide_eq_true_iff]; omega
    have q2 : ((s2.e : Int) == 0) = false := by rw [beq_eq_false_iff_ne]; omega
    have q3 : ((s2.e : Int) != 0) = true := by rw [bne_iff_ne]; omega
    rw [if_pos h4, if_neg (fun h : s2.e = 0 ∧ _ => f2 h.1), if_neg f2]
    unfold rdB at c1 c2 ⊢
    (repeat (first | (with_reducible refine oz (by constructor <;> decide) ?_) | ((with_reducible first | apply SC.region | apply SO.run); (simp only [go_sem, ↓reduceIte, reduceCtorEq] <;> rfl); (fail_if_success with_reducible refine pickA ?_)) | (with_reducible apply SC.ops)))
    (refine SO.inlQ (by simp (disch := omega) only [go_sem] <;> rfl) Tab.go59 (by simp (disch := omega) only [go_sem, ↓reduceIte] <;> rfl) (by simp (disch := omega) only [go_sem] <;> rfl) (SInlQ.rd (c1) (by simp (disch := omega) only [go_sem, ↓reduceIte, if_neg] <;> rfl) rfl (by (dsimp only; omega)) (by simp (disch := omega) only [go_sem, ↓reduceIte, if_neg] <;> rfl) ?_))
    (repeat (first | (with_reducible refine oz (by constructor <;> decide) ?_) | ((with_reducible first | apply SC.condB | apply SC.region | apply SO.run); (simp (disch := omega) only [go_sem, ↓reduceIte, reduceCtorEq, if_neg, x1, q1] <;> rfl); (first | refine pickT ?_ | fail_if_success with_reducible refine pickA ?_)) | (with_reducible apply SC.ops)))
    (refine SO.inlQ (by simp (disch := omega) only [go_sem] <;> rfl) Tab.go66 (by simp (disch := omega) only [go_sem, ↓reduceIte] <;> rfl) (by simp (disch := omega) only [go_sem] <;> rfl) (SInlQ.rd (c2) (by simp (disch := omega) only [go_sem, ↓reduceIte, if_neg] <;> rfl) rfl (by (dsimp only; omega)) (by simp (disch := omega) only [go_sem, ↓reduceIte, if_neg] <;> rfl) ?_))
    (repeat (first | refine DO.nilF (fun i => i + 1 - nx) (by simp (disch := omega) only [go_sem, zld, zle, Option.map_none, zne] <;> rfl) (by kernel_rfl) ?_ | (with_reducible refine oz (by constructor <;> decide) ?_) | ((with_reducible first | apply SC.condB | apply SC.region | apply DO.run); (simp (disch := omega) only [go_sem, ↓reduceIte, zn1, zn3, zn4, reduceCtorEq, if_neg, x1, q2, q3] <;> rfl); (first | refine pT ?_ | refine pF ?_ | fail_if_success with_reducible refine pA ?_)) | ((with_reducible refine SC.draw Tab.mixed ?_ ?_); (simp (disch := omega) only [go_sem, ↓reduceIte, if_pos]))))
    exact rd_retV hB hk iv_zero rfl Tryz.results46 (by simp (disch := omega) only [go_sem, ↓reduceIte, zn1, zn3, zn4] <;> rfl) (by simp (disch := omega) only [go_sem, ↓reduceIte, if_neg] <;> rfl)
  · have q1 : decide (((u / 2 : Nat) : Int) > 4000) = false := by rw [decide_eq_false_iff_not]; omega
    rw [if_neg h4]
    by_cases he : s1.e = 0
    · have q2 : ((s1.e : Int) == 0) = true := by rw [he]; rfl
      have q3 : ((s1.e : Int) != 0) = false := by rw [he]; rfl
      by_cases hsh : (n - s1.at_) / 4 < u / 2
      · rw [if_pos (show s1.e = 0 ∧ (n - s1.at_) / 4 < u / 2 from ⟨he, hsh⟩), hs5, if_neg f5]
        have q4 : decide (((n : Int) - s1.at_).tdiv 4 < ((u / 2 : Nat) : Int)) = true := by rw [decide_eq_true_iff, Int.tdiv_eq_ediv_of_nonneg (by omega)]; omega
        have q4b : decide (((n : Int) - s1.at_) / 4 < ((u / 2 : Nat) : Int)) = true := by rw [decide_eq_true_iff]; omega
        have q5 : ((s5.e : Int) != 0) = true := by rw [bne_iff_ne]; omega
        unfold rdB at c1 c5 ⊢
        (repeat (first | (with_reducible refine oz (by constructor <;> decide) ?_) | ((with_reducible first | apply SC.region | apply SO.run); (simp only [go_sem, ↓reduceIte, reduceCtorEq] <;> rfl); (fail_if_success with_reducible refine pickA ?_)) | (with_reducible apply SC.ops)))
        (refine SO.inlQ (by simp (disch := omega) only [go_sem] <;> rfl) Tab.go59 (by simp (disch := omega) only [go_sem, ↓reduceIte] <;> rfl) (by simp (disch := omega) only [go_sem] <;> rfl) (SInlQ.rd (c1) (by simp (disch := omega) only [go_sem, ↓reduceIte, if_neg] <;> rfl) rfl (by (dsimp only; omega)) (by simp (disch := omega) only [go_sem, ↓reduceIte, if_neg] <;> rfl) ?_))
        (repeat (first | refine DO.nilF (fun i => i + 1 - nx) (by simp (disch := omega) only [go_sem, zld, zle, Option.map_none, zne] <;> rfl) (by kernel_rfl) ?_ | (with_reducible refine oz (by constructor <;> decide) ?_) | ((with_reducible first | apply wa | apply wb | apply wc | apply wd); (simp (disch := omega) only [go_sem, ↓reduceIte, zn1, reduceCtorEq, if_neg, x1, q1, q2, q4b] <;> rfl); (first | refine pT ?_ | refine pF ?_ | fail_if_success with_reducible refine pA ?_)) | ((with_reducible refine SC.draw Tab.mixed ?_ ?_); (simp (disch := omega) only [go_sem, ↓reduceIte, if_pos])) | (with_reducible apply SC.ops)))
        (refine SO.inlQ (by simp (disch := omega) only [go_sem] <;> rfl) Tab.go66 (by simp (disch := omega) only [go_sem, ↓reduceIte] <;> rfl) (by simp (disch := omega) only [go_sem] <;> rfl) (SInlQ.rd (c5) (by simp (disch := omega) only [go_sem, ↓reduceIte, if_neg] <;> rfl) rfl (by (dsimp only; omega)) (by simp (disch := omega) only [go_sem, ↓reduceIte, if_neg] <;> rfl) ?_))
        (repeat (first | (with_reducible refine oz (by constructor <;> decide) ?_) | ((with_reducible first | apply SC.condB | apply SC.region); (simp (disch := omega) only [go_sem, ↓reduceIte, zn1, zn3, zn4, reduceCtorEq, if_neg, q5] <;> rfl); (first | refine pickT ?_ | fail_if_success with_reducible refine pickA ?_))))
        exact rd_retV hB hk iv_zero rfl Tryz.results46 (by simp (disch := omega) only [go_sem, ↓reduceIte, zn1, zn3, zn4] <;> rfl) (by simp (disch := omega) only [go_sem, ↓reduceIte, if_neg] <;> rfl)
      · rw [if_neg (fun h : s1.e = 0 ∧ _ => hsh h.2), if_pos he]
        have q4 : decide (((n : Int) - s1.at_).tdiv 4 < ((u / 2 : Nat) : Int)) = false := by rw [decide_eq_false_iff_not, Int.tdiv_eq_ediv_of_nonneg (by omega)]; omega
        have q4b : decide (((n : Int) - s1.at_) / 4 < ((u / 2 : Nat) : Int)) = false := by rw [decide_eq_false_iff_not]; omega
        unfold rdB at c1 ⊢
        (repeat (first | (with_reducible refine oz (by constructor <;> decide) ?_) | ((with_reducible first | apply SC.region | apply SO.run); (simp only [go_sem, ↓reduceIte, reduceCtorEq] <;> rfl); (fail_if_success with_reducible refine pickA ?_)) | (with_reducible apply SC.ops)))
        (refine SO.inlQ (by simp (disch := omega) only [go_sem] <;> rfl) Tab.go59 (by simp (disch := omega) only [go_sem, ↓reduceIte] <;> rfl) (by simp (disch := omega) only [go_sem] <;> rfl) (SInlQ.rd (c1) (by simp (disch := omega) only [go_sem, ↓reduceIte, if_neg] <;> rfl) rfl (by (dsimp only; omega)) (by simp (disch := omega) only [go_sem, ↓reduceIte, if_neg] <;> rfl) ?_))
        (repeat (first | refine DO.nilF (fun i => i + 1 - nx) (by simp (disch := omega) only [go_sem, zld, zle, Option.map_none, zne] <;> rfl) (by kernel_rfl) ?_ | (with_reducible refine oz (by constructor <;> decide) ?_) | ((with_reducible first | apply wa | apply wb | apply wc | apply wd); (simp (disch := omega) only [go_sem, ↓reduceIte, zn1, zn3, zn4, reduceCtorEq, if_neg, x1, q1, q2, q4b, q3] <;> rfl); (first | refine pickF ?_ | fail_if_success with_reducible refine pickA ?_)) | ((with_reducible refine SC.draw Tab.mixed ?_ ?_); (simp (disch := omega) only [go_sem, ↓reduceIte, if_pos]))))
        have hm4 : 4 * (u / 2) ≤ n - s1.at_ := by omega
        have hml : u / 2 ≤ 4000 := by omega
        generalize hneg : ((u : Int) % 2 == 1) = neg
        have hneg2 : (u % 2 == 1) = neg := by rw [← hneg, Bool.eq_iff_iff, beq_iff_eq, beq_iff_eq]; omega
        rw [hneg2]
        generalize u / 2 = m at *
        refine SC.weak (by simp) (nilRowZ (z := 1) (tO := 87) (sl' := [(0, .pt k 0), (2, .pt nx 0), (4, .sc (.int .i64 m)), (5, .pt (nx + 1) 0), (49, .sc (.int .i64 m)), (50, .sc (.int .i64 0))]) (rest := [(nx, ⟨24, [.sc (.bool false), .sc (.slice none 0 0)], false⟩), (k, rdB b n s1)]) (pre := [.sc (.bool neg)]) (nx + 1) (nx + 2) hB (by simp (disch := omega) only [go_sem, ↓reduceIte] <;> rfl) rfl (by omega) ?_ (by omega) ?_) ?_
        · exact ⟨⟨by omega, by omega, by omega, by simp, by simp (disch := omega) only [go_sem, ↓reduceIte, if_neg] <;> rfl, rfl⟩, ⟨by omega, by omega, by omega, by simp, by simp (disch := omega) only [go_sem, ↓reduceIte, if_neg] <;> rfl, rfl⟩, trivial⟩
        · (repeat' (first | exact trivial | refine mapSl_cons (by simp only [go_sem, ↓reduceIte, zn1, reduceCtorEq] <;> rfl) ?_ ?_ | exact VMap.sc _ | exact VMap.pt rfl (by omega)))
        simp only [zl8, zl7]
        obtain ⟨a, e1⟩ := s1
        simp only at he hm4 hat ⊢
        subst he
        refine SC.loop (fun i : Nat => ⟨[(0, .pt k 0), (2, .pt nx 0), (4, .sc (.int .i64 m)), (5, .pt (nx + 1) 0), (49, .sc (.int .i64 m)), (50, .sc (.int .i64 i))], [(nx + 1, ⟨24, [.sc (.bool neg), .sl (nx + 2) 0 i 1 none], false⟩), (nx + 2, ⟨87, lv (lims b a i), false⟩), (nx, ⟨24, [.sc (.bool false), .sc (.slice none 0 0)], false⟩), (k, rdB b n ⟨a + 4 * i, 0⟩)], nx + 3, 108⟩)
          (fun i => i ≤ m) (fun i => m - i) 0 ?_ (znc _) ?_
        · (refine Le.slots ?_ ?_ ?_ <;> (repeat' (first | (exact fun _ _ h => h) | exact znb _ | exact leSl_nil | refine leSl_cons (by simp only [go_sem, ↓reduceIte, zn1, reduceCtorEq] <;> rfl) ?_ ?_ | exact VLe.refl rfl)))
        · intro i hi K hK
          by_cases hlt : i < m
          · have q6 : decide ((i : Int) < (m : Int)) = true := by rw [decide_eq_true_iff]; omega
            have g0 := bw_get (l := b) (i := a + 4 * i) (by omega)
            have g1 := bw_get (l := b) (i := a + 4 * i + 1) (by omega)
            have g2 := bw_get (l := b) (i := a + 4 * i + 2) (by omega)
            have g3 := bw_get (l := b) (i := a + 4 * i + 3) (by omega)
            have gll := lv_len (lims b a i)
            rw [lims_len] at gll
            have glt : (lv (lims b a i)).take i = lv (lims b a i) := zla (by omega)
            have gb := bw_len b
            have y0 : (((a + 4 * i : Nat)) : Int).toNat = a + 4 * i := rfl
            have y5 : (((a + 4 * i : Nat)) : Int) + 4 = (((a + 4 * (i + 1) : Nat)) : Int) := by omega
            have y4 : (((a + 4 * (i + 1) : Nat)) : Int).toNat = a + 4 * i + 4 := by omega
            have oo := or4 (u8_getD hu (a + 4 * i)) (u8_getD hu (a + 4 * i + 1)) (u8_getD hu (a + 4 * i + 2)) (u8_getD hu (a + 4 * i + 3))
            have e9 : lv (lims b a (i + 1)) = lv (lims b a i) ++ [.sc (.int .u32 ((le4 b (a + 4 * i) : Nat) : Int))] := by rw [lims_succ, ← lv_append]; rfl
            unfold le4 at e9
            have g4 := take4 g0 g1 g2 g3
            have s4 : a + 4 * i + 4 - (a + 4 * i) = 4 := by omega
            unfold rdB at hK ⊢
            (repeat (first | refine DO.nilF (fun i => i + 1 - nx) (by simp (disch := omega) only [go_sem, zn4, zld, zle, Option.map_some, Option.map_none, znd, zne, znf, zn4] <;> rfl) (by kernel_rfl) ?_ | (with_reducible refine oz (by constructor <;> decide) ?_) | ((with_reducible first | apply SC.condB | apply SC.region | apply DO.run); (simp (disch := omega) only [go_sem, ↓reduceIte, zn1, zn2, zn3, zn4, reduceCtorEq, zi1, if_pos, if_neg, q6, y0, y5, y4, oo, s4, g4, gll, glt, zn8, zna, zl2, zl9, zl3, zl4, List.getElem?_cons_zero, List.getElem?_cons_succ] <;> rfl); (first | refine pickT ?_ | fail_if_success with_reducible refine pickA ?_)) | ((with_reducible refine SC.draw Tab.mixed ?_ ?_); (simp (disch := omega) only [go_sem, ↓reduceIte, if_pos]))))
            refine hK _ (i + 1) (Le.ren (nx + 2) (nx + 4) hB (by omega) (by omega) (by omega) ?_ ?_) (by omega) (by omega)
            · refine mapSl_cons (by simp only [go_sem, ↓reduceIte, reduceCtorEq] <;> rfl) (VMap.pt (if_neg (by omega)) (by omega)) ?_
              refine mapSl_cons (by simp only [go_sem, ↓reduceIte, zn1, reduceCtorEq] <;> rfl) (VMap.pt (if_neg (by omega)) (by omega)) ?_
              refine mapSl_cons (by simp only [go_sem, ↓reduceIte, zn1, reduceCtorEq] <;> rfl) (VMap.sc _) ?_
              refine mapSl_cons (by simp only [go_sem, ↓reduceIte, zn1, reduceCtorEq] <;> rfl) (VMap.pt (if_neg (by omega)) (by omega)) ?_
              refine mapSl_cons (by simp (disch := omega) only [go_sem, ↓reduceIte, zn1, reduceCtorEq] <;> rfl) (VMap.sc _) ?_
              exact mapSl_cons (by simp (disch := omega) only [go_sem, ↓reduceIte] <;> rfl) (VMap.int (by omega)) trivial
            · have cl := lv_clo (lims b a (i + 1))
              rw [← e9]
              refine mapHp_cons (by simp (disch := omega) only [go_sem, ↓reduceIte, zn1, if_neg] <;> rfl) (BMap.list (mapL_cons (VMap.sc _) (mapL_cons (VMap.sl (if_pos rfl) (by omega)) mapL_nil))) ?_
              refine mapHp_cons (by simp (disch := omega) only [go_sem, ↓reduceIte] <;> rfl) (BMap.clo cl) ?_
              refine mapHp_cons (by simp (disch := omega) only [go_sem, ↓reduceIte, if_neg] <;> rfl) (BMap.cloN rfl) ?_
              exact mapHp_cons (by simp (disch := omega) only [go_sem, ↓reduceIte, if_neg] <;> rfl) (BMap.clo rfl) mapHp_nil
          · have hie : i = m := by omega
            subst hie
            have q6 : decide ((i : Int) < (i : Int)) = false := by rw [decide_eq_false_iff_not]; omega
            have cv := vlim_s neg (l := lims b a i) (by rw [lims_len]; omega)
            rw [lims_len] at cv
            have gll := lv_len (lims b a i)
            rw [lims_len] at gll
            have glt : (lv (lims b a i)).take i = lv (lims b a i) := zla (by omega)
            have gcl := lv_clo (lims b a i)
            have c4 := fail_s b n ⟨a + 4 * i, 0⟩ 4
            have hvi := vlim_iv (neg := neg) (lims_limbs hu a i)
            rw [lims_len] at hvi
            by_cases hv : vLim neg (lims b a i) = true
            · rw [if_pos hv, hvi hv]
              rw [hv] at cv
              unfold rdB at c4 ⊢
              (repeat (first | (with_reducible refine oz (by constructor <;> decide) ?_) | ((apply SO.call); (iterate 3 (simp (disch := omega) only [go_sem, ↓reduceIte, zn1, if_pos, if_neg, gll, glt, gcl, zl2, zn8] <;> rfl)); (apply SCall.ofX); (assumption); (simp (disch := omega) only [go_sem] <;> rfl)) | ((with_reducible first | apply SC.condB | apply SC.region | apply SO.run); (simp (disch := omega) only [go_sem, ↓reduceIte, zn1, zn2, zn3, zn4, reduceCtorEq, if_neg, q6, zl2] <;> rfl); (first | refine pickF ?_ | fail_if_success with_reducible refine pickA ?_)) | (with_reducible apply SC.ops)))
              have kb : (k == nx + 2) = false := by rw [beq_eq_false_iff_ne]; omega
              exact rd_retF hB hk Tryz.results46 (by simp (disch := omega) only [go_sem, ↓reduceIte, zn1, zn3, zn4, reduceCtorEq, if_neg] <;> rfl) (by simp (disch := omega) only [go_sem, ↓reduceIte, zn1, if_pos, if_neg, gll, glt, gcl, zl2, zn8] <;> rfl) (hvi hv ▸ iv_only _) rfl (by simp (disch := omega) only [go_sem, ↓reduceIte, if_pos, if_neg, kb, Bool.false_eq_true] <;> rfl)
            · rw [if_neg hv]
              have hv2 : vLim neg (lims b a i) = false := by simpa using hv
              rw [hv2] at cv
              unfold rdB at c4 ⊢
              (repeat (first | (with_reducible refine oz (by constructor <;> decide) ?_) | ((apply SO.call); (iterate 3 (simp (disch := omega) only [go_sem, ↓reduceIte, zn1, if_pos, if_neg, gll, glt, gcl, zl2, zn8] <;> rfl)); (apply SCall.ofX); (assumption); (simp (disch := omega) only [go_sem] <;> rfl)) | ((with_reducible first | apply SC.condB | apply SC.region | apply SO.run); (simp (disch := omega) only [go_sem, ↓reduceIte, zn1, zn3, zn4, reduceCtorEq, q6, zl2] <;> rfl); (first | refine pT ?_ | refine pF ?_ | fail_if_success with_reducible refine pA ?_)) | (with_reducible apply SC.ops)))
              (refine SO.inlQ (by simp (disch := omega) only [go_sem] <;> rfl) Tab.go66 (by simp (disch := omega) only [go_sem, ↓reduceIte] <;> rfl) (by simp (disch := omega) only [go_sem] <;> rfl) (SInlQ.rd (c4) (by simp (disch := omega) only [go_sem, ↓reduceIte, if_neg] <;> rfl) rfl (by (dsimp only; omega)) (by simp (disch := omega) only [go_sem, ↓reduceIte, if_neg] <;> rfl) ?_))
              (repeat (first | (with_reducible refine oz (by constructor <;> decide) ?_) | ((with_reducible apply SC.region); (simp (disch := omega) only [go_sem, ↓reduceIte, zn1, zn3, zn4, reduceCtorEq, if_neg] <;> rfl); (fail_if_success with_reducible refine pickA ?_))))
              exact rd_retV hB hk iv_zero rfl Tryz.results46 (by simp (disch := omega) only [go_sem, ↓reduceIte, zn1, zn3, zn4, reduceCtorEq, if_neg] <;> rfl) (by simp (disch := omega) only [go_sem, ↓reduceIte, if_neg] <;> rfl)
    · rw [if_neg (fun h : s1.e = 0 ∧ _ => he h.1), if_neg he]
      have q2 : ((s1.e : Int) == 0) = false := by rw [beq_eq_false_iff_ne]; omega
      have q3 : ((s1.e : Int) != 0) = true := by rw [bne_iff_ne]; omega
      unfold rdB at c1 ⊢
      (repeat (first | (with_reducible refine oz (by constructor <;> decide) ?_) | ((with_reducible first | apply SC.region | apply SO.run); (simp only [go_sem, ↓reduceIte, reduceCtorEq] <;> rfl); (fail_if_success with_reducible refine pickA ?_)) | (with_reducible apply SC.ops)))
      (refine SO.inlQ (by simp (disch := omega) only [go_sem] <;> rfl) Tab.go59 (by simp (disch := omega) only [go_sem, ↓reduceIte] <;> rfl) (by simp (disch := omega) only [go_sem] <;> rfl) (SInlQ.rd (c1) (by simp (disch := omega) only [go_sem, ↓reduceIte, if_neg] <;> rfl) rfl (by (dsimp only; omega)) (by simp (disch := omega) only [go_sem, ↓reduceIte, if_neg] <;> rfl) ?_))
      (repeat (first | refine DO.nilF (fun i => i + 1 - nx) (by simp (disch := omega) only [go_sem, zld, zle, Option.map_none, zne] <;> rfl) (by kernel_rfl) ?_ | (with_reducible refine oz (by constructor <;> decide) ?_) | ((with_reducible first | apply wa | apply wb | apply wc | apply wd); (simp (disch := omega) only [go_sem, ↓reduceIte, zn1, zn3, zn4, reduceCtorEq, if_neg, x1, q1, q2, q3] <;> rfl); (first | refine pT ?_ | refine pF ?_ | fail_if_success with_reducible refine pA ?_)) | ((with_reducible refine SC.draw Tab.mixed ?_ ?_); (simp (disch := omega) only [go_sem, ↓reduceIte, if_pos]))))
      exact rd_retV hB hk iv_zero rfl Tryz.results46 (by simp (disch := omega) only [go_sem, ↓reduceIte, zn1, zn3, zn4] <;> rfl) (by simp (disch := omega) only [go_sem, ↓reduceIte, if_neg] <;> rfl)
end Go.Proofs.YtphilljhfdlfdaaGreat
