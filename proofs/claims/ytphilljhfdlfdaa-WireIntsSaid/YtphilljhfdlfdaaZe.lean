/- Texts joined: Qb Qc Jk Qd Qe Qf Qy Qg Qh Jl Jo Qi Qj Qk Jp Ql Qm Vao Qo Qp. -/
import Derived.WalkSmall
import Derived.Test.YtphilljhfdlfdaaZc
import Derived.Test.YtphilljhfdlfdaaZd
import Derived.Test.YtphilljhfdlfdaaZd
set_option linter.all false
open Nat renaming reduceEqDiff → zn1, reduceLT → zn2, reduceLeDiff → zn3, reduceAdd → zn4, reduceMul → zn5, reduceSub → zn6, reduceBEq → zn7
open Int renaming reduceToNat → zi1, reducePow → zi2
namespace Go.Proofs.Ytphilljhfdlfdaa
open Go.RowKit
end Go.Proofs.Ytphilljhfdlfdaa
namespace Go.Proofs.Ytphilljhfdlfdaa
open Go.RowKit
end Go.Proofs.Ytphilljhfdlfdaa
namespace Go.Proofs.Ytphilljhfdlfdaa
open Go.RowKit
end Go.Proofs.Ytphilljhfdlfdaa
namespace Go.Proofs.Ytphilljhfdlfdaa
open Go.RowKit
end Go.Proofs.Ytphilljhfdlfdaa
namespace Go.Proofs.Ytphilljhfdlfdaa
open Go.RowKit
end Go.Proofs.Ytphilljhfdlfdaa
namespace Go.Proofs.Ytphilljhfdlfdaa
open Go.RowKit
end Go.Proofs.Ytphilljhfdlfdaa
namespace Go.Proofs.Ytphilljhfdlfdaa
open Go.RowKit
end Go.Proofs.Ytphilljhfdlfdaa
namespace Go.Proofs.Ytphilljhfdlfdaa
open Go.RowKit
def bl (x : Nat) : Nat := if x = 0 then 0 else x.log2 + 1
theorem bl_lt (x : Nat) : x < 2 ^ bl x := by
  unfold bl; split
  · omega
  · exact Nat.lt_log2_self
theorem bl_le {x : Nat} (h : x ≠ 0) : 2 ^ (bl x - 1) ≤ x ∧ 1 ≤ bl x := by
  unfold bl; rw [if_neg h]
  exact ⟨Nat.log2_self_le h, by omega⟩
theorem bl_le_of {x k : Nat} (h : x < 2 ^ k) : bl x ≤ k := by
  by_cases hx : x = 0
  · subst hx; unfold bl; simp
  · obtain ⟨a, b⟩ := bl_le hx
    have : bl x - 1 < k := (Nat.pow_lt_pow_iff_right (a := 2) (by omega)).1 (by omega)
    omega
def strIx (s : ByteArray) (n : Int) : Option V := if 0 ≤ n then (s[n.toNat]?).map fun b => .sc (.int .u8 b.toNat) else none
section
variable {P : Program}
@[go_sem] theorem exIndex_str (T : Nat) (s : ByteArray) (k : IntKind) (n : Int) : exIndex P T (.sc (.string s)) (.sc (.int k n)) = if isStr P T = true then strIx s n else none := by
  simp only [exIndex, strIx]
  by_cases h1 : isStr P T = true <;> by_cases h2 : 0 ≤ n <;> simp [h1, h2]
end
section
variable {P : Program} {B : Base}
end
end Go.Proofs.Ytphilljhfdlfdaa
namespace Go.Proofs.Ytphilljhfdlfdaa
open Go.RowKit
section
variable {U z : List Nat} {i j x : Nat}
end
end Go.Proofs.Ytphilljhfdlfdaa
namespace Go.Proofs.Ytphilljhfdlfdaa
open Go.RowKit
end Go.Proofs.Ytphilljhfdlfdaa
namespace Go.Proofs.Ytphilljhfdlfdaa
open Go.RowKit
end Go.Proofs.Ytphilljhfdlfdaa
namespace Go.Proofs.Ytphilljhfdlfdaa
open Go.RowKit
theorem VLe.tu {ok : Nat → Bool} {cs ds : List V} (h : LLe ok cs ds) (hl : cs.length = ds.length) : VLe ok (.tu cs) (.tu ds) := by
  intro S rho A w v hr
  cases hr with
  | tu h1 h2 =>
    refine .tu (by omega) fun i x u hx hu => ?_
    have hi := (List.getElem?_eq_some_iff.1 hx).1
    have hy : cs[i]? = some cs[i] := List.getElem?_eq_getElem (by omega)
    exact h.2 i _ x hy hx _ _ _ _ _ (h2 i _ u hy hu)
end Go.Proofs.Ytphilljhfdlfdaa
namespace Go.Proofs.Ytphilljhfdlfdaa
open Go.RowKit
theorem dg_getD : ∀ (k i m : Nat), i < k → (dg k m).getD i 0 = m / 4294967296 ^ i % 4294967296
  | k + 1, 0, m, _ => by simp [dg]
  | k + 1, i + 1, m, h => by
    have := dg_getD k i (m / 4294967296) (by omega)
    simp only [dg]
    rw [show (m % 4294967296 :: dg k (m / 4294967296)).getD (i + 1) 0 = (dg k (m / 4294967296)).getD i 0 from rfl, this, Nat.div_div_eq_div_mul, Nat.pow_succ, Nat.mul_comm]
structure Shifted (Y s n m : Nat) : Prop where
  lt : Y * m < 4294967296 ^ n
  top : 2147483648 ≤ (dg (n + 1) (Y * m)).getD (n - 1) 0
theorem shifted {Y n t : Nat} (hn : (limbsOf Y).length = n) (h1 : 1 ≤ n) (ht : (limbsOf Y).getD (n - 1) 0 = t) : Shifted Y (32 - bl t) n (2 ^ (32 - bl t)) ∧ t ≠ 0 ∧ bl t ≤ 32 ∧ t < 4294967296 := by
  have tl := limbs_getD (limbsOf_limbs Y) (n - 1)
  rw [ht] at tl
  have hb := bl_le_of (x := t) (k := 32) (by omega)
  have t0 : t ≠ 0 := by
    have hc := limbsOf_canon Y (by intro e; rw [e] at hn; simp at hn; omega)
    rw [List.getLast_eq_getElem] at hc
    rw [List.getD_eq_getElem?_getD, List.getElem?_eq_getElem (by omega)] at ht
    simp only [hn] at hc
    intro e; exact hc (by simpa [e] using ht)
  have hv := val_last (z := limbsOf Y) (n := n - 1) (by omega)
  rw [limbsOf_val, ht] at hv
  have hlt := val_lt (limbs_take (limbsOf_limbs Y) (n - 1))
  rw [List.length_take, Nat.min_eq_left (by omega)] at hlt
  obtain ⟨a1, a2⟩ := bl_le t0
  have a3 := bl_lt t
  have p1 : 2 ^ bl t * 2 ^ (32 - bl t) = 4294967296 := by rw [← Nat.pow_add, show bl t + (32 - bl t) = 32 by omega]
  have p2 : 2 ^ (bl t - 1) * 2 ^ (32 - bl t) = 2147483648 := by rw [← Nat.pow_add, show bl t - 1 + (32 - bl t) = 31 by omega]
  have p3 : 4294967296 ^ n = 4294967296 ^ (n - 1) * 4294967296 := by rw [← Nat.pow_succ, show (n - 1).succ = n by omega]
  generalize hMM : 4294967296 ^ (n - 1) = M at *
  have hM : 0 < M := by omega
  generalize 2 ^ (32 - bl t) = p at *
  have u1 : Y * p < M * 4294967296 := by
    have b1 : Y < M * (t + 1) := by rw [Nat.mul_add]; omega
    have b2 : M * (t + 1) ≤ M * 2 ^ bl t := Nat.mul_le_mul_left _ (by omega)
    have hp : 0 < p := by rcases Nat.eq_zero_or_pos p with e | e; subst e; omega; exact e
    have b3 := Nat.mul_lt_mul_of_pos_right (Nat.lt_of_lt_of_le b1 b2) hp
    rw [Nat.mul_assoc, p1] at b3; exact b3
  refine ⟨⟨by rw [p3]; exact u1, ?_⟩, t0, hb, tl⟩
  rw [dg_getD _ _ _ (by omega)]
  rw [hMM]
  have u2 : 2147483648 * M ≤ Y * p := by
    have c1 : 2 ^ (bl t - 1) * p ≤ t * p := Nat.mul_le_mul_right _ a1
    have c2 : M * t ≤ Y := by omega
    have c3 := Nat.mul_le_mul_right p c2
    have c4 : M * 2147483648 ≤ M * (t * p) := Nat.mul_le_mul_left _ (by omega)
    rw [← Nat.mul_assoc] at c4
    omega
  have d1 := (Nat.le_div_iff_mul_le hM).2 u2
  have d2 := Nat.div_lt_of_lt_mul u1
  rw [Nat.mod_eq_of_lt d2]; exact d1
end Go.Proofs.Ytphilljhfdlfdaa
namespace Go.Proofs.Ytphilljhfdlfdaa
open Go.RowKit
end Go.Proofs.Ytphilljhfdlfdaa
namespace Go.Proofs.Ytphilljhfdlfdaa
open Go.RowKit
end Go.Proofs.Ytphilljhfdlfdaa
namespace Go.Proofs.Ytphilljhfdlfdaa
open Go.RowKit
end Go.Proofs.Ytphilljhfdlfdaa
namespace Go.Proofs.Ytphilljhfdlfdaa
open Go.RowKit
theorem Fits.one {K : Nat} (h : 1 ≤ K) : Fits K 1 := by
  have := Nat.pow_le_pow_right (n := 4294967296) (by omega) h
  unfold Fits; simp at *; omega
theorem Fits.zero (K : Nat) : Fits K 0 := by unfold Fits; exact Nat.pow_pos (by omega)
def z0 : List V := [.sc (.bool false), .sc (.slice none 0 0)]
end Go.Proofs.Ytphilljhfdlfdaa
namespace Go.Proofs.Ytphilljhfdlfdaa
end Go.Proofs.Ytphilljhfdlfdaa
namespace Go.Proofs.Ytphilljhfdlfdaa
open Go.RowKit
end Go.Proofs.Ytphilljhfdlfdaa
namespace Go.Proofs.Ytphilljhfdlfdaa
open Go.RowKit
theorem take_le (l : List Nat) (n : Nat) : (l.take n).length ≤ l.length := by simp; omega
theorem take_take_len (l : List Nat) (n : Nat) : l.take (l.take n).length = l.take n := by
  rw [List.length_take]
  rcases Nat.le_total n l.length with h | h
  · rw [Nat.min_eq_left h]
  · rw [Nat.min_eq_right h, List.take_of_length_le (Nat.le_refl _), List.take_of_length_le h]
theorem min_take (l : List Nat) (n : Nat) : (if (n : Int) < (l.length : Int) then (n : Int) else (l.length : Int)) = (((l.take n).length : Nat) : Int) := by
  rw [List.length_take]; split <;> omega
end Go.Proofs.Ytphilljhfdlfdaa
