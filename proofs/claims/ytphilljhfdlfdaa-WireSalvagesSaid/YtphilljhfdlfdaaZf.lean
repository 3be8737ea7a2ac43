/- Texts joined: Ra Rb Rc Rd Re Rf Rg Rh Ri Rj Rk Rl Rm Rn Ro Rp Rq Rr Rs Rt. -/
import Derived.Test.YtphilljhfdlfdaaZc
import Derived.Test.YtphilljhfdlfdaaZd
import Derived.Test.YtphilljhfdlfdaaZe
import Derived.Test.YtphilljhfdlfdaaZe
import Derived.Test.YtphilljhfdlfdaaZe
set_option linter.all false
open Nat renaming reduceEqDiff → zn1, reduceLT → zn2, reduceLeDiff → zn3, reduceAdd → zn4, reduceMul → zn5, reduceSub → zn6, reduceBEq → zn7
open Int renaming reduceToNat → zi1, reducePow → zi2
namespace Go.Proofs.Ytphilljhfdlfdaa
open Go.RowKit
end Go.Proofs.Ytphilljhfdlfdaa
namespace Go.Proofs.Ytphilljhfdlfdaa
open Go.RowKit
end Go.Proofs.Ytphilljhfdlfdaa
namespace Go.Proofs.Ytphilljhfdlfdaa
open Go.RowKit
def ivC (z : Int) : List V := [.sc (.bool (decide (z < 0))), sv (limbsOf z.natAbs)]
def ivR : List Int → List V
  | [] => []
  | z :: r => ivC z ++ ivR r
theorem ivR_len : ∀ l : List Int, (ivR l).length = 2 * l.length
  | [] => rfl
  | z :: r => by
    rw [ivR, List.length_append, ivR_len r, List.length_cons]
    show 2 + _ = _
    omega
theorem ivR_clo : ∀ l : List Int, (ivR l).all clo = true
  | [] => rfl
  | z :: r => by
    rw [ivR, List.all_append, ivR_clo r]; rfl
theorem ivR_drop : ∀ {l : List Int} {i : Nat}, i < l.length → (ivR l).drop (i * 2) = ivC (l.getD i 0) ++ (ivR l).drop ((i + 1) * 2)
  | o :: r, 0, _ => rfl
  | o :: r, i + 1, h => by
    have e : ∀ m, (m + 1) * 2 = (ivC o).length + m * 2 := by intro m; show _ = 2 + _; omega
    have hd : ∀ m, (ivR (o :: r)).drop ((m + 1) * 2) = (ivR r).drop (m * 2) := by
      intro m
      rw [e, ivR, List.drop_append]
      simp only [Nat.add_sub_cancel_left, List.drop_eq_nil_of_le (Nat.le_add_right _ _), List.nil_append]
    rw [hd, hd]
    exact ivR_drop (by simpa using h)
theorem ivR_set : ∀ {l : List Int} {i : Nat} (z : Int), i < l.length → setAll (ivR l) (i * 2) (ivC z) = ivR (l.set i z)
  | o :: r, 0, z, _ => rfl
  | o :: r, i + 1, z, h => by
    have h' : i < r.length := by simpa using h
    have ih := ivR_set z h'
    rw [setAll_all _ _ _ (by rw [ivR_len]; show _ + 2 ≤ _; omega)] at ih
    rw [setAll_all _ _ _ (by rw [ivR_len, List.length_cons]; show _ + 2 ≤ _; omega)]
    have e : (i + 1) * 2 = (ivC o).length + i * 2 := by show _ = 2 + _; omega
    have e2 : (i + 1) * 2 + (ivC z).length = (ivC o).length + (i * 2 + (ivC z).length) := by omega
    rw [e2, e, ivR, List.take_length_add_append, List.drop_length_add_append, List.append_assoc, List.append_assoc, ← List.append_assoc ((ivR r).take _), ih]
    rfl
def rI (M : List (List Int)) : List (List V) := M.map ivR
def mat (w : Nat) (M : List (List Int)) : V := .ag [.sc (.int .i64 M.length), .sc (.int .i64 w), .im (imR w (rI M)) M.length]
theorem imI_len (w : Nat) (M : List (List Int)) : (imR w (rI M)).length = M.length := by simp [imR, rI]
theorem imI_get {w i : Nat} {M : List (List Int)} (h : i < M.length) : (imR w (rI M))[i]? = some (.im (ivR (M.getD i [])) w) := by
  unfold imR rI
  rw [List.getElem?_map, List.getElem?_map, getD_get' (d := []) h]; rfl
end Go.Proofs.Ytphilljhfdlfdaa
namespace Go.Proofs.Ytphilljhfdlfdaa
open Go.RowKit
end Go.Proofs.Ytphilljhfdlfdaa
namespace Go.Proofs.Ytphilljhfdlfdaa
open Go.RowKit
def clS : V → Bool
  | .sc _ => true
  | x => clo x
theorem VMap.clS {f : Nat → Nat} {D : Nat → Prop} {x : V} (h : clS x = true) : VMap f D x x := by
  cases x <;> first | exact VMap.sc _ | exact VMap.clo h
end Go.Proofs.Ytphilljhfdlfdaa
namespace Go.Proofs.Ytphilljhfdlfdaa
open Go.RowKit
end Go.Proofs.Ytphilljhfdlfdaa
namespace Go.Proofs.Ytphilljhfdlfdaa
open Go.RowKit
end Go.Proofs.Ytphilljhfdlfdaa
namespace Go.Proofs.Ytphilljhfdlfdaa
open Go.RowKit
end Go.Proofs.Ytphilljhfdlfdaa
namespace Go.Proofs.Ytphilljhfdlfdaa
open Go.RowKit
theorem pre2 {n m : Nat} {b c : Blk} (hb : b.cs.all clS = true) (hc : c.cs.all clS = true) : ∀ i k, hget [(n, b), (m, c)] i = some k → k.cs.all clS = true := fun i k h => by
  simp only [hget] at h
  split at h
  · cases h; exact hb
  · split at h
    · cases h; exact hc
    · cases h
end Go.Proofs.Ytphilljhfdlfdaa
namespace Go.Proofs.Ytphilljhfdlfdaa
open Go.RowKit
def zer (w : Nat) : List V := (List.replicate w [V.sc (.bool false), V.sc (.slice none 0 0)]).flatten
theorem zer_map {f : Nat → Nat} {D : Nat → Prop} : ∀ (w j : Nat) (y : V), (ivR (List.replicate w 0))[j]? = some y → ∃ x, (zer w)[j]? = some x ∧ VMap f D x y
  | 0, j, y, h => by cases h
  | w + 1, j, y, h => by
    have e1 : ivR (List.replicate (w + 1) 0) = V.sc (.bool false) :: V.im [] 0 :: ivR (List.replicate w 0) := rfl
    have e2 : zer (w + 1) = V.sc (.bool false) :: V.sc (.slice none 0 0) :: zer w := rfl
    rw [e1] at h
    rw [e2]
    match j, h with
    | 0, h => cases h; exact ⟨_, rfl, VMap.sc _⟩
    | 1, h => cases h; exact ⟨_, rfl, VMap.nil_im⟩
    | j + 2, h => exact zer_map w j y h
end Go.Proofs.Ytphilljhfdlfdaa
namespace Go.Proofs.Ytphilljhfdlfdaa
open Go.RowKit
end Go.Proofs.Ytphilljhfdlfdaa
namespace Go.Proofs.Ytphilljhfdlfdaa
open Go.RowKit
end Go.Proofs.Ytphilljhfdlfdaa
namespace Go.Proofs.Ytphilljhfdlfdaa
open Go.RowKit
end Go.Proofs.Ytphilljhfdlfdaa
namespace Go.Proofs.Ytphilljhfdlfdaa
open Go.RowKit
end Go.Proofs.Ytphilljhfdlfdaa
namespace Go.Proofs.Ytphilljhfdlfdaa
open Go.RowKit
end Go.Proofs.Ytphilljhfdlfdaa
namespace Go.Proofs.Ytphilljhfdlfdaa
open Go.RowKit
attribute [-go_sem] exMake_eq
end Go.Proofs.Ytphilljhfdlfdaa
namespace Go.Proofs.Ytphilljhfdlfdaa
open Go.RowKit
end Go.Proofs.Ytphilljhfdlfdaa
namespace Go.Proofs.Ytphilljhfdlfdaa
open Go.RowKit
end Go.Proofs.Ytphilljhfdlfdaa
namespace Go.Proofs.Ytphilljhfdlfdaa
open Go.RowKit
end Go.Proofs.Ytphilljhfdlfdaa
namespace Go.Proofs.Ytphilljhfdlfdaa
open Go.RowKit
end Go.Proofs.Ytphilljhfdlfdaa
