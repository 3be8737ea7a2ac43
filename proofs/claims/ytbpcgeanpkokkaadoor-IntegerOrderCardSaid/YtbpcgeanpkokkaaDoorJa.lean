/- Integers by value: their trees; the reference's Made. -/
import Derived.Test.YtbpcgeanpkokkaaDoorVal
import Derived.Test.YtbpcgeanpkokkaaDoorTab
import Derived.Test.YtbpcgeanpkokkaaDoorSn
import Derived.Test.YtbpcgeanpkokkaaDoorSu
namespace Go.Proofs.YtbpcgeanpkokkaaDoor
open Go.RowKit

/-- limbs as trees -/
def lv (l : List Nat) : List V := l.map fun (n : Nat) => .sc (.int .u32 (n : Int))
theorem lv_len (l : List Nat) : (lv l).length = l.length := by simp [lv]
theorem lv_get {l : List Nat} {i : Nat} (h : i < l.length) : (lv l)[i]? = some (.sc (.int .u32 (l.getD i 0 : Nat))) := by
  simp [lv, h]
theorem lv_take (l : List Nat) (k : Nat) : (lv l).take k = lv (l.take k) := by simp [lv]
theorem lv_drop (l : List Nat) (k : Nat) : (lv l).drop k = lv (l.drop k) := by simp [lv]
theorem lv_append (a b : List Nat) : lv a ++ lv b = lv (a ++ b) := by simp [lv]
theorem lv_all (l : List Nat) : (lv l).all V.one = true := by simp [lv, V.one, Value.oneCell']
theorem lv_clo (l : List Nat) : (lv l).all clo = true := by simp [lv, clo]
/-- a slice of limbs -/
def sv (l : List Nat) : V := .im (lv l) l.length
/-- the limbs of a number: no zero at the end -/
def digs : Nat → Nat → List Nat
  | 0, _ => []
  | f + 1, n => if n = 0 then [] else n % 4294967296 :: digs f (n / 4294967296)
def limbsOf (n : Nat) : List Nat := digs (n + 1) n
/-- an integer -/
def iv (z : Int) : V := .ag [.sc (.bool (decide (z < 0))), sv (limbsOf z.natAbs)]

theorem canon_cons {x : Nat} {r : List Nat} (h1 : r = [] → x ≠ 0) (h2 : canon r) : canon (x :: r) := by
  intro hn
  cases r with
  | nil => simpa using h1 rfl
  | cons a r => rw [List.getLast_cons (by simp)]; exact h2 (by simp)
theorem digs_spec : ∀ (f n : Nat), n < f → val (digs f n) = n ∧ limbs (digs f n) ∧ canon (digs f n)
  | 0, n, h => by omega
  | f + 1, n, h => by
    simp only [digs]
    split
    · rename_i h0; subst h0
      exact ⟨rfl, fun x hx => (by simp at hx), fun hn => absurd rfl hn⟩
    · rename_i h0
      obtain ⟨h1, h2, h3⟩ := digs_spec f (n / 4294967296) (by omega)
      refine ⟨?_, ?_, ?_⟩
      · show n % 4294967296 + 4294967296 * val (digs f (n / 4294967296)) = n
        rw [h1]; omega
      · intro x hx
        rcases List.mem_cons.1 hx with rfl | hx
        · omega
        · exact h2 x hx
      · refine canon_cons (fun e => ?_) h3
        rw [e] at h1
        have : n / 4294967296 = 0 := h1.symm
        omega
theorem limbsOf_val (n : Nat) : val (limbsOf n) = n := (digs_spec _ _ (Nat.lt_succ_self _)).1
theorem limbsOf_limbs (n : Nat) : limbs (limbsOf n) := (digs_spec _ _ (Nat.lt_succ_self _)).2.1
theorem limbsOf_canon (n : Nat) : canon (limbsOf n) := (digs_spec _ _ (Nat.lt_succ_self _)).2.2
theorem limbsOf_eq {l : List Nat} (h : limbs l) (hc : canon l) : limbsOf (val l) = l := canon_inj (limbsOf_limbs _) h (limbsOf_canon _) hc (limbsOf_val _)
theorem limbsOf_zero : limbsOf 0 = [] := rfl
theorem limbsOf_nil {n : Nat} : limbsOf n = [] ↔ n = 0 := ⟨fun h => by have := limbsOf_val n; rw [h] at this; exact this.symm, fun h => by subst h; rfl⟩

theorem val_take_zeros {l : List Nat} {k : Nat} (h : ∀ i, k ≤ i → l.getD i 0 = 0) : val (l.take k) = val l := by
  have key : ∀ m : List Nat, (∀ i, m.getD i 0 = 0) → val m = 0 := by
    intro m
    induction m with
    | nil => intro _; rfl
    | cons x r ih =>
      intro hm
      have h0 := hm 0
      simp at h0
      have := ih (fun i => by simpa using hm (i + 1))
      simp [val, h0, this]
  rcases Nat.le_total k l.length with hk | hk
  · rw [val_split l k hk, key (l.drop k) (fun i => by have := h (k + i) (by omega); simpa [List.getD_eq_getElem?_getD] using this)]; simp
  · rw [List.take_of_length_le hk]
theorem made_tree {l : List Nat} {k : Nat} {neg : Bool} (hl : limbs l) (h : ∀ i, k ≤ i → l.getD i 0 = 0) (hk : k ≤ l.length) (h0 : k ≠ 0 → l.getD (k - 1) 0 ≠ 0) : limbsOf (sgn neg (val l)).natAbs = l.take k ∧ decide (sgn neg (val l) < 0) = (neg && decide (0 < k)) := by
  have hv := val_take_zeros h
  have hc : canon (l.take k) := by
    intro hn
    have hk0 : k ≠ 0 := by intro e; subst e; simp at hn
    rw [List.getLast_eq_getElem]
    have := h0 hk0
    simp only [List.length_take, Nat.min_eq_left hk, List.getElem_take]
    rwa [List.getD_eq_getElem?_getD, List.getElem?_eq_getElem (by omega)] at this
  have hn : (sgn neg (val l)).natAbs = val l := by unfold sgn; cases neg <;> simp
  refine ⟨by rw [hn, ← hv]; exact limbsOf_eq (limbs_take hl k) hc, ?_⟩
  have hz : val l = 0 ↔ k = 0 := by
    rw [← hv]
    constructor
    · intro e
      have := limbsOf_eq (limbs_take hl k) hc
      rw [e, limbsOf_zero] at this
      have := congrArg List.length this
      simp at this
      omega
    · intro e; subst e; rfl
  unfold sgn
  cases neg with
  | false => simp
  | true =>
    simp only [if_true, Bool.true_and]
    by_cases hk0 : k = 0
    · have := hz.2 hk0; simp [this, hk0]
    · have : val l ≠ 0 := fun e => hk0 (hz.1 e)
      simp; omega
end Go.Proofs.YtbpcgeanpkokkaaDoor
