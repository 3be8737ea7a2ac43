/- Texts joined: Lm Ln Lo Lp Lq. -/
import Derived.Test.YtfhcmibgpddggaaZc
import Derived.Test.YtfhcmibgpddggaaZd
import Derived.Test.YtfhcmibgpddggaaZd
set_option linter.all false
open Nat renaming reduceEqDiff → zn1, reduceLT → zn2, reduceLeDiff → zn3, reduceAdd → zn4, reduceMul → zn5, reduceSub → zn6, reduceBEq → zn7
open Int renaming reduceToNat → zi1, reducePow → zi2
namespace Go.Proofs.Ytfhcmibgpddggaa
open Go.RowKit
end Go.Proofs.Ytfhcmibgpddggaa
namespace Go.Proofs.Ytfhcmibgpddggaa
open Go.RowKit
def nv (r : List Nat) : List V := r.map fun (n : Nat) => .sc (.int .u64 n)
theorem nv_clo (r : List Nat) : (nv r).all clo = true := by
  rw [List.all_eq_true]; intro x hx; obtain ⟨n, _, rfl⟩ := List.mem_map.1 hx; rfl
def nR (M : List (List Nat)) : List (List V) := M.map nv
def mv (w : Nat) (M : List (List Nat)) : V := .im (imR w (nR M)) M.length
theorem imR_clo (w : Nat) (rs : List (List V)) : (imR w rs).all clo = true := by
  rw [List.all_eq_true]; intro x hx; obtain ⟨n, _, rfl⟩ := List.mem_map.1 hx; rfl
theorem Le.newSlice {B : Base} {sl : List (Nat × V)} {hp : List (Nat × Blk)} {nx nx' nt id len z t : Nat} {cap : Option Nat} {k : Blk} (hB : B.Old nx) (h : nx ≤ id) (hx : get sl t = .sl id 0 len z cap) (hk : hget hp id = some k) (hc : k.cs.all clo = true) : Le B ⟨sl, hp, nx', nt⟩ ⟨[(t, .sl nx 0 len z none)], [(nx, k)], nx + 1, nt⟩ := by
  refine Le.map (ren1 nx id) (fun i => i ≤ nx) hB (fun i hi => ⟨by omega, if_neg (by omega)⟩) (fun i hi => by omega) (fun i j hi hj e => ?_) ⟨?_, trivial⟩ (fun i k' hk' hi => ?_)
  · unfold ren1 at e
    split at e <;> split at e <;> omega
  · rw [hx]; exact VMap.cap (if_pos rfl) (Nat.le_refl _)
  · simp only [hget] at hk'
    split at hk'
    · rename_i e
      cases hk'
      subst e
      rw [show ren1 i id i = id from if_pos rfl, hk]
      exact BMap.clo hc
    · cases hk'
theorem Le.nilSlice {B : Base} {sl : List (Nat × V)} {hp : List (Nat × Blk)} {nx nt t z ty : Nat} (hB : B.Old nx) (hx : get sl t = .sc (.slice none 0 0)) : Le B ⟨sl, hp, nx, nt⟩ ⟨[(t, .sl nx 0 0 z none)], [(nx, ⟨ty, [], false⟩)], nx + 1, nt⟩ := by
  refine Le.map (fun i => i) (fun i => i < nx) hB (fun i hi => ⟨hi, rfl⟩) (fun i hi => by omega) (fun i j hi hj e => e) ⟨?_, trivial⟩ (fun i k' hk' hi => ?_)
  · rw [hx]; exact VMap.nil_sl _ _ _
  · simp only [hget] at hk'
    split at hk'
    · omega
    · cases hk'
end Go.Proofs.Ytfhcmibgpddggaa
namespace Go.Proofs.Ytfhcmibgpddggaa
open Go.RowKit
theorem klc {n i : Nat} {k : Blk} {r : List (Nat × Blk)} (h : i < n) (h2 : ∀ id q, hget r id = some q → id < n) : ∀ id q, hget ((i, k) :: r) id = some q → id < n := by
  intro id q hq
  simp only [hget] at hq
  split at hq
  · rename_i e; omega
  · exact h2 id q hq
theorem kln {n : Nat} : ∀ id q, hget [] id = some q → id < n := fun _ _ h => by cases h
theorem klr {n : Nat} {ty : TypeId} {ids : List Nat} {rs : List (List V)} (h : ∀ i ∈ ids, i < n) : ∀ id q, hget (rowsH ty ids rs) id = some q → id < n := by
  intro id q hq
  obtain ⟨k, h1, _, h3, _⟩ := rows_inv hq
  rw [← h3]; exact h _ (getD_mem' h1)
end Go.Proofs.Ytfhcmibgpddggaa
namespace Go.Proofs.Ytfhcmibgpddggaa
open Go.RowKit
structure RowsOk (o : Nat) (ids : List Nat) (n lo hi : Nat) : Prop where
  len : ids.length = n
  nod : ids.Nodup
  lt : ∀ i ∈ ids, lo ≤ i ∧ i < hi
  o1 : lo ≤ o ∧ o < hi
  o2 : o ∉ ids
theorem slR_app (z m : Nat) (a b : List Nat) : slR z m a ++ slR z m b = slR z m (a ++ b) := by simp [slR]
theorem take_snoc {α : Type} {l : List α} {i : Nat} {d : α} (h : i < l.length) : l.take (i + 1) = l.take i ++ [l.getD i d] := by
  rw [List.take_add_one, getD_get' (d := d) h]; rfl
theorem Le.rowInP {B : Base} {sl sl' : List (Nat × V)} {pre : List (Nat × Blk)} {o id m z nx nt : Nat} {cap : Option Nat} {ty tr : TypeId} {ids : List Nat} {rs : List (List V)} {row rest : List V} (hpre : ∀ i k, hget pre i = some k → i ≠ id ∧ k.cs.all clo = true) (hB : ∃ m, B.Old m ∧ m ≤ nx) (hid : id < nx) (hi : ∀ i ∈ ids, i < nx) (hoi : id ≠ o) (hin : id ∉ ids) (hl : ids.length = rs.length) (hc : row.all clo = true) (hrc : ∀ r ∈ rs, r.all clo = true)
    (hrest : ∀ x ∈ rest, x = .sc (.slice none 0 0)) (h1 : mapSl (fun i => i) (fun i => i < nx) sl sl') :
    Le B ⟨sl, (id, ⟨tr, row, false⟩) :: (pre ++ (o, ⟨ty, slR z m ids ++ V.sl id 0 m z cap :: rest, false⟩) :: rowsH tr ids rs), nx, nt⟩ ⟨sl', pre ++ (o, ⟨ty, slR z m (ids ++ [id]) ++ rest, false⟩) :: rowsH tr (ids ++ [id]) (rs ++ [row]), nx, nt⟩ := by
  obtain ⟨m0, hB, hm0⟩ := hB
  refine Le.map (fun i => i) (fun i => i < nx) hB (fun i hi => ⟨by omega, rfl⟩) (fun i h => h) (fun i j _ _ e => e) h1 (fun i k' hk' hlt => ?_)
  simp only [hget, hget_app] at hk' ⊢
  cases hp : hget pre i with
  | some q =>
    rw [hp] at hk'
    cases hk'
    obtain ⟨p1, p2⟩ := hpre i _ hp
    rw [if_neg p1]
    exact BMap.clo p2
  | none =>
  rw [hp] at hk'
  simp only at hk' ⊢
  by_cases e : i = o
  · subst e
    rw [if_pos rfl] at hk'
    rw [if_neg (fun e => hoi e.symm), if_pos rfl]
    cases hk'
    refine ⟨_, rfl, rfl, rfl, fun j y hy => ?_⟩
    have hy' : (slR z m (ids ++ [id]) ++ rest)[j]? = some y := hy
    show ∃ x, (slR z m ids ++ V.sl id 0 m z cap :: rest)[j]? = some x ∧ _
    rw [← slR_app] at hy'
    have hlen := slR_len z m ids
    rcases Nat.lt_trichotomy j ids.length with g | g | g
    · rw [List.append_assoc, List.getElem?_append_left (by omega), slR_get g] at hy'
      rw [List.getElem?_append_left (by omega), slR_get g]
      cases hy'
      exact ⟨_, rfl, VMap.sl rfl (hi _ (getD_mem' g))⟩
    · rw [List.append_assoc, List.getElem?_append_right (by omega), hlen, g, Nat.sub_self] at hy'
      rw [List.getElem?_append_right (by omega), hlen, g, Nat.sub_self]
      have : (slR z m [id] ++ rest)[0]? = some (V.sl id 0 m z none) := rfl
      rw [this] at hy'
      cases hy'
      exact ⟨_, rfl, VMap.cap rfl hid⟩
    · rw [List.append_assoc, List.getElem?_append_right (by omega), hlen] at hy'
      rw [List.getElem?_append_right (by omega), hlen]
      obtain ⟨q, hq⟩ : ∃ q, j - ids.length = q + 1 := ⟨j - ids.length - 1, by omega⟩
      rw [hq] at hy' ⊢
      have e1 : (slR z m [id] ++ rest)[q + 1]? = rest[q]? := rfl
      rw [e1] at hy'
      rw [List.getElem?_cons_succ]
      refine ⟨y, hy', ?_⟩
      rw [hrest y (List.mem_of_getElem? hy')]
      exact VMap.nil
  · rw [if_neg e] at hk'
    have := rows_snoc hl hin i k' hk'
    simp only [hget] at this
    by_cases e2 : i = id
    · rw [if_pos e2] at this ⊢
      cases this
      exact BMap.clo hc
    · rw [if_neg e2] at this
      rw [if_neg e2, if_neg e, this]
      obtain ⟨q, q1, q2, q3, rfl⟩ := rows_inv this
      exact BMap.clo (hrc _ (by rw [List.getD_eq_getElem?_getD, List.getElem?_eq_getElem q2]; exact List.getElem_mem q2))
theorem Le.rowIn {B : Base} {sl sl' : List (Nat × V)} {o id m z nx nt : Nat} {cap : Option Nat} {ty tr : TypeId} {ids : List Nat} {rs : List (List V)} {row rest : List V} (hB : ∃ m, B.Old m ∧ m ≤ nx) (hid : id < nx) (hi : ∀ i ∈ ids, i < nx) (hoi : id ≠ o) (hin : id ∉ ids) (hl : ids.length = rs.length) (hc : row.all clo = true) (hrc : ∀ r ∈ rs, r.all clo = true)
    (hrest : ∀ x ∈ rest, x = .sc (.slice none 0 0)) (h1 : mapSl (fun i => i) (fun i => i < nx) sl sl') :
    Le B ⟨sl, (id, ⟨tr, row, false⟩) :: (o, ⟨ty, slR z m ids ++ V.sl id 0 m z cap :: rest, false⟩) :: rowsH tr ids rs, nx, nt⟩ ⟨sl', (o, ⟨ty, slR z m (ids ++ [id]) ++ rest, false⟩) :: rowsH tr (ids ++ [id]) (rs ++ [row]), nx, nt⟩ :=
  Le.rowInP (pre := []) (fun i k h => by cases h) hB hid hi hoi hin hl hc hrc hrest h1
theorem RowsOk.snoc {o i lo : Nat} {ids : List Nat} {hi : Nat} (h : RowsOk o ids i lo hi) : RowsOk o (ids ++ [hi]) (i + 1) lo (hi + 1) := by
  refine ⟨by simp [h.len], ?_, fun j hj => ?_, by have := h.o1; omega, ?_⟩
  · rw [List.nodup_append]
    exact ⟨h.nod, by simp, fun a ha b hb => by simp at hb; subst hb; have := (h.lt a ha).2; omega⟩
  · have := h.o1
    rcases List.mem_append.1 hj with g | g
    · have := h.lt j g; omega
    · simp at g; omega
  · intro hm
    have := h.o1
    rcases List.mem_append.1 hm with g | g
    · exact h.o2 g
    · simp at g; omega
theorem setAll_all (cs xs : List V) : ∀ off, off + xs.length ≤ cs.length → setAll cs off xs = cs.take off ++ xs ++ cs.drop (off + xs.length) := by
  induction xs generalizing cs with
  | nil => intro off h; simp [setAll]
  | cons x r ih =>
    intro off h
    simp only [List.length_cons] at h
    rw [setAll, ih (cs.set off x) (off + 1) (by rw [List.length_set]; omega)]
    have e1 : (cs.set off x).take (off + 1) = cs.take off ++ [x] := by
      rw [List.take_set, List.take_add_one, List.set_append_right _ _ (by simp; omega)]
      have : off < cs.length := by omega
      simp [List.getElem?_eq_getElem this, Nat.min_eq_left (by omega : off ≤ cs.length)]
    have e2 : (cs.set off x).drop (off + 1 + r.length) = cs.drop (off + (r.length + 1)) := by
      rw [List.drop_set, if_pos (by omega)]
      congr 1; omega
    rw [e1, e2]; simp
end Go.Proofs.Ytfhcmibgpddggaa
namespace Go.Proofs.Ytfhcmibgpddggaa
open Go.RowKit
def wv (l : List Nat) : List V := l.map fun (n : Nat) => .sc (.int .i64 n)
theorem wv_clo (r : List Nat) : (wv r).all clo = true := by
  rw [List.all_eq_true]; intro x hx; obtain ⟨n, _, rfl⟩ := List.mem_map.1 hx; rfl
structure Ids (o : Nat) (ids0 ids : List Nat) (n nx : Nat) : Prop where
  len : ids.length = n
  nod : ids.Nodup
  sub : ∀ i ∈ ids, i ∈ ids0
  lt : ∀ i ∈ ids, i < nx
  o1 : o < nx
  o2 : o ∉ ids
theorem Ids.more {o n nx nx' : Nat} {ids0 ids : List Nat} (h : Ids o ids0 ids n nx) (hn : nx ≤ nx') : Ids o ids0 ids n nx' :=
  ⟨h.len, h.nod, h.sub, fun i hi => Nat.lt_of_lt_of_le (h.lt i hi) hn, Nat.lt_of_lt_of_le h.o1 hn, h.o2⟩
def swapN (ids : List Nat) (k q : Nat) : List Nat := (ids.set k (ids.getD q 0)).set q (ids.getD k 0)
theorem swapN_get {ids : List Nat} {k q : Nat} (hk : k < ids.length) (hq : q < ids.length) (i : Nat) : (swapN ids k q).getD i 0 = if i = q then ids.getD k 0 else if i = k then ids.getD q 0 else ids.getD i 0 := by
  unfold swapN
  rw [getD_set (by simpa using hq), getD_set hk]
theorem Ids.swap {o n nx : Nat} {ids0 ids : List Nat} (h : Ids o ids0 ids n nx) {k q : Nat} (hk : k < n) (hq : q < n) : Ids o ids0 (swapN ids k q) n nx := by
  have hl := h.len
  have hl2 : (swapN ids k q).length = n := by simp [swapN, hl]
  have hmem : ∀ i ∈ swapN ids k q, i ∈ ids := by
    intro i hi
    obtain ⟨j, hj, rfl⟩ := List.mem_iff_getElem.1 hi
    have e := swapN_get (ids := ids) (k := k) (q := q) (by omega) (by omega) j
    rw [List.getD_eq_getElem?_getD, List.getElem?_eq_getElem hj] at e
    simp only [Option.getD_some] at e
    rw [e]
    split
    · exact getD_mem' (by omega)
    · split
      · exact getD_mem' (by omega)
      · exact getD_mem' (by omega)
  refine ⟨hl2, ?_, fun i hi => h.sub i (hmem i hi), fun i hi => h.lt i (hmem i hi), h.o1, fun ho => h.o2 (hmem o ho)⟩
  rw [List.nodup_iff_pairwise_ne, List.pairwise_iff_getElem]
  intro i j hi hj hij e
  have e1 := swapN_get (ids := ids) (k := k) (q := q) (by omega) (by omega) i
  have e2 := swapN_get (ids := ids) (k := k) (q := q) (by omega) (by omega) j
  rw [List.getD_eq_getElem?_getD, List.getElem?_eq_getElem hi] at e1
  rw [List.getD_eq_getElem?_getD, List.getElem?_eq_getElem hj] at e2
  simp only [Option.getD_some] at e1 e2
  rw [e1, e2] at e
  have inj := fun a b ha hb e => nodup_getD h.nod (i := a) (j := b) ha hb e
  have hi' : i < n := by omega
  have hj' : j < n := by omega
  split at e
  · split at e
    · omega
    · split at e
      · have := inj _ _ (by omega) (by omega) e; omega
      · have := inj _ _ (by omega) (by omega) e; omega
  · split at e
    · split at e
      · have := inj _ _ (by omega) (by omega) e; omega
      · split at e
        · omega
        · have := inj _ _ (by omega) (by omega) e; omega
    · split at e
      · have := inj _ _ (by omega) (by omega) e; omega
      · split at e
        · have := inj _ _ (by omega) (by omega) e; omega
        · have := inj _ _ (by omega) (by omega) e; omega
theorem less_cons {i : Nat} {b : Blk} {r r' : List (Nat × Blk)} (h : ∀ id k, hget r' id = some k → hget r id = some k) : ∀ id k, hget ((i, b) :: r') id = some k → hget ((i, b) :: r) id = some k := by
  intro id k hk
  simp only [hget] at hk ⊢
  by_cases e : id = i
  · rw [if_pos e] at hk ⊢; exact hk
  · rw [if_neg e] at hk ⊢; exact h id k hk
end Go.Proofs.Ytfhcmibgpddggaa
