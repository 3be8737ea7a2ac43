/- Texts joined: Ra Rb Rc Rd Re Rf Rg Rh Ri Rj Rk Rl Rm Rn Ro Rp Rq Rr Rs Rt. -/
import Derived.Test.YtphilljhfdlfdaaGreatZc
import Derived.Test.YtphilljhfdlfdaaGreatZd
import Derived.Test.YtphilljhfdlfdaaGreatZe
set_option linter.all false
open Nat renaming reduceEqDiff → zn1, reduceLT → zn2, reduceLeDiff → zn3, reduceAdd → zn4, reduceMul → zn5, reduceSub → zn6, reduceBEq → zn7, mul_one → zn8, zero_add → zn9, one_mul → zna, le_refl → znb, zero_le → znc, add_sub_cancel_left → znd, sub_eq_zero_of_le → zne, add_assoc → znf
open Int renaming reduceToNat → zi1, reducePow → zi2
open List renaming length_append → zl1, drop_zero → zl2, take_succ_cons → zl3, take_zero → zl4, getElem?_drop → zl5, append_assoc → zl6, nil_append → zl7, cons_append → zl8, drop_succ_cons → zl9, take_of_length_le → zla, getElem?_eq_getElem → zlb, getElem?_eq_some_iff → zlc, map_cons → zld, map_nil → zle, all_eq_true → zlf
namespace Go.Proofs.YtphilljhfdlfdaaGreat
open Go.RowKit
theorem pvalid_i (z : Int) (K : Nat) (hz : Fits K z) (hK : K ≤ 1000000000) : Spec Tryz.prog 67 [iv z] (.sc (.bool true)) := by
  have hl := fits_len hz
  have h := valid_g (limbsOf z.natAbs) _ (decide (z < 0)) rfl (by omega)
  have : validB (limbsOf z.natAbs) (decide (z < 0)) = true := by
    unfold validB
    split
    · rename_i h0
      have h1 := limbsOf_val z.natAbs
      rw [List.eq_nil_of_length_eq_zero h0] at h1
      have : z = 0 := by simp [val] at h1; omega
      subst this; rfl
    · rename_i h0
      have hc := limbsOf_canon z.natAbs
      have hne : limbsOf z.natAbs ≠ [] := fun e => h0 (by rw [e]; rfl)
      have := hc hne
      rw [List.getLast_eq_getElem] at this
      rw [List.getD_eq_getElem?_getD, zlb (by omega)]
      simpa using this
  rw [this] at h
  exact h
def ivC (z : Int) : List V := [.sc (.bool (decide (z < 0))), sv (limbsOf z.natAbs)]
def ivR : List Int → List V
  | [] => []
  | z :: r => ivC z ++ ivR r
theorem ivR_len : ∀ l : List Int, (ivR l).length = 2 * l.length
  | [] => rfl
  | z :: r => by
    rw [ivR, zl1, ivR_len r, List.length_cons]
    show 2 + _ = _
    omega
theorem ivR_clo : ∀ l : List Int, (ivR l).all clo = true
  | [] => rfl
  | z :: r => by
    rw [ivR, List.all_append, ivR_clo r]; rfl
theorem ivR_drop : ∀ {l : List Int} {i : Nat}, i < l.length → (ivR l).drop (i * 2) = ivC (l.getD i 0) ++ (ivR l).drop ((i + 1) * 2)
  | o :: r, 0, _ => rfl
  | o :: r, i + 1, h => by
    have e : ∀ m, (m + 1) * 2 = (ivC o).length + m * 2 := by intro m; show _ = 2 + _; omega
    have hd : ∀ m, (ivR (o :: r)).drop ((m + 1) * 2) = (ivR r).drop (m * 2) := by
      intro m
      rw [e, ivR, List.drop_append]
      simp only [znd, List.drop_eq_nil_of_le (Nat.le_add_right _ _), zl7]
    rw [hd, hd]
    exact ivR_drop (by simpa using h)
theorem ivR_set : ∀ {l : List Int} {i : Nat} (z : Int), i < l.length → setAll (ivR l) (i * 2) (ivC z) = ivR (l.set i z)
  | o :: r, 0, z, _ => rfl
  | o :: r, i + 1, z, h => by
    have h' : i < r.length := by simpa using h
    have ih := ivR_set z h'
    rw [setAll_all _ _ _ (by rw [ivR_len]; show _ + 2 ≤ _; omega)] at ih
    rw [setAll_all _ _ _ (by rw [ivR_len, List.length_cons]; show _ + 2 ≤ _; omega)]
    have e : (i + 1) * 2 = (ivC o).length + i * 2 := by show _ = 2 + _; omega
    have e2 : (i + 1) * 2 + (ivC z).length = (ivC o).length + (i * 2 + (ivC z).length) := by omega
    rw [e2, e, ivR, List.take_length_add_append, List.drop_length_add_append, zl6, zl6, ← zl6 ((ivR r).take _), ih]
    rfl
def rI (M : List (List Int)) : List (List V) := M.map ivR
theorem rI_len (M : List (List Int)) : (rI M).length = M.length := by simp [rI]
theorem rI_getD (M : List (List Int)) (i : Nat) : (rI M).getD i [] = ivR (M.getD i []) := by
  unfold rI
  rw [List.getD_eq_getElem?_getD, List.getElem?_map, List.getD_eq_getElem?_getD]
  cases M[i]? <;> rfl
theorem rI_set (M : List (List Int)) (i : Nat) (r : List Int) : (rI M).set i (ivR r) = rI (M.set i r) := by simp [rI, List.map_set]
theorem rI_clo (M : List (List Int)) : ∀ r ∈ rI M, r.all clo = true := by
  intro r hr; obtain ⟨q, _, rfl⟩ := List.mem_map.1 hr; exact ivR_clo q
structure MI (h w K : Nat) (M : List (List Int)) : Prop where
  len : M.length = h
  row : ∀ r ∈ M, r.length = w ∧ ∀ x ∈ r, Fits K x
theorem MI.get {h w K : Nat} {M : List (List Int)} (hM : MI h w K M) {i : Nat} (hi : i < h) : (M.getD i []).length = w ∧ ∀ x ∈ M.getD i [], Fits K x := hM.row _ (getD_mem (d := []) (by rw [hM.len]; exact hi))
theorem MI.mono {h w K L : Nat} {M : List (List Int)} (hM : MI h w K M) (hl : K ≤ L) : MI h w L M := ⟨hM.len, fun r hr => ⟨(hM.row r hr).1, fun x hx => ((hM.row r hr).2 x hx).mono hl⟩⟩
theorem MI.set {h w K : Nat} {M : List (List Int)} (hM : MI h w K M) {i : Nat} {r : List Int} (hr : r.length = w ∧ ∀ x ∈ r, Fits K x) : MI h w K (M.set i r) :=
  ⟨by rw [List.length_set]; exact hM.len, fun q hq => by rcases List.mem_or_eq_of_mem_set hq with e | e; exact hM.row q e; exact e ▸ hr⟩
def mat (w : Nat) (M : List (List Int)) : V := .ag [.sc (.int .i64 M.length), .sc (.int .i64 w), .im (imR w (rI M)) M.length]
theorem imI_len (w : Nat) (M : List (List Int)) : (imR w (rI M)).length = M.length := by simp [imR, rI]
theorem imI_get {w i : Nat} {M : List (List Int)} (h : i < M.length) : (imR w (rI M))[i]? = some (.im (ivR (M.getD i [])) w) := by
  unfold imR rI
  rw [List.getElem?_map, List.getElem?_map, getD_get' (d := []) h]; rfl
theorem rI_rows {h w K : Nat} {M : List (List Int)} (hM : MI h w K M) : ∀ r ∈ rI M, r.length = w * 2 ∧ r.all clo = true := by
  intro r hr
  obtain ⟨q, hq, rfl⟩ := List.mem_map.1 hr
  refine ⟨?_, ivR_clo q⟩
  rw [ivR_len, (hM.row q hq).1, Nat.mul_comm]
def RowsI (w : Nat) (M : List (List Int)) (nx : Nat) (x : V) (hp' : List (Nat × Blk)) (nx' : Nat) : Prop :=
  ∃ o ids, RowsOk o ids M.length nx nx' ∧ x = .sl o 0 M.length 1 none ∧ hp' = (o, ⟨28, slR 2 w ids, false⟩) :: rowsH 24 ids (rI M)
def clS : V → Bool
  | .sc _ => true
  | x => clo x
theorem VMap.clS {f : Nat → Nat} {D : Nat → Prop} {x : V} (h : clS x = true) : VMap f D x x := by
  cases x <;> first | exact VMap.sc _ | exact VMap.clo h
theorem Le.rowsDown (pre : List (Nat × Blk)) {B : Base} {sl sl' : List (Nat × V)} {hp : List (Nat × Blk)} {o m z nx nx1 nt : Nat} {ty tr : TypeId} {ids : List Nat} {rs : List (List V)} (hpre : ∀ i k, hget pre i = some k → k.cs.all clS = true) (hB : ∃ m, B.Old m ∧ m ≤ nx) (ho : o < nx) (hi : ∀ i ∈ ids, i < nx) (hrc : ∀ r ∈ rs, r.all clo = true)
    (hs : ∀ id k, hget (pre ++ (o, (⟨ty, slR z m ids, false⟩ : Blk)) :: rowsH tr ids rs) id = some k → hget hp id = some k) (h1 : mapSl (fun i => i) (fun i => i < nx) sl sl') :
    Le B ⟨sl, hp, nx1, nt⟩ ⟨sl', pre ++ (o, ⟨ty, slR z m ids, false⟩) :: rowsH tr ids rs, nx, nt⟩ := by
  obtain ⟨m0, hB, hm0⟩ := hB
  refine Le.map (fun i => i) (fun i => i < nx) hB (fun i hi => ⟨by omega, rfl⟩) (fun i h => h) (fun i j _ _ e => e) h1 (fun i k' hk' hlt => ?_)
  rw [hs i k' hk']
  rw [hget_app] at hk'
  cases hp : hget pre i with
  | some q =>
    rw [hp] at hk'
    cases hk'
    exact ⟨_, rfl, rfl, rfl, fun j y hy => ⟨y, hy, VMap.clS (List.all_eq_true.1 (hpre i _ hp) y (List.mem_of_getElem? hy))⟩⟩
  | none =>
    rw [hp] at hk'
    simp only [hget] at hk'
    split at hk'
    · cases hk'
      refine ⟨_, rfl, rfl, rfl, fun j y hy => ⟨y, hy, ?_⟩⟩
      obtain ⟨q, hq, rfl⟩ := List.mem_map.1 (List.mem_of_getElem? hy)
      exact VMap.sl rfl (hi q hq)
    · obtain ⟨q, q1, q2, q3, rfl⟩ := rows_inv hk'
      exact BMap.clo (hrc _ (by rw [List.getD_eq_getElem?_getD, zlb q2]; exact List.getElem_mem q2))
theorem pre0 : ∀ i k, hget ([] : List (Nat × Blk)) i = some k → k.cs.all clS = true := fun i k h => by cases h
theorem less_new {n : Nat} {b : Blk} {r r' : List (Nat × Blk)} (h : ∀ id k, hget r' id = some k → hget r id = some k) (hn : ∀ id k, hget r' id = some k → id ≠ n) : ∀ id k, hget r' id = some k → hget ((n, b) :: r) id = some k := by
  intro id k hk
  simp only [hget]
  rw [if_neg (hn id k hk)]; exact h id k hk
theorem ilist_ext {a b : List Int} (h : a.length = b.length) (hx : ∀ j, j < a.length → a.getD j 0 = b.getD j 0) : a = b := by
  refine List.ext_getElem h fun j h1 h2 => ?_
  have := hx j h1
  rw [List.getD_eq_getElem?_getD, List.getD_eq_getElem?_getD, zlb h1, zlb h2] at this
  simpa using this
theorem rowsI_new {w nx : Nat} {M : List (List Int)} {x : V} {hp' : List (Nat × Blk)} {nx' : Nat} (h : RowsI w M nx x hp' nx') : Only (fun i => nx ≤ i) x ∧ OnlyH (fun i => nx ≤ i) hp' ∧ ∀ id k, hget hp' id = some k → nx ≤ id := by
  obtain ⟨o, ids, hR, rfl, rfl⟩ := h
  refine ⟨.sl hR.o1.1, ⟨fun y hy => ?_, OnlyH.rows (rI_clo M)⟩, fun id k hk => ?_⟩
  · obtain ⟨i, hi, rfl⟩ := List.mem_map.1 hy
    exact .sl (hR.lt i hi).1
  · simp only [hget] at hk
    split at hk
    · rename_i e; rw [e]; exact hR.o1.1
    · obtain ⟨q, q1, _, q3, _⟩ := rows_inv hk
      rw [← q3]; exact (hR.lt _ (getD_mem' q1)).1
def inR (o : Nat) (ids : List Nat) (i : Nat) : Prop := i = o ∨ i ∈ ids
theorem inR_rows {o : Nat} {b : Blk} {tr : TypeId} {ids0 ids : List Nat} {rs : List (List V)} (hs : ∀ i ∈ ids, i ∈ ids0) : ∀ id k, hget ((o, b) :: rowsH tr ids rs) id = some k → inR o ids0 id := by
  intro id k hk
  simp only [hget] at hk
  split at hk
  · exact .inl ‹_›
  · obtain ⟨q, q1, q2, q3, rfl⟩ := rows_inv hk
    rw [← q3]; exact .inr (hs _ (getD_mem' q1))
theorem pre2 {n m : Nat} {b c : Blk} (hb : b.cs.all clS = true) (hc : c.cs.all clS = true) : ∀ i k, hget [(n, b), (m, c)] i = some k → k.cs.all clS = true := fun i k h => by
  simp only [hget] at h
  split at h
  · cases h; exact hb
  · split at h
    · cases h; exact hc
    · cases h
theorem Le.rowsTo (pre : List (Nat × Blk)) {B : Base} {sl sl' : List (Nat × V)} {hp : List (Nat × Blk)} {o nx nx1 nt : Nat} {ty tr : TypeId} {ids : List Nat} {rs : List (List V)} {C' : List V} (hB : ∃ m, B.Old m ∧ m ≤ nx)
    (hpre : ∀ i k, hget pre i = some k → k.cs.all clS = true ∧ hget hp i = some k)
    (ho : ∃ C, hget hp o = some ⟨ty, C, false⟩ ∧ ∀ (j : Nat) (y : V), C'[j]? = some y → ∃ x, C[j]? = some x ∧ VMap (fun i => i) (fun i => i < nx) x y)
    (hr : ∀ k, k < ids.length → k < rs.length → ∃ C, hget hp (ids.getD k 0) = some ⟨tr, C, false⟩ ∧ ∀ (j : Nat) (y : V), (rs.getD k [])[j]? = some y → ∃ x, C[j]? = some x ∧ VMap (fun i => i) (fun i => i < nx) x y)
    (h1 : mapSl (fun i => i) (fun i => i < nx) sl sl') :
    Le B ⟨sl, hp, nx1, nt⟩ ⟨sl', pre ++ (o, ⟨ty, C', false⟩) :: rowsH tr ids rs, nx, nt⟩ := by
  obtain ⟨m0, hB, hm0⟩ := hB
  refine Le.map (fun i => i) (fun i => i < nx) hB (fun i hi => ⟨by omega, rfl⟩) (fun i h => h) (fun i j _ _ e => e) h1 (fun i k' hk' hlt => ?_)
  rw [hget_app] at hk'
  cases hp : hget pre i with
  | some q =>
    rw [hp] at hk'
    cases hk'
    obtain ⟨p1, p2⟩ := hpre i _ hp
    rw [p2]
    exact ⟨_, rfl, rfl, rfl, fun j y hy => ⟨y, hy, VMap.clS (List.all_eq_true.1 p1 y (List.mem_of_getElem? hy))⟩⟩
  | none =>
    rw [hp] at hk'
    simp only [hget] at hk'
    split at hk'
    · rename_i e
      cases hk'
      obtain ⟨C, h2, h3⟩ := ho
      subst e
      rw [h2]
      exact ⟨_, rfl, rfl, rfl, h3⟩
    · obtain ⟨q, q1, q2, q3, rfl⟩ := rows_inv hk'
      obtain ⟨C, h2, h3⟩ := hr q q1 q2
      subst q3
      rw [h2]
      exact ⟨_, rfl, rfl, rfl, h3⟩
theorem cellsTo {z m n nx : Nat} {cap : Option Nat} {ids : List Nat} {rest : List V} (hi : ∀ i ∈ ids, i < nx) (hn : n < nx) (hrest : ∀ x ∈ rest, x = .sc (.slice none 0 0)) : ∀ (j : Nat) (y : V), (slR z m (ids ++ [n]) ++ rest)[j]? = some y → ∃ x, (slR z m ids ++ V.sl n 0 m z cap :: rest)[j]? = some x ∧ VMap (fun i => i) (fun i => i < nx) x y := by
  intro j y hy
  rw [← slR_app] at hy
  have hlen := slR_len z m ids
  rcases Nat.lt_trichotomy j ids.length with g | g | g
  · rw [zl6, List.getElem?_append_left (by omega), slR_get g] at hy
    rw [List.getElem?_append_left (by omega), slR_get g]
    cases hy
    exact ⟨_, rfl, VMap.sl rfl (hi _ (getD_mem' g))⟩
  · rw [zl6, List.getElem?_append_right (by omega), hlen, g, Nat.sub_self] at hy
    rw [List.getElem?_append_right (by omega), hlen, g, Nat.sub_self]
    have : (slR z m [n] ++ rest)[0]? = some (V.sl n 0 m z none) := rfl
    rw [this] at hy
    cases hy
    exact ⟨_, rfl, VMap.cap rfl hn⟩
  · rw [zl6, List.getElem?_append_right (by omega), hlen] at hy
    rw [List.getElem?_append_right (by omega), hlen]
    obtain ⟨q, hq⟩ : ∃ q, j - ids.length = q + 1 := ⟨j - ids.length - 1, by omega⟩
    rw [hq] at hy ⊢
    have e1 : (slR z m [n] ++ rest)[q + 1]? = rest[q]? := rfl
    rw [e1] at hy
    rw [List.getElem?_cons_succ]
    refine ⟨y, hy, ?_⟩
    rw [hrest y (List.mem_of_getElem? hy)]
    exact VMap.nil
theorem cloTo {r : List V} {f : Nat → Nat} {D : Nat → Prop} (h : r.all clS = true) : ∀ (j : Nat) (y : V), r[j]? = some y → ∃ x, r[j]? = some x ∧ VMap f D x y := fun j y hy => ⟨y, hy, VMap.clS (List.all_eq_true.1 h y (List.mem_of_getElem? hy))⟩
theorem clS_of {r : List V} (h : r.all clo = true) : r.all clS = true := by
  rw [zlf] at h ⊢
  intro x hx
  have := h x hx
  cases x <;> first | rfl | exact this
theorem ids_snoc {ids : List Nat} {n k : Nat} (h : k < (ids ++ [n]).length) : (k < ids.length ∧ (ids ++ [n]).getD k 0 = ids.getD k 0) ∨ (k = ids.length ∧ (ids ++ [n]).getD k 0 = n) := by
  simp only [zl1, List.length_singleton] at h
  rcases Nat.lt_or_ge k ids.length with g | g
  · exact .inl ⟨g, by rw [List.getD_eq_getElem?_getD, List.getElem?_append_left g, List.getD_eq_getElem?_getD]⟩
  · have e : k = ids.length := by omega
    exact .inr ⟨e, by rw [e, List.getD_eq_getElem?_getD, List.getElem?_append_right (znb _), Nat.sub_self]; rfl⟩
def zer (w : Nat) : List V := (List.replicate w [V.sc (.bool false), V.sc (.slice none 0 0)]).flatten
def zeroL (h w : Nat) : List (List Int) := List.replicate h (List.replicate w 0)
theorem zer_map {f : Nat → Nat} {D : Nat → Prop} : ∀ (w j : Nat) (y : V), (ivR (List.replicate w 0))[j]? = some y → ∃ x, (zer w)[j]? = some x ∧ VMap f D x y
  | 0, j, y, h => by cases h
  | w + 1, j, y, h => by
    have e1 : ivR (List.replicate (w + 1) 0) = V.sc (.bool false) :: V.im [] 0 :: ivR (List.replicate w 0) := rfl
    have e2 : zer (w + 1) = V.sc (.bool false) :: V.sc (.slice none 0 0) :: zer w := rfl
    rw [e1] at h
    rw [e2]
    match j, h with
    | 0, h => cases h; exact ⟨_, rfl, VMap.sc _⟩
    | 1, h => cases h; exact ⟨_, rfl, VMap.nil_im⟩
    | j + 2, h => exact zer_map w j y h
theorem zeroL_get {h w k : Nat} (hk : k < h) : (zeroL h w).getD k [] = List.replicate w 0 := by
  unfold zeroL
  rw [List.getD_eq_getElem?_getD, List.getElem?_replicate, if_pos hk]; rfl
theorem zeroL_len {h w : Nat} : (zeroL h w).length = h := by simp [zeroL]
def MatQ (w : Nat) (M : List (List Int)) (nx : Nat) (x : V) (hp' : List (Nat × Blk)) (nx' : Nat) : Prop :=
  ∃ o ids, RowsOk o ids M.length nx nx' ∧ x = .ag [.sc (.int .i64 M.length), .sc (.int .i64 w), .sl o 0 M.length 1 none] ∧ hp' = (o, ⟨28, slR 2 w ids, false⟩) :: rowsH 24 ids (rI M)
def mkR (w : Nat) (f : Nat → Int) : List Int := (List.range w).map f
def mkM (h w : Nat) (f : Nat → Nat → Int) : List (List Int) := (List.range h).map fun r => mkR w (f r)
theorem mkR_len {w : Nat} {f : Nat → Int} : (mkR w f).length = w := by simp [mkR]
theorem mkM_len {h w : Nat} {f : Nat → Nat → Int} : (mkM h w f).length = h := by simp [mkM]
theorem mkR_get {w c : Nat} {f : Nat → Int} (h : c < w) : (mkR w f).getD c 0 = f c := by
  unfold mkR
  rw [List.getD_eq_getElem?_getD, List.getElem?_map, List.getElem?_range h]; rfl
theorem mkM_get {h w r : Nat} {f : Nat → Nat → Int} (hr : r < h) : (mkM h w f).getD r [] = mkR w (f r) := by
  unfold mkM
  rw [List.getD_eq_getElem?_getD, List.getElem?_map, List.getElem?_range hr]; rfl
theorem mkR_congr {w : Nat} {f g : Nat → Int} (h : ∀ c, c < w → f c = g c) : mkR w f = mkR w g := by
  unfold mkR
  exact List.map_congr_left fun c hc => h c (List.mem_range.1 hc)
theorem mkM_congr {h w : Nat} {f g : Nat → Nat → Int} (hh : ∀ r c, r < h → c < w → f r c = g r c) : mkM h w f = mkM h w g := by
  unfold mkM
  exact List.map_congr_left fun r hr => mkR_congr fun c hc => hh r c (List.mem_range.1 hr) hc
theorem mkM_set {h w i j : Nat} {f : Nat → Nat → Int} {x : Int} (hi : i < h) (hj : j < w) : (mkM h w f).set i ((mkR w (f i)).set j x) = mkM h w fun r c => if r = i ∧ c = j then x else f r c := by
  refine List.ext_getElem (by simp [mkM_len]) fun r h1 h2 => ?_
  rw [mkM_len] at h2
  have e1 : ((mkM h w f).set i ((mkR w (f i)).set j x)).getD r [] = (mkM h w fun r c => if r = i ∧ c = j then x else f r c).getD r [] := by
    rw [getD_set (by rw [mkM_len]; exact hi), mkM_get h2, mkM_get h2]
    by_cases e : r = i
    · subst e
      rw [if_pos rfl]
      refine ilist_ext (by rw [List.length_set, mkR_len, mkR_len]) fun c hc => ?_
      rw [List.length_set, mkR_len] at hc
      rw [getD_set (by rw [mkR_len]; exact hj), mkR_get hc, mkR_get hc]
      by_cases e2 : c = j
      · rw [if_pos e2, if_pos ⟨rfl, e2⟩]
      · rw [if_neg e2, if_neg (fun h => e2 h.2)]
    · rw [if_neg e]
      exact mkR_congr fun c _ => by rw [if_neg (fun h => e h.1)]
  rw [List.getD_eq_getElem?_getD, zlb h1, List.getD_eq_getElem?_getD, zlb (by rw [mkM_len]; exact h2)] at e1
  simpa using e1
theorem mkM_zero {h w : Nat} : zeroL h w = mkM h w fun _ _ => 0 := by
  refine List.ext_getElem (by rw [zeroL_len, mkM_len]) fun r h1 h2 => ?_
  rw [zeroL_len] at h1
  have e : (zeroL h w).getD r [] = (mkM h w fun _ _ => 0).getD r [] := by
    rw [zeroL_get h1, mkM_get h1]
    refine ilist_ext (by rw [mkR_len]; simp) fun c hc => ?_
    simp only [List.length_replicate] at hc
    rw [mkR_get hc, List.getD_eq_getElem?_getD, List.getElem?_replicate, if_pos hc]; rfl
  rw [List.getD_eq_getElem?_getD, zlb (by rw [zeroL_len]; exact h1), List.getD_eq_getElem?_getD, zlb (by rw [mkM_len]; exact h1)] at e
  simpa using e
theorem mk_mi {h w K : Nat} {f : Nat → Nat → Int} (hf : ∀ r c, r < h → c < w → Fits K (f r c)) : MI h w K (mkM h w f) := by
  refine ⟨mkM_len, fun r hr => ?_⟩
  obtain ⟨i, hi, rfl⟩ := List.mem_map.1 hr
  refine ⟨mkR_len, fun x hx => ?_⟩
  obtain ⟨c, hc, rfl⟩ := List.mem_map.1 hx
  exact hf i c (List.mem_range.1 hi) (List.mem_range.1 hc)
theorem matQ_new {w nx : Nat} {M : List (List Int)} {x : V} {hp' : List (Nat × Blk)} {nx' : Nat} (h : MatQ w M nx x hp' nx') : Only (fun i => nx ≤ i) x ∧ OnlyH (fun i => nx ≤ i) hp' ∧ ∀ id k, hget hp' id = some k → nx ≤ id := by
  obtain ⟨o, ids, hR, rfl, rfl⟩ := h
  have := rowsI_new (w := w) (M := M) (nx := nx) (nx' := nx') ⟨o, ids, hR, rfl, rfl⟩
  refine ⟨.ag fun y hy => ?_, this.2⟩
  simp only [List.mem_cons, List.not_mem_nil, or_false] at hy
  rcases hy with rfl | rfl | rfl
  · exact .sc _
  · exact .sc _
  · exact this.1
theorem cellF {h w i j : Nat} {ty : TypeId} {ids : List Nat} {f : Nat → Nat → Int} {z : Int} (hnod : ids.Nodup) (hlen : ids.length = h) (hi : i < h) (hj : j < w) :
    hget (rowsH ty ids (rI (mkM h w f))) (ids.getD i 0) = some ⟨ty, ivR (mkR w (f i)), false⟩ ∧ (ivR (mkR w (f i))).length = 2 * w ∧ (ivR (mkR w (f i))).drop (j * 2) = ivC (f i j) ++ (ivR (mkR w (f i))).drop ((j + 1) * 2) ∧
    setAll (ivR (mkR w (f i))) (j * 2) (ivC z) = ivR ((mkR w (f i)).set j z) ∧ hset (rowsH ty ids (rI (mkM h w f))) (ids.getD i 0) ⟨ty, ivR ((mkR w (f i)).set j z), false⟩ = rowsH ty ids (rI (mkM h w fun r c => if r = i ∧ c = j then z else f r c)) := by
  have gR := rows_get (ty := ty) (rs := rI (mkM h w f)) (k := i) hnod (by omega) (by rw [rI_len, mkM_len]; omega)
  rw [rI_getD, mkM_get hi] at gR
  have gd := ivR_drop (l := mkR w (f i)) (i := j) (by rw [mkR_len]; exact hj)
  rw [mkR_get hj] at gd
  have hrs := rows_set (ty := ty) (rs := rI (mkM h w f)) (k := i) (r := ivR ((mkR w (f i)).set j z)) hnod (by omega) (by rw [rI_len, mkM_len]; omega)
  rw [rI_set, mkM_set hi hj] at hrs
  exact ⟨gR, by rw [ivR_len, mkR_len], gd, ivR_set z (by rw [mkR_len]; exact hj), hrs⟩
set_option maxHeartbeats 4000000 in
theorem rnew_s (h w nx : Nat) (hn : h ≤ 1000000) (hw : w ≤ 1000000) : InlQ Tryz.prog 43 [.sc (.int .i64 h), .sc (.int .i64 w)] [] nx (MatQ w (zeroL h w) nx) := by
  have hzl : (zeroL h w).length = h := by simp [zeroL]
  refine InlQ.run Tryz.func43 rfl Tryz.ntmps43 (by simp) (by simp only [go_sem, zn4]; rfl) fun B hB => ?_
  (repeat (first | (with_reducible refine oz (by constructor <;> decide) ?_) | ((with_reducible apply SC.region); (simp only [go_sem, ↓reduceIte, zn3] <;> rfl); (fail_if_success with_reducible refine pickA ?_))))
  refine SC.loop (fun x : Nat × List Nat × Nat × Nat => ⟨[(0, .sc (.int .i64 h)), (1, .sc (.int .i64 w)), (4, .pt nx 0), (5, .sl x.2.2.1 0 x.1 1 none), (6, .sc (.int .i64 x.1))], (nx, ⟨49, [.sc (.int .i64 0), .sc (.int .i64 0), .sc (.slice none 0 0)], false⟩) :: (x.2.2.1, ⟨28, slR 2 w x.2.1, false⟩) :: rowsH 24 x.2.1 (rI (zeroL x.1 w)), x.2.2.2, 22⟩)
    (fun x => x.1 ≤ h ∧ RowsOk x.2.2.1 x.2.1 x.1 nx x.2.2.2 ∧ nx ∉ x.2.1 ∧ nx < x.2.2.1) (fun x => h - x.1) (0, [], nx + 1, nx + 2) ?_ ?_ ?_
  · (refine Le.slots ?_ ?_ ?_ <;> (repeat' (first | exact znb _ | exact leSl_nil | refine leSl_cons (by simp (disch := omega) only [go_sem, ↓reduceIte, zn1, reduceCtorEq] <;> rfl) ?_ ?_ | exact VLe.refl rfl | exact VLe.cap rfl (by rfl) | (refine fun id k h => ?_; simp only [hget] at h ⊢; (repeat' (split at h)) <;> first | (cases h; done) | (simp (disch := omega) only [if_pos, if_neg]; exact h)))))
  · exact ⟨znc _, ⟨rfl, List.nodup_nil, by simp, by simp only; omega, by simp⟩, by simp, by simp only; omega⟩
  · rintro ⟨i, ids, o, m⟩ ⟨hi, hR, hnx, hno⟩ K hK
    simp only at hi hR hnx hno ⊢
    have hlt : ∀ j ∈ ids, j < m := fun j hj => (hR.lt j hj).2
    by_cases hc : i < h
    · have q1 := decide_eq_true (p := (i : Int) < (h : Int)) (by omega)
      have g1 := slR_len 2 w ids
      rw [hR.len] at g1
      have ht : (slR 2 w ids).take i = slR 2 w ids := zla (by omega)
      have g2 : (slR 2 w ids).all V.one = true := by
        rw [zlf]; intro x hx; obtain ⟨n, _, rfl⟩ := List.mem_map.1 hx; rfl
      have g3 := rows_del (ty := 24) (rs := rI (zeroL i w)) (i := o) (ids := ids) hR.o2
      have ho := hR.o1
      have g4 := slR_len 2 w ids
      (repeat (first | (with_reducible refine oz (by constructor <;> decide) ?_) | ((with_reducible first | apply SC.condB | apply SC.region); (simp (disch := omega) only [go_sem, ↓reduceIte, zn1, zn3, zn4, reduceCtorEq, if_pos, if_neg, q1, g1, g3, ht] <;> rfl); (first | refine pickT ?_ | fail_if_success with_reducible refine pickA ?_))))
      have hne : ∀ j ∈ ids, j ≠ nx := fun j hj e => hnx (e ▸ hj)
      refine hK _ (i + 1, ids ++ [m], m + 1 + 1, m + 1 + 1 + 1) ?_ ⟨by simp only; omega, ?_, ?_, by simp only; omega⟩ (by simp only; omega)
      · dsimp only
        refine Le.rowsTo [(nx, _)] ⟨nx, hB, by omega⟩ (fun j k hj => ?_) ?_ (fun k hk1 hk2 => ?_) ?_
        · simp only [hget] at hj
          split at hj
          · rename_i e
            cases hj; subst e
            refine ⟨rfl, ?_⟩
            simp only [hget]
            rw [if_neg (by omega), if_neg (by omega), if_neg (by omega), if_pos trivial]
          · cases hj
        · refine ⟨_, by simp only [hget]; rw [if_pos trivial], ?_⟩
          have := cellsTo (z := 2) (m := w) (n := m) (nx := m + 1 + 1 + 1) (cap := some w) (ids := ids) (rest := []) (fun j hj => by have := hlt j hj; omega) (by omega) (fun x hx => by cases hx)
          simpa using this
        · rw [rI_len, zeroL_len] at hk2
          rw [rI_getD, zeroL_get hk2]
          rcases ids_snoc hk1 with ⟨g, e⟩ | ⟨g, e⟩
          · have hm := getD_mem' g
            have h1 := hlt _ hm
            have h2 := hne _ hm
            have := rows_get (ty := 24) (rs := rI (zeroL i w)) (k := k) hR.nod g (by rw [rI_len, zeroL_len, hR.len])
            rw [rI_getD, zeroL_get (by rw [hR.len] at g; exact g)] at this
            rw [e]
            exact ⟨_, by simp only [hget]; rw [if_neg (by omega), if_neg (by omega), if_neg (by omega), if_neg h2, this], cloTo (clS_of (ivR_clo _))⟩
          · rw [e]
            exact ⟨zer w, by simp only [hget]; rw [if_neg (by omega), if_neg (by omega), if_pos trivial]; rfl, zer_map w⟩
        · (repeat' (first | exact trivial | refine mapSl_cons (by simp only [go_sem, ↓reduceIte, zn1, reduceCtorEq] <;> rfl) ?_ ?_ | exact VMap.sc _ | exact VMap.sl rfl (by omega) | exact VMap.pt rfl (by omega)))
      · refine ⟨by simp [hR.len], ?_, fun j hj => ?_, by simp only; omega, ?_⟩
        · rw [List.nodup_append]
          exact ⟨hR.nod, by simp, fun a ha b hb => by simp at hb; subst hb; have := hlt a ha; omega⟩
        · rcases List.mem_append.1 hj with g | g
          · have := hR.lt j g; simp only; omega
          · simp at g; simp only; omega
        · intro h
          rcases List.mem_append.1 h with g | g
          · have := hlt _ g; simp only at this; omega
          · have := List.mem_singleton.1 g; simp only at this; omega
      · intro h
        rcases List.mem_append.1 h with g | g
        · exact hnx g
        · simp at g; omega
    · have q1 := decide_eq_false (p := (i : Int) < (h : Int)) (by omega)
      have hin : i = h := by omega
      subst hin
      (repeat (first | (with_reducible refine oz (by constructor <;> decide) ?_) | ((with_reducible first | apply SC.condB | apply SC.region); (simp only [go_sem, ↓reduceIte, zn1, zn2, zn3, zn4, reduceCtorEq, q1] <;> rfl); (first | refine pickF ?_ | fail_if_success with_reducible refine pickA ?_))))
      refine retIQ_ret (.ag [.sc (.int .i64 i), .sc (.int .i64 w), .sl o 0 i 1 none]) ((o, ⟨28, slR 2 w ids, false⟩) :: rowsH 24 ids (rI (zeroL i w))) m Tryz.results43 (by simp only [go_sem, ↓reduceIte, zn1, zn3, zn4, reduceCtorEq]; rfl) ⟨o, ids, by rw [hzl]; exact hR, by rw [hzl], rfl⟩ ?_
      have ho := hR.o1
      refine Le.rowsDown [] pre0 ⟨nx, hB, by omega⟩ (by omega) hlt (rI_clo _) (less_new (fun id k hk => hk) (fun id k hk => ?_)) ?_
      · rcases inR_rows (fun i hi => hi) id k hk with e | e
        · omega
        · exact fun e2 => hnx (e2 ▸ e)
      · refine mapSl_cons (x := .ag [.sc (.int .i64 i), .sc (.int .i64 w), .sl o 0 i 1 none]) (by simp only [go_sem, ↓reduceIte]) (VMap.ag rfl fun j x y hx hy => ?_) trivial
        match j, hx, hy with
        | 0, hx, hy => cases hx; cases hy; exact VMap.sc _
        | 1, hx, hy => cases hx; cases hy; exact VMap.sc _
        | 2, hx, hy => cases hx; cases hy; exact VMap.cap rfl (by omega)
attribute [-go_sem] exMake_eq
def bv8 (l : List Int) : List V := l.map fun n => .sc (.int .i8 n)
theorem bv8_len (l : List Int) : (bv8 l).length = l.length := by simp [bv8]
theorem bv8_get {r : List Int} {j : Nat} (h : j < r.length) : (bv8 r)[j]? = some (.sc (.int .i8 (r.getD j 0))) := by
  unfold bv8; rw [List.getElem?_map, getD_get' (d := 0) h]; rfl
def dgt (l : List Int) (k : Nat) : Int := if k < l.length then (l.getD k 0).tmod 10 else 0
theorem dgt_small {l : List Int} {k : Nat} (h : ∀ x ∈ l, -128 ≤ x ∧ x ≤ 127) : -9 ≤ dgt l k ∧ dgt l k ≤ 9 := by
  unfold dgt
  split
  · rename_i hc
    have hx := h _ (getD_mem (d := 0) hc)
    generalize l.getD k 0 = x at *
    have := Int.tmod_def x 10
    have h1 := Int.tmod_lt_of_pos x (b := 10) (by omega)
    have h2 := Int.lt_tmod_of_pos x (b := 10) (by omega)
    omega
  · omega
def Gf (w : Nat) (l : List Int) (i j r c : Nat) : Int := if r < i ∨ (r = i ∧ c < j) then dgt l (r * w + c) else 0
def filL (h w : Nat) (l : List Int) : List (List Int) := mkM h w fun r c => dgt l (r * w + c)
set_option maxHeartbeats 16000000 in
set_option maxRecDepth 8000 in
theorem filled_s {h w : Nat} {l : List Int} (hn : h ≤ 16) (hw : w ≤ 16) (hb : ∀ x ∈ l, -128 ≤ x ∧ x ≤ 127) (hl : l.length ≤ 9223372036854775807) :
    Spec Tryz.prog 56 [.sc (.int .i64 h), .sc (.int .i64 w), .im (bv8 l) l.length] (mat w (filL h w l)) := by
  have c0 := rnew_s h w 1 (by omega) (by omega)
  have hm1 : max (h : Int) 0 = h := by omega
  have hm2 : max (w : Int) 0 = w := by omega
  have hm3 : min (h : Int) 16 = h := by omega
  have hm4 : min (w : Int) 16 = w := by omega
  refine Spec.run Tryz.func56 rfl Tryz.ntmps56 (by simp) (by simp only [go_sem, zn4]; rfl) fun B hB => ?_
  (repeat (first | (with_reducible refine oz (by constructor <;> decide) ?_) | ((with_reducible first | apply SC.region | apply SO.run); (simp (disch := omega) only [go_sem, ↓reduceIte, zn1, reduceCtorEq, if_neg] <;> rfl); (fail_if_success with_reducible refine pickA ?_)) | (with_reducible apply SC.ops)))
  refine SO.inlQ (by simp (disch := omega) only [go_sem] <;> rfl) Tab.go43 (by simp (disch := omega) only [go_sem, ↓reduceIte, zn1] <;> rfl) (by simp (disch := omega) only [go_sem] <;> rfl) (SInlQ.newR c0 ?_ ?_ ?_)
  · exact klc (by omega) kln
  · exact fun x hp' nx' h => matQ_new h
  rintro x hp' nx ⟨o, ids, hR, rfl, rfl⟩
  have ho := hR.o1
  rw [zeroL_len] at hR ⊢
  have e0 : zeroL h w = mkM h w (Gf w l 0 0) := by
    rw [mkM_zero]
    exact mkM_congr fun r c _ _ => by
      unfold Gf
      rw [if_neg (by omega)]
  rw [e0]
  have hidl := hR.len
  have g1 := slR_len 2 w ids
  rw [hidl] at g1
  (repeat (first | (with_reducible refine oz (by constructor <;> decide) ?_) | ((with_reducible first | apply SC.region | apply SO.run); (simp only [go_sem, ↓reduceIte, zn1, zn3, zn4] <;> rfl); (fail_if_success with_reducible refine pickA ?_))))
  refine SC.loop (fun i : Nat => ⟨[(2, .im (bv8 l) l.length), (6, .pt 0 0), (7, .pt nx 0), (8, .sc (.int .i64 i))], (nx, ⟨49, [.sc (.int .i64 h), .sc (.int .i64 w), .sl o 0 h 1 none], false⟩) :: (0, ⟨49, [.sc (.int .i64 0), .sc (.int .i64 0), .sc (.slice none 0 0)], false⟩) :: (o, ⟨28, slR 2 w ids, false⟩) :: rowsH 24 ids (rI (mkM h w (Gf w l i 0))), nx + 1, 60⟩)
    (fun i => i ≤ h) (fun i => h - i) 0 ?_ ?_ ?_
  · (refine Le.slots ?_ ?_ ?_ <;> (repeat' (first | (exact fun _ _ h => h) | exact znb _ | exact leSl_nil | refine leSl_cons (by simp only [go_sem, ↓reduceIte, zn1, reduceCtorEq] <;> rfl) ?_ ?_ | exact VLe.refl rfl)))
  · exact znc _
  · intro i hi K1 hK1
    by_cases hc : i < h
    · have q1 := decide_eq_true (p := (i : Int) < (h : Int)) (by omega)
      (repeat (first | (with_reducible refine oz (by constructor <;> decide) ?_) | ((with_reducible first | apply SC.condB | apply SC.region); (simp (disch := omega) only [go_sem, ↓reduceIte, zn1, reduceCtorEq, q1] <;> rfl); (first | refine pickT ?_ | fail_if_success with_reducible refine pickA ?_))))
      refine SC.loop (fun j : Nat => ⟨[(2, .im (bv8 l) l.length), (6, .pt 0 0), (7, .pt nx 0), (8, .sc (.int .i64 i)), (9, .sc (.int .i64 j))], (nx, ⟨49, [.sc (.int .i64 h), .sc (.int .i64 w), .sl o 0 h 1 none], false⟩) :: (0, ⟨49, [.sc (.int .i64 0), .sc (.int .i64 0), .sc (.slice none 0 0)], false⟩) :: (o, ⟨28, slR 2 w ids, false⟩) :: rowsH 24 ids (rI (mkM h w (Gf w l i j))), nx + 1, 60⟩)
        (fun j => j ≤ w) (fun j => w - j) 0 ?_ ?_ ?_
      · (refine Le.slots ?_ ?_ ?_ <;> (repeat' (first | (exact fun _ _ h => h) | exact znb _ | exact leSl_nil | refine leSl_cons (by simp only [go_sem, ↓reduceIte, zn1] <;> rfl) ?_ ?_ | exact VLe.refl rfl)))
      · exact znc _
      · intro j hj K2 hK2
        have hiw : i * w ≤ 16 * 16 := Nat.mul_le_mul (by omega) hw
        have hww : (i : Int) * (w : Int) = ((i * w : Nat) : Int) := by simp
        by_cases hc2 : j < w
        · have q2 := decide_eq_true (p := (j : Int) < (w : Int)) (by omega)
          have gl := bv8_len l
          by_cases hc3 : i * w + j < l.length
          · have q3 := decide_eq_true (p := ((i * w : Nat) : Int) + (j : Int) < (l.length : Int)) (by omega)
            have gi := slR_get (z := 2) (m := w) (ids := ids) (k := i) (by omega)
            obtain ⟨gR, gl2, gd, gs, hrs⟩ := cellF (ty := 24) (f := Gf w l i j) (z := dgt l (i * w + j)) (j := j) hR.nod hidl hc hc2
            have e1 : (mkM h w fun r c => if r = i ∧ c = j then dgt l (i * w + j) else Gf w l i j r c) = mkM h w (Gf w l i (j + 1)) := mkM_congr fun r c _ _ => by
              unfold Gf
              by_cases e : r = i ∧ c = j
              · obtain ⟨rfl, rfl⟩ := e
                rw [if_pos ⟨rfl, rfl⟩, if_pos (by omega)]
              · rw [if_neg e]
                by_cases e2 : r < i ∨ (r = i ∧ c < j)
                · rw [if_pos e2, if_pos (by omega)]
                · rw [if_neg e2, if_neg (by omega)]
            rw [e1] at hrs
            have hd := dgt_small (k := i * w + j) hb
            have c1 := of_i (dgt l (i * w + j)) (by omega) (by omega)
            have ed : dgt l (i * w + j) = (l.getD (i * w + j) 0).tmod 10 := by unfold dgt; rw [if_pos hc3]
            rw [ed] at c1 gs hrs
            have g3 := bv8_get hc3
            have hx := hb _ (getD_mem (d := 0) hc3)
            have hkl := klB_rows (ty := 24) (rs := rI (mkM h w (Gf w l i j))) (n := nx + 1) (fun j hj => by have := hR.lt j hj; omega)
            have hmem := getD_mem' (ids := ids) (k := i) (by omega)
            have hidk := hR.lt _ hmem
            have hne : ids.getD i 0 ≠ o := fun e => hR.o2 (by rw [← e]; exact hmem)
            have hix : (((i * w : Nat) : Int) + (j : Int)).toNat = i * w + j := by omega
            generalize hH : rowsH 24 ids (rI (mkM h w (Gf w l i j))) = H at *
            generalize mkR w (Gf w l i j i) = row at *
            generalize ids.getD i 0 = idk at *
            generalize hRr : ivR row = RR at *
            generalize l.getD (i * w + j) 0 = dd at *
            unfold iv sv at c1
            unfold ivC sv at gs
            have g2 : j * 2 < RR.length := by omega
            (repeat (first | refine DO.nilF (fun i => i + 1 - nx) (by simp (disch := omega) only [go_sem, zld, zle, Option.map_some, Option.map_none, znd, zne] <;> rfl) (by kernel_rfl) ?_ | (with_reducible refine oz (by constructor <;> decide) ?_) | ((apply DO.call); (iterate 3 (simp (disch := omega) only [go_sem, ↓reduceIte] <;> rfl)); (apply DCall.ofX); (assumption); (simp (disch := omega) only [go_sem] <;> rfl)) | ((with_reducible first | apply SC.condB | apply SC.region | apply DO.run); (simp (disch := omega) only [go_sem, ↓reduceIte, zn1, zn4, reduceCtorEq, if_pos, if_neg, q2, q3, hww, hix, gi, gR, gl, gl2, gs, hrs, g3, zl5] <;> rfl); (first | refine pickT ?_ | fail_if_success with_reducible refine pickA ?_)) | ((with_reducible refine SC.draw Tab.mixed ?_ ?_); (simp (disch := omega) only [go_sem, ↓reduceIte, if_pos, hkl]))))
            refine hK2 _ (j + 1) ?_ (by omega) (by omega)
            (refine Le.slots ?_ ?_ ?_ <;> (repeat' (first | (exact fun _ _ h => h) | exact znb _ | exact leSl_nil | refine leSl_cons (by simp only [go_sem, ↓reduceIte, zn1] <;> rfl) ?_ ?_ | exact VLe.refl rfl)))
          · have q3 := decide_eq_false (p := ((i * w : Nat) : Int) + (j : Int) < (l.length : Int)) (by omega)
            (repeat (first | (with_reducible refine oz (by constructor <;> decide) ?_) | ((with_reducible first | apply SC.condB | apply SC.region); (simp (disch := omega) only [go_sem, ↓reduceIte, zn1, reduceCtorEq, q2, q3, hww] <;> rfl); (first | refine pickF ?_ | fail_if_success with_reducible refine pickA ?_))))
            refine hK1 _ (i + 1) ?_ (by omega) (by omega)
            have e1 : mkM h w (Gf w l i j) = mkM h w (Gf w l (i + 1) 0) := mkM_congr fun r c _ hcw => by
              unfold Gf
              by_cases e : r < i ∨ (r = i ∧ c < j)
              · rw [if_pos e, if_pos (by omega)]
              · rw [if_neg e]
                by_cases e2 : r = i
                · subst e2
                  rw [if_pos (by omega)]
                  unfold dgt
                  rw [if_neg (by omega)]
                · rw [if_neg (by omega)]
            rw [e1]
            (refine Le.slots ?_ ?_ ?_ <;> (repeat' (first | (exact fun _ _ h => h) | exact znb _ | exact leSl_nil | refine leSl_cons (by simp only [go_sem, ↓reduceIte, zn1] <;> rfl) ?_ ?_ | exact VLe.refl rfl)))
        · have q2 := decide_eq_false (p := (j : Int) < (w : Int)) (by omega)
          have hjw : j = w := by omega
          (repeat (first | (with_reducible refine oz (by constructor <;> decide) ?_) | ((with_reducible first | apply SC.condB | apply SC.region); (simp (disch := omega) only [go_sem, ↓reduceIte, zn1, reduceCtorEq, q2] <;> rfl); (first | refine pickF ?_ | fail_if_success with_reducible refine pickA ?_))))
          refine hK1 _ (i + 1) ?_ (by omega) (by omega)
          have e1 : mkM h w (Gf w l i j) = mkM h w (Gf w l (i + 1) 0) := mkM_congr fun r c _ hcw => by
            unfold Gf
            by_cases e : r < i ∨ (r = i ∧ c < j)
            · rw [if_pos e, if_pos (by omega)]
            · rw [if_neg e]
              by_cases e2 : r = i
              · subst e2
                rw [if_pos (by omega)]
                unfold dgt
                rw [if_neg (by omega)]
              · rw [if_neg (by omega)]
          rw [e1]
          (refine Le.slots ?_ ?_ ?_ <;> (repeat' (first | (exact fun _ _ h => h) | exact znb _ | exact leSl_nil | refine leSl_cons (by simp only [go_sem, ↓reduceIte, zn1] <;> rfl) ?_ ?_ | exact VLe.refl rfl)))
    · have q1 := decide_eq_false (p := (i : Int) < (h : Int)) (by omega)
      have hih : i = h := by omega
      subst hih
      have e1 : mkM i w (Gf w l i 0) = filL i w l := mkM_congr fun r c hr _ => by
        unfold Gf
        rw [if_pos (.inl hr)]
      rw [e1]
      have hM : MI i w 1 (filL i w l) := mk_mi fun r c _ _ => by
        have := dgt_small (k := r * w + c) hb
        unfold Fits; omega
      generalize filL i w l = Z at *
      have hZl := hM.len
      by_cases h0 : i = 0
      · subst h0
        have hids : ids = [] := List.eq_nil_of_length_eq_zero (by omega)
        have hZ : Z = [] := List.eq_nil_of_length_eq_zero (by omega)
        subst hids; subst hZ
        (repeat (first | (with_reducible refine oz (by constructor <;> decide) ?_) | ((with_reducible first | apply SC.condB | apply SC.region); (simp (disch := omega) only [go_sem, ↓reduceIte, zn1, zn2, zn3, zn4, reduceCtorEq, if_neg, q1] <;> rfl); (first | refine pickF ?_ | fail_if_success with_reducible refine pickA ?_))))
        exact retQ_ret Tryz.results56 (by simp (disch := omega) only [go_sem, ↓reduceIte, zn1, zn3, zn4, if_neg] <;> rfl) (by simp (disch := omega) only [go_sem, ↓reduceIte, if_pos, if_neg] <;> rfl) rfl
      · have hrows : ∀ C1 C2 : List V, ∀ k, k < ids.length → hget ((nx, (⟨49, C1, false⟩ : Blk)) :: (0, ⟨49, C2, false⟩) :: (o, ⟨28, slR 2 w ids, false⟩) :: rowsH 24 ids (rI Z)) (ids.getD k 0) = some ⟨24, (rI Z).getD k [], false⟩ := by
          intro C1 C2 k hk
          have hm := getD_mem' hk
          have := hR.lt _ hm
          simp only [hget]
          rw [if_neg (by omega), if_neg (by omega), if_neg (fun e => hR.o2 (by rw [← e]; exact hm))]
          exact rows_get hR.nod hk (by rw [rI_len]; omega)
        have hfz := fun C1 C2 : List V => frz_rowsA (n := 5) (z := 2) (m := w) (ty := 24) (ids := ids) (rs := rI Z) (by omega) (by rw [rI_len]; omega) (hrows C1 C2) (rI_rows hM)
        have hsl := slR_some (z := 2) (m := w) (ids := ids) (by omega)
        have ht : (slR 2 w ids).take i = slR 2 w ids := zla (by omega)
        have hne : nx ≠ o := by omega
        unfold mat
        rw [hZl]
        (repeat (first | (with_reducible refine oz (by constructor <;> decide) ?_) | ((with_reducible first | apply SC.condB | apply SC.region); (simp (disch := omega) only [go_sem, ↓reduceIte, zn1, zn2, zn3, zn4, reduceCtorEq, if_neg, q1] <;> rfl); (first | refine pickF ?_ | fail_if_success with_reducible refine pickA ?_))))
        exact retQ_ret Tryz.results56 (by simp (disch := omega) only [go_sem, ↓reduceIte, zn1, zn3, zn4, if_neg] <;> rfl) (by simp (disch := omega) only [go_sem, ↓reduceIte, if_pos, if_neg, hfz, hsl, ht, g1] <;> rfl) rfl
theorem rmade_s {a b : Nat} {l : List Int} (ha : a < 256) (hb : b < 256) (hx : ∀ x ∈ l, -128 ≤ x ∧ x ≤ 127) (hl : l.length ≤ 9223372036854775807) :
    Spec Tryz.prog 19 [.ag [.sc (.int .u8 a), .sc (.int .u8 b), .im (bv8 l) l.length]] (mat (b % 5) (filL (a % 5) (b % 5) l)) := by
  have c1 := filled_s (h := a % 5) (w := b % 5) (l := l) (by omega) (by omega) hx hl
  have r1 : (a : Int).tmod 5 = ((a % 5 : Nat) : Int) := by rw [Int.tmod_eq_emod_of_nonneg (by omega)]; simp
  have r2 : (b : Int).tmod 5 = ((b % 5 : Nat) : Int) := by rw [Int.tmod_eq_emod_of_nonneg (by omega)]; simp
  generalize filL (a % 5) (b % 5) l = F at *
  unfold mat at *
  refine Spec.run Tryz.func19 rfl Tryz.ntmps19 (by simp) (by simp only [go_sem]; rfl) fun B hB => ?_
  (repeat (first | (with_reducible refine oz (by constructor <;> decide) ?_) | ((apply SO.call); (iterate 3 (simp (disch := omega) only [go_sem, ↓reduceIte, zn1, zn2] <;> rfl)); (apply SCall.ofX); (assumption); (simp (disch := omega) only [go_sem] <;> rfl)) | ((with_reducible first | apply SC.region | apply SO.run); (simp (disch := omega) only [go_sem, ↓reduceIte, zn1, zn2, zn3, zn4, reduceCtorEq, if_neg, r1, r2] <;> rfl); (fail_if_success with_reducible refine pickA ?_)) | (with_reducible apply SC.ops)))
  exact retQ_ret Tryz.results19 (by simp only [go_sem, ↓reduceIte, zn1, zn3, zn4] <;> rfl) (by simp only [go_sem, ↓reduceIte] <;> rfl) rfl
end Go.Proofs.YtphilljhfdlfdaaGreat
