/- append and copy on symbolic states. -/
import Derived.Test.YtbpcgeanpkokkaaDoorSe
namespace Go.Proofs.YtbpcgeanpkokkaaDoor
open Go.RowKit

section
variable {P : Program} {w : World} {B : Base} {S : Nat → Prop} {rho : Nat → Nat} {A : Nat → Prop} {hp : List (Nat × Blk)} {nx : Nat}

theorem run_append_zero (t ty e : TypeId) {z : Nat} (ht : P.underlying t = some (.slice e)) (hs : szOf P e = some z) (base a : Option Addr) (n c c' : Nat) (hn : n ≤ c) :
    (Builtin.append_ #[t, t] ty #[.slice base n c, .slice a 0 c']).run P w = .ok (.slice base n c) w := by
  have hf : (Builtin.firstCells z 0 (.slice a 0 c')).run P w = .ok #[] w := by
    cases a with
    | none => exact run_firstCells_none (P := P) w z 0 0 c'
    | some ad => exact run_firstCells_some (P := P) w z 0 ad 0 c' [] (by simp) (by simp)
  cases base <;> simp [Builtin.append_, run_underlying ht, Sem.run_bind, run_sizeOf hs, Builtin.lenOf, hn, hf, storeCells]

/-- an own block that need not be there comes under the number id -/
theorem Mem.phantom (h : Mem B S rho A hp w) (id : Nat) (hid : ¬ A id) (k : Blk) : Mem B S rho A ((id, k) :: hp) w := by
  have hg : ∀ i q, hget ((id, k) :: hp) i = some q → A i → hget hp i = some q := by
    intro i q hq ha
    simp only [hget] at hq
    rw [if_neg (fun e : i = id => hid (e ▸ ha))] at hq
    exact hq
  exact {
    cells := fun i q hq ha => h.cells i q (hg i q hq ha) ha
    fz := fun i q hq ha => h.fz i q (hg i q hq ha) ha
    own := fun i q hq ha => h.own i q (hg i q hq ha) ha
    inj := fun i j q q' hq hq' ha ha' => h.inj i j q q' (hg i q hq ha) (hg j q' hq' ha') ha ha'
    slt := h.slt
    sub := h.sub
    base := h.base
    frame := h.frame
    keep := h.keep }

theorem Out.less {hp' : List (Nat × Blk)} {id : Nat} {k : Blk} {r : Result Value} {x : V} (h : Out B S rho A hp' nx w r x (.new k)) (e : hp' = hdel hp id) : Out B S rho A hp nx w r x (.app id k) := by
  subst e
  obtain ⟨v, w', rho', A', h1, h2, h3, h4, h5, h6⟩ := h
  exact ⟨v, w', rho', A', h1, h2, h3, fun i hi => (h4 i hi).imp (fun h => h) (fun h => ⟨h.1, k, .inr ⟨id, rfl⟩⟩), h5, h6⟩

theorem Mem.del (h : Mem B S rho A hp w) (id : Nat) : Mem B S rho A (hdel hp id) w :=
  h.less fun i k hk => by rw [hget_hdel] at hk; split at hk; cases hk; exact hk

theorem grown_sound (hm : Mem B S rho A hp w) (hnx : ¬ A nx) {e : TypeId} {cs : List V} {arr rest : List Value} (h : All S rho A w cs arr) {r : Result Value} {l c z : Nat} (hr : r = .ok (.slice (some ⟨w.heap.size, 0, none⟩) l c) (w.drew.alloc (.cells (arr ++ rest).toArray e)))
    (hl : l ≤ c) (hc : c ≤ maxLen) (hs : c * z ≤ (arr ++ rest).length) : Out B S rho A hp nx w r (.sl nx 0 l z none) (.new ⟨e, cs, false⟩) := by
  have g : Grow w (w.drew.alloc (.cells (arr ++ rest).toArray e)) := (Grow.drawn w _).trans (Grow.alloc w.drew _)
  refine Out.new (b := w.heap.size) hm hnx hr g (Nat.le_refl _) ((h.mono (fun b hb => ⟨hb, g.block b (hm.slt b hb)⟩) (fun _ h => ⟨h, rfl, fun _ => g.szAt⟩)).cellsat (rest := rest) ?_) ?_
  · exact heap_alloc_new w.drew _
  · have := R.sl (S := S) (rho := fun i => if i = nx then w.heap.size else rho i) (A := fun i => i = nx ∨ A i) (w := w.drew.alloc (.cells (arr ++ rest).toArray e)) (id := nx) (off := 0) (z := z) (cap := none) (.inl rfl) hl hc (by simp) (by
      refine ⟨(arr ++ rest).toArray, e, (0, 0), ?_, by simpa using hs⟩
      simp only [if_true]; exact heap_alloc_new w.drew _)
    simpa using this

theorem append_sound (hm : Mem B S rho A hp w) (hnx : ¬ A nx) {t ty : TypeId} {s x y : V} {vs vx : Value} {f : Eff} (h : exAppend P hp nx t s x = some (y, f)) (hs : R S rho w A s vs) (hx : R S rho w A x vx) :
    Out B S rho A hp nx w ((Builtin.append_ #[t, t] ty #[vs, vx]).run P w) y f := by
  unfold exAppend at h
  cases hk : mkOf P t with
  | none => simp [hk] at h
  | some p =>
    obtain ⟨e, by', zc⟩ := p
    cases hsrc : srcV hp x with
    | none => simp [hk, hsrc] at h
    | some q =>
      obtain ⟨ys, m⟩ := q
      simp only [hk, hsrc, Option.bind_some] at h
      obtain ⟨i, zv, h1, h2, h3, rfl, rfl, h6, h7, h8⟩ := mkOf_und hk
      have hszE : szOf P e = some i.size := by simp [szOf, h2]
      obtain ⟨a, c', us, rfl, hAll, hcell, hmc, hcm, hn0⟩ := src_sound hm hsrc hx
      split at h
      · rename_i hys
        obtain ⟨hyl, hone⟩ := hys
        have hul : us.length = m * i.size := by rw [← hAll.1, hyl, h6]
        have h1v : ∀ v ∈ us, v.oneCell' = true := by
          intro v hv
          obtain ⟨j, hj⟩ := List.mem_iff_getElem?.1 hv
          have hlt : j < ys.length := by rw [hAll.1]; exact (List.getElem?_eq_some_iff.1 hj).1
          exact one_sound (List.all_eq_true.1 hone _ (List.getElem_mem hlt)) (hAll.2 j _ v (List.getElem?_eq_getElem hlt) hj)
        have hne : 0 < m → ys ≠ [] := by
          intro hpos e'
          rw [e'] at hyl
          have : 1 * 1 ≤ m * zv.cells.toList.length := Nat.mul_le_mul hpos (by omega)
          simp at hyl this; omega
        have hy0 : m = 0 → ys = [] := by intro h0; subst h0; exact List.eq_nil_of_length_eq_zero (by simpa using hyl)
        have hzc : ∀ n, (Builtin.zeroCells zv.cells n).size = n * i.size := by intro n; rw [size_zeroCells, h7]
        split at h
        · rename_i id off n z cap
          cases hg : hget hp id with
          | none => simp [hg] at h
          | some k =>
            simp only [hg, Option.bind_some] at h
            split at h
            · rename_i hc
              obtain ⟨rfl, hz, hfz, hty, hle, hlim, hby⟩ := hc
              simp only [Option.some.injEq, Prod.mk.injEq] at h
              obtain ⟨rfl, rfl⟩ := h
              have hz' : z = i.size := by omega
              cases hs with
              | sln hcap =>
                by_cases hm0 : m = 0
                · subst hm0
                  have hy := hy0 rfl
                  subst hy
                  refine ⟨.slice none 0 0, w, rho, A, run_append_zero t ty e h1 hszE none a 0 0 c' (Nat.le_refl _), ?_, fun _ h => ⟨h, rfl, fun _ h => h⟩, fun _ h => .inl h, fun _ _ => rfl, .sln (by simp)⟩
                  exact (hm.del id).phantom nx hnx _
                · obtain ⟨ad, rfl, hcd⟩ := hcell (hne (by omega))
                  have hr := run_append_nil (P := P) w t ty e i zv h1 h2 h3 ad m c' us hul hcd (by omega) (by omega) (by have := (show m * i.bytes ≤ (0 + m) * i.bytes by simp); omega)
                  have hge := grownCap_ge w m 0 e
                  rw [show List.take (0 * z) k.cs ++ ys = ys by simp]
                  refine Out.less (grown_sound (hm.del id) hnx (rest := (Builtin.zeroCells zv.cells (grownCap w m 0 e - m)).toList) (cs := ys) hAll (c := grownCap w m 0 e) (l := 0 + m) ?_ (by omega) (grownCap_le_maxLen w m 0 e (by unfold maxLen; omega)) ?_) rfl
                  · rw [hr, Nat.zero_add]; congr 3; apply Array.ext'; simp
                  · have e2 := hzc (grownCap w m 0 e - m)
                    simp [hul, e2, hz', ← Nat.add_mul]
                    rw [show m + (grownCap w m 0 e - m) = grownCap w m 0 e by omega]; exact Nat.le_refl _
              | sl hid hl hmx hcap hz0 =>
                rename_i c
                obtain ⟨cells, c1, c2, c3⟩ := (hm.cells id k hg hid).all
                have hAllo : All S rho A w (k.cs.take (n * z)) (cells.toList.take (n * z)) := by
                  have := c3.take (n * z)
                  rwa [List.take_take, Nat.min_eq_left hle] at this
                have hnsz : n * z ≤ cells.size := by omega
                have hns : ¬ S (rho id) := hm.fz id k hg hid hfz
                have hcsz : c * z ≤ cells.size := by
                  obtain ⟨ce, e', f', g1, g2⟩ := hz0
                  rw [c1] at g1
                  simp only [Option.some.injEq, Obj.cells.injEq] at g1
                  obtain ⟨rfl, _, _⟩ := g1
                  omega
                have hcomes : ∀ {w' : World}, Mem B S rho A (hdel hp id) w' → (∀ j, A j → A j ∧ rho j = rho j ∧ ∀ n, szAt w (rho j) n → szAt w' (rho j) n) → (∀ b, S b → w'.heap[b]? = w.heap[b]?) → (hcs : Cellsat S rho A w' (rho id) ⟨e, k.cs.take (n * z) ++ ys, false⟩) → n + m ≤ c →
                    ∀ r : Result Value, r = .ok (.slice (some ⟨rho id, 0, none⟩) (n + m) c) w' → Out B S rho A hp nx w r (.sl nx 0 (n + m) z none) (.app id ⟨e, k.cs.take (n * z) ++ ys, false⟩) := by
                  intro w' hm' hA' hS' hcs hroom r hr
                  refine ⟨_, w', _, _, hr, hm'.come nx hnx _ (rho id) ?_ hns (hm.own id k hg hid) hcs, fun j hj => ⟨.inr hj, if_neg (fun e : j = nx => hnx (e ▸ hj)), (hA' j hj).2.2⟩, fun j hj => hj.elim (fun e' => .inr ⟨e', _, .inr ⟨id, rfl⟩⟩) .inl, hS', ?_⟩
                  · intro j q hq haj he
                    rw [hget_hdel] at hq
                    split at hq
                    · cases hq
                    · rename_i hne'; exact hne' (hm.inj j id q k hq hg haj hid he)
                  · have := R.sl (S := S) (rho := fun i => if i = nx then rho id else rho i) (A := fun i => i = nx ∨ A i) (w := w') (id := nx) (off := 0) (z := z) (cap := none) (.inl rfl) hroom hmx (by simp) (by
                      simp only [if_true]; exact (hA' id hid).2.2 _ hz0)
                    simpa using this
                by_cases hm0 : m = 0
                · subst hm0
                  have hy := hy0 rfl
                  subst hy
                  refine hcomes (hm.del id) (fun j hj => ⟨hj, rfl, fun _ h => h⟩) (fun _ _ => rfl) ?_ (by omega) _ (run_append_zero t ty e h1 hszE _ a n c c' hl)
                  rw [List.append_nil]
                  refine All.cellsat (rest := cells.toList.drop (n * z)) hAllo ?_
                  rw [List.take_append_drop]; simpa [hty] using c1
                · obtain ⟨ad, rfl, hcd⟩ := hcell (hne (by omega))
                  by_cases hroom : n + m ≤ c
                  · have hfit : n * i.size + us.length ≤ cells.size := by
                      rw [hul, ← Nat.add_mul, ← hz']; exact Nat.le_trans (Nat.mul_le_mul_right _ hroom) hcsz
                    have hr := run_append_room (P := P) w t ty e i h1 h2 (rho id) n c cells (hty ▸ c1) ad m c' us hul hcd h1v hroom hfit
                    have hnew := hAllo.append hAll
                    rw [hz'] at hnew hnsz
                    obtain ⟨m1, m2, m3⟩ := hm.setRow hg hid hfz c1 (cs' := k.cs.take (n * z) ++ ys) (arr' := cells.toList.take (n * i.size) ++ us ++ cells.toList.drop (n * i.size + us.length)) (by simp; omega) (fun j y hj => by
                      rw [hz'] at hj
                      have hlt : j < (cells.toList.take (n * i.size) ++ us).length := by rw [← hnew.1]; exact (List.getElem?_eq_some_iff.1 hj).1
                      refine ⟨_, ?_, hnew.2 j y _ hj (List.getElem?_eq_getElem hlt)⟩
                      rw [List.getElem?_append, if_pos hlt, ← List.getElem?_eq_getElem hlt])
                    refine hcomes (m1.less fun j q hq => ?_) m3 m2 ?_ hroom _ hr
                    · rw [hget_hdel] at hq
                      split at hq
                      · cases hq
                      · rename_i hne'; rw [hget_hset, if_neg hne']; exact hq
                    · have hmem : hget (hset hp id ⟨k.ty, k.cs.take (n * z) ++ ys, false⟩) id = some ⟨k.ty, k.cs.take (n * z) ++ ys, false⟩ := by rw [hget_hset, if_pos rfl, hg]; rfl
                      have := m1.cells id _ hmem hid
                      rwa [hty] at this
                  · have holds : ∀ j v, (cells.toList.take (n * z))[j]? = some v → w.cell? ((⟨rho id, 0, none⟩ : Addr).add j) = some v := by
                      intro j v hv
                      rw [addrAdd, cell_of_row w (rho id) _ cells _ _ c1]
                      rw [List.getElem?_take] at hv
                      split at hv
                      · simpa using hv
                      · cases hv
                    have hr := run_append_grow (P := P) w t ty e i zv h1 h2 h3 ⟨rho id, 0, none⟩ n c (cells.toList.take (n * z)) (by simp; rw [← hz']; omega) holds ad m c' us hul hcd (by omega) (by omega) (growslice_fits (by omega) hby)
                    have hge := grownCap_ge w (n + m) c e
                    refine Out.less (grown_sound (hm.del id) hnx (rest := (Builtin.zeroCells zv.cells (grownCap w (n + m) c e - (n + m))).toList) (hAllo.append hAll) (c := grownCap w (n + m) c e) (l := n + m) ?_ (by omega) (grownCap_le_maxLen w (n + m) c e (by unfold maxLen; omega)) ?_) rfl
                    · rw [hr]; congr 3; apply Array.ext'; simp
                    · have e2 := hzc (grownCap w (n + m) c e - (n + m))
                      have e3 : min (n * i.size) cells.size = n * i.size := by rw [← hz']; omega
                      simp [hul, e2, hz', e3, ← Nat.add_mul]
                      rw [← Nat.add_assoc, show n + m + (grownCap w (n + m) c e - (n + m)) = grownCap w (n + m) c e by omega]; exact Nat.le_refl _
            · cases h
        · split at h
          · rename_i hb
            simp only [Option.some.injEq, Prod.mk.injEq] at h
            obtain ⟨rfl, rfl⟩ := h
            cases hs
            obtain ⟨ad, rfl, hcd⟩ := hcell (hne hb.1)
            have hr := run_append_nil (P := P) w t ty e i zv h1 h2 h3 ad m c' us hul hcd hb.1 (by omega) (by omega)
            have hge := grownCap_ge w m 0 e
            refine grown_sound hm hnx (rest := (Builtin.zeroCells zv.cells (grownCap w m 0 e - m)).toList) (cs := ys) hAll (c := grownCap w m 0 e) (l := m) ?_ (by omega) (grownCap_le_maxLen w m 0 e (by unfold maxLen; omega)) ?_
            · rw [hr]; congr 3; apply Array.ext'; simp
            · have e2 := hzc (grownCap w m 0 e - m)
              simp [hul, e2, h7, ← Nat.add_mul]
              rw [show m + (grownCap w m 0 e - m) = grownCap w m 0 e by omega]; exact Nat.le_refl _
          · cases h
        · cases h
      · cases h
end
end Go.Proofs.YtbpcgeanpkokkaaDoor
