/- Regions that draw their order, on symbolic states. -/
import Derived.Test.YtbpcgeanpkokkaaDoorSk
namespace Go.Proofs.YtbpcgeanpkokkaaDoor
open Go.RowKit

/-! ### what an operation looks at -/
def idOf : V → List Nat
  | .pt id _ => [id]
  | _ => []
def idOfS : V → List Nat
  | .sl id _ _ _ _ => [id]
  | _ => []
/-- own blocks that an operation reads or writes -/
def rdOf (sl : List (Nat × V)) : Op → List Nat
  | .load _ a => idOf (evS sl a)
  | .slice _ x _ _ _ => idOf (evS sl x)
  | .store _ a _ => idOf (evS sl a)
  | .convert _ _ x => idOfS (evS sl x)
  | _ => []
/-- operations that may stand in such a region -/
def okOp : Op → Bool
  | .move _ | .assign _ | .pick _ _ _ | .alloc _ | .box _ _ | .build _ _ | .buildSlice _ _ _ | .load _ _ | .store _ _ _ | .nilCheck _ | .binOp _ _ _ _ _ | .unOp _ _ _ | .convert _ _ _ | .makeFunc _ _ _ | .makeSlice _ _ _
  | .slice _ _ _ _ _ | .fieldAddr _ _ _ | .field _ _ _ | .indexAddr _ _ _ | .index _ _ _ | .extract _ _ => true
  | .call ⟨.builtin .len, _, _⟩ | .call ⟨.builtin .min, _, _⟩ | .call ⟨.builtin .max, _, _⟩ => true
  | _ => false
def agr (o' o : Option Blk) : Prop := ∀ k, o = some k → ∃ k', o' = some k' ∧ k'.ty = k.ty ∧ k'.cs = k.cs ∧ (k.fz = false → k'.fz = false)
def agr0 (o' o : Option Blk) : Prop := ∀ k, o = some k → ∃ k', o' = some k' ∧ k'.ty = k.ty ∧ k'.cs = k.cs
def isNew : Eff → Bool
  | .new _ | .app _ _ => true
  | _ => false

section
variable {P : Program} {sl sl' : List (Nat × V)} {hp hp' : List (Nat × Blk)} {nx nx' : Nat}

theorem map_ev {l : List Operand} (h : ∀ y ∈ l, evS sl' y = evS sl y) : l.map (evS sl') = l.map (evS sl) := List.map_congr_left h
theorem omap_ev {o : Option Operand} (h : ∀ y, o = some y → evS sl' y = evS sl y) : o.map (evS sl') = o.map (evS sl) := by
  cases o with
  | none => rfl
  | some y => simp [h y rfl]
theorem pmap_ev {l : List (Nat × Operand)} (h : ∀ y ∈ l.map (·.2), evS sl' y = evS sl y) : (l.map fun p => (p.1, evS sl' p.2)) = l.map fun p => (p.1, evS sl p.2) :=
  List.map_congr_left fun p hp => by rw [h p.2 (List.mem_map.2 ⟨p, hp, rfl⟩)]

theorem exSlice_sc {t : TypeId} {lo hi mx : Option V} (u : Value) : exSlice P hp' t (.sc u) lo hi mx = exSlice P hp t (.sc u) lo hi mx := by
  cases u <;> try rfl
  rename_i a l c
  cases a <;> try rfl
  cases l <;> try rfl
  cases c <;> rfl
theorem frz_sc (n : Nat) (u : Value) : frz (n + 1) hp' (.sc u) = frz (n + 1) hp (.sc u) := by
  cases u <;> try rfl
  rename_i a l c
  cases a <;> try rfl
  cases l <;> try rfl
  cases c <;> rfl

theorem srcG_local {off len z : Nat} {o o' : Option Blk} {q : List V × Nat} (h : srcG off len z o = some q) (hr : agr0 o' o) : srcG off len z o' = some q := by
  cases o with
  | none => cases h
  | some k =>
    obtain ⟨k', rfl, h2, h3⟩ := hr k rfl
    simp only [srcG] at h ⊢
    rw [h3]; exact h

theorem exConvH_sc {a b : TypeId} (u : Value) : exConvH P hp' a b (.sc u) = exConvH P hp a b (.sc u) := by
  cases u <;> try rfl
  rename_i x l c
  cases x <;> try rfl
  cases l <;> try rfl
  cases c <;> rfl
theorem op_local {op : Op} {x : V} {f : Eff} (hok : okOp op = true) (h : exOp P sl hp nx op = some (x, f)) (hs : ∀ y ∈ op.operands.toList, evS sl' y = evS sl y) (hr : ∀ id ∈ rdOf sl op, agr0 (hget hp' id) (hget hp id))
    (hw : ∀ t a y, op = .store t a y → ∀ id ∈ rdOf sl op, agr (hget hp' id) (hget hp id)) (hn : nx' = nx ∨ isNew f = false) : exOp P sl' hp' nx' op = some (x, f) := by
  cases op <;> simp only [okOp] at hok <;> try (cases hok; done)
  case move y => simp only [exOp] at h ⊢; rw [hs y (by simp [Op.operands])]; exact h
  case assign y => simp only [exOp] at h ⊢; rw [hs y (by simp [Op.operands])]; exact h
  case pick c a b => simp only [exOp] at h ⊢; rw [hs c (by simp [Op.operands]), hs a (by simp [Op.operands]), hs b (by simp [Op.operands])]; exact h
  case alloc t =>
    simp only [exOp] at h ⊢
    rcases hn with rfl | hn
    · exact h
    · obtain ⟨k, hk, e⟩ := Option.map_eq h; cases e; cases hn
  case box t y =>
    simp only [exOp] at h ⊢
    rw [hs y (by simp [Op.operands])]
    rcases hn with rfl | hn
    · exact h
    · obtain ⟨k, hk, e⟩ := Option.map_eq h; cases e; cases hn
  case build t ps => simp only [exOp] at h ⊢; rw [pmap_ev (by simpa [Op.operands] using hs)]; exact h
  case buildSlice t n ps =>
    simp only [exOp] at h ⊢
    rw [pmap_ev (by simpa [Op.operands] using hs)]
    rcases hn with rfl | hn
    · exact h
    · exfalso
      unfold exBuildSlice at h
      cases hk : mkOf P t with
      | none => simp [hk] at h
      | some p =>
        simp only [hk, Option.bind_some] at h
        split at h
        · obtain ⟨k, _, e⟩ := Option.map_eq h; cases e; cases hn
        · cases h
  case load t a =>
    simp only [exOp] at h ⊢
    rw [hs a (by simp [Op.operands])]
    simp only [rdOf] at hr
    obtain ⟨y, hy, e⟩ := Option.map_eq h
    cases e
    unfold exLoad at hy ⊢
    generalize evS sl a = v at hy hr ⊢
    cases v <;> simp only at hy ⊢ <;> try (cases hy; done)
    · rename_i id off
      cases hk : hget hp id with
      | none => simp [hk] at hy
      | some k =>
        obtain ⟨k', h1, h2, h3⟩ := hr id (by simp [idOf]) k hk
        simp only [hk, Option.bind_some] at hy
        simp only [h1, Option.bind_some, h3, hy]; rfl
    · rw [hy]; rfl
  case store t a y =>
    simp only [exOp] at h ⊢
    rw [hs a (by simp [Op.operands]), hs y (by simp [Op.operands])]
    have hr := hw t a y rfl
    simp only [rdOf] at hr
    obtain ⟨e', hy, e⟩ := Option.map_eq h
    cases e
    unfold exStore at hy ⊢
    generalize evS sl a = v at hy hr ⊢
    cases v <;> simp only at hy ⊢ <;> try (cases hy; done)
    rename_i id off
    cases hk : hget hp id with
    | none => simp [hk] at hy
    | some k =>
      obtain ⟨k', h1, h2, h3, h4⟩ := hr id (by simp [idOf]) k hk
      cases hv : vcells (evS sl y) with
      | none => simp [hk, hv] at hy
      | some xs =>
        simp only [hk, hv, Option.bind_some] at hy
        split at hy
        · rename_i hc
          cases hy
          simp only [h1, Option.bind_some, h2, h3]
          rw [if_pos ⟨h4 hc.1, hc.2⟩]; rfl
        · cases hy
  case nilCheck y => simp only [exOp] at h ⊢; rw [hs y (by simp [Op.operands])]; exact h
  case binOp o t y z u => simp only [exOp] at h ⊢; rw [hs y (by simp [Op.operands]), hs z (by simp [Op.operands])]; exact h
  case unOp o t y => simp only [exOp] at h ⊢; rw [hs y (by simp [Op.operands])]; exact h
  case convert s d y =>
    simp only [exOp] at h ⊢
    rw [hs y (by simp [Op.operands])]
    simp only [rdOf] at hr
    obtain ⟨z, hz, e⟩ := Option.map_eq h
    cases e
    suffices hh : exConvH P hp' s d (evS sl y) = some x by rw [hh]; rfl
    generalize evS sl y = v at hz hr ⊢
    cases v with
    | sl id off len zz cap =>
      simp only [exConvH, bytesH] at hz ⊢
      split at hz
      · rename_i hc
        rw [if_pos hc]
        rw [srcV_sl] at hz ⊢
        cases hg : srcG off len zz (hget hp id) with
        | none => simp [hg] at hz
        | some q => rw [srcG_local hg (hr id (by simp [idOfS]))]; rw [hg] at hz; exact hz
      · cases hz
    | sc u => exact (exConvH_sc u).trans hz
    | _ => exact hz
  case makeFunc fn p q =>
    simp only [exOp] at h ⊢
    rw [map_ev (l := p.toList) (fun y hy => hs y (by simp only [Op.operands, Array.toList_append, List.mem_append]; exact .inl hy)), map_ev (l := q.toList) (fun y hy => hs y (by simp only [Op.operands, Array.toList_append, List.mem_append]; exact .inr hy))]
    exact h
  case makeSlice t l c =>
    simp only [exOp] at h ⊢
    rw [hs l (by simp [Op.operands]), hs c (by simp [Op.operands])]
    rcases hn with rfl | hn
    · exact h
    · exfalso
      unfold exMake at h
      split at h
      · cases hk : mkOf P t with
        | none => simp [hk] at h
        | some p =>
          simp only [hk, Option.bind_some] at h
          split at h
          · simp only [Option.some.injEq, Prod.mk.injEq] at h; obtain ⟨_, rfl⟩ := h; cases hn
          · cases h
      · cases h
  case slice t y lo hi mx =>
    simp only [exOp] at h ⊢
    have e1 : evS sl' y = evS sl y := hs y (by simp [Op.operands])
    rw [e1, omap_ev (o := lo) (fun z hz => hs z (by subst hz; simp [Op.operands])), omap_ev (o := hi) (fun z hz => hs z (by subst hz; simp [Op.operands])), omap_ev (o := mx) (fun z hz => hs z (by subst hz; simp [Op.operands]))]
    simp only [rdOf] at hr
    obtain ⟨z, hz, e⟩ := Option.map_eq h
    cases e
    generalize evS sl y = v at hz hr ⊢
    suffices hh : exSlice P hp' t v (lo.map (evS sl)) (hi.map (evS sl)) (mx.map (evS sl)) = some x by rw [hh]; rfl
    cases v with
    | pt id off =>
      rw [exSlice_pt] at hz ⊢
      cases hk : hget hp id with
      | none => simp [hk, blkLen] at hz
      | some k =>
        obtain ⟨k', h1, h2, h3⟩ := hr id (by simp [idOf]) k hk
        have : blkLen (hget hp' id) = blkLen (hget hp id) := by rw [h1, hk]; simp [blkLen, h3]
        rw [this]; exact hz
    | sc u => exact (exSlice_sc u).trans hz
    | _ => exact hz
  case fieldAddr t y k => simp only [exOp] at h ⊢; rw [hs y (by simp [Op.operands])]; exact h
  case field t y k => simp only [exOp] at h ⊢; rw [hs y (by simp [Op.operands])]; exact h
  case indexAddr t y i => simp only [exOp] at h ⊢; rw [hs y (by simp [Op.operands]), hs i (by simp [Op.operands])]; exact h
  case index t y i => simp only [exOp] at h ⊢; rw [hs y (by simp [Op.operands]), hs i (by simp [Op.operands])]; exact h
  case extract t i => simp only [exOp] at h ⊢; rw [hs t (by simp [Op.operands])]; exact h
  case call c =>
    obtain ⟨callee, args, ts⟩ := c
    cases callee <;> try (cases hok; done)
    rename_i b
    simp only [exOp] at h ⊢
    rw [map_ev (l := args.toList) (fun y hy => hs y (by simpa [Op.operands, Call.operands] using hy))]
    generalize args.toList.map (evS sl) = xs at h ⊢
    generalize ts.toList = tl at h ⊢
    cases b <;> first | (cases hok; done) | (simp at hok; done) | (unfold exBuiltin at h ⊢; split at h <;> first | exact h | (cases h; done) | contradiction)

theorem frzAll_local {g g' : V → Option (V × List Nat)} {p : Nat → Prop} (hg : ∀ x y ids, g x = some (y, ids) → (∀ id ∈ ids, p id) → g' x = some (y, ids)) :
    ∀ {cs ys : List V} {ids : List Nat}, frzAll g cs = some (ys, ids) → (∀ id ∈ ids, p id) → frzAll g' cs = some (ys, ids)
  | [], ys, ids, h, _ => h
  | c :: r, ys, ids, h, hp => by
    simp only [frzAll] at h ⊢
    cases hc : g c with
    | none => simp [hc] at h
    | some q =>
      cases hr : frzAll g r with
      | none => simp [hc, hr] at h
      | some u =>
        obtain ⟨y, i1⟩ := q
        obtain ⟨zs, i2⟩ := u
        simp only [hc, hr, Option.bind_some, Option.map_some, Option.some.injEq, Prod.mk.injEq] at h
        obtain ⟨rfl, rfl⟩ := h
        rw [hg c y i1 hc (fun id h => hp id (List.mem_append.2 (.inl h))), frzAll_local hg hr (fun id h => hp id (List.mem_append.2 (.inr h)))]
        rfl
theorem frzL_local {g g' : V → Option (V × List Nat)} {p : Nat → Prop} (hg : ∀ x y ids, g x = some (y, ids) → (∀ id ∈ ids, p id) → g' x = some (y, ids)) {cs ys : List V} {ids : List Nat} (h : frzL g cs = some (ys, ids)) (hp : ∀ id ∈ ids, p id) : frzL g' cs = some (ys, ids) := by
  unfold frzL at h ⊢
  split
  · rename_i hc; rw [if_pos hc] at h; exact h
  · rename_i hc; rw [if_neg hc] at h; exact frzAll_local hg h hp
theorem frz_local : ∀ (n : Nat) (x y : V) (ids : List Nat), frz n hp x = some (y, ids) → (∀ id ∈ ids, agr0 (hget hp' id) (hget hp id)) → frz n hp' x = some (y, ids)
  | 0, x, y, ids, h, _ => by simp [frz] at h
  | n + 1, x, y, ids, h, hr => by
    have ih := frz_local n
    have hL : ∀ {cs ys : List V} {ids : List Nat}, frzL (frz n hp) cs = some (ys, ids) → (∀ id ∈ ids, agr0 (hget hp' id) (hget hp id)) → frzL (frz n hp') cs = some (ys, ids) := fun h k => frzL_local (p := fun id => agr0 (hget hp' id) (hget hp id)) (fun x y ids => ih x y ids) h k
    cases x with
    | ag cs =>
      rw [frz_ag] at h ⊢
      obtain ⟨⟨ys, i1⟩, h1, h2⟩ := Option.map_eq h
      cases h2
      rw [hL h1 hr]; rfl
    | tu cs =>
      rw [frz_tu] at h ⊢
      obtain ⟨⟨ys, i1⟩, h1, h2⟩ := Option.map_eq h
      cases h2
      rw [hL h1 hr]; rfl
    | sl id off len z c =>
      rw [frz_sl] at h ⊢
      cases hs : srcG off len z (hget hp id) with
      | none => rw [hs] at h; cases h
      | some q =>
        rw [hs] at h
        simp only [fzQ] at h
        obtain ⟨⟨ys, i1⟩, h1, h2⟩ := Option.map_eq h
        cases h2
        rw [srcG_local hs (hr id (by simp))]
        simp only [fzQ]
        rw [hL h1 (fun j hj => hr j (by simp [hj]))]; rfl
    | sc v => exact (frz_sc n v).trans h
    | _ => exact h
end
end Go.Proofs.YtbpcgeanpkokkaaDoor
