/- Operations that make or change memory, on symbolic states. -/
import Derived.Test.YtbpcgeanpkokkaaDoorSb
namespace Go.Proofs.YtbpcgeanpkokkaaDoor
open Go.RowKit

/-- what an operation does to the own blocks -/
inductive Eff where
  | none
  | new (k : Blk)
  | set (id : Nat) (k : Blk)
  | app (id : Nat) (k : Blk)

def Eff.heap : Eff → Nat → List (Nat × Blk) → List (Nat × Blk)
  | .none, _, hp => hp
  | .new k, nx, hp => (nx, k) :: hp
  | .set id k, _, hp => hset hp id k
  | .app id k, nx, hp => (nx, k) :: hdel hp id
def Eff.next : Eff → Nat → Nat
  | .none, nx | .set _ _, nx => nx
  | .new _, nx | .app _ _, nx => nx + 1

/-- the outcome of a run is as the tree x and the effect e say -/
def Out (B : Base) (S : Nat → Prop) (rho : Nat → Nat) (A : Nat → Prop) (hp : List (Nat × Blk)) (nx : Nat) (w : World) (r : Result Value) (x : V) (e : Eff) : Prop :=
  ∃ v w' rho' A', r = .ok v w' ∧ Mem B S rho' A' (e.heap nx hp) w' ∧ (∀ id, A id → A' id ∧ rho' id = rho id ∧ ∀ n, szAt w (rho id) n → szAt w' (rho id) n) ∧ (∀ id, A' id → A id ∨ id = nx ∧ ∃ k, e = .new k ∨ ∃ i, e = .app i k) ∧
    (∀ b, S b → w'.heap[b]? = w.heap[b]?) ∧ R S rho' w' A' x v

section
variable {P : Program} {w : World} {B : Base} {S : Nat → Prop} {rho : Nat → Nat} {A : Nat → Prop} {hp : List (Nat × Blk)} {nx : Nat}

theorem Out.val (hm : Mem B S rho A hp w) {r : Result Value} {v : Value} {x : V} (hr : r = .ok v w) (hx : R S rho w A x v) : Out B S rho A hp nx w r x .none :=
  ⟨v, w, rho, A, hr, hm, fun _ h => ⟨h, rfl, fun _ h => h⟩, fun _ h => .inl h, fun _ _ => rfl, hx⟩

theorem Out.new (hm : Mem B S rho A hp w) (hnx : ¬ A nx) {r : Result Value} {v : Value} {w' : World} {x : V} {k : Blk} {b : Nat} (hr : r = .ok v w') (g : Grow w w') (hb : w.heap.size ≤ b)
    (hk : Cellsat S rho A w' b k) (hx : R S (fun i => if i = nx then b else rho i) w' (fun i => i = nx ∨ A i) x v) : Out B S rho A hp nx w r x (.new k) :=
  ⟨v, w', _, _, hr, hm.new g nx hnx k b hb hk, fun id h => ⟨.inr h, if_neg (fun e : id = nx => hnx (e ▸ h)), fun _ => g.szAt⟩, fun _ h => h.elim (fun e => .inr ⟨e, k, .inl rfl⟩) .inl, fun b hb => g.block b (hm.slt b hb), hx⟩

/-! ### lists of cells -/
def All (S : Nat → Prop) (rho : Nat → Nat) (A : Nat → Prop) (w : World) (cs : List V) (vs : List Value) : Prop :=
  cs.length = vs.length ∧ ∀ (i : Nat) (x : V) (u : Value), cs[i]? = some x → vs[i]? = some u → R S rho w A x u

theorem All.sc (vs : List Value) : All S rho A w (vs.map .sc) vs := by
  refine ⟨by simp, fun i x u hx hu => ?_⟩
  rw [List.getElem?_map, hu] at hx
  simp at hx; subst hx; exact .sc _
theorem All.append {cs ds : List V} {vs us : List Value} (h : All S rho A w cs vs) (k : All S rho A w ds us) : All S rho A w (cs ++ ds) (vs ++ us) := by
  refine ⟨by simp [h.1, k.1], fun i x u hx hu => ?_⟩
  rw [List.getElem?_append] at hx hu
  by_cases hi : i < cs.length
  · rw [if_pos hi] at hx; rw [if_pos (h.1 ▸ hi)] at hu; exact h.2 _ _ _ hx hu
  · rw [if_neg hi] at hx; rw [if_neg (h.1 ▸ hi)] at hu; rw [h.1] at hx; exact k.2 _ _ _ hx hu
theorem All.take {cs : List V} {vs : List Value} (h : All S rho A w cs vs) (n : Nat) : All S rho A w (cs.take n) (vs.take n) := by
  refine ⟨by simp [h.1], fun i x u hx hu => ?_⟩
  rw [List.getElem?_take] at hx hu
  split at hx
  · rw [if_pos ‹_›] at hu; exact h.2 _ _ _ hx hu
  · cases hx
theorem All.drop {cs : List V} {vs : List Value} (h : All S rho A w cs vs) (n : Nat) : All S rho A w (cs.drop n) (vs.drop n) := by
  refine ⟨by simp [h.1], fun i x u hx hu => ?_⟩
  rw [List.getElem?_drop] at hx hu
  exact h.2 _ _ _ hx hu
theorem All.set {cs : List V} {vs : List Value} (h : All S rho A w cs vs) (i : Nat) {x : V} {u : Value} (hx : R S rho w A x u) : All S rho A w (cs.set i x) (vs.set i u) := by
  refine ⟨by simp [h.1], fun j y v hy hv => ?_⟩
  rw [List.getElem?_set] at hy hv
  by_cases hij : i = j
  · subst hij
    simp only [if_true] at hy hv
    split at hy
    · split at hv
      · simp at hy hv; subst hy; subst hv; exact hx
      · cases hv
    · cases hy
  · rw [if_neg hij] at hy hv; exact h.2 _ _ _ hy hv
theorem All.mono {S' : Nat → Prop} {rho' : Nat → Nat} {A' : Nat → Prop} {w' : World} {cs : List V} {vs : List Value} (h : All S rho A w cs vs)
    (hS : ∀ b, S b → S' b ∧ w'.heap[b]? = w.heap[b]?) (hA : ∀ id, A id → A' id ∧ rho' id = rho id ∧ ∀ n, szAt w (rho id) n → szAt w' (rho id) n) : All S' rho' A' w' cs vs :=
  ⟨h.1, fun i x u hx hu => (h.2 i x u hx hu).mono hS hA⟩
theorem All.cellsat {cs : List V} {vs : List Value} (h : All S rho A w cs vs) {b : Nat} {ty : TypeId} {rest : List Value} (hb : w.heap[b]? = some (.cells (vs ++ rest).toArray ty (0, 0))) : Cellsat S rho A w b ⟨ty, cs, false⟩ := by
  refine ⟨_, hb, fun i x hx => ?_⟩
  have hlt : i < vs.length := by rw [← h.1]; exact (List.getElem?_eq_some_iff.1 hx).1
  refine ⟨vs[i], ?_, h.2 i x _ hx (List.getElem?_eq_getElem hlt)⟩
  rw [List.getElem?_toArray, List.getElem?_append, if_pos hlt, List.getElem?_eq_getElem hlt]

/-- cells stored one behind the other -/
def setAll : List V → Nat → List V → List V
  | cs, _, [] => cs
  | cs, off, x :: r => setAll (cs.set off x) (off + 1) r
theorem setAll_length : ∀ (xs cs : List V) (off : Nat), (setAll cs off xs).length = cs.length
  | [], _, _ => rfl
  | x :: r, cs, off => by rw [setAll, setAll_length r]; simp
theorem All.setAll : ∀ {xs : List V} {us : List Value} {cs : List V} {arr : List Value} {off : Nat}, All S rho A w cs arr → All S rho A w xs us → off + us.length ≤ arr.length →
    All S rho A w (setAll cs off xs) (arr.take off ++ us ++ arr.drop (off + us.length))
  | [], us, cs, arr, off, h, k, hl => by
    have : us = [] := List.eq_nil_of_length_eq_zero k.1.symm
    subst this
    simpa [Go.Proofs.YtbpcgeanpkokkaaDoor.setAll] using h
  | x :: r, [], cs, arr, off, h, k, hl => by have := k.1; simp at this
  | x :: r, u :: us, cs, arr, off, h, k, hl => by
    have hx : R S rho w A x u := k.2 0 x u rfl rfl
    have hr : All S rho A w r us := ⟨by have := k.1; simp at this; exact this, fun i y v hy hv => k.2 (i + 1) y v (by simpa using hy) (by simpa using hv)⟩
    simp at hl
    have := All.setAll (off := off + 1) (h.set off hx) hr (by simp; omega)
    rw [Go.Proofs.YtbpcgeanpkokkaaDoor.setAll]
    have e := list_seg_step arr off u us (by omega)
    rw [e] at this
    simpa [Nat.add_assoc, Nat.add_comm 1] using this

/-! ### filling -/
inductive Pl where
  | st (l : List (Nat × Nat))
  | ar (z : Nat)
def Pl.at : Pl → Nat → Option (Nat × Nat)
  | .st l, i => l[i]?
  | .ar z, i => some (i * z, z)
def exFill (pl : Pl) : List V → List (Nat × V) → Option (List V)
  | cs, [] => some cs
  | cs, (i, x) :: r =>
    match pl.at i, vcells x with
    | some (off, sz), some xs => if xs.length = sz ∧ off + xs.length ≤ cs.length then exFill pl (setAll cs off xs) r else none
    | _, _ => none

theorem foldSet : ∀ (us : List Value) (arr : Array Value) (off k : Nat), off + k + us.length ≤ arr.size →
    ((us.zipIdx k).foldl (fun cs (p : Value × Nat) => cs.setIfInBounds (off + p.2) p.1) arr).toList = arr.toList.take (off + k) ++ us ++ arr.toList.drop (off + k + us.length)
  | [], arr, off, k, _ => by simp
  | u :: us, arr, off, k, h => by
    simp at h
    rw [List.zipIdx_cons, List.foldl_cons, foldSet us _ off (k + 1) (by simp; omega)]
    have e := list_seg_step arr.toList (off + k) u us (by simp; omega)
    simpa [Array.toList_setIfInBounds, Nat.add_assoc, Nat.add_comm 1] using e

theorem fill_sound {pl : Pl} : ∀ {parts : List (Nat × V)} {pv : List (Nat × Value)} {cs cs' : List V} {arr : Array Value}, exFill pl cs parts = some cs' → All S rho A w cs arr.toList →
    parts.map (·.1) = pv.map (·.1) → All S rho A w (parts.map (·.2)) (pv.map (·.2)) → ∃ arr', Instr.fill pl.at arr pv = some arr' ∧ All S rho A w cs' arr'.toList
  | [], pv, cs, cs', arr, h, k, hi, _ => by
    cases pv with
    | cons p pv => simp at hi
    | nil => simp only [exFill, Option.some.injEq] at h; subst h; exact ⟨arr, rfl, k⟩
  | (i, x) :: r, [], cs, cs', arr, h, k, hi, _ => by simp at hi
  | (i, x) :: r, (j, v) :: pv, cs, cs', arr, h, k, hi, hx => by
    simp only [List.map_cons, List.cons.injEq] at hi hx
    obtain ⟨rfl, hi⟩ := hi
    have hxv : R S rho w A x v := hx.2 0 x v rfl rfl
    have hrest : All S rho A w (r.map (·.2)) (pv.map (·.2)) := ⟨by have := hx.1; simpa using this, fun i y u hy hu => hx.2 (i + 1) y u (by simpa using hy) (by simpa using hu)⟩
    simp only [exFill] at h
    split at h
    · rename_i off sz xs hp hc
      split at h
      · rename_i hb
        obtain ⟨hs, hr⟩ := vcells_sound hxv hc
        have hAll : All S rho A w xs v.cells.toList := ⟨by simpa using hs.symm, fun i y u hy hu => hr i y u hy (by simpa using hu)⟩
        have hal : arr.size = cs.length := by have := k.1; simpa using this.symm
        have hf := foldSet v.cells.toList arr off 0 (by simp; omega)
        simp only [Nat.add_zero] at hf
        have hA' := k.setAll hAll (off := off) (by simp; omega)
        rw [← hf] at hA'
        obtain ⟨arr', h1, h2⟩ := fill_sound h hA' hi hrest
        refine ⟨arr', ?_, h2⟩
        have hsz : ¬ (v.cells.size ≠ sz) := by omega
        have hle : ¬ (off + v.cells.size > arr.size) := by omega
        simp only [Instr.fill, hp]
        rw [if_neg (by simp; omega)]
        rw [← h1]
        congr 1
        rw [← Array.foldl_toList, Array.toList_zipIdx]
      · cases h
    · cases h

/-- zero cells and places of a struct or array type -/
def plOf (P : Program) (t : TypeId) : Option (List Value × Pl) :=
  match P.info? t, P.underlying t with
  | some it, some (.array _ e) =>
    match it.zero, P.info? e with
    | some z, some ie => some (z.cells.toList, .ar ie.size)
    | _, _ => none
  | some it, some (.struct fields) =>
    match it.zero, fields.toList.mapM (fun f => (P.info? f.type).map fun i => (f.offset, i.size)) with
    | some z, some places => some (z.cells.toList, .st places)
    | _, _ => none
  | _, _ => none
def exBuild (P : Program) (t : TypeId) (parts : List (Nat × V)) : Option V :=
  match plOf P t with
  | some (z, pl) => (exFill pl (z.map .sc) parts).map .ag
  | none => none
theorem build_sound {t : TypeId} {parts : List (Nat × V)} {pv : Array (Nat × Value)} {x : V} (h : exBuild P t parts = some x) (hi : parts.map (·.1) = pv.toList.map (·.1)) (hx : All S rho A w (parts.map (·.2)) (pv.toList.map (·.2))) :
    ∃ v, (Instr.build t pv).run P w = .ok v w ∧ R S rho w A x v := by
  unfold exBuild at h
  split at h
  · rename_i z pl hpl
    cases hf : exFill pl (z.map .sc) parts with
    | none => simp [hf] at h
    | some cs =>
      simp only [hf, Option.map_some, Option.some.injEq] at h
      subst h
      obtain ⟨arr, h1, h2⟩ := fill_sound (arr := z.toArray) hf (All.sc z) hi hx
      refine ⟨.agg arr, run_build w t pv arr ?_, .ag (by have := h2.1; simpa using this) (fun i x u hx hu => h2.2 i x u hx (by simpa using hu))⟩
      unfold plOf at hpl
      unfold Program.built
      split at hpl
      · rename_i it n e h1' h2'
        rw [h1', h2']
        split at hpl
        · rename_i z' ie hz hie
          simp only [Option.some.injEq, Prod.mk.injEq] at hpl
          obtain ⟨rfl, rfl⟩ := hpl
          simp only [hz, hie]
          exact (by simpa using h1 : Instr.fill _ _ _ = _)
        · cases hpl
      · rename_i it fields h1' h2'
        rw [h1', h2']
        split at hpl
        · rename_i z' places hz hie
          simp only [Option.some.injEq, Prod.mk.injEq] at hpl
          obtain ⟨rfl, rfl⟩ := hpl
          simp only [hz, hie]
          have e : (fun x => places.toArray[x]?) = (Pl.st places).at := by funext x; simp [Pl.at]
          rw [e]; simpa using h1
        · cases hpl
      · cases hpl
  · cases h

/-! ### new variables -/
def exBox (t : TypeId) (x : V) : Option Blk := (vcells x).map fun cs => ⟨t, cs, false⟩
theorem box_sound (hm : Mem B S rho A hp w) (hnx : ¬ A nx) {t : TypeId} {x : V} {vx : Value} {k : Blk} (h : exBox t x = some k) (hx : R S rho w A x vx) : Out B S rho A hp nx w ((Instr.box t vx).run P w) (.pt nx 0) (.new k) := by
  unfold exBox at h
  cases hc : vcells x with
  | none => simp [hc] at h
  | some cs =>
    simp only [hc, Option.map_some, Option.some.injEq] at h
    subst h
    obtain ⟨h1, h2⟩ := vcells_sound hx hc
    have hAll : All S rho A w cs vx.cells.toList := ⟨by simpa using h1.symm, fun i y u hy hu => h2 i y u hy (by simpa using hu)⟩
    have g := Grow.alloc w (.cells vx.cells t)
    refine Out.new (w' := w.alloc (.cells vx.cells t)) (b := w.heap.size) hm hnx (v := .pointer (some ⟨w.heap.size, 0, none⟩)) ?_ g (Nat.le_refl _) ((hAll.mono (fun b hb => ⟨hb, g.block b (hm.slt b hb)⟩) (fun _ h => ⟨h, rfl, fun _ => g.szAt⟩)).cellsat (rest := []) ?_) ?_
    · rfl
    · rw [heap_alloc_new]; simp
    · have := R.pt (S := S) (rho := fun i => if i = nx then w.heap.size else rho i) (A := fun i => i = nx ∨ A i) (w := w.alloc (.cells vx.cells t)) (id := nx) (off := 0) (.inl rfl)
      simpa using this

def exAlloc (P : Program) (t : TypeId) : Option Blk := (zeroOf P t).map fun z => ⟨t, z.cells.toList.map .sc, false⟩
theorem alloc_sound (hm : Mem B S rho A hp w) (hnx : ¬ A nx) {t : TypeId} {k : Blk} (h : exAlloc P t = some k) : Out B S rho A hp nx w ((Instr.alloc t true (.tuple #[])).run P w) (.pt nx 0) (.new k) := by
  unfold exAlloc at h
  cases hz : zeroOf P t with
  | none => simp [hz] at h
  | some z =>
    simp only [hz, Option.map_some, Option.some.injEq] at h
    subst h
    have g := Grow.alloc w (.cells z.cells t)
    refine Out.new (w' := w.alloc (.cells z.cells t)) (b := w.heap.size) hm hnx (v := .pointer (some ⟨w.heap.size, 0, none⟩)) ?_ g (Nat.le_refl _) ((All.sc z.cells.toList).cellsat (rest := []) ?_) ?_
    · unfold Instr.alloc; rw [Sem.run_bind, run_zeroValue hz]; rfl
    · rw [heap_alloc_new]; simp
    · have := R.pt (S := S) (rho := fun i => if i = nx then w.heap.size else rho i) (A := fun i => i = nx ∨ A i) (w := w.alloc (.cells z.cells t)) (id := nx) (off := 0) (.inl rfl)
      simpa using this

/-- cells of slices that are made: m times the zero cells -/
def reps (m : Nat) : List V → List V
  | [x] => List.replicate m x
  | zs => (List.replicate m zs).flatten
theorem flatten_rep {α : Type} (zs : List α) (m i : Nat) (h : i < m * zs.length) : (List.replicate m zs).flatten[i]? = zs[i % zs.length]? := by
  induction m generalizing i with
  | zero => simp at h
  | succ m ih =>
    rw [List.replicate_succ, List.flatten_cons, List.getElem?_append]
    split
    · rw [Nat.mod_eq_of_lt ‹_›]
    · rw [ih (i - zs.length) (by rw [Nat.succ_mul] at h; omega), ← Nat.mod_eq_sub_mod (by omega)]
theorem reps_eq (m : Nat) (zs : List V) : reps m zs = (List.replicate m zs).flatten := by
  unfold reps
  split
  · induction m with
    | zero => rfl
    | succ m ih => rw [List.replicate_succ, List.replicate_succ, List.flatten_cons, ← ih]; rfl
  · rfl
theorem reps_sound {zs : Array Value} (hz : 0 < zs.size) (m : Nat) : All S rho A w (reps m (zs.toList.map .sc)) (madeCells zs (m * zs.size)).toList := by
  have hl : (reps m (zs.toList.map V.sc)).length = m * zs.size := by
    rw [reps_eq]; simp
  refine ⟨by rw [hl]; simp [madeCells], fun i x u hx hu => ?_⟩
  have hi : i < m * zs.size := by rw [← hl]; exact (List.getElem?_eq_some_iff.1 hx).1
  rw [reps_eq, flatten_rep _ _ _ (by simpa using hi)] at hx
  have hlt : i % zs.size < zs.size := Nat.mod_lt _ hz
  simp [madeCells, hi] at hu
  simp [hlt] at hx
  subst hx
  rw [← hu]
  simp [hlt]
  exact .sc _

/-- slice type: element type, bytes and zero cells of an element -/
def mkOf (P : Program) (t : TypeId) : Option (TypeId × Nat × List Value) :=
  match P.underlying t with
  | some (.slice e) => (P.info? e).bind fun i => i.zero.bind fun zv => if zv.cells.size = i.size ∧ 0 < i.size then some (e, i.bytes, zv.cells.toList) else none
  | _ => none
theorem mkOf_und {t e : TypeId} {by' : Nat} {zc : List Value} (h : mkOf P t = some (e, by', zc)) : ∃ i zv, P.underlying t = some (.slice e) ∧ P.info? e = some i ∧ i.zero = some zv ∧ i.bytes = by' ∧ zv.cells.toList = zc ∧ i.size = zc.length ∧ zv.cells.size = i.size ∧ 0 < i.size := by
  unfold mkOf at h
  split at h
  · rename_i e' he
    cases hi : P.info? e' with
    | none => simp [hi] at h
    | some i =>
      cases hz : i.zero with
      | none => simp [hi, hz] at h
      | some zv =>
        simp only [hi, hz, Option.bind_some] at h
        split at h
        · rename_i hc
          simp only [Option.some.injEq, Prod.mk.injEq] at h
          obtain ⟨rfl, rfl, rfl⟩ := h
          exact ⟨i, zv, he, hi, hz, rfl, rfl, by simp [hc.1], hc.1, hc.2⟩
        · cases h
  · cases h

theorem new_row (hm : Mem B S rho A hp w) (hnx : ¬ A nx) {e : TypeId} {cs : List V} {arr : List Value} (h : All S rho A w cs arr) {r : Result Value} {l c z : Nat} (hr : r = .ok (.slice (some ⟨w.heap.size, 0, none⟩) l c) (w.alloc (.cells arr.toArray e)))
    (hl : l ≤ c) (hc : c ≤ maxLen) (hs : c * z ≤ arr.length) (cap : Option Nat) (hcap : ∀ k, cap = some k → c = k) : Out B S rho A hp nx w r (.sl nx 0 l z cap) (.new ⟨e, cs, false⟩) := by
  have g := Grow.alloc w (.cells arr.toArray e)
  refine Out.new (b := w.heap.size) hm hnx hr g (Nat.le_refl _) ((h.mono (fun b hb => ⟨hb, g.block b (hm.slt b hb)⟩) (fun _ h => ⟨h, rfl, fun _ => g.szAt⟩)).cellsat (rest := []) ?_) ?_
  · rw [heap_alloc_new]; simp
  · have := R.sl (S := S) (rho := fun i => if i = nx then w.heap.size else rho i) (A := fun i => i = nx ∨ A i) (w := w.alloc (.cells arr.toArray e)) (id := nx) (off := 0) (z := z) (.inl rfl) hl hc hcap (by
      refine ⟨arr.toArray, e, (0, 0), ?_, by simpa using hs⟩
      simp only [if_true]; exact heap_alloc_new w _)
    simpa using this

def exMake (P : Program) (t : TypeId) (nx : Nat) (l c : V) : Option (V × Eff) :=
  match l, c with
  | .sc (.int _ l), .sc (.int _ c) => (mkOf P t).bind fun (e, b, zc) =>
    if 0 ≤ l ∧ l ≤ c ∧ c < 1125899906842624 ∧ b * c ≤ 140737488355328 then some (.sl nx 0 l.toNat zc.length (some c.toNat), .new ⟨e, reps c.toNat (zc.map .sc), false⟩) else none
  | _, _ => none
theorem make_sound (hm : Mem B S rho A hp w) (hnx : ¬ A nx) {t : TypeId} {l c x : V} {vl vc : Value} {f : Eff} (h : exMake P t nx l c = some (x, f)) (hl : R S rho w A l vl) (hc : R S rho w A c vc) :
    Out B S rho A hp nx w ((Instr.makeSlice t vl vc).run P w) x f := by
  unfold exMake at h
  split at h
  · rename_i kl l kc c
    cases hl
    cases hc
    cases hk : mkOf P t with
    | none => simp [hk] at h
    | some p =>
      obtain ⟨e, b, zc⟩ := p
      simp only [hk, Option.bind_some] at h
      split at h
      · rename_i hb
        simp only [Option.some.injEq, Prod.mk.injEq] at h
        obtain ⟨rfl, rfl⟩ := h
        obtain ⟨i, zv, h1, h2, h3, rfl, rfl, h6, h7, h8⟩ := mkOf_und hk
        have hrun := run_make (P := P) w t e i zv h1 h2 h3 kl kc l c hb.1 hb.2.1 (by omega) (by omega)
        have hr := reps_sound (S := S) (rho := rho) (A := A) (w := w) (zs := zv.cells) (by omega) c.toNat
        rw [h7] at hr
        refine new_row hm hnx hr (by simpa using hrun) (by omega) (by unfold maxLen; omega) ?_ _ (by simp)
        simp [madeCells, h6]
      · cases h
  · cases h

def exBuildSlice (P : Program) (t : TypeId) (nx len : Nat) (parts : List (Nat × V)) : Option (V × Eff) :=
  (mkOf P t).bind fun (e, _, zc) => if len * zc.length ≤ 16777216 then (exFill (.ar zc.length) (reps len (zc.map .sc)) parts).map fun cs => (.sl nx 0 len zc.length (some len), .new ⟨e, cs, false⟩) else none
theorem fill_size {pl : Nat → Option (Nat × Nat)} : ∀ {ps : List (Nat × Value)} {arr arr' : Array Value}, Instr.fill pl arr ps = some arr' → arr'.size = arr.size
  | [], arr, arr', h => by simp [Instr.fill] at h; rw [h]
  | (i, v) :: ps, arr, arr', h => by
    simp only [Instr.fill] at h
    split at h
    · cases h
    · split at h
      · cases h
      · rw [fill_size h]
        rw [← Array.foldl_toList]
        generalize v.cells.zipIdx.toList = l
        rename_i hno
        clear h hno
        induction l generalizing arr with
        | nil => rfl
        | cons p l ih => rw [List.foldl_cons, ih]; simp
theorem buildSlice_sound (hm : Mem B S rho A hp w) (hnx : ¬ A nx) {t : TypeId} {len : Nat} {parts : List (Nat × V)} {pv : Array (Nat × Value)} {x : V} {f : Eff} (h : exBuildSlice P t nx len parts = some (x, f))
    (hi : parts.map (·.1) = pv.toList.map (·.1)) (hx : All S rho A w (parts.map (·.2)) (pv.toList.map (·.2))) : Out B S rho A hp nx w ((Instr.buildSlice t len pv).run P w) x f := by
  unfold exBuildSlice at h
  cases hk : mkOf P t with
  | none => simp [hk] at h
  | some p =>
    obtain ⟨e, b, zc⟩ := p
    simp only [hk, Option.bind_some] at h
    split at h
    · rename_i hb
      have hb0 := hb
      cases hf : exFill (.ar zc.length) (reps len (zc.map .sc)) parts with
      | none => simp [hf] at h
      | some cs =>
        simp only [hf, Option.map_some, Option.some.injEq, Prod.mk.injEq] at h
        obtain ⟨rfl, rfl⟩ := h
        obtain ⟨i, zv, h1, h2, h3, h4, rfl, h6, h7, h8⟩ := mkOf_und hk
        have hr := reps_sound (S := S) (rho := rho) (A := A) (w := w) (zs := zv.cells) (by omega) len
        obtain ⟨arr, g1, g2⟩ := fill_sound hf hr hi hx
        have hsz := fill_size g1
        have hat : (Pl.ar zv.cells.toList.length).at = fun i' => some (i' * i.size, i.size) := by funext j; simp [Pl.at, h7]
        rw [hat, h7] at g1
        have hs : szOf P e = some i.size := by simp [szOf, h2]
        have hz : zeroOf P e = some zv := by simp [zeroOf, h2, h3]
        have hrun : (Instr.buildSlice t len pv).run P w = .ok (.slice (some ⟨w.heap.size, 0, none⟩) len len) (w.alloc (.cells arr e)) := by
          have hb' : ¬ (len * i.size > 2 ^ 24) := by rw [h6]; omega
          unfold Instr.buildSlice
          simp only [Sem.run_bind, run_underlying h1, Result.andThen_ok, run_sizeOf hs]
          rw [if_neg hb']
          by_cases h0 : len * i.size = 0
          · have hmc : madeCells zv.cells (len * i.size) = #[] := by simp [madeCells, h0, Array.range_zero']
            rw [hmc] at g1
            simp [h0, Array.range_zero', g1, newRow, newObj, Sem.run]
            try rfl
          · have g1' : Instr.fill (fun i' => some (i' * i.size, i.size)) (Array.map (fun x => zv.cells[x % zv.cells.size]!) (Array.range (len * i.size))) pv.toList = some arr := g1
            simp [h0, run_zeroValue hz, Sem.run_bind, g1', newRow, newObj, Sem.run]
            try rfl
        refine new_row hm hnx g2 (by simpa using hrun) (Nat.le_refl _) (by unfold maxLen; have : len * 1 ≤ len * i.size := Nat.mul_le_mul_left _ h8; rw [h6] at this; omega) ?_ _ (by simp)
        simp [hsz, madeCells, h7]
    · cases h
end
end Go.Proofs.YtbpcgeanpkokkaaDoor
