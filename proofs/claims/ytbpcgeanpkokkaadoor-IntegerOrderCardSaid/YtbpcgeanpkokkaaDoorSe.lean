/- Stores, append, copy, len on symbolic states. -/
import Derived.Test.YtbpcgeanpkokkaaDoorSd
namespace Go.Proofs.YtbpcgeanpkokkaaDoor
open Go.RowKit

/-- lies in one cell -/
def V.one : V → Bool
  | .sc u => u.oneCell'
  | .ag _ | .tu _ | .junk => false
  | _ => true

section
variable {P : Program} {w : World} {B : Base} {S : Nat → Prop} {rho : Nat → Nat} {A : Nat → Prop} {hp : List (Nat × Blk)} {nx : Nat}

theorem one_sound {x : V} {v : Value} (h : x.one = true) (hx : R S rho w A x v) : v.oneCell' = true := by
  cases hx <;> first | rfl | (simp [V.one] at h; done) | exact h

theorem setRow_grow (w : World) (g : Nat) (cs : Array Value) : (w.setRow g cs).os = w.os ∧ (w.setRow g cs).tape = w.tape ∧ (w.setRow g cs).output = w.output ∧ (w.setRow g cs).heap.size = w.heap.size := ⟨rfl, rfl, rfl, by simp⟩

/-- an own block gets other cells, of the same number -/
theorem Mem.setRow (hm : Mem B S rho A hp w) {id : Nat} {k : Blk} (hk : hget hp id = some k) (ha : A id) (hz : k.fz = false) {cells : Array Value} (hc : w.heap[rho id]? = some (.cells cells k.ty (0, 0))) {cs' : List V} {arr' : List Value}
    (hlen : arr'.length = cells.size) (hcs : ∀ (i : Nat) (x : V), cs'[i]? = some x → ∃ u, arr'[i]? = some u ∧ R S rho w A x u) :
    Mem B S rho A (hset hp id ⟨k.ty, cs', false⟩) (w.setRow (rho id) arr'.toArray) ∧ (∀ b, S b → (w.setRow (rho id) arr'.toArray).heap[b]? = w.heap[b]?) ∧
    (∀ j, A j → A j ∧ rho j = rho j ∧ ∀ n, szAt w (rho j) n → szAt (w.setRow (rho id) arr'.toArray) (rho j) n) := by
  obtain ⟨g1, g2, g3, g4⟩ := setRow_grow w (rho id) arr'.toArray
  have hns : ¬ S (rho id) := hm.fz id k hk ha hz
  have hrow : (w.setRow (rho id) arr'.toArray).heap[rho id]? = some (.cells arr'.toArray k.ty (0, 0)) := setRow_heap w (rho id) cells _ _ _ hc
  have ho : ∀ b, b ≠ rho id → (w.setRow (rho id) arr'.toArray).heap[b]? = w.heap[b]? := fun b hb => setRow_other w (rho id) b _ (fun e => hb e)
  have hS : ∀ b, S b → (w.setRow (rho id) arr'.toArray).heap[b]? = w.heap[b]? := fun b hb => ho b (fun e => hns (e ▸ hb))
  have hsz : ∀ n, szAt w (rho id) n → szAt (w.setRow (rho id) arr'.toArray) (rho id) n := by
    rintro n ⟨c, e, f, h1, h2⟩
    rw [hc] at h1
    simp only [Option.some.injEq, Obj.cells.injEq] at h1
    obtain ⟨rfl, _, _⟩ := h1
    exact ⟨_, _, _, hrow, by simpa [hlen] using h2⟩
  have hA : ∀ j, A j → A j ∧ rho j = rho j ∧ ∀ n, szAt w (rho j) n → szAt (w.setRow (rho id) arr'.toArray) (rho j) n := fun j hj => ⟨hj, rfl, fun n hn => by
    by_cases e : rho j = rho id
    · rw [e] at hn ⊢; exact hsz n hn
    · exact hn.of_heap (ho _ e)⟩
  refine ⟨hm.set id k _ hk ha hz g1 g2 g3 g4 ho hsz ⟨_, hrow, fun i x hx => ?_⟩, hS, hA⟩
  obtain ⟨u, hu, hr⟩ := hcs i x hx
  exact ⟨u, by simpa using hu, hr.mono (fun b hb => ⟨hb, hS b hb⟩) hA⟩

/-- the cells of an own block, all of them: what is said of the first ones -/
theorem Cellsat.all {b : Nat} {k : Blk} (h : Cellsat S rho A w b k) : ∃ cells : Array Value, w.heap[b]? = some (.cells cells k.ty (0, 0)) ∧ k.cs.length ≤ cells.size ∧ All S rho A w k.cs (cells.toList.take k.cs.length) := by
  obtain ⟨cells, h1, h2⟩ := h
  have hl := arr_size ⟨cells, h1, h2⟩ h1
  refine ⟨cells, h1, hl, by simp; omega, fun i x u hx hu => ?_⟩
  obtain ⟨u', hu', hr⟩ := h2 i x hx
  rw [List.getElem?_take] at hu
  split at hu
  · rw [Array.getElem?_toList, hu'] at hu; cases hu; exact hr
  · cases hu

/-! ### stores -/
def exStore (P : Program) (hp : List (Nat × Blk)) (t : TypeId) (a x : V) : Option Eff :=
  match a with
  | .pt id off => (hget hp id).bind fun k => (vcells x).bind fun xs =>
    if k.fz = false ∧ szOf P t = some xs.length ∧ off + xs.length ≤ k.cs.length ∧ xs.all V.one = true then some (.set id ⟨k.ty, setAll k.cs off xs, false⟩) else none
  | _ => none
theorem store_sound (hm : Mem B S rho A hp w) {t : TypeId} {a x : V} {va vx : Value} {f : Eff} (h : exStore P hp t a x = some f) (ha : R S rho w A a va) (hx : R S rho w A x vx) :
    Out B S rho A hp nx w ((do Instr.storeAt t va vx; pure undef : Sem Value).run P w) .junk f := by
  unfold exStore at h
  split at h
  · rename_i id off
    cases ha with | pt hid =>
    cases hk : hget hp id with
    | none => simp [hk] at h
    | some k =>
      cases hc : vcells x with
      | none => simp [hk, hc] at h
      | some xs =>
        simp only [hk, hc, Option.bind_some] at h
        split at h
        · rename_i hb
          obtain ⟨hz, hsz, hle, hone⟩ := hb
          simp only [Option.some.injEq] at h
          subst h
          obtain ⟨h1, h2⟩ := vcells_sound hx hc
          obtain ⟨cells, c1, c2, c3⟩ := (hm.cells id k hk hid).all
          have hAll : All S rho A w xs vx.cells.toList := ⟨by simpa using h1.symm, fun i y u hy hu => h2 i y u hy (by simpa using hu)⟩
          have h1v : ∀ v ∈ vx.cells.toList, v.oneCell' = true := by
            intro v hv
            obtain ⟨i, hi⟩ := List.mem_iff_getElem?.1 hv
            have hlt : i < xs.length := by rw [hAll.1]; exact (List.getElem?_eq_some_iff.1 hi).1
            exact one_sound (List.all_eq_true.1 hone _ (List.getElem_mem hlt)) (hAll.2 i _ v (List.getElem?_eq_getElem hlt) hi)
          have hst := run_storeCells_at P (rho id) off k.ty vx.cells.toList 0 cells w c1 (by simp; omega) h1v
          simp only [Nat.add_zero] at hst
          have hl3 := hAll.1
          have hset := c3.setAll hAll (off := off) (by simp at hl3 ⊢; omega)
          have hcs : ∀ (i : Nat) (y : V), (setAll k.cs off xs)[i]? = some y → ∃ u, (cells.toList.take off ++ vx.cells.toList ++ cells.toList.drop (off + vx.cells.toList.length))[i]? = some u ∧ R S rho w A y u := by
            intro i y hy
            have hlt : i < k.cs.length := by rw [← setAll_length xs k.cs off]; exact (List.getElem?_eq_some_iff.1 hy).1
            have hs2 : i < ((cells.toList.take k.cs.length).take off ++ vx.cells.toList ++ (cells.toList.take k.cs.length).drop (off + vx.cells.toList.length)).length := by
              rw [← hset.1, setAll_length]; exact hlt
            refine ⟨_, ?_, hset.2 i y _ hy (List.getElem?_eq_getElem hs2)⟩
            rw [← List.getElem?_eq_getElem hs2]
            simp only [List.getElem?_append, List.getElem?_take, List.getElem?_drop, List.length_append, List.length_take, List.take_take]
            simp only [Array.length_toList] at hl3 ⊢
            have e2 : min off cells.size = off := by omega
            have e3 : min off k.cs.length = off := by omega
            simp only [e2, e3]
            by_cases hi : i < off + vx.cells.size
            · simp only [hi, if_true]
            · simp only [hi, if_false]
              rw [if_pos (by omega)]
          obtain ⟨m1, m2, m3⟩ := hm.setRow hk hid hz c1 (arr' := cells.toList.take off ++ vx.cells.toList ++ cells.toList.drop (off + vx.cells.toList.length)) (by simp; omega) hcs
          refine ⟨undef, _, rho, A, ?_, m1, m3, fun _ h => .inl h, m2, .junk _⟩
          have hsz' : ¬ (vx.cells.size ≠ xs.length) := by simp [h1]
          simp [Instr.storeAt, Instr.sureAddr, storeVar, Sem.run_bind, run_sizeOf hsz, h1, hst]
        · cases h
  · cases h

/-! ### the cells of a slice -/
def srcV (hp : List (Nat × Blk)) : V → Option (List V × Nat)
  | .sl id off len z _ => (hget hp id).bind fun k => if off + len * z ≤ k.cs.length then some ((k.cs.drop off).take (len * z), len) else none
  | .im cs len => some (cs, len)
  | .sc (.slice none 0 0) => some ([], 0)
  | _ => none
theorem src_sound (hm : Mem B S rho A hp w) {x : V} {vx : Value} {ys : List V} {m : Nat} (h : srcV hp x = some (ys, m)) (hx : R S rho w A x vx) :
    ∃ a c us, vx = .slice a m c ∧ All S rho A w ys us ∧ (ys ≠ [] → ∃ ad, a = some ad ∧ ∀ j u, us[j]? = some u → w.cell? (ad.add j) = some u) ∧ m ≤ c ∧ c ≤ maxLen ∧ (a = none → c = 0) := by
  unfold srcV at h
  split at h
  · rename_i id off len z cap
    cases hk : hget hp id with
    | none => simp [hk] at h
    | some k =>
      simp only [hk, Option.bind_some] at h
      split at h
      · rename_i hb
        simp only [Option.some.injEq, Prod.mk.injEq] at h
        obtain ⟨rfl, rfl⟩ := h
        cases hx with
        | sln => exact ⟨none, 0, [], rfl, ⟨by simp, fun i x u hx => by simp at hx⟩, fun h => absurd (by simp) h, Nat.le_refl _, by unfold maxLen; omega, fun _ => rfl⟩
        | sl hid hl hmx hcap hz0 =>
          obtain ⟨cells, c1, c2, c3⟩ := (hm.cells id k hk hid).all
          refine ⟨_, _, _, rfl, (c3.drop off).take (len * z), fun _ => ⟨_, rfl, fun j u hu => ?_⟩, hl, hmx, by simp⟩
          rw [addrAdd, cell_of_row w (rho id) (off + j) cells _ _ c1]
          rw [List.getElem?_take] at hu
          split at hu
          · rw [List.getElem?_drop, List.getElem?_take] at hu
            split at hu
            · simpa using hu
            · cases hu
          · cases hu
      · cases h
  · rename_i cs len
    simp only [Option.some.injEq, Prod.mk.injEq] at h
    obtain ⟨rfl, rfl⟩ := h
    cases hx with
    | im0 hl hmx ha => exact ⟨_, _, [], rfl, ⟨by simp, fun i x u hx => by simp at hx⟩, fun h => absurd rfl h, hl, hmx, ha⟩
    | im1 f hl hmx hS hc hx =>
      rename_i c b off
      refine ⟨_, _, (List.range cs.length).map f, rfl, ⟨by simp, fun i y u hy hu => ?_⟩, fun _ => ⟨_, rfl, fun j u hu => ?_⟩, hl, hmx, by simp⟩
      · have hlt := (List.getElem?_eq_some_iff.1 hy).1
        rw [List.getElem?_map, List.getElem?_range hlt] at hu
        simp at hu; subst hu; exact (hx i y hy).open
      · have hlt : j < cs.length := by have := (List.getElem?_eq_some_iff.1 hu).1; simpa using this
        rw [List.getElem?_map, List.getElem?_range hlt] at hu
        simp at hu; subst hu
        rw [addrAdd]; exact hc j _ (List.getElem?_eq_getElem hlt)
  · simp only [Option.some.injEq, Prod.mk.injEq] at h
    obtain ⟨rfl, rfl⟩ := h
    cases hx
    exact ⟨none, 0, [], rfl, ⟨by simp, fun i x u hx => by simp at hx⟩, fun h => absurd rfl h, Nat.le_refl _, by unfold maxLen; omega, fun _ => rfl⟩
  · cases h

/-! ### strings and bytes -/
def bytesV : List V → Option (List UInt8)
  | [] => some []
  | .sc (.int .u8 n) :: r => (bytesV r).map (UInt8.ofNat n.toNat :: ·)
  | _ => none
def isBytes (P : Program) (t : TypeId) : Bool :=
  match P.underlying t with
  | some (.slice e) => match P.underlying e with
    | some (.int .u8) => true
    | _ => false
  | _ => false
theorem isBytes_und {t : TypeId} (h : isBytes P t = true) : ∃ e, P.underlying t = some (.slice e) ∧ P.underlying e = some (.int .u8) := by
  unfold isBytes at h
  split at h
  · split at h
    · exact ⟨_, ‹_›, ‹_›⟩
    · cases h
  · cases h
def bytesH (P : Program) (hp : List (Nat × Blk)) (src dst : TypeId) (x : V) : Option V :=
  if isStr P dst = true ∧ isBytes P src = true then (srcV hp x).bind fun (ys, m) => if ys.length = m then (bytesV ys).map fun l => .sc (.string ⟨l.toArray⟩) else none
  else none
def exConvH (P : Program) (hp : List (Nat × Blk)) (src dst : TypeId) (x : V) : Option V :=
  match x with
  | .sc (.string _) => if hasT P src = true ∧ isStr P dst = true then some x else none
  | .sl _ _ _ _ _ | .im _ _ | .sc (.slice none 0 0) => bytesH P hp src dst x
  | _ => exConv P src dst x

def bytesU : List Value → List UInt8
  | .int .u8 n :: r => UInt8.ofNat n.toNat :: bytesU r
  | _ => []
theorem bytesV_all : ∀ {ys : List V} {us : List Value} {l : List UInt8}, bytesV ys = some l → All S rho A w ys us → bytesU us = l ∧ ∀ u ∈ us, ∃ n, u = .int .u8 n
  | [], us, l, h, ha => by
    have : us = [] := List.eq_nil_of_length_eq_zero (by have := ha.1; simpa using this.symm)
    subst this
    simp only [bytesV, Option.some.injEq] at h
    subst h
    exact ⟨rfl, fun u hu => by simp at hu⟩
  | y :: ys, us, l, h, ha => by
    match us, ha with
    | [], ha => have := ha.1; simp at this
    | u :: us, ha =>
      have h0 := ha.2 0 y u rfl rfl
      have hr : All S rho A w ys us := ⟨by have := ha.1; simpa using this, fun i x v hx hv => ha.2 (i + 1) x v (by simpa using hx) (by simpa using hv)⟩
      unfold bytesV at h
      split at h
      · rename_i e; cases e
      · rename_i n r e
        simp only [List.cons.injEq] at e
        obtain ⟨rfl, rfl⟩ := e
        cases h0
        cases hb : bytesV ys with
        | none => simp [hb] at h
        | some l' =>
          simp only [hb, Option.map_some, Option.some.injEq] at h
          subst h
          obtain ⟨h1, h2⟩ := bytesV_all hb hr
          refine ⟨by simp only [bytesU, h1], fun v hv => ?_⟩
          rcases List.mem_cons.1 hv with rfl | hv
          · exact ⟨_, rfl⟩
          · exact h2 v hv
      · cases h
theorem push_all {P : Program} (w : World) (f : Value → ByteArray → Sem (ForInStep ByteArray)) (hf : ∀ n r, f (.int .u8 n) r = pure (.yield (r.push (UInt8.ofNat n.toNat)))) :
    ∀ (us : List Value) (s : ByteArray), (∀ u ∈ us, ∃ n, u = .int .u8 n) → (forIn us s f).run P w = .ok ⟨s.data ++ (bytesU us).toArray⟩ w
  | [], s, _ => by simp [bytesU]
  | u :: us, s, h => by
    obtain ⟨n, rfl⟩ := h u (by simp)
    rw [List.forIn_cons, hf]
    simp only [Sem.run_bind, Sem.run_pure, Result.andThen_ok]
    rw [push_all w f hf us _ fun v hv => h v (by simp [hv])]
    simp [bytesU, ByteArray.push]
theorem convH_sound (hm : Mem B S rho A hp w) {src dst : TypeId} {x y : V} {vx : Value} (h : exConvH P hp src dst x = some y) (hx : R S rho w A x vx) : ∃ v, (convert src dst vx).run P w = .ok v w ∧ R S rho w A y v := by
  have key : bytesH P hp src dst x = some y → ∃ v, (convert src dst vx).run P w = .ok v w ∧ R S rho w A y v := by
    intro h
    unfold bytesH at h
    split at h
    · rename_i hc
      obtain ⟨hs, hb⟩ := hc
      obtain ⟨e, h1, h2⟩ := isBytes_und hb
      have h3 := isStr_und hs
      cases hsrc : srcV hp x with
      | none => simp [hsrc] at h
      | some q =>
        obtain ⟨ys, m⟩ := q
        simp only [hsrc, Option.bind_some] at h
        split at h
        · rename_i hlen
          cases hbv : bytesV ys with
          | none => simp [hbv] at h
          | some l =>
            simp only [hbv, Option.map_some, Option.some.injEq] at h
            subst h
            obtain ⟨a, c, us, rfl, hAll, hcell, hmc, hcm, hn0⟩ := src_sound hm hsrc hx
            obtain ⟨hu, hall⟩ := bytesV_all hbv hAll
            have hul : us.length = m := by rw [← hAll.1, hlen]
            have hload : ∀ ad, a = some ad → ys ≠ [] ∨ m = 0 → (loadCells ad m).run P w = .ok us.toArray w := by
              intro ad ha hy
              subst ha
              rw [← hul]
              refine run_loadCells_list (P := P) (w := w) ad us fun j v hj => ?_
              have hne : ys ≠ [] := by
                intro e'
                rw [e'] at hAll
                have h0 : us.length = 0 := by simpa using hAll.1.symm
                have := List.eq_nil_of_length_eq_zero h0
                rw [this] at hj; simp at hj
              obtain ⟨ad', e', hc'⟩ := hcell hne
              cases e'
              exact hc' j v hj
            cases a with
            | none =>
              have hc0 := hn0 rfl
              have : us = [] := List.eq_nil_of_length_eq_zero (by omega)
              subst this
              simp only [bytesU] at hu
              subst hu
              exact ⟨.string .empty, by simp [convert, run_underlying h1, run_underlying h2, run_underlying h3, Conv.bytesToString, Sem.run_bind], .sc _⟩
            | some ad =>
              have hl := hload ad rfl (by
                rcases Nat.eq_zero_or_pos m with h0 | h0
                · exact .inr h0
                · exact .inl (by intro e'; rw [e'] at hlen; simp at hlen; omega))
              refine ⟨.string ⟨l.toArray⟩, ?_, .sc _⟩
              simp only [convert, Sem.run_bind, run_underlying h1, run_underlying h2, run_underlying h3, Result.andThen_ok, Conv.bytesToString, hl]
              rw [List.forIn_toArray, push_all w _ (fun _ _ => rfl) us _ hall, hu]
              simp
        · cases h
    · cases h
  unfold exConvH at h
  split at h
  · split at h
    · rename_i hc
      simp only [Option.some.injEq] at h
      subst h
      cases hx
      obtain ⟨ds, hs⟩ := Option.isSome_iff_exists.1 hc.1
      refine ⟨_, ?_, .sc _⟩
      have h3 := isStr_und hc.2
      cases ds <;> simp [convert, run_underlying hs, run_underlying h3]
    · cases h
  · exact key h
  · exact key h
  · exact key h
  · exact conv_sound h hx

/-! ### len -/
def exLen (P : Program) (t : TypeId) : V → Option V
  | .sl _ _ len _ _ | .im _ len => (slOf P t).bind fun _ => some (.sc (.int .i64 len))
  | .sc (.slice _ n _) => (slOf P t).bind fun _ => some (.sc (.int .i64 n))
  | .sc (.string s) => if isStr P t then some (.sc (.int .i64 s.size)) else none
  | .ag _ => (arOf P t).bind fun (n, _, _) => some (.sc (.int .i64 n))
  | _ => none
theorem len_sound {t ty : TypeId} {x y : V} {vx : Value} (h : exLen P t x = some y) (hx : R S rho w A x vx) : ∃ v, (Builtin.len_ #[t] ty #[vx]).run P w = .ok v w ∧ R S rho w A y v := by
  have sl : ∀ {p : TypeId × Nat} {a : Option Addr} {n c : Nat}, slOf P t = some p → (Builtin.len_ #[t] ty #[.slice a n c]).run P w = .ok (.int .i64 n) w := by
    intro p a n c hs
    obtain ⟨e, z⟩ := p
    obtain ⟨hu, hz⟩ := slOf_und hs
    simp [Builtin.len_, run_underlying hu, goInt]
  unfold exLen at h
  split at h
  · cases hs : slOf P t with
    | none => simp [hs] at h
    | some p =>
      simp only [hs, Option.bind_some, Option.some.injEq] at h
      subst h
      cases hx <;> exact ⟨_, sl hs, .sc _⟩
  · cases hs : slOf P t with
    | none => simp [hs] at h
    | some p =>
      simp only [hs, Option.bind_some, Option.some.injEq] at h
      subst h
      cases hx <;> exact ⟨_, sl hs, .sc _⟩
  · cases hs : slOf P t with
    | none => simp [hs] at h
    | some p =>
      simp only [hs, Option.bind_some, Option.some.injEq] at h
      subst h
      cases hx
      exact ⟨_, sl hs, .sc _⟩
  · split at h
    · rename_i hu
      simp only [Option.some.injEq] at h
      subst h
      cases hx
      exact ⟨_, by simp [Builtin.len_, run_underlying (isStr_und hu), goInt], .sc _⟩
    · cases h
  · cases hs : arOf P t with
    | none => simp [hs] at h
    | some p =>
      obtain ⟨n, e, z⟩ := p
      simp only [hs, Option.bind_some, Option.some.injEq] at h
      subst h
      obtain ⟨hu, hz⟩ := arOf_und hs
      exact ⟨_, by simp [Builtin.len_, run_underlying hu, goInt], .sc _⟩
  · cases h

/-! ### append -/
def exAppend (P : Program) (hp : List (Nat × Blk)) (nx : Nat) (t : TypeId) (s x : V) : Option (V × Eff) :=
  (mkOf P t).bind fun (e, by', zc) => (srcV hp x).bind fun (ys, m) =>
    if ys.length = m * zc.length ∧ ys.all V.one = true then
      match s with
      | .sl id off n z _ => (hget hp id).bind fun k =>
        if off = 0 ∧ z = zc.length ∧ k.fz = false ∧ k.ty = e ∧ n * z ≤ k.cs.length ∧ n + m < 1125899906842624 ∧ (n + m) * by' ≤ 140737488355328 then some (.sl nx 0 (n + m) z none, .app id ⟨e, k.cs.take (n * z) ++ ys, false⟩) else none
      | .sc (.slice none 0 0) => if 0 < m ∧ m < 1125899906842624 ∧ m * by' ≤ 140737488355328 then some (.sl nx 0 m zc.length none, .new ⟨e, ys, false⟩) else none
      | _ => none
    else none
end
end Go.Proofs.YtbpcgeanpkokkaaDoor
