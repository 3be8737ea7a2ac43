/- Single operations on symbolic states, and that the machine does as they say: values, loads, addresses, numbers. -/
import Derived.Test.YtbpcgeanpkokkaaDoorSa
namespace Go.Proofs.YtbpcgeanpkokkaaDoor
open Go.RowKit

/-! ### types -/
def szOf (P : Program) (t : TypeId) : Option Nat := (P.info? t).map (·.size)
def zeroOf (P : Program) (t : TypeId) : Option Value := (P.info? t).bind (·.zero)
def aggD : TypeDesc → Bool
  | .struct _ | .array _ _ => true
  | _ => false
def aggOf (P : Program) (t : TypeId) : Option Bool := (P.underlying t).map aggD
/-- offset, type, size of a field -/
def fldOf (P : Program) (T : TypeId) (f : Nat) : Option (Nat × TypeId × Nat) :=
  match P.underlying T with
  | some (.struct fs) => (fs[f]?).bind fun f => (szOf P f.type).map fun z => (f.offset, f.type, z)
  | _ => none
/-- slice type: its elements' type and size -/
def slOf (P : Program) (t : TypeId) : Option (TypeId × Nat) :=
  match P.underlying t with
  | some (.slice e) => (szOf P e).map fun z => (e, z)
  | _ => none
def arOf (P : Program) (t : TypeId) : Option (Nat × TypeId × Nat) :=
  match P.underlying t with
  | some (.array n e) => (szOf P e).map fun z => (n, e, z)
  | _ => none
def intOf' (P : Program) (t : TypeId) : Option IntKind :=
  match P.underlying t with
  | some (.int k) => some k
  | _ => none

section
variable {P : Program} {w : World} {S : Nat → Prop} {rho : Nat → Nat} {A : Nat → Prop}

theorem run_sizeOf {t : TypeId} {n : Nat} (h : szOf P t = some n) : (sizeOf t).run P w = .ok n w := by
  unfold szOf at h
  cases hi : P.info? t with
  | none => simp [hi] at h
  | some i => simp [hi] at h; simp [sizeOf, typeInfo, hi, h]
theorem run_isAgg {t : TypeId} {b : Bool} (h : aggOf P t = some b) : (isAgg t).run P w = .ok b w := by
  unfold aggOf at h
  cases hu : P.underlying t with
  | none => simp [hu] at h
  | some d =>
    simp [hu] at h
    unfold isAgg
    rw [Sem.run_bind, run_underlying hu w]
    cases d <;> simp_all [aggD]
theorem run_zeroValue {t : TypeId} {v : Value} (h : zeroOf P t = some v) : (zeroValue t).run P w = .ok v w := by
  unfold zeroOf at h
  cases hi : P.info? t with
  | none => simp [hi] at h
  | some i => simp [hi] at h; simp [zeroValue, typeInfo, hi, h]
theorem slOf_und {t e : TypeId} {z : Nat} (h : slOf P t = some (e, z)) : P.underlying t = some (.slice e) ∧ szOf P e = some z := by
  unfold slOf at h
  split at h
  · rename_i e' he
    cases hz : szOf P e' with
    | none => simp [hz] at h
    | some n => simp [hz] at h; obtain ⟨rfl, rfl⟩ := h; exact ⟨he, hz⟩
  · cases h
theorem arOf_und {t e : TypeId} {n z : Nat} (h : arOf P t = some (n, e, z)) : P.underlying t = some (.array n e) ∧ szOf P e = some z := by
  unfold arOf at h
  split at h
  · rename_i n' e' he
    cases hz : szOf P e' with
    | none => simp [hz] at h
    | some n => simp [hz] at h; obtain ⟨rfl, rfl, rfl⟩ := h; exact ⟨he, hz⟩
  · cases h
theorem fldOf_und {T t : TypeId} {f o z : Nat} (h : fldOf P T f = some (o, t, z)) : ∃ fs fd, P.underlying T = some (.struct fs) ∧ fs[f]? = some fd ∧ fd.offset = o ∧ fd.type = t ∧ szOf P t = some z := by
  unfold fldOf at h
  split at h
  · rename_i fs he
    cases hf : fs[f]? with
    | none => simp [hf] at h
    | some fd =>
      simp [hf] at h
      obtain ⟨z', hz, rfl, rfl, rfl⟩ := h
      exact ⟨fs, fd, he, hf, rfl, rfl, hz⟩
  · cases h
theorem intOf_und {t : TypeId} {k : IntKind} (h : intOf' P t = some k) : P.underlying t = some (.int k) := by
  unfold intOf' at h
  split at h
  · simp at h; subst h; assumption
  · cases h

def isBool (P : Program) (t : TypeId) : Bool :=
  match P.underlying t with
  | some .bool => true
  | _ => false
theorem isBool_und {t : TypeId} (h : isBool P t = true) : P.underlying t = some .bool := by
  unfold isBool at h; split at h
  · assumption
  · cases h
def isStr (P : Program) (t : TypeId) : Bool :=
  match P.underlying t with
  | some .string => true
  | _ => false
theorem isStr_und {t : TypeId} (h : isStr P t = true) : P.underlying t = some .string := by
  unfold isStr at h; split at h
  · assumption
  · cases h
def hasT (P : Program) (t : TypeId) : Bool := (P.underlying t).isSome

/-! ### operands -/
def ofV : Value → V
  | .agg cs => .ag (cs.toList.map .sc)
  | v => .sc v
theorem R.ofV (v : Value) : R S rho w A (ofV v) v := by
  cases v <;> try exact .sc _
  refine .ag (by simp) ?_
  intro i x u hx hu
  simp only [List.getElem?_map, Array.getElem?_toList, hu, Option.map_some, Option.some.injEq] at hx
  subst hx
  exact .sc _

/-- a package-level variable: a table, or an address -/
def globV (g : Nat) : V :=
  match tabG g with
  | some cs => .pi (cs.map .sc)
  | none => .sc (.pointer (some ⟨g, 0, none⟩))
def evS (sl : List (Nat × V)) : Operand → V
  | .tmp t => get sl t
  | .const v => ofV v
  | .global g => globV g
  | .func f => .sc (.func (.func f) #[] #[])

/-- the cells of a variable with this value -/
def vcells : V → Option (List V)
  | .ag cs => some cs
  | .tu _ | .junk | .sc (.agg _) | .sc (.tuple _) => none
  | x => some [x]

theorem vcells_sound {x : V} {v : Value} {cs : List V} (h : R S rho w A x v) (hc : vcells x = some cs) :
    v.cells.size = cs.length ∧ ∀ (i : Nat) (y : V) (u : Value), cs[i]? = some y → v.cells[i]? = some u → R S rho w A y u := by
  have one : ∀ (y : V) (v : Value), R S rho w A y v → (∀ c, v ≠ .agg c) → v.cells.size = [y].length ∧ ∀ (i : Nat) (z : V) (u : Value), [y][i]? = some z → v.cells[i]? = some u → R S rho w A z u := by
    intro y v hR hne
    have hv : v.cells = #[v] := by cases v <;> first | rfl | exact absurd rfl (hne _)
    rw [hv]
    refine ⟨rfl, fun i z u hz hu => ?_⟩
    cases i with
    | zero => simp at hz hu; subst hz; subst hu; exact hR
    | succ i => simp at hz
  cases h with
  | sc v =>
    cases v <;> simp [vcells] at hc <;> subst hc <;> exact one _ _ (.sc _) (by intros; simp)
  | junk v => simp [vcells] at hc
  | ag hl hi => simp only [vcells, Option.some.injEq] at hc; subst hc; exact ⟨hl.symm, hi⟩
  | tu hl hi => simp [vcells] at hc
  | pt ha => simp only [vcells, Option.some.injEq] at hc; subst hc; exact one _ _ (.pt ha) (by intros; simp)
  | sl a b c d e => simp only [vcells, Option.some.injEq] at hc; subst hc; exact one _ _ (.sl a b c d e) (by intros; simp)
  | sln a => simp only [vcells, Option.some.injEq] at hc; subst hc; exact one _ _ (.sln a) (by intros; simp)
  | im0 a b c => simp only [vcells, Option.some.injEq] at hc; subst hc; exact one _ _ (.im0 a b c) (by intros; simp)
  | im1 f a b c d e => simp only [vcells, Option.some.injEq] at hc; subst hc; exact one _ _ (.im1 f a b c d e) (by intros; simp)
  | pi f a b c => simp only [vcells, Option.some.injEq] at hc; subst hc; exact one _ _ (.pi f a b c) (by intros; simp)
  | fn a b c d => simp only [vcells, Option.some.injEq] at hc; subst hc; exact one _ _ (.fn a b c d) (by intros; simp)

/-! ### loads -/
def ldV (P : Program) (t : TypeId) (cs : List V) (off : Nat) : Option V :=
  match aggOf P t, szOf P t with
  | some true, some n => if off + n ≤ cs.length then some (.ag ((cs.drop off).take n)) else none
  | some false, some _ => cs[off]?
  | _, _ => none

theorem addrAdd (b o j : Nat) : (⟨b, o, none⟩ : Addr).add j = ⟨b, o + j, none⟩ := by unfold Addr.add; split <;> simp_all

theorem ld_sound {t : TypeId} {cs : List V} {off b o : Nat} {x : V} (rd : Nat → Value) (h : ldV P t cs off = some x)
    (hc : ∀ (i : Nat) (y : V), cs[i]? = some y → w.cell? ⟨b, o + i, none⟩ = some (rd i)) (hx : ∀ (i : Nat) (y : V), cs[i]? = some y → R S rho w A y (rd i)) :
    ∃ v, (loadVar t ⟨b, o + off, none⟩).run P w = .ok v w ∧ R S rho w A x v := by
  unfold ldV at h
  split at h
  · rename_i n ha hz
    split at h
    · rename_i hle
      simp only [Option.some.injEq] at h
      subst h
      refine ⟨.agg ((List.range n).map fun i => rd (off + i)).toArray, ?_, ?_⟩
      · have hl := run_loadCells (P := P) w ⟨b, o + off, none⟩ n (fun i => rd (off + i)) (fun j hj => by
          rw [addrAdd, Nat.add_assoc]
          exact hc (off + j) _ (List.getElem?_eq_getElem (by omega)))
        simp [loadVar, Sem.run_bind, run_isAgg ha, run_sizeOf hz, hl]
      · refine .ag (by simp; omega) ?_
        intro i y u hy hu
        rw [List.getElem?_take] at hy
        split at hy
        · rw [List.getElem?_drop] at hy
          have : u = rd (off + i) := by
            rw [List.getElem?_toArray, List.getElem?_map, List.getElem?_range ‹_›] at hu
            simpa using hu.symm
          subst this
          exact hx _ _ hy
        · cases hy
    · cases h
  · rename_i ha hz
    refine ⟨rd off, ?_, hx off x h⟩
    simp [loadVar, Sem.run_bind, run_isAgg ha, load, Sem.run, hc off x h]
  · cases h

/-- a block that reads as a list of trees -/
theorem Cellsat.reader {b : Nat} {k : Blk} (h : Cellsat S rho A w b k) : ∃ rd : Nat → Value, (∀ (i : Nat) (y : V), k.cs[i]? = some y → w.cell? ⟨b, 0 + i, none⟩ = some (rd i)) ∧ ∀ (i : Nat) (y : V), k.cs[i]? = some y → R S rho w A y (rd i) := by
  obtain ⟨cells, h1, h2⟩ := h
  refine ⟨fun i => cells.getD i undef, fun i y hy => ?_, fun i y hy => ?_⟩
  · obtain ⟨u, hu, _⟩ := h2 i y hy
    rw [Nat.zero_add, cell_of_row w b i cells _ _ h1]
    simp [hu]
  · obtain ⟨u, hu, hr⟩ := h2 i y hy
    have : cells.getD i undef = u := by simp [hu]
    show R S rho w A y (cells.getD i undef)
    rw [this]; exact hr

def exLoad (P : Program) (hp : List (Nat × Blk)) (t : TypeId) : V → Option V
  | .pt id off => (hget hp id).bind fun k => ldV P t k.cs off
  | .pi cs => ldV P t cs 0
  | _ => none

theorem load_sound {B : Base} {hp : List (Nat × Blk)} (hm : Mem B S rho A hp w) {t : TypeId} {a x : V} {va : Value} (h : exLoad P hp t a = some x) (ha : R S rho w A a va) :
    ∃ v, (Instr.loadAt t va).run P w = .ok v w ∧ R S rho w A x v := by
  cases ha <;> simp only [exLoad] at h <;> try (cases h; done)
  · rename_i id off hid
    cases hk : hget hp id with
    | none => simp [hk] at h
    | some k =>
      simp [hk] at h
      obtain ⟨rd, h1, h2⟩ := (hm.cells id k hk hid).reader
      have := ld_sound (P := P) rd h h1 h2
      simpa [Instr.loadAt, Instr.sureAddr] using this
  · rename_i cs b off f hS hc hx
    obtain ⟨v, h1, h2⟩ := ld_sound (P := P) f h hc hx
    exact ⟨v, by simpa [Instr.loadAt, Instr.sureAddr] using h1, h2.open⟩

/-! ### parts of values, addresses -/
def partV (P : Program) (t : TypeId) (cs : List V) (off : Nat) : Option V :=
  match aggOf P t, szOf P t with
  | some true, some z => some (.ag ((cs.drop off).take z))
  | some false, some _ => cs[off]?
  | _, _ => none

theorem part_sound {t : TypeId} {cs : List V} {off : Nat} {x : V} {vs : Array Value} (h : partV P t cs off = some x) (hl : cs.length = vs.size)
    (hi : ∀ (i : Nat) (x : V) (u : Value), cs[i]? = some x → vs[i]? = some u → R S rho w A x u) : ∃ v, (part t vs off).run P w = .ok v w ∧ R S rho w A x v := by
  unfold partV at h
  split at h
  · rename_i z ha hz
    simp only [Option.some.injEq] at h
    subst h
    refine ⟨.agg (vs.extract off (off + z)), by simp [part, Sem.run_bind, run_isAgg ha, run_sizeOf hz], .ag (by simp; omega) ?_⟩
    intro i y u hy hu
    rw [List.getElem?_take] at hy
    split at hy
    · rw [List.getElem?_drop] at hy
      rw [Array.getElem?_extract] at hu
      split at hu
      · exact hi _ _ _ hy hu
      · cases hu
    · cases hy
  · rename_i ha hz
    have hlt := (List.getElem?_eq_some_iff.1 h).1
    have hv : vs[off]? = some (vs[off]'(by omega)) := Array.getElem?_eq_getElem (by omega)
    refine ⟨_, ?_, hi off x _ h hv⟩
    simp [part, Sem.run_bind, run_isAgg ha, hv]
  · cases h

def exField (P : Program) (T : TypeId) (f : Nat) : V → Option V
  | .ag cs => (fldOf P T f).bind fun (o, t, _) => partV P t cs o
  | _ => none
theorem field_sound {T : TypeId} {f : Nat} {a x : V} {va : Value} (h : exField P T f a = some x) (ha : R S rho w A a va) : ∃ v, (Instr.field T va f).run P w = .ok v w ∧ R S rho w A x v := by
  cases ha <;> simp only [exField] at h <;> try (cases h; done)
  rename_i cs vs hl hi
  cases hf : fldOf P T f with
  | none => simp [hf] at h
  | some p =>
    obtain ⟨o, t, z⟩ := p
    simp only [hf, Option.bind_some] at h
    obtain ⟨fs, fd, hu, hfs, rfl, rfl, hz⟩ := fldOf_und hf
    obtain ⟨v, hv, hr⟩ := part_sound h hl hi
    exact ⟨v, by simp [Instr.field, run_underlying hu, hfs, asAgg, hv], hr⟩

def exFieldAddr (P : Program) (T : TypeId) (f : Nat) : V → Option V
  | .pt id off => (fldOf P T f).bind fun (o, _, z) => if z = 0 then none else some (.pt id (off + o))
  | .pi cs => (fldOf P T f).bind fun (o, _, z) => if z = 0 then none else some (.pi (cs.drop o))
  | _ => none
theorem pi_drop {cs : List V} {b off : Nat} {f : Nat → Value} (hS : S b) (hc : ∀ (i : Nat) (x : V), cs[i]? = some x → w.cell? ⟨b, off + i, none⟩ = some (f i))
    (hx : ∀ (i : Nat) (x : V), cs[i]? = some x → R S rho w (fun _ => False) x (f i)) (o : Nat) : R S rho w A (.pi (cs.drop o)) (.pointer (some ⟨b, off + o, none⟩)) :=
  .pi (fun i => f (o + i)) hS (fun i x h => by rw [List.getElem?_drop] at h; rw [Nat.add_assoc]; exact hc _ _ h) (fun i x h => by rw [List.getElem?_drop] at h; exact hx _ _ h)
theorem fieldAddr_sound {T : TypeId} {f : Nat} {a x : V} {va : Value} (h : exFieldAddr P T f a = some x) (ha : R S rho w A a va) : ∃ v, (Instr.fieldAt T va f).run P w = .ok v w ∧ R S rho w A x v := by
  have key : ∀ {id off o t z}, fldOf P T f = some (o, t, z) → z ≠ 0 → (Instr.fieldAt T (.pointer (some ⟨id, off, none⟩)) f).run P w = .ok (.pointer (some ⟨id, off + o, none⟩)) w := by
    intro id off o t z hf hz
    obtain ⟨fs, fd, hu, hfs, rfl, rfl, hz'⟩ := fldOf_und hf
    simp [Instr.fieldAt, run_underlying hu, hfs, Instr.sureAddr, fieldPlace, Sem.run_bind, run_sizeOf hz', hz, addrAdd]
  cases ha <;> simp only [exFieldAddr] at h <;> try (cases h; done)
  · rename_i id off hid
    cases hf : fldOf P T f with
    | none => simp [hf] at h
    | some p =>
      obtain ⟨o, t, z⟩ := p
      simp only [hf, Option.bind_some] at h
      split at h
      · cases h
      · simp only [Option.some.injEq] at h
        subst h
        exact ⟨_, key hf ‹_›, .pt hid⟩
  · rename_i cs b off g hS hc hx
    cases hf : fldOf P T f with
    | none => simp [hf] at h
    | some p =>
      obtain ⟨o, t, z⟩ := p
      simp only [hf, Option.bind_some] at h
      split at h
      · cases h
      · simp only [Option.some.injEq] at h
        subst h
        exact ⟨_, key hf ‹_›, pi_drop hS hc hx o⟩

def exIndexAddr (P : Program) (T : TypeId) (x i : V) : Option V :=
  match i with
  | .sc (.int _ n) =>
    match x with
    | .sl id off len _ _ => (slOf P T).bind fun (_, z) => if 0 ≤ n ∧ n < len then some (.pt id (off + n.toNat * z)) else none
    | .im cs len => (slOf P T).bind fun (_, z) => if 0 ≤ n ∧ n < len ∧ n.toNat * z < cs.length then some (.pi (cs.drop (n.toNat * z))) else none
    | .pt id off => (arOf P T).bind fun (len, _, z) => if 0 ≤ n ∧ n < len then some (.pt id (off + n.toNat * z)) else none
    | .pi cs => (arOf P T).bind fun (len, _, z) => if 0 ≤ n ∧ n < len then some (.pi (cs.drop (n.toNat * z))) else none
    | _ => none
  | _ => none
theorem indexAddr_sound {T : TypeId} {x i y : V} {vx vi : Value} (h : exIndexAddr P T x i = some y) (hx : R S rho w A x vx) (hi : R S rho w A i vi) :
    ∃ v, (Instr.indexAt T vx vi).run P w = .ok v w ∧ R S rho w A y v := by
  unfold exIndexAddr at h
  split at h
  · rename_i i k n
    cases hi
    have keyS : ∀ {b off len c e z}, slOf P T = some (e, z) → 0 ≤ n → n < (len : Nat) → (Instr.indexAt T (.slice (some ⟨b, off, none⟩) len c) (.int k n)).run P w = .ok (.pointer (some ⟨b, off + n.toNat * z, none⟩)) w := by
      intro b off len c e z hs h1 h2
      obtain ⟨hu, hz⟩ := slOf_und hs
      simp [Instr.indexAt, asIntOf, run_underlying hu, h1, h2, Sem.run_bind, run_sizeOf hz, addrAdd]
    have keyA : ∀ {b off len e z}, arOf P T = some (len, e, z) → 0 ≤ n → n < (len : Nat) → (Instr.indexAt T (.pointer (some ⟨b, off, none⟩)) (.int k n)).run P w = .ok (.pointer (some ⟨b, off + n.toNat * z, none⟩)) w := by
      intro b off len e z hs h1 h2
      obtain ⟨hu, hz⟩ := arOf_und hs
      simp [Instr.indexAt, asIntOf, run_underlying hu, h1, h2, Instr.sureAddr, Sem.run_bind, run_sizeOf hz, addrAdd]
    split at h
    · rename_i id off len z0 cap
      cases hs : slOf P T with
      | none => simp [hs] at h
      | some p =>
        obtain ⟨e, z⟩ := p
        simp only [hs, Option.bind_some] at h
        split at h
        · rename_i hb
          simp only [Option.some.injEq] at h
          subst h
          cases hx with
          | sln => omega
          | sl hid hl hm hc hz0 => exact ⟨_, keyS hs hb.1 hb.2, .pt hid⟩
        · cases h
    · rename_i cs len
      cases hs : slOf P T with
      | none => simp [hs] at h
      | some p =>
        obtain ⟨e, z⟩ := p
        simp only [hs, Option.bind_some] at h
        split at h
        · rename_i hb
          simp only [Option.some.injEq] at h
          subst h
          cases hx with
          | im0 => simp at hb
          | im1 f hl hm hS hc hx => exact ⟨_, keyS hs hb.1 hb.2.1, pi_drop hS hc hx _⟩
        · cases h
    · rename_i id off
      cases hx with | pt hid =>
      cases hs : arOf P T with
      | none => simp [hs] at h
      | some p =>
        obtain ⟨len, e, z⟩ := p
        simp only [hs, Option.bind_some] at h
        split at h
        · rename_i hb
          simp only [Option.some.injEq] at h
          subst h
          exact ⟨_, keyA hs hb.1 hb.2, .pt hid⟩
        · cases h
    · rename_i cs
      cases hs : arOf P T with
      | none => simp [hs] at h
      | some p =>
        obtain ⟨len, e, z⟩ := p
        simp only [hs, Option.bind_some] at h
        split at h
        · rename_i hb
          simp only [Option.some.injEq] at h
          subst h
          cases hx with
          | pi f hS hc hx => exact ⟨_, keyA hs hb.1 hb.2, pi_drop hS hc hx _⟩
        · cases h
    · cases h
  · cases h

def exIndex (P : Program) (T : TypeId) (x i : V) : Option V :=
  match x, i with
  | .ag cs, .sc (.int _ n) => (arOf P T).bind fun (len, e, z) => if 0 ≤ n ∧ n < len then partV P e cs (n.toNat * z) else none
  | .sc (.string s), .sc (.int _ n) => if isStr P T = true ∧ 0 ≤ n then (s[n.toNat]?).map fun b => .sc (.int .u8 b.toNat) else none
  | _, _ => none
theorem index_sound {T : TypeId} {x i y : V} {vx vi : Value} (h : exIndex P T x i = some y) (hx : R S rho w A x vx) (hi : R S rho w A i vi) :
    ∃ v, (Instr.index T vx vi).run P w = .ok v w ∧ R S rho w A y v := by
  unfold exIndex at h
  split at h
  · rename_i cs k n
    cases hi
    cases hx
    rename_i vs hl hi
    cases hs : arOf P T with
    | none => simp [hs] at h
    | some p =>
      obtain ⟨len, e, z⟩ := p
      simp only [hs, Option.bind_some] at h
      split at h
      · rename_i hb
        obtain ⟨hu, hz⟩ := arOf_und hs
        obtain ⟨v, hv, hr⟩ := part_sound h hl hi
        exact ⟨v, by simp [Instr.index, asIntOf, run_underlying hu, hb.1, hb.2, Sem.run_bind, run_sizeOf hz, hv], hr⟩
      · cases h
  · rename_i s k n
    cases hx
    cases hi
    split at h
    · rename_i hc
      cases hb : s[n.toNat]? with
      | none => simp [hb] at h
      | some b =>
        simp only [hb, Option.map_some, Option.some.injEq] at h
        subst h
        exact ⟨_, by simp [Instr.index, asIntOf, run_underlying (isStr_und hc.1), hc.2, hb], .sc _⟩
    · cases h
  · cases h

def exExtract (ix : Nat) : V → Option V
  | .tu cs => cs[ix]?
  | _ => none
theorem extract_sound {ix : Nat} {a x : V} {va : Value} (h : exExtract ix a = some x) (ha : R S rho w A a va) : ∃ v, (Instr.extract va ix).run P w = .ok v w ∧ R S rho w A x v := by
  cases ha <;> simp only [exExtract] at h <;> try (cases h; done)
  rename_i cs vs hl hi
  have hlt := (List.getElem?_eq_some_iff.1 h).1
  have hv : vs[ix]? = some (vs[ix]'(by omega)) := Array.getElem?_eq_getElem (by omega)
  exact ⟨_, by simp [Instr.extract, hv], hi ix x _ h hv⟩

/-! ### numbers -/
def binI (op : BinOp) (k : IntKind) (a b : Int) : Option Value :=
  match op with
  | .add => some (.int k (k.wrap (a + b)))
  | .sub => some (.int k (k.wrap (a - b)))
  | .mul => some (.int k (k.wrap (a * b)))
  | .quo => if b = 0 then none else some (.int k (k.wrap (a.tdiv b)))
  | .rem => if b = 0 then none else some (.int k (a.tmod b))
  | .and => some (.int k (k.wrap (BitVec.ofInt k.bits a &&& BitVec.ofInt k.bits b).toNat))
  | .or => some (.int k (k.wrap (BitVec.ofInt k.bits a ||| BitVec.ofInt k.bits b).toNat))
  | .xor => some (.int k (k.wrap (BitVec.ofInt k.bits a ^^^ BitVec.ofInt k.bits b).toNat))
  | .andNot => some (.int k (k.wrap (BitVec.ofInt k.bits a &&& ~~~ BitVec.ofInt k.bits b).toNat))
  | .eql => some (.bool (a == b))
  | .neq => some (.bool (a != b))
  | .lss => some (.bool (decide (a < b)))
  | .leq => some (.bool (decide (a ≤ b)))
  | .gtr => some (.bool (decide (a > b)))
  | .geq => some (.bool (decide (a ≥ b)))
  | _ => none
def shI (op : BinOp) (k : IntKind) (a b : Int) : Option Value :=
  if b < 0 then none else
  match op with
  | .shl => some (.int k (k.wrap (a * 2 ^ min b.toNat k.bits)))
  | .shr => some (.int k (a.fdiv (2 ^ min b.toNat k.bits)))
  | _ => none
/-- an operation on strings -/
def strB (op : BinOp) (x y : ByteArray) : Option Value :=
  match op with
  | .add => if ((x.size + y.size : Nat) : Int) > 9223372036854775807 then none else some (.string (x ++ y))
  | .eql => some (.bool (x.toList == y.toList))
  | .neq => some (.bool !(x.toList == y.toList))
  | .lss => some (.bool (Op.bytesLess x.toList y.toList))
  | .leq => some (.bool (Op.bytesLess x.toList y.toList || x.toList == y.toList))
  | .gtr => some (.bool !(Op.bytesLess x.toList y.toList || x.toList == y.toList))
  | .geq => some (.bool !(Op.bytesLess x.toList y.toList))
  | _ => none
theorem str_sound {op : BinOp} {t : TypeId} {a b : ByteArray} {v : Value} (h : strB op a b = some v) : (binOp op t (.string a) (.string b)).run P w = .ok v w := by
  have e : binOp op t (.string a) (.string b) = Op.stringOp op a b := by cases op <;> rfl
  rw [e]
  have hm : IntKind.i64.max = 9223372036854775807 := rfl
  unfold strB at h
  cases op <;> simp only at h <;> try (cases h; done)
  all_goals try (simp only [Option.some.injEq] at h; subst h; simp [Op.stringOp]; done)
  split at h
  · cases h
  · rename_i hc
    simp only [Option.some.injEq] at h; subst h
    simp only [Op.stringOp, hm, if_neg hc]; rfl
def isSl (P : Program) (t : TypeId) : Bool :=
  match P.underlying t with
  | some (.slice _) => true
  | _ => false
theorem isSl_und {t : TypeId} (h : isSl P t = true) : ∃ e, P.underlying t = some (.slice e) := by
  unfold isSl at h; split at h
  · exact ⟨_, ‹_›⟩
  · cases h
/-- a slice and nil: whether they are equal -/
def nilB (op : BinOp) (eq : Bool) : Option V :=
  match op with
  | .eql => some (.sc (.bool eq))
  | .neq => some (.sc (.bool !eq))
  | _ => none
theorem nil_sound {op : BinOp} {t : TypeId} {ox oy : Operand} {a : Option Addr} {n c : Nat} {eq : Bool} {r : V} (hu : isSl P t = true) (h : nilB op eq = some r) (ha : a.isNone = eq) :
    ∃ v, (do eqGuard op t ox oy (.slice a n c) (.slice none 0 0); binOp op t (.slice a n c) (.slice none 0 0) : Sem Value).run P w = .ok v w ∧ R S rho w A r v := by
  have hg : eqGuard op t ox oy (.slice a n c) (.slice none 0 0) = pure () := by cases op <;> rfl
  rw [hg]
  obtain ⟨e, hu⟩ := isSl_und hu
  have he : ∀ d, (Op.equalIn (d + 1) t (.slice a n c) (.slice none 0 0)).run P w = .ok eq w := by
    intro d
    cases a with
    | none => subst ha; simp [Op.equalIn, run_underlying hu]
    | some ad => subst ha; simp [Op.equalIn, run_underlying hu]
  have he' : (Op.equal t (.slice a n c) (.slice none 0 0)).run P w = .ok eq w := he 9999
  unfold nilB at h
  split at h
  · simp only [Option.some.injEq] at h; subst h
    exact ⟨.bool eq, by simp [binOp, he'], .sc _⟩
  · simp only [Option.some.injEq] at h; subst h
    exact ⟨.bool (!eq), by simp [binOp, he'], .sc _⟩
  · cases h
def exBin (P : Program) (op : BinOp) (t : TypeId) (x y : V) : Option V :=
  match x, y with
  | .sc (.int k a), .sc (.int k' b) => match op with
    | .shl | .shr => (shI op k a b).map .sc
    | _ => if k = k' then (binI op k a b).map .sc else none
  | .sc (.bool a), .sc (.bool b) =>
    if isBool P t then (match op with | .eql => some (.sc (.bool (a == b))) | .neq => some (.sc (.bool (a != b))) | _ => none) else none
  | .sc (.string a), .sc (.string b) => (strB op a b).map .sc
  | .sl _ _ len _ _, .sc (.slice none 0 0) => if isSl P t = true ∧ 0 < len then nilB op false else none
  | .im _ len, .sc (.slice none 0 0) => if isSl P t = true ∧ 0 < len then nilB op false else none
  | .sc (.slice none 0 0), .sc (.slice none 0 0) => if isSl P t = true then nilB op true else none
  | _, _ => none

theorem eqGuard_int {op : BinOp} {t : TypeId} {x y : Operand} {k : IntKind} {n : Int} {v : Value} : eqGuard op t x y (.int k n) v = pure () := by cases op <;> rfl
theorem bin_sound {op : BinOp} {t : TypeId} {ox oy : Operand} {x y r : V} {vx vy : Value} (h : exBin P op t x y = some r) (hx : R S rho w A x vx) (hy : R S rho w A y vy) :
    ∃ v, (do eqGuard op t ox oy vx vy; binOp op t vx vy : Sem Value).run P w = .ok v w ∧ R S rho w A r v := by
  unfold exBin at h
  split at h
  · rename_i k a k' b
    cases hx
    cases hy
    have hg : eqGuard op t ox oy (.int k a) (.int k' b) = pure () := by cases op <;> rfl
    rw [hg]
    have sh : op = .shl ∨ op = .shr → (shI op k a b).map V.sc = some r → ∃ v, (do pure (); binOp op t (.int k a) (.int k' b) : Sem Value).run P w = .ok v w ∧ R S rho w A r v := by
      intro hs h
      cases hr : shI op k a b with
      | none => simp [hr] at h
      | some u =>
        simp only [hr, Option.map_some, Option.some.injEq] at h
        subst h
        refine ⟨u, ?_, .sc _⟩
        unfold shI at hr
        split at hr
        · cases hr
        · rename_i hb
          rcases hs with rfl | rfl <;> simp only [Option.some.injEq] at hr <;> subst hr <;> simp [binOp, Op.shift, hb]
    split at h
    · exact sh (.inl rfl) h
    · exact sh (.inr rfl) h
    · rename_i hs1 hs2
      split at h
      · rename_i hk
        subst hk
        cases hr : binI op k a b with
        | none => simp [hr] at h
        | some u =>
          simp only [hr, Option.map_some, Option.some.injEq] at h
          subst h
          refine ⟨u, ?_, .sc _⟩
          cases op <;> simp [binI] at hr hs1 hs2 <;> first
            | (obtain ⟨h0, rfl⟩ := hr; simp [binOp, Op.intDiv, h0])
            | (subst hr; simp [binOp, Op.intArith, Op.intBits, Op.intCmp])
      · cases h
  · rename_i a b
    cases hx
    cases hy
    have hg : eqGuard op t ox oy (.bool a) (.bool b) = pure () := by cases op <;> rfl
    rw [hg]
    split at h
    · rename_i hu
      have hu := isBool_und hu
      have he' : ∀ (d : Nat) (a b : Bool), (Op.equalIn (d + 1) t (.bool a) (.bool b)).run P w = .ok (a == b) w := by
        intro d a b; simp [Op.equalIn, run_underlying hu]
      have he : ∀ (a b : Bool), (Op.equal t (.bool a) (.bool b)).run P w = .ok (a == b) w := he' 9999
      split at h
      · simp only [Option.some.injEq] at h; subst h
        exact ⟨_, by simp [binOp, he], .sc _⟩
      · simp only [Option.some.injEq] at h; subst h
        exact ⟨.bool (!(a == b)), by simp [binOp, he], by cases a <;> cases b <;> exact .sc _⟩
      · cases h
    · cases h
  · rename_i a b
    cases hx
    cases hy
    have hg : eqGuard op t ox oy (.string a) (.string b) = pure () := by cases op <;> rfl
    rw [hg]
    cases hv : strB op a b with
    | none => simp [hv] at h
    | some v =>
      simp only [hv, Option.map_some, Option.some.injEq] at h
      subst h
      exact ⟨v, by simp [str_sound hv], .sc _⟩
  · split at h
    · rename_i hc
      cases hy
      cases hx with
      | sln _ => exact absurd hc.2 (by omega)
      | sl hid hl hm hcap hz => exact nil_sound hc.1 h rfl
    · cases h
  · split at h
    · rename_i hc
      cases hy
      cases hx with
      | im0 hl hm ha =>
        rename_i a
        cases a with
        | none => have := ha rfl; omega
        | some ad => exact nil_sound hc.1 h rfl
      | im1 f hl hm hS hcell hx => exact nil_sound hc.1 h rfl
    · cases h
  · split at h
    · rename_i hc
      cases hy
      cases hx
      exact nil_sound hc h rfl
    · cases h
  · cases h

def exUn (op : UnOp) : V → Option V
  | .sc (.int k n) => match op with
    | .neg => some (.sc (.int k (k.wrap (0 - n))))
    | .xor => some (.sc (.int k (k.wrap (BitVec.ofInt k.bits (if k.signed then -1 else k.max) ^^^ BitVec.ofInt k.bits n).toNat)))
    | _ => none
  | .sc (.bool b) => match op with
    | .not => some (.sc (.bool !b))
    | _ => none
  | _ => none
theorem un_sound {op : UnOp} {a x : V} {va : Value} (h : exUn op a = some x) (ha : R S rho w A a va) : ∃ v, (Op.unary op va).run P w = .ok v w ∧ R S rho w A x v := by
  unfold exUn at h
  split at h
  · cases ha
    cases op <;> simp at h <;> subst h <;> exact ⟨_, by simp [Op.unary, Op.intArith, Op.intBits], .sc _⟩
  · cases ha
    cases op <;> simp at h <;> subst h <;> exact ⟨_, by simp [Op.unary], .sc _⟩
  · cases h

def exConv (P : Program) (src dst : TypeId) : V → Option V
  | .sc (.int _ n) => if hasT P src then (intOf' P dst).map fun k => .sc (.int k (k.wrap n)) else none
  | _ => none
theorem conv_sound {src dst : TypeId} {a x : V} {va : Value} (h : exConv P src dst a = some x) (ha : R S rho w A a va) : ∃ v, (convert src dst va).run P w = .ok v w ∧ R S rho w A x v := by
  unfold exConv at h
  split at h
  · cases ha
    split at h
    · rename_i hs
      obtain ⟨ds, hs⟩ := Option.isSome_iff_exists.1 hs
      cases hd : intOf' P dst with
      | none => simp [hd] at h
      | some k =>
        simp only [hd, Option.map_some, Option.some.injEq] at h
        subst h
        exact ⟨_, by simp [convert, run_underlying hs, run_underlying (intOf_und hd), Conv.intToInt], .sc _⟩
    · cases h
  · cases h
end
end Go.Proofs.YtbpcgeanpkokkaaDoor
