/- A region that draws its order comes to what its text's order comes to. -/
import Derived.Test.YtbpcgeanpkokkaaDoorSp
namespace Go.Proofs.YtbpcgeanpkokkaaDoor
open Go.RowKit

section
variable {P : Program} {ops : Array Oper}

theorem DStep.sl {o : Oper} {s s' : SS} {e : En} (h : DStep P ops o s e s') : s'.sl = putS s.sl o.dst e.x ∧ s'.nt = s.nt := by
  obtain ⟨_, ⟨f, _, _, _, rfl, _⟩ | ⟨_, hx, _, _, rfl⟩ | ⟨f, args, ts, ys, _, _, _, _, _, rfl, _⟩⟩ := h
  · exact ⟨rfl, rfl⟩
  · rw [hx]; exact ⟨rfl, rfl⟩
  · exact ⟨rfl, rfl⟩

/-- the data of a run in the order of the text -/
structure DRun (P : Program) (l : List Oper) (st : Nat → SS) (en : Nat → En) : Prop where
  kl : KL (st 0)
  step : ∀ (i : Nat) (o : Oper), l[i]? = some o → DStep P l.toArray o (st i) (en i) (st (i + 1))
  ord : ∀ (i : Nat) (o : Oper), l[i]? = some o → ∀ e ∈ o.after.toList, Region.binds .any e = true → e.on < i
  slot : ∀ (i j : Nat) (oi oj : Oper) (d : Nat), i ≠ j → l[i]? = some oi → l[j]? = some oj → oj.dst = some d → oi.dst ≠ some d ∧ (d ∈ oi.looksAt l.toArray → cmpB l.toArray i j = true)
  tgt : ∀ (i j : Nat) (id : Nat), i ≠ j → i < l.length → j < l.length → (en j).tg = some id → id ∈ (en i).tc ∨ (en i).tg = some id → cmpB l.toArray i j = true

variable {l : List Oper} {st : Nat → SS} {en : Nat → En}

theorem getL {i : Nat} (h : i < l.length) : ∃ o, l[i]? = some o := ⟨_, List.getElem?_eq_getElem h⟩

theorem DRun.klAt (h : DRun P l st en) : ∀ i, i ≤ l.length → KL (st i)
  | 0, _ => h.kl
  | i + 1, hi => by
    obtain ⟨o, ho⟩ := getL (l := l) (i := i) (by omega)
    exact ((h.step i o ho).heap (h.klAt i (by omega))).2.2
theorem DRun.nx (h : DRun P l st en) (i : Nat) : ∀ j, i ≤ j → j ≤ l.length → (st i).nx ≤ (st j).nx
  | 0, hij, _ => by have : i = 0 := by omega
                    subst this; exact Nat.le_refl _
  | j + 1, hij, hj => by
    by_cases e : i = j + 1
    · subst e; exact Nat.le_refl _
    · obtain ⟨o, ho⟩ := getL (l := l) (i := j) (by omega)
      exact Nat.le_trans (h.nx i j (by omega) (by omega)) ((h.step j o ho).heap (h.klAt j (by omega))).2.1
theorem DRun.nt (h : DRun P l st en) : ∀ i, i ≤ l.length → (st i).nt = (st 0).nt
  | 0, _ => rfl
  | i + 1, hi => by
    obtain ⟨o, ho⟩ := getL (l := l) (i := i) (by omega)
    exact ((h.step i o ho).sl).2.trans (h.nt i (by omega))

theorem DRun.chain (h : DRun P l st en) {i : Nat} {id : Nat} {k : Blk} (hk : hget (st i).hp id = some k) : ∀ j, i ≤ j → j ≤ l.length → (∀ m, i ≤ m → m < j → (en m).tg ≠ some id) →
    ∃ k', hget (st j).hp id = some k' ∧ k'.ty = k.ty ∧ k'.cs = k.cs ∧ (k'.fz = false → k.fz = false)
  | 0, hij, _, _ => by have : i = 0 := by omega
                       subst this; exact ⟨k, hk, rfl, rfl, fun h => h⟩
  | j + 1, hij, hj, hm => by
    by_cases e : i = j + 1
    · subst e; exact ⟨k, hk, rfl, rfl, fun h => h⟩
    · obtain ⟨o, ho⟩ := getL (l := l) (i := j) (by omega)
      obtain ⟨k1, a1, a2, a3, a4⟩ := h.chain hk j (by omega) (by omega) (fun m h1 h2 => hm m h1 (by omega))
      obtain ⟨k2, b1, b2, b3⟩ := ((h.step j o ho).heap (h.klAt j (by omega))).1 id k1 a1
      obtain ⟨c1, c2⟩ := b2 (hm j (by omega) (by omega))
      exact ⟨k2, b1, c1.trans a2, c2.trans a3, fun h => a4 (b3 h)⟩

theorem DRun.slot0 (h : DRun P l st en) {t : Nat} : ∀ i, i ≤ l.length → (∀ j o, j < i → l[j]? = some o → o.dst ≠ some t) → get (st i).sl t = get (st 0).sl t
  | 0, _, _ => rfl
  | i + 1, hi, hn => by
    obtain ⟨o, ho⟩ := getL (l := l) (i := i) (by omega)
    rw [((h.step i o ho).sl).1]
    have := hn i o (by omega) ho
    have ih := h.slot0 (t := t) i (by omega) (fun j o hj => hn j o (by omega))
    cases hd : o.dst with
    | none => exact ih
    | some d =>
      rw [hd] at this
      simp only [putS, get]
      rw [if_neg (fun e => this (by rw [e]))]
      exact ih
theorem DRun.slotx (h : DRun P l st en) {t j : Nat} {oj : Oper} (hj : l[j]? = some oj) (hd : oj.dst = some t) : ∀ i, j < i → i ≤ l.length → get (st i).sl t = (en j).x
  | 0, hji, _ => by omega
  | i + 1, hji, hi => by
    obtain ⟨o, ho⟩ := getL (l := l) (i := i) (by omega)
    rw [((h.step i o ho).sl).1]
    by_cases e : j = i
    · subst e
      rw [ho] at hj; cases hj
      rw [hd]; simp [putS, get]
    · have hne := (h.slot i j o oj t (fun e' => e e'.symm) ho hj hd).1
      have ih := h.slotx hj hd i (by omega) (by omega)
      cases hd' : o.dst with
      | none => exact ih
      | some d =>
        rw [hd'] at hne
        simp only [putS, get]
        rw [if_neg (fun e => hne (by rw [e]))]
        exact ih

theorem depB_lt (h : DRun P l st en) {i j : Nat} (hd : depB l.toArray i j = true) : j < i := by
  unfold depB at hd
  split at hd
  · rename_i o ho
    rw [List.getElem?_toArray] at ho
    rw [Array.any_eq_true'] at hd
    obtain ⟨e, he, hb⟩ := hd
    rw [Bool.and_eq_true] at hb
    have := h.ord i o ho e (by simpa using he) hb.1
    rw [beq_iff_eq] at hb
    omega
  · cases hd
theorem reach_lt (h : DRun P l st en) : ∀ (f i j : Nat), reachB l.toArray f i j = true → j < i
  | 0, _, _, hr => by cases hr
  | f + 1, i, j, hr => by
    simp only [reachB, Bool.or_eq_true, List.any_eq_true, Bool.and_eq_true] at hr
    rcases hr with hr | ⟨m, _, h1, h2⟩
    · exact depB_lt h hr
    · have := reach_lt h f m j h2
      have := depB_lt h h1
      omega
/-- an operation that is to run next, and one that stands in an order with it -/
theorem cmp_done (h : DRun P l st en) {L : Nat → Bool} (hc : ∀ i j, L i = true → depB l.toArray i j = true → L j = true) {i j : Nat} (hi : L i = false) (hd : ∀ m, depB l.toArray i m = true → L m = true) (hij : cmpB l.toArray i j = true) :
    L j = true ↔ j < i := by
  unfold cmpB at hij
  rw [Bool.or_eq_true] at hij
  rcases hij with hr | hr
  · exact ⟨fun _ => reach_lt h 4 i j hr, fun _ => reachB_spec hc 4 i j hr hd⟩
  · have hlt := reach_lt h 4 j i hr
    refine ⟨fun hj => ?_, fun hlt' => by omega⟩
    have := reachB_spec hc 4 j i hr (fun m hm => hc j m hj hm)
    rw [hi] at this; cases this

/-- the first change of the block that is still to come -/
def nextC (n : Nat) (en : Nat → En) (L : Nat → Bool) (id : Nat) : Nat := ((List.range n).find? fun i => (en i).tg == some id && !L i).getD n
theorem nextC_le (n : Nat) (L : Nat → Bool) (id : Nat) : nextC n en L id ≤ n := by
  unfold nextC
  cases h : (List.range n).find? fun i => (en i).tg == some id && !L i with
  | none => exact Nat.le_refl _
  | some i => have := List.mem_of_find?_eq_some h; have := List.mem_range.1 this; simp; omega
theorem nextC_lt {n : Nat} {L : Nat → Bool} {id : Nat} {m : Nat} (hm : m < nextC n en L id) (ht : (en m).tg = some id) : L m = true := by
  unfold nextC at hm
  cases h : (List.range n).find? fun i => (en i).tg == some id && !L i with
  | none =>
    rw [h] at hm
    have := List.find?_eq_none.1 h m (List.mem_range.2 hm)
    simpa [ht] using this
  | some i =>
    rw [h] at hm
    simp only [Option.getD_some] at hm
    rw [List.find?_eq_some_iff_append] at h
    obtain ⟨_, as, bs, he, ha⟩ := h
    have hlen : m < as.length := by
      have hi : (List.range n)[as.length]? = some i := by rw [he]; simp
      have := (List.getElem?_eq_some_iff.1 hi)
      obtain ⟨h1, h2⟩ := this
      simp at h2; omega
    have hmem : m ∈ as := by
      have h1 : (List.range n)[m]? = as[m]? := by rw [he]; simp [List.getElem?_append, hlen]
      have hn : m < n := by
        have : as.length ≤ n := by have := congrArg List.length he; simp at this; omega
        omega
      rw [List.getElem?_range hn] at h1
      exact List.mem_of_getElem? h1.symm
    have := ha m hmem
    simpa [ht] using this
theorem nextC_at {n : Nat} {L : Nat → Bool} {id : Nat} (hq : nextC n en L id < n) : (en (nextC n en L id)).tg = some id ∧ L (nextC n en L id) = false := by
  unfold nextC at hq ⊢
  cases h : (List.range n).find? fun i => (en i).tg == some id && !L i with
  | none => rw [h] at hq; simp at hq
  | some i =>
    have := List.find?_some h
    simpa using this
theorem nextC_eq {n : Nat} {L : Nat → Bool} {id q : Nat} (hq : q ≤ n) (h1 : ∀ m, m < q → (en m).tg = some id → L m = true) (h2 : q < n → (en q).tg = some id ∧ L q = false) : nextC n en L id = q := by
  rcases Nat.lt_trichotomy (nextC n en L id) q with h | h | h
  · have := nextC_at (Nat.lt_of_lt_of_le h hq)
    have := h1 _ h this.1
    simp_all
  · exact h
  · have hn := nextC_le (en := en) n L id
    obtain ⟨a, b⟩ := h2 (by omega)
    rw [nextC_lt h a] at b; cases b

/-- the own blocks where just the operations of L have run -/
def hpD (n : Nat) (st : Nat → SS) (en : Nat → En) (L : Nat → Bool) : List (Nat × Blk) := ((st n).hp.map (·.1)).filterMap fun id => (hget (st (nextC n en L id)).hp id).map fun k => (id, k)
theorem hget_fm (f : Nat → Option Blk) (ks : List Nat) (id : Nat) : hget (ks.filterMap fun i => (f i).map fun k => (i, k)) id = if id ∈ ks then f id else none := by
  induction ks with
  | nil => rfl
  | cons a r ih =>
    rw [List.filterMap_cons]
    cases ha : f a with
    | none =>
      simp only [Option.map_none, ih, List.mem_cons]
      by_cases e : id = a
      · subst e; simp [ha]
      · simp [e]
    | some k =>
      simp only [Option.map_some, hget, ih, List.mem_cons]
      by_cases e : id = a
      · subst e; simp [ha]
      · simp [e]
theorem mem_keys {hp : List (Nat × Blk)} {id : Nat} {k : Blk} (h : hget hp id = some k) : id ∈ hp.map (·.1) := by
  induction hp with
  | nil => cases h
  | cons p r ih =>
    obtain ⟨i, q⟩ := p
    simp only [hget] at h
    by_cases e : id = i
    · simp [e]
    · rw [if_neg e] at h; exact List.mem_cons_of_mem _ (ih h)
theorem DRun.stays (h : DRun P l st en) {i : Nat} {id : Nat} {k : Blk} (hk : hget (st i).hp id = some k) : ∀ j, i ≤ j → j ≤ l.length → ∃ k', hget (st j).hp id = some k'
  | 0, hij, _ => by have : i = 0 := by omega
                    subst this; exact ⟨k, hk⟩
  | j + 1, hij, hj => by
    by_cases e : i = j + 1
    · subst e; exact ⟨k, hk⟩
    · obtain ⟨o, ho⟩ := getL (l := l) (i := j) (by omega)
      obtain ⟨k1, a1⟩ := h.stays hk j (by omega) (by omega)
      obtain ⟨k2, b1, _⟩ := ((h.step j o ho).heap (h.klAt j (by omega))).1 id k1 a1
      exact ⟨k2, b1⟩
theorem hget_hpD (h : DRun P l st en) (L : Nat → Bool) (id : Nat) : hget (hpD l.length st en L) id = hget (st (nextC l.length en L id)).hp id := by
  unfold hpD
  rw [hget_fm fun id => hget (st (nextC l.length en L id)).hp id]
  split
  · rfl
  · rename_i hm
    cases hk : hget (st (nextC l.length en L id)).hp id with
    | none => rfl
    | some k =>
      obtain ⟨k', hk'⟩ := h.stays hk l.length (nextC_le _ _ _) (Nat.le_refl _)
      exact absurd (mem_keys hk') hm

/-- the memory under other words for the own blocks -/
theorem Mem.turn {B : Base} {S : Nat → Prop} {rho : Nat → Nat} {A : Nat → Prop} {hp hp' : List (Nat × Blk)} {w : World} (h : Mem B S rho A hp w)
    (ht : ∀ id k', hget hp' id = some k' → A id → ∃ k, hget hp id = some k ∧ k'.ty = k.ty ∧ k'.cs = k.cs ∧ (k'.fz = false → k.fz = false)) : Mem B S rho A hp' w where
  cells id k' hk ha := by
    obtain ⟨k, h1, h2, h3, _⟩ := ht id k' hk ha
    obtain ⟨cells, c1, c2⟩ := h.cells id k h1 ha
    exact ⟨cells, by rw [h2]; exact c1, by rw [h3]; exact c2⟩
  fz id k' hk ha h0 := by
    obtain ⟨k, h1, _, _, h4⟩ := ht id k' hk ha
    exact h.fz id k h1 ha (h4 h0)
  own id k' hk ha := by obtain ⟨k, h1, _⟩ := ht id k' hk ha; exact h.own id k h1 ha
  inj id id' k k' hk hk' ha ha' := by
    obtain ⟨q, h1, _⟩ := ht id k hk ha
    obtain ⟨q', h1', _⟩ := ht id' k' hk' ha'
    exact h.inj id id' q q' h1 h1' ha ha'
  slt := h.slt
  sub := h.sub
  base := h.base
  frame := h.frame
  keep := h.keep

/-- slots that alone matter -/
def restr (sl : List (Nat × V)) (ts : List Nat) : List (Nat × V) := ts.map fun t => (t, get sl t)
theorem get_restr (sl : List (Nat × V)) (ts : List Nat) (t : Nat) : get (restr sl ts) t = if t ∈ ts then get sl t else .junk := by
  induction ts with
  | nil => rfl
  | cons a r ih =>
    simp only [restr, List.map_cons, get] at ih ⊢
    by_cases e : t = a
    · subst e; simp
    · rw [if_neg e, ih]; simp [e]

def made (f : Option Nat) : Nat → Prop := fun id => f = some id

/-- what holds where just the operations of L have run -/
structure DInv (B : Base) (l : List Oper) (st : Nat → SS) (en : Nat → En) (L : Nat → Bool) (S : Nat → Prop) (rho : Nat → Nat) (A : Nat → Prop) (a : Act) (w : World) : Prop where
  mem : Mem B S rho A (hpD l.length st en L) w
  done : ∀ t j o, l[j]? = some o → o.dst = some t → L j = true → R S rho w A (en j).x (a.eval (.tmp t))
  open' : ∀ t, (∀ j o, l[j]? = some o → o.dst = some t → L j = false) → R S rho w A (get (st 0).sl t) (a.eval (.tmp t))
  num : ∀ id, A id → id < (st 0).nx ∨ ∃ j, j < l.length ∧ L j = true ∧ (st j).nx = id ∧ (st j).nx < (st (j + 1)).nx
  size : a.tmps.size = (st 0).nt
  defs : a.defers = []
  closed : ∀ i j, L i = true → depB l.toArray i j = true → L j = true

theorem DInv.slot {B : Base} {L : Nat → Bool} {S : Nat → Prop} {rho : Nat → Nat} {A : Nat → Prop} {a : Act} {w : World} (h : DRun P l st en) (hI : DInv B l st en L S rho A a w) {i : Nat} {o : Oper} (ho : l[i]? = some o) (hi : L i = false)
    (hd : ∀ m, depB l.toArray i m = true → L m = true) {t : Nat} (ht : t ∈ o.looksAt l.toArray) : R S rho w A (get (st i).sl t) (a.eval (.tmp t)) := by
  have hil : i < l.length := (List.getElem?_eq_some_iff.1 ho).1
  by_cases hex : ∃ j oj, j ≠ i ∧ l[j]? = some oj ∧ oj.dst = some t
  · obtain ⟨j, oj, hji, hj, hdj⟩ := hex
    have hjl : j < l.length := (List.getElem?_eq_some_iff.1 hj).1
    have hcmp := (h.slot i j o oj t (fun e => hji e.symm) ho hj hdj).2 ht
    have hiff := cmp_done h hI.closed hi hd hcmp
    by_cases hlt : j < i
    · rw [h.slotx hj hdj i hlt (by omega)]
      exact hI.done t j oj hj hdj (hiff.2 hlt)
    · have hL : L j = false := by
        cases hb : L j with
        | false => rfl
        | true => exact absurd (hiff.1 hb) hlt
      have only : ∀ m om, l[m]? = some om → om.dst = some t → m = j := by
        intro m om hm hdm
        by_cases e : m = j
        · exact e
        · exact absurd hdm (h.slot m j om oj t e hm hj hdj).1
      rw [h.slot0 i (by omega) (fun m om hm hom hdm => by have := only m om hom hdm; omega)]
      exact hI.open' t fun m om hm hdm => by rw [only m om hm hdm]; exact hL
  · have hno : ∀ j oj, l[j]? = some oj → oj.dst = some t → j = i := by
      intro j oj hj hdj
      by_cases e : j = i
      · exact e
      · exact absurd ⟨j, oj, e, hj, hdj⟩ hex
    rw [h.slot0 i (by omega) (fun m om hm hom hdm => by have := hno m om hom hdm; omega)]
    exact hI.open' t fun m om hm hdm => by rw [hno m om hm hdm]; exact hi

/-- a block that the next operation looks at: its cells are those of the run in the order of the text -/
theorem DInv.blk {B : Base} {L : Nat → Bool} {S : Nat → Prop} {rho : Nat → Nat} {A : Nat → Prop} {a : Act} {w : World} (h : DRun P l st en) (hI : DInv B l st en L S rho A a w) {i : Nat} (hil : i < l.length) (hi : L i = false)
    (hd : ∀ m, depB l.toArray i m = true → L m = true) {id : Nat} (ht : id ∈ (en i).tc ∨ (en i).tg = some id) :
    i ≤ nextC l.length en L id ∧ (∀ m, i < m → m < nextC l.length en L id → (en m).tg ≠ some id) ∧ ((en i).tg = some id → nextC l.length en L id = i) := by
  have hcmp : ∀ j, j ≠ i → j < l.length → (en j).tg = some id → (L j = true ↔ j < i) := fun j hji hjl hj => cmp_done h hI.closed hi hd (h.tgt i j id (fun e => hji e.symm) hil hjl hj ht)
  have hq := nextC_le (en := en) l.length L id
  have h1 : i ≤ nextC l.length en L id := by
    rcases Nat.lt_or_ge (nextC l.length en L id) i with hlt | hge
    · obtain ⟨a1, a2⟩ := nextC_at (n := l.length) (en := en) (L := L) (id := id) (by omega)
      have := (hcmp _ (by omega) (by omega) a1).2 hlt
      rw [a2] at this; cases this
    · exact hge
  refine ⟨h1, fun m hm1 hm2 hm => ?_, fun hti => nextC_eq (by omega) (fun m hm hmt => (hcmp m (by omega) (by omega) hmt).2 hm) (fun _ => ⟨hti, hi⟩)⟩
  have := (hcmp m (by omega) (by omega) hm).1 (nextC_lt hm2 hm)
  omega
theorem DInv.agr0 {B : Base} {L : Nat → Bool} {S : Nat → Prop} {rho : Nat → Nat} {A : Nat → Prop} {a : Act} {w : World} (h : DRun P l st en) (hI : DInv B l st en L S rho A a w) {i : Nat} (hil : i < l.length) (hi : L i = false)
    (hd : ∀ m, depB l.toArray i m = true → L m = true) {id : Nat} (ht : id ∈ (en i).tc) : Go.Proofs.YtbpcgeanpkokkaaDoor.agr0 (hget (hpD l.length st en L) id) (hget (st i).hp id) := by
  intro k hk
  rw [hget_hpD h]
  obtain ⟨h1, h2, h3⟩ := hI.blk h hil hi hd (.inl ht)
  by_cases hti : (en i).tg = some id
  · rw [h3 hti]; exact ⟨k, hk, rfl, rfl⟩
  · obtain ⟨k', a1, a2, a3, _⟩ := h.chain hk _ h1 (nextC_le _ _ _) (fun m hm1 hm2 => by
      by_cases e : m = i
      · subst e; exact hti
      · exact h2 m (by omega) hm2)
    exact ⟨k', a1, a2, a3⟩
end
end Go.Proofs.YtbpcgeanpkokkaaDoor
