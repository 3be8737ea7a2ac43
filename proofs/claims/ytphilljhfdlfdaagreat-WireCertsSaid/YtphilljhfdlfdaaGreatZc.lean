/- Texts joined: Su Sw Sy Sz Sm Tab Sv Tf Tg T1 Ti Th Tj Tk Tl Tm Tn. -/
import Derived.Defers
import Derived.Recover
import Derived.Tactics
import Derived.Test.YtphilljhfdlfdaaGreatProg
import Derived.KernelRfl
import Derived.LoopN
import Derived.Test.YtphilljhfdlfdaaGreatZb
set_option linter.all false
open Nat renaming reduceEqDiff → zn1, reduceLT → zn2, reduceLeDiff → zn3, reduceAdd → zn4, reduceMul → zn5, reduceSub → zn6, reduceBEq → zn7, mul_one → zn8, zero_add → zn9, one_mul → zna, le_refl → znb, zero_le → znc, add_sub_cancel_left → znd, sub_eq_zero_of_le → zne, add_assoc → znf
open Int renaming reduceToNat → zi1, reducePow → zi2
open List renaming length_append → zl1, drop_zero → zl2, take_succ_cons → zl3, take_zero → zl4, getElem?_drop → zl5, append_assoc → zl6, nil_append → zl7, cons_append → zl8, drop_succ_cons → zl9, take_of_length_le → zla, getElem?_eq_getElem → zlb, getElem?_eq_some_iff → zlc, map_cons → zld, map_nil → zle, all_eq_true → zlf
namespace Go.Proofs.YtphilljhfdlfdaaGreat
open Go.RowKit
section
variable {P : Program} {w : World} {B : Base} {S : Nat → Prop} {rho : Nat → Nat} {A : Nat → Prop} {s : SS} {a : Act}
def Base.inner (S : Nat → Prop) (rho : Nat → Nat) (A : Nat → Prop) (hp : List (Nat × Blk)) (w : World) : Base := ⟨w, S, A, rho, fun b => ∃ id k, hget hp id = some k ∧ A id ∧ rho id = b, []⟩
theorem Mem.inner {hp : List (Nat × Blk)} (h : Mem B S rho A hp w) : Mem (Base.inner S rho A hp w) S rho A hp w where
  cells := h.cells
  fz := h.fz
  own id k hk ha := .inr ⟨id, k, hk, ha, rfl⟩
  inj := h.inj
  slt := h.slt
  sub _ hb := hb
  base _ hb := .inl hb
  frame := ⟨rfl, rfl, rfl, znb _, fun _ _ _ => rfl, fun _ _ => rfl, fun _ _ h => h, h.slt, h.tab⟩
  keep _ h := ⟨h, rfl⟩
theorem Mem.back {hp hp' : List (Nat × Blk)} {w' : World} {S' : Nat → Prop} {rho' : Nat → Nat} {A' : Nat → Prop} (h : Mem B S rho A hp w) (k : Mem (Base.inner S rho A hp w) S' rho' A' hp' w') : Mem B S' rho' A' hp' w' := by
  have hL : ∀ b, (Base.inner S rho A hp w).L b → B.n0 ≤ b ∨ B.L b := by
    rintro b ⟨id, q, hq, ha, rfl⟩
    exact h.own id q hq ha
  have hn : ∀ b, w.heap.size ≤ b → B.n0 ≤ b := fun b hb => Nat.le_trans h.frame.size hb
  exact {
    cells := k.cells
    fz := k.fz
    own := fun id q hq ha => (k.own id q hq ha).elim (fun h => .inl (hn _ h)) (hL _)
    inj := k.inj
    slt := k.slt
    sub := fun b hb => k.sub b (h.sub b hb)
    base := fun b hb => by
      rcases k.base b hb with h1 | h1 | h1
      · exact h.base b h1
      · exact .inr (.inl (hn _ h1))
      · exact .inr (hL _ h1)
    frame := {
      os := k.frame.os.trans h.frame.os
      tape := k.frame.tape.trans h.frame.tape
      output := k.frame.output.trans h.frame.output
      size := Nat.le_trans h.frame.size k.frame.size
      block := fun b hb hl => by
        have h1 : ¬ (Base.inner S rho A hp w).L b := fun hh => by
          rcases hL b hh with h2 | h2
          · unfold Base.n0 at h2; omega
          · exact hl h2
        exact (k.frame.block b (Nat.lt_of_lt_of_le hb h.frame.size) h1).trans (h.frame.block b hb hl)
      stay := fun b hb => (k.frame.stay b (h.sub b hb)).trans (h.frame.stay b hb)
      sz := fun b n hk => k.frame.sz b n (h.frame.sz b n hk)
      lt := h.frame.lt
      tab := h.frame.tab }
    keep := fun id hid => by
      obtain ⟨h1, h2⟩ := h.keep id hid
      obtain ⟨h3, h4⟩ := k.keep id h1
      exact ⟨h3, h4.trans h2⟩ }
def vst (x : V) (hp : List (Nat × Blk)) (nx : Nat) : SS := ⟨[(0, x)], hp, nx, 1⟩
def retI (P : Program) (fn : Func) (B : Base) (x : V) (hp : List (Nat × Blk)) (nx : Nat) : Exit → SS → Prop
  | .normal, s | .ret, s => ∃ y, resV P fn s = some y ∧ Le B (vst y s.hp s.nx) (vst x hp nx)
  | _, _ => False
def Inl (P : Program) (f : Nat) (args : List V) (hp : List (Nat × Blk)) (nx : Nat) (x : V) (hp' : List (Nat × Blk)) (nx' : Nat) : Prop :=
  ∃ fn c, P.funcs[f]? = some fn ∧ fn.body = some c ∧ args.length ≤ fn.ntmps ∧ ∀ B : Base, B.Old nx → SWp P B c (retI P fn B x hp' nx') ⟨stSl 0 args, hp, nx, fn.ntmps⟩
theorem start_slots {args : List V} {vs : Array Value} {n : Nat} (h : All S rho A w args vs.toList) (t : Nat) : R S rho w A (get (stSl 0 args) t) ((⟨vs ++ Array.replicate (n - vs.size) undef, []⟩ : Act).eval (.tmp t)) := by
  rw [get_start, if_pos (znc _), Nat.sub_zero]
  cases ht : args[t]? with
  | none => exact .junk _
  | some y =>
    have hlt := (List.getElem?_eq_some_iff.1 ht).1
    have hlen : vs.size = args.length := by have := h.1; simpa using this.symm
    have hu : vs.toList[t]? = some (vs[t]'(by omega)) := by simp [hlen, hlt]
    have := h.2 t y _ ht hu
    have he : (⟨vs ++ Array.replicate (n - vs.size) undef, []⟩ : Act).eval (.tmp t) = vs[t]'(by omega) := by
      simp [Act.eval, Array.getElem?_append, hlen, hlt]
    rw [he]; exact this
theorem Inl.callsI {f : Nat} {args : List V} {hp hp' : List (Nat × Blk)} {nx nx' : Nat} {x : V} {vs : Array Value} (h : Inl P f args hp nx x hp' nx') (hm : Mem B S rho A hp w) (ha : ∀ id, A id → id < nx) (hv : All S rho A w args vs.toList) :
    Calls P f vs w fun e w' => ∃ v, e = .returned v ∧ ∃ S' rho' A', (∀ b, S b → S' b ∧ w'.heap[b]? = w.heap[b]?) ∧ (∀ id, A id → A' id ∧ rho' id = rho id ∧ ∀ n, szAt w (rho id) n → szAt w' (rho id) n) ∧
      Mem (Base.inner S rho A hp w) S' rho' A' hp' w' ∧ (∀ id, A' id → id < nx') ∧ R S' rho' w' A' x v := by
  obtain ⟨fn, c, hf, hb, hn, hI⟩ := h
  have hlen : vs.size = args.length := by have := hv.1; simpa using this.symm
  refine calls_of_wp hf hb (wp_mono (hI (Base.inner S rho A hp w) ha S rho A _ w ⟨start_slots hv, hm.inner, ha, ?_, rfl⟩) ?_)
  · simp; omega
  · rintro e a1 w' ⟨S', rho', A', s', hq, hr⟩
    have fin : (∃ y, resV P fn s' = some y ∧ Le (Base.inner S rho A hp w) (vst y s'.hp s'.nx) (vst x hp' nx')) → a1.defers = [] ∧ ∃ v, (results fn a1.tmps).run P w' = .ok v w' ∧ ∃ v', Ending.returned v = .returned v' ∧
        ∃ S' rho' A', (∀ b, S b → S' b ∧ w'.heap[b]? = w.heap[b]?) ∧ (∀ id, A id → A' id ∧ rho' id = rho id ∧ ∀ n, szAt w (rho id) n → szAt w' (rho id) n) ∧ Mem (Base.inner S rho A hp w) S' rho' A' hp' w' ∧ (∀ id, A' id → id < nx') ∧ R S' rho' w' A' x v' := by
      rintro ⟨y, h1, h2⟩
      obtain ⟨v, h3, h4⟩ := res_sound (P := P) hr h1
      obtain ⟨S2, rho2, A2, h5⟩ := h2 S' rho' A' ⟨#[v], []⟩ w' ⟨fun t => by
        simp only [vst, get]
        by_cases e : t = 0
        · subst e; rw [if_pos rfl]; exact h4
        · rw [if_neg e]; exact .junk _, hr.mem, hr.alt, rfl, rfl⟩
      have h6 := h5.slots 0
      refine ⟨hr.defs, v, h3, v, rfl, S2, rho2, A2, fun b hb => ⟨h5.mem.sub b hb, h5.mem.frame.stay b hb⟩, fun id hid => ?_, h5.mem, h5.alt, h6⟩
      obtain ⟨k1, k2⟩ := h5.mem.keep id hid
      exact ⟨k1, k2, fun n hn => h5.mem.frame.sz _ n hn⟩
    cases e with
    | normal => exact fin hq
    | ret => exact fin hq
    | _ => exact hq.elim
theorem Inl.calls {f : Nat} {args : List V} {hp hp' : List (Nat × Blk)} {nx nx' : Nat} {x : V} {vs : Array Value} (h : Inl P f args hp nx x hp' nx') (hm : Mem B S rho A hp w) (ha : ∀ id, A id → id < nx) (hv : All S rho A w args vs.toList) :
    Calls P f vs w fun e w' => ∃ v, e = .returned v ∧ ∃ S' rho' A', (∀ b, S b → S' b ∧ w'.heap[b]? = w.heap[b]?) ∧ (∀ id, A id → A' id ∧ rho' id = rho id ∧ ∀ n, szAt w (rho id) n → szAt w' (rho id) n) ∧
      Mem B S' rho' A' hp' w' ∧ (∀ id, A' id → id < nx') ∧ R S' rho' w' A' x v :=
  (h.callsI hm ha hv).mono fun _ _ ⟨v, h1, S', rho', A', h2, h3, h4, h5, h6⟩ => ⟨v, h1, S', rho', A', h2, h3, hm.back h4, h5, h6⟩
def hasId : List (Nat × Blk) → Nat → Bool
  | [], _ => false
  | p :: r, i => decide (i = p.1) || hasId r i
def restH : List (Nat × Blk) → List (Nat × Blk) → List (Nat × Blk)
  | [], _ => []
  | p :: r, l => if hasId l p.1 = true then restH r l else p :: restH r l
theorem hget_rest (hp l : List (Nat × Blk)) (id : Nat) : hget (restH hp l) id = if hasId l id = true then none else hget hp id := by
  induction hp with
  | nil => simp [restH, hget]
  | cons p r ih =>
    obtain ⟨i, k⟩ := p
    simp only [restH]
    by_cases h : hasId l i = true
    · rw [if_pos h, ih]
      by_cases e : id = i
      · subst e; rw [if_pos h, if_pos h]
      · simp only [hget, if_neg e]
    · rw [if_neg h]
      simp only [hget]
      by_cases e : id = i
      · subst e; rw [if_pos rfl, if_neg h, if_pos rfl]
      · rw [if_neg e, if_neg e, ih]
theorem hget_app (a b : List (Nat × Blk)) (id : Nat) : hget (a ++ b) id = match hget a id with | some k => some k | none => hget b id := by
  induction a with
  | nil => rfl
  | cons p r ih =>
    obtain ⟨i, k⟩ := p
    simp only [zl8, hget]
    by_cases e : id = i
    · rw [if_pos e, if_pos e]
    · rw [if_neg e, if_neg e]; exact ih
theorem hasId_of {l : List (Nat × Blk)} {id : Nat} {k : Blk} (h : hget l id = some k) : hasId l id = true := by
  induction l with
  | nil => cases h
  | cons p r ih =>
    obtain ⟨i, q⟩ := p
    simp only [hget] at h
    by_cases e : id = i
    · simp [hasId, e]
    · rw [if_neg e] at h; simp [hasId, ih h]
inductive Only (p : Nat → Prop) : V → Prop
  | sc (v : Value) : Only p (.sc v)
  | junk : Only p .junk
  | ag {cs : List V} (h : ∀ x ∈ cs, Only p x) : Only p (.ag cs)
  | tu {cs : List V} (h : ∀ x ∈ cs, Only p x) : Only p (.tu cs)
  | pt {id off : Nat} (h : p id) : Only p (.pt id off)
  | sl {id off len z : Nat} {c : Option Nat} (h : p id) : Only p (.sl id off len z c)
  | im (cs : List V) (n : Nat) : Only p (.im cs n)
  | pi (cs : List V) : Only p (.pi cs)
  | fn {f : Fn} {a b : List V} (h1 : ∀ x ∈ a, Only p x) (h2 : ∀ x ∈ b, Only p x) : Only p (.fn f a b)
theorem R.only {p : Nat → Prop} {x : V} {v : Value} {A' : Nat → Prop} (h : R S rho w A x v) (ho : Only p x) (hp : ∀ id, p id → A id → A' id) : R S rho w A' x v := by
  induction h generalizing A' with
  | sc v => exact .sc v
  | junk v => exact .junk v
  | ag h _ ih => cases ho with | ag ho => exact .ag h fun i x u h1 h2 => ih i x u h1 h2 (ho x (List.mem_of_getElem? h1)) hp
  | tu h _ ih => cases ho with | tu ho => exact .tu h fun i x u h1 h2 => ih i x u h1 h2 (ho x (List.mem_of_getElem? h1)) hp
  | pt h => cases ho with | pt ho => exact .pt (hp _ ho h)
  | sl h hl hm hc hz => cases ho with | sl ho => exact .sl (hp _ ho h) hl hm hc hz
  | sln h => exact .sln h
  | im0 hl hm ha => exact .im0 hl hm ha
  | im1 f hl hm hs hc hx _ => exact .im1 f hl hm hs hc hx
  | pi f hs hc hx _ => exact .pi f hs hc hx
  | fn hp' hq _ _ i1 i2 => cases ho with | fn h1 h2 => exact .fn hp' hq (fun i x u a b => i1 i x u a b (h1 x (List.mem_of_getElem? a)) hp) (fun i x u a b => i2 i x u a b (h2 x (List.mem_of_getElem? a)) hp)
def OnlyH (p : Nat → Prop) : List (Nat × Blk) → Prop
  | [] => True
  | q :: r => (∀ y ∈ q.2.cs, Only p y) ∧ OnlyH p r
theorem OnlyH.of {p : Nat → Prop} {l : List (Nat × Blk)} {id : Nat} {k : Blk} (h : OnlyH p l) (hk : hget l id = some k) : ∀ y ∈ k.cs, Only p y := by
  induction l with
  | nil => cases hk
  | cons q r ih =>
    obtain ⟨i, q⟩ := q
    simp only [hget] at hk
    by_cases e : id = i
    · rw [if_pos e] at hk; cases hk; exact h.1
    · rw [if_neg e] at hk; exact ih h.2 hk
def subH : List (Nat × Blk) → List (Nat × Blk) → Prop
  | [], _ => True
  | p :: r, hp => hget hp p.1 = some p.2 ∧ subH r hp
theorem subH.of {l hp : List (Nat × Blk)} (h : subH l hp) : ∀ id k, hget l id = some k → hget hp id = some k := by
  induction l with
  | nil => intro id k hk; cases hk
  | cons q r ih =>
    obtain ⟨i, q⟩ := q
    intro id k hk
    simp only [hget] at hk
    by_cases e : id = i
    · subst e; rw [if_pos rfl] at hk; cases hk; exact h.1
    · rw [if_neg e] at hk; exact ih h.2 id k hk
theorem Mem.backS {hp hpS hp' : List (Nat × Blk)} {w' : World} {S' : Nat → Prop} {rho' : Nat → Nat} {A' : Nat → Prop} (h : Mem B S rho A hp w) (hsub : ∀ id k, hget hpS id = some k → hget hp id = some k) (k : Mem (Base.inner S rho A hpS w) S' rho' A' hp' w')
    (hc : OnlyH (fun id => hasId (restH hp hpS) id = false) hp') : Mem B S' rho' (fun id => A' id ∧ (hasId (restH hp hpS) id = true → A id)) (hp' ++ restH hp hpS) w' := by
  have k0 := (h.less hsub).back k
  have hS : ∀ b, S b → S' b ∧ w'.heap[b]? = w.heap[b]? := fun b hb => ⟨k.sub b hb, k.frame.stay b hb⟩
  have hA : ∀ id, A id → (A' id ∧ (hasId (restH hp hpS) id = true → A id)) ∧ rho' id = rho id ∧ ∀ n, szAt w (rho id) n → szAt w' (rho id) n := fun id hid => ⟨⟨(k.keep id hid).1, fun _ => hid⟩, (k.keep id hid).2, fun n hn => k.frame.sz _ n hn⟩
  have hold : ∀ id q, hget (restH hp hpS) id = some q → hasId (restH hp hpS) id = true ∧ hasId hpS id = false ∧ hget hp id = some q := by
    intro id q hq
    refine ⟨hasId_of hq, ?_⟩
    rw [hget_rest] at hq
    split at hq
    · cases hq
    · rename_i hn; exact ⟨by simpa using hn, hq⟩
  have hstill : ∀ id q, hget (restH hp hpS) id = some q → A id → w'.heap[rho id]? = w.heap[rho id]? ∧ ¬ (Base.inner S rho A hpS w).L (rho id) := by
    intro id q hq ha
    obtain ⟨_, h2, h3⟩ := hold id q hq
    have hnl : ¬ (Base.inner S rho A hpS w).L (rho id) := by
      rintro ⟨i, qi, hqi, hai, he⟩
      have := h.inj i id qi q (hsub i qi hqi) h3 hai ha he
      subst this
      rw [hasId_of hqi] at h2; cases h2
    exact ⟨k.frame.block _ (h.lt h3 ha) hnl, hnl⟩
  have hcase : ∀ {P : Nat → Blk → Prop}, (∀ i q, hget hp' i = some q → P i q) → (∀ i q, hget (restH hp hpS) i = some q → P i q) → ∀ i q, hget (hp' ++ restH hp hpS) i = some q → P i q := by
    intro P h1 h2 i q hq
    rw [hget_app] at hq
    cases e : hget hp' i with
    | some k1 => rw [e] at hq; cases hq; exact h1 i _ e
    | none => rw [e] at hq; exact h2 i q hq
  have hne : ∀ i q j p, hget hp' i = some q → A' i → hget (restH hp hpS) j = some p → A j → rho' i ≠ rho j := by
    intro i q j p hi hai hj haj e
    obtain ⟨_, _, h3⟩ := hold j p hj
    rcases k.own i q hi hai with h4 | h4
    · have := h.lt h3 haj; rw [e] at h4; unfold Base.n0 at h4; exact absurd this (Nat.not_lt.2 h4)
    · rw [e] at h4; exact (hstill j p hj haj).2 h4
  exact {
    cells := by
      refine hcase (fun i q hq ha => ?_) (fun i q hq ha => ?_)
      · obtain ⟨cells, c1, c2⟩ := k0.cells i q hq ha.1
        refine ⟨cells, c1, fun j x hx => ?_⟩
        obtain ⟨u, hu, hr⟩ := c2 j x hx
        exact ⟨u, hu, hr.only (hc.of hq x (List.mem_of_getElem? hx)) fun id hid hai => ⟨hai, fun e => by rw [hid] at e; cases e⟩⟩
      · obtain ⟨h1, h2, h3⟩ := hold i q hq
        have hai := ha.2 h1
        rw [(hA i hai).2.1]
        exact (h.cells i q h3 hai).mono (hstill i q hq hai).1 hS hA
    fz := by
      refine hcase (fun i q hq ha => k0.fz i q hq ha.1) (fun i q hq ha h0 => ?_)
      obtain ⟨h1, h2, h3⟩ := hold i q hq
      have hai := ha.2 h1
      rw [(hA i hai).2.1]
      intro hs
      rcases k.base _ hs with h4 | h4 | h4
      · exact h.fz i q h3 hai h0 h4
      · have := h.lt h3 hai; unfold Base.n0 at h4; exact absurd this (Nat.not_lt.2 h4)
      · exact (hstill i q hq hai).2 h4
    own := by
      refine hcase (fun i q hq ha => k0.own i q hq ha.1) (fun i q hq ha => ?_)
      obtain ⟨h1, h2, h3⟩ := hold i q hq
      rw [(hA i (ha.2 h1)).2.1]
      exact h.own i q h3 (ha.2 h1)
    inj := by
      intro i j q p hq hp1
      refine hcase (P := fun i _ => (A' i ∧ (hasId (restH hp hpS) i = true → A i)) → (A' j ∧ (hasId (restH hp hpS) j = true → A j)) → rho' i = rho' j → i = j) (fun i q hq ha haj e => ?_) (fun i q hq ha haj e => ?_) i q hq
      · refine hcase (P := fun j _ => (A' j ∧ (hasId (restH hp hpS) j = true → A j)) → rho' i = rho' j → i = j) (fun j p hp1 haj e => k0.inj i j q p hq hp1 ha.1 haj.1 e) (fun j p hp1 haj e => ?_) j p hp1 haj e
        obtain ⟨h1, h2, h3⟩ := hold j p hp1
        have hj := haj.2 h1
        rw [(hA j hj).2.1] at e
        exact absurd e (hne i q j p hq ha.1 hp1 hj)
      · obtain ⟨h1, h2, h3⟩ := hold i q hq
        have hai := ha.2 h1
        rw [(hA i hai).2.1] at e
        refine hcase (P := fun j _ => (A' j ∧ (hasId (restH hp hpS) j = true → A j)) → rho i = rho' j → i = j) (fun j p hp1 haj e => ?_) (fun j p hp1 haj e => ?_) j p hp1 haj e
        · exact absurd e.symm (hne j p i q hp1 haj.1 hq hai)
        · obtain ⟨g1, g2, g3⟩ := hold j p hp1
          have hj := haj.2 g1
          rw [(hA j hj).2.1] at e
          exact h.inj i j q p h3 g3 hai hj e
    slt := k0.slt
    sub := k0.sub
    base := k0.base
    frame := k0.frame
    keep := fun id hid => by
      obtain ⟨h1, h2⟩ := h.keep id hid
      exact ⟨(hA id h1).1, (hA id h1).2.1.trans h2⟩ }
theorem SOps.inl {ops : Array Oper} {Q : Exit → SS → Prop} {o : Oper} {l : List Oper} {g : Operand} {f : Nat} {p q : List V} {args : Array Operand} {ts : Array TypeId} {x : V} {hp' : List (Nat × Blk)} {nx' : Nat} (ho : o.op = .call ⟨.value g, args, ts⟩) (hg : guardV ops s.sl o.guard = some true)
    (hd : dstOk o.dst s.nt = true) (hfn : fnOf (evS s.sl g) = some (f, p, q)) (hgo : isGo P f = true) (hI : Inl P f (p ++ args.toList.map (evS s.sl) ++ q) s.hp s.nx x hp' nx') (k : SOps P B ops l Q ⟨putS s.sl o.dst x, hp', nx', s.nt⟩) : SOps P B ops (o :: l) Q s := by
  intro S rho A a w hr
  have hw := guard_sound hr.slots hg
  refine wpList_step fun K hK => ?_
  rw [if_pos hw]
  obtain ⟨ps, qs, he, hps, hqs⟩ := fn_sound hfn (ev_sound hr.mem.tab hr.slots g)
  have hrun : (execOp a.eval o).run P w = .ok (.enter f (ps ++ args.map a.eval ++ qs)) w := by
    simp only [execOp, ho, resolve, he, Deferred.ofValue, Sem.run_bind, Sem.run_pure, Result.andThen_ok, invoke]
    exact callFunc_go hgo _ w
  unfold Oper.wp
  rw [hrun]
  refine (hI.calls hr.mem hr.alt (vs := ps ++ args.map a.eval ++ qs) ?_).mono ?_
  · have := (hps.append (All.ev hr.mem.tab hr.slots args.toList)).append hqs
    simpa using this
  · rintro e w' ⟨v, rfl, S', rho', A', h1, h2, h3, h4, h5⟩
    refine hK _ _ (k S' rho' A' _ _ ⟨slots_put hr.slots (by rw [hr.nt]; exact hd) h1 h2 h5, h3, h4, by rw [put_size]; exact hr.nt, by rw [put_defers]; exact hr.defs⟩)
theorem SOps.inlS {ops : Array Oper} {Q : Exit → SS → Prop} {o : Oper} {l : List Oper} {g : Operand} {f : Nat} {p q ys : List V} {args : Array Operand} {ts : Array TypeId} {x : V} {hpS hp' : List (Nat × Blk)} {nx' : Nat} (ho : o.op = .call ⟨.value g, args, ts⟩) (hg : guardV ops s.sl o.guard = some true)
    (hd : dstOk o.dst s.nt = true) (hfn : fnOf (evS s.sl g) = some (f, p, q)) (hgo : isGo P f = true) (hy : p ++ args.toList.map (evS s.sl) ++ q = ys) (hsub : subH hpS s.hp) (hI : Inl P f ys hpS s.nx x hp' nx')
    (hx : Only (fun id => hasId (restH s.hp hpS) id = false) x) (hc : OnlyH (fun id => hasId (restH s.hp hpS) id = false) hp') (k : SOps P B ops l Q ⟨putS s.sl o.dst x, hp' ++ restH s.hp hpS, nx', s.nt⟩) : SOps P B ops (o :: l) Q s := by
  intro S rho A a w hr
  have hw := guard_sound hr.slots hg
  refine wpList_step fun K hK => ?_
  rw [if_pos hw]
  obtain ⟨ps, qs, he, hps, hqs⟩ := fn_sound hfn (ev_sound hr.mem.tab hr.slots g)
  have hrun : (execOp a.eval o).run P w = .ok (.enter f (ps ++ args.map a.eval ++ qs)) w := by
    simp only [execOp, ho, resolve, he, Deferred.ofValue, Sem.run_bind, Sem.run_pure, Result.andThen_ok, invoke]
    exact callFunc_go hgo _ w
  unfold Oper.wp
  rw [hrun]
  refine (hI.callsI (hr.mem.less hsub.of) hr.alt (vs := ps ++ args.map a.eval ++ qs) ?_).mono ?_
  · have := (hps.append (All.ev hr.mem.tab hr.slots args.toList)).append hqs
    rw [hy] at this
    simpa using this
  · rintro e w' ⟨v, rfl, S', rho', A', h1, h2, h3, h4, h5⟩
    have h6 := hr.mem.backS hsub.of h3 hc
    refine hK _ _ (k S' rho' (fun id => A' id ∧ (hasId (restH s.hp hpS) id = true → A id)) _ _ ⟨slots_put hr.slots (by rw [hr.nt]; exact hd) h1 (fun id hid => ⟨⟨(h2 id hid).1, fun _ => hid⟩, (h2 id hid).2⟩) (h5.only hx fun id hid hai => ⟨hai, fun e => by rw [hid] at e; cases e⟩), h6, fun id hid => h4 id hid.1, by rw [put_size]; exact hr.nt, by rw [put_defers]; exact hr.defs⟩)
def SInl (P : Program) (B : Base) (f : Nat) (ys : List V) (d : Option Nat) (ops : Array Oper) (l : List Oper) (cs : List Code) (Q : Exit → SS → Prop) (s : SS) : Prop :=
  ∃ hpS x hp' nx', subH hpS s.hp ∧ Inl P f ys hpS s.nx x hp' nx' ∧ Only (fun id => hasId (restH s.hp hpS) id = false) x ∧ OnlyH (fun id => hasId (restH s.hp hpS) id = false) hp' ∧ SO P B ops l cs Q ⟨putS s.sl d x, hp' ++ restH s.hp hpS, nx', s.nt⟩
theorem SO.inl {ops : Array Oper} {l : List Oper} {cs : List Code} {Q : Exit → SS → Prop} {g : Operand} {f : Nat} {p q ys : List V} {args : List Operand} {ts : Array TypeId} {d : Option Tmp} {ty : TypeId} {pos : String} {after : Array Edge} {gd : Option (Nat × Bool)}
    (hfn : fnOf (evS s.sl g) = some (f, p, q)) (hgo : isGo P f = true) (hy : p ++ args.map (evS s.sl) ++ q = ys) (hg : guardV ops s.sl gd = some true ∧ dstOk d s.nt = true) (k : SInl P B f ys d ops l cs Q s) : SO P B ops (⟨d, .call ⟨.value g, args.toArray, ts⟩, ty, pos, after, gd⟩ :: l) cs Q s := by
  obtain ⟨hpS, x, hp', nx', h1, h2, h3, h4, h5⟩ := k
  exact SOps.inlS rfl hg.1 hg.2 hfn hgo (by simpa using hy) h1 h2 h3 h4 h5
theorem SInl.of {ops : Array Oper} {l : List Oper} {cs : List Code} {Q : Exit → SS → Prop} {f : Nat} {ys : List V} {d : Option Nat} {hpS hp' hp'' : List (Nat × Blk)} {nx nx' nt : Nat} {sl sl' : List (Nat × V)} {hp : List (Nat × Blk)} {x : V} (hI : Inl P f ys hpS nx x hp' nx') (hs : subH hpS hp)
    (hx : Only (fun id => hasId (restH hp hpS) id = false) x) (hc : OnlyH (fun id => hasId (restH hp hpS) id = false) hp') (h1 : putS sl d x = sl') (h2 : hp' ++ restH hp hpS = hp'') (k : SO P B ops l cs Q ⟨sl', hp'', nx', nt⟩) : SInl P B f ys d ops l cs Q ⟨sl, hp, nx, nt⟩ := by
  subst h1; subst h2; exact ⟨hpS, x, hp', nx', hs, hI, hx, hc, k⟩
def SNew (P : Program) (B : Base) (f : Nat) (ys : List V) (d : Option Nat) (ops : Array Oper) (l : List Oper) (cs : List Code) (Q : Exit → SS → Prop) (s : SS) : Prop :=
  ∃ k X, NewX P f ys k X true ∧ SO P B ops l cs Q (s.put d (X s.nx) (.new k))
theorem SO.callN {ops : Array Oper} {l : List Oper} {cs : List Code} {Q : Exit → SS → Prop} {f : Nat} {args : List Operand} {ts : Array TypeId} {d : Option Tmp} {ty : TypeId} {pos : String} {after : Array Edge} {gd : Option (Nat × Bool)} {ys : List V} {ids : List Nat}
    (hgo : isGo P f = true) (hf : frzAll (frz 8 s.hp) (args.map (evS s.sl)) = some (ys, ids)) (hg : guardV ops s.sl gd = some true ∧ dstOk d s.nt = true) (k : SNew P B f ys d ops l cs Q s) : SO P B ops (⟨d, .call ⟨.value (.func f), args.toArray, ts⟩, ty, pos, after, gd⟩ :: l) cs Q s := by
  obtain ⟨k0, X, hs, k⟩ := k
  intro S rho A a w hr
  have hw := guard_sound (o := (⟨d, .call ⟨.value (.func f), args.toArray, ts⟩, ty, pos, after, gd⟩ : Oper)) hr.slots hg.1
  refine wpList_step fun K hK => ?_
  rw [if_pos hw]
  have hall := All.ev hr.mem.tab hr.slots args
  obtain ⟨h1, h2⟩ := frzAll_sound (frz_sound hr.mem 8) hf hall
  have hmf := hr.mem.freeze ids h2
  have hrun : (execOp a.eval ⟨d, .call ⟨.value (.func f), args.toArray, ts⟩, ty, pos, after, gd⟩).run P w = .ok (.enter f (args.toArray.map a.eval)) w := by
    simp only [execOp, resolve, Act.eval, Deferred.ofValue, Sem.run_bind, Sem.run_pure, Result.andThen_ok, invoke]
    have := callFunc_go hgo (args.toArray.map a.eval) w
    simpa using this
  unfold Oper.wp
  rw [hrun]
  refine (hs.2 (addS S rho A ids) w (args.toArray.map a.eval) hmf.slt hmf.tab ⟨by have := h1.1; simpa using this, fun i y u hy hu => (h1.2 i y u hy (by simpa using hu)).rho⟩).mono ?_
  have hid : ¬ A s.nx := fun h => Nat.lt_irrefl _ (hr.alt _ h)
  rintro e w' ⟨v, rfl, g, ⟨b, S2, hb, hS2, hnb, hcs, hv⟩ | hv⟩
  · have hS0 : ∀ c, S2 c → False := fun c h => by have := (hS2 c h).1; cases this
    have hm := hr.mem.new g s.nx hid k0 b hb (hcs.mono rfl (fun c h => (hS0 c h).elim) (fun _ h => h.elim))
    refine hK _ _ (k S (fun j => if j = s.nx then b else rho j) (fun j => j = s.nx ∨ A j) _ _ ⟨slots_put hr.slots (by rw [hr.nt]; exact hg.2) (fun b hb => ⟨hb, g.block b (hr.mem.slt b hb)⟩) (fun id hid' => ⟨.inr hid', if_neg (fun e : id = s.nx => hid (e ▸ hid')), fun _ => g.szAt⟩) (hs.1 _ _ _ _ _ _ _ _ _ _ hv (fun c h => (hS0 c h).elim) (fun i h => h) (.inl rfl) (if_pos rfl)), hm, ?_, by rw [put_size]; exact hr.nt, by rw [put_defers]; exact hr.defs⟩)
    rintro id (rfl | h)
    · exact Nat.lt_succ_self _
    · exact Nat.lt_succ_of_lt (hr.alt id h)
  · refine hK _ _ (k S rho A _ _ ⟨slots_put hr.slots (by rw [hr.nt]; exact hg.2) (fun b hb => ⟨hb, g.block b (hr.mem.slt b hb)⟩) (fun id hid' => ⟨hid', rfl, fun _ => g.szAt⟩) (hv _ _ _ _ _), (hr.mem.grow g).phantom s.nx hid k0, fun id h => Nat.lt_succ_of_lt (hr.alt id h), by rw [put_size]; exact hr.nt, by rw [put_defers]; exact hr.defs⟩)
theorem SNew.of {ops : Array Oper} {l : List Oper} {cs : List Code} {Q : Exit → SS → Prop} {f : Nat} {ys : List V} {d : Option Nat} {k : Blk} {off len z n : Nat} {c : Option Nat} {s' : SS} (hs : NewP P f ys k off len z c) (hn : s.nx = n) (hp : s.put d (.sl n off len z c) (.new k) = s') (h : SO P B ops l cs Q s') : SNew P B f ys d ops l cs Q s := by
  subst hn; subst hp; exact ⟨k, _, hs, h⟩
theorem NewP.of {f : Nat} {args : List V} {k : Blk} {off len z : Nat} {cap : Option Nat} (hl : 0 < len) (hsc : ∀ y ∈ k.cs, ∃ v, y = .sc v) (hI : Inl P f args [] 0 (.sl 0 off len z cap) [(0, k)] 1) : NewP P f args k off len z cap := by
  refine ⟨rx_sl off len z cap, ?_⟩
  intro S w vs hS hT hargs
  have hm : Mem ⟨w, S, fun _ => False, fun _ => 0, fun _ => False, []⟩ S (fun _ => 0) (fun _ => False) [] w := {
    cells := fun id k hk => by cases hk
    fz := fun id k hk => by cases hk
    own := fun id k hk => by cases hk
    inj := fun id id' k k' hk => by cases hk
    slt := hS
    sub := fun _ h => h
    base := fun _ h => .inl h
    frame := ⟨rfl, rfl, rfl, znb _, fun _ _ _ => rfl, fun _ _ => rfl, fun _ _ h => h, hS, hT⟩
    keep := fun id h => h.elim }
  refine (hI.calls hm (fun _ h => h.elim) (vs := vs) hargs).mono ?_
  rintro e w' ⟨v, rfl, S', rho', A', h1, h2, h3, h4, h5⟩
  cases h5 with
  | sln h => omega
  | sl h0 hl' hm' hc hz =>
    have hk : hget [(0, k)] 0 = some k := rfl
    refine ⟨_, rfl, ⟨h3.frame.os, h3.frame.tape, h3.frame.output, h3.frame.size, fun b hb => h3.frame.block b hb (fun h => h)⟩, .inl ⟨rho' 0, fun _ => False, ?_, fun _ h => h.elim, fun h => h, ?_, .sl rfl hl' hm' hc hz⟩⟩
    · rcases h3.own 0 k hk h0 with h | h
      · exact h
      · exact h.elim
    · obtain ⟨cells, c1, c2⟩ := h3.cells 0 k hk h0
      refine ⟨cells, c1, fun i x hx => ?_⟩
      obtain ⟨u, hu, hr⟩ := c2 i x hx
      obtain ⟨v, rfl⟩ := hsc x (List.mem_of_getElem? hx)
      cases hr
      exact ⟨_, hu, .sc _⟩
theorem NewX.of {f : Nat} {args : List V} {k : Blk} {X : Nat → V} (i0 : Nat) {m : Nat} {hp : List (Nat × Blk)} (hX : RX X) (hk : hget hp i0 = some k) (hz : k.fz = false) (hlive : ∀ (S : Nat → Prop) (rho : Nat → Nat) (A : Nat → Prop) (w : World) (v : Value), R S rho w A (X i0) v → A i0 ∧ R S rho w (fun i => i = i0) (X i0) v) (hc : k.cs.all clo = true) (hI : Inl P f args [] 0 (X i0) hp m) : NewX P f args k X false := by
  refine ⟨hX, ?_⟩
  intro S w vs hS hT hargs
  have hm : Mem ⟨w, S, fun _ => False, fun _ => 0, fun _ => False, []⟩ S (fun _ => 0) (fun _ => False) [] w := {
    cells := fun id k hk => by cases hk
    fz := fun id k hk => by cases hk
    own := fun id k hk => by cases hk
    inj := fun id id' k k' hk => by cases hk
    slt := hS
    sub := fun _ h => h
    base := fun _ h => .inl h
    frame := ⟨rfl, rfl, rfl, znb _, fun _ _ _ => rfl, fun _ _ => rfl, fun _ _ h => h, hS, hT⟩
    keep := fun id h => h.elim }
  refine (hI.calls hm (fun _ h => h.elim) (vs := vs) hargs).mono ?_
  rintro e w' ⟨v, rfl, S', rho', A', h1, h2, h3, h4, h5⟩
  obtain ⟨hA, h6⟩ := hlive _ _ _ _ _ h5
  refine ⟨v, rfl, ⟨h3.frame.os, h3.frame.tape, h3.frame.output, h3.frame.size, fun b hb => h3.frame.block b hb (fun h => h)⟩, .inl ⟨rho' i0, S', ?_, fun c hc' => ⟨rfl, ?_⟩, h3.fz i0 k hk hA hz, ?_, ?_⟩⟩
  · rcases h3.own i0 k hk hA with h | h
    · exact h
    · exact h.elim
  · rcases h3.base c hc' with h | h | h
    · exact .inl h
    · exact .inr ⟨h, h3.slt c hc'⟩
    · exact h.elim
  · obtain ⟨cells, c1, c2⟩ := h3.cells i0 k hk hA
    refine ⟨cells, c1, fun i x hx => ?_⟩
    obtain ⟨u, hu, hr⟩ := c2 i x hx
    exact ⟨u, hu, (clo_sound (List.all_eq_true.1 hc x (List.mem_of_getElem? hx)) hr).rho⟩
  · exact hX _ _ _ _ _ _ _ _ _ _ h6 (fun _ h => h) (fun i h => h) rfl rfl
theorem Inl.run {f : Nat} {fn : Func} {c : Code} {args : List V} {x : V} {n nx nx' : Nat} {s0 : SS} {hp hp' : List (Nat × Blk)} (hf : P.funcs[f]? = some fn) (hb : fn.body = some c) (hnt : fn.ntmps = n) (hn : args.length ≤ n) (h0 : (⟨stSl 0 args, hp, nx, n⟩ : SS) = s0) (h : ∀ B : Base, B.Old nx → SC P B [c] (retI P fn B x hp' nx') s0) : Inl P f args hp nx x hp' nx' := by
  subst hnt; subst h0
  exact ⟨fn, c, hf, hb, hn, fun B hB => SC.of (h B hB)⟩
theorem retI_ret {fn : Func} {x y : V} {hp' : List (Nat × Blk)} {nx' : Nat} {rs : List ResultVar} (hr : fn.results = rs.toArray) (h1 : resG P s rs = some y) (h2 : Le B (vst y s.hp s.nx) (vst x hp' nx')) : retI P fn B x hp' nx' .ret s := ⟨y, by rw [resV_eq, hr]; exact h1, h2⟩
@[go_sem] theorem fnOf_func (f : Nat) : fnOf (.sc (.func (.func f) #[] #[])) = some (f, [], []) := rfl
@[go_sem] theorem fnOf_fn (f : Nat) (p q : List V) : fnOf (.fn (.func f) p q) = some (f, p, q) := rfl
@[go_sem] theorem hasId_nil (i : Nat) : hasId [] i = false := rfl
@[go_sem] theorem hasId_cons (p : Nat × Blk) (r : List (Nat × Blk)) (i : Nat) : hasId (p :: r) i = (decide (i = p.1) || hasId r i) := rfl
@[go_sem] theorem restH_nil (l : List (Nat × Blk)) : restH [] l = [] := rfl
@[go_sem] theorem restH_cons (p : Nat × Blk) (r l : List (Nat × Blk)) : restH (p :: r) l = if hasId l p.1 = true then restH r l else p :: restH r l := rfl
@[go_sem] theorem subH_nil (hp : List (Nat × Blk)) : subH [] hp = True := rfl
@[go_sem] theorem subH_cons (p : Nat × Blk) (r hp : List (Nat × Blk)) : subH (p :: r) hp = (hget hp p.1 = some p.2 ∧ subH r hp) := rfl
end
end Go.Proofs.YtphilljhfdlfdaaGreat
namespace Go.Proofs.YtphilljhfdlfdaaGreat
open Go.RowKit
section
variable {P : Program} {w : World} {B : Base} {S : Nat → Prop} {rho : Nat → Nat} {A : Nat → Prop} {s : SS} {a : Act}
theorem SOps.callVF {ops : Array Oper} {Q : Exit → SS → Prop} {o : Oper} {l : List Oper} {g : Operand} {f : Nat} {p q : List V} {args : Array Operand} {ts : Array TypeId} {ys : List V} {ids : List Nat} {x : V} (ho : o.op = .call ⟨.value g, args, ts⟩) (hg : guardV ops s.sl o.guard = some true)
    (hd : dstOk o.dst s.nt = true) (hfn : fnOf (evS s.sl g) = some (f, p, q)) (hgo : isGo P f = true) (hf : frzAll (frz 8 s.hp) (p ++ args.toList.map (evS s.sl) ++ q) = some (ys, ids)) (hs : Spec P f ys x) (k : SOps P B ops l Q (s.calledF o.dst x ids)) : SOps P B ops (o :: l) Q s := by
  intro S rho A a w hr
  have hw := guard_sound hr.slots hg
  refine wpList_step fun K hK => ?_
  rw [if_pos hw]
  obtain ⟨ps, qs, he, hps, hqs⟩ := fn_sound hfn (ev_sound hr.mem.tab hr.slots g)
  have hall := (hps.append (All.ev hr.mem.tab hr.slots args.toList)).append hqs
  obtain ⟨h1, h2⟩ := frzAll_sound (frz_sound hr.mem 8) hf hall
  have hmf := hr.mem.freeze ids h2
  have hrun : (execOp a.eval o).run P w = .ok (.enter f (ps ++ args.map a.eval ++ qs)) w := by
    simp only [execOp, ho, resolve, he, Deferred.ofValue, Sem.run_bind, Sem.run_pure, Result.andThen_ok, invoke]
    exact callFunc_go hgo _ w
  unfold Oper.wp
  rw [hrun]
  refine (hs (addS S rho A ids) w (ps ++ args.map a.eval ++ qs) hmf.slt hmf.tab ⟨by have := h1.1; simpa using this, fun i y u hy hu => (h1.2 i y u hy (by simpa using hu)).rho⟩).mono ?_
  rintro e w' ⟨v, rfl, g, hx⟩
  refine hK _ _ ?_
  have hA : ∀ id, A id → A id ∧ rho id = rho id ∧ ∀ n, szAt w (rho id) n → szAt w' (rho id) n := fun id h => ⟨h, rfl, fun _ => g.szAt⟩
  have hm' := hmf.came g
  exact k (fun b => addS S rho A ids b ∨ (w.heap.size ≤ b ∧ b < w'.heap.size)) rho A _ _ ⟨slots_put hr.slots (by rw [hr.nt]; exact hd) (fun b hb => ⟨.inl (.inl hb), g.block b (hr.mem.slt b hb)⟩) hA hx.rho.open, hm', hr.alt, by rw [put_size]; exact hr.nt, by rw [put_defers]; exact hr.defs⟩
def SCallV (P : Program) (B : Base) (f : Nat) (ys : List V) (ids : List Nat) (d : Option Nat) (ops : Array Oper) (l : List Oper) (cs : List Code) (Q : Exit → SS → Prop) (s : SS) : Prop :=
  ∃ x, Spec P f ys x ∧ SO P B ops l cs Q (s.calledF d x ids)
theorem SO.callV {ops : Array Oper} {l : List Oper} {cs : List Code} {Q : Exit → SS → Prop} {g : Operand} {f : Nat} {p q ys : List V} {ids : List Nat} {args : List Operand} {ts : Array TypeId} {d : Option Tmp} {ty : TypeId} {pos : String} {after : Array Edge} {gd : Option (Nat × Bool)}
    (hfn : fnOf (evS s.sl g) = some (f, p, q)) (hgo : isGo P f = true) (hf : frzAll (frz 8 s.hp) (p ++ args.map (evS s.sl) ++ q) = some (ys, ids)) (hg : guardV ops s.sl gd = some true ∧ dstOk d s.nt = true) (k : SCallV P B f ys ids d ops l cs Q s) : SO P B ops (⟨d, .call ⟨.value g, args.toArray, ts⟩, ty, pos, after, gd⟩ :: l) cs Q s := by
  obtain ⟨x, hs, k⟩ := k
  exact SOps.callVF rfl hg.1 hg.2 hfn hgo (by simpa using hf) hs k
theorem SCallV.of {ops : Array Oper} {l : List Oper} {cs : List Code} {Q : Exit → SS → Prop} {f : Nat} {ys : List V} {ids : List Nat} {d : Option Nat} {x : V} {s' : SS} (hs : Spec P f ys x) (hn : s.calledF d x ids = s') (k : SO P B ops l cs Q s') : SCallV P B f ys ids d ops l cs Q s := ⟨x, hs, hn ▸ k⟩
end
end Go.Proofs.YtphilljhfdlfdaaGreat
namespace Go.Proofs.YtphilljhfdlfdaaGreat
open Go.RowKit
section
variable {P : Program} {w : World} {B : Base} {S : Nat → Prop} {rho : Nat → Nat} {A : Nat → Prop} {s : SS}
theorem Le.less {sl : List (Nat × V)} {hp hp' : List (Nat × Blk)} {nx nx' nt : Nat} (h : ∀ id k, hget hp' id = some k → hget hp id = some k) (hn : nx ≤ nx') : Le B ⟨sl, hp, nx, nt⟩ ⟨sl, hp', nx', nt⟩ :=
  fun S rho A _ _ hr => ⟨S, rho, A, hr.slots, hr.mem.less h, fun id hid => Nat.lt_of_lt_of_le (hr.alt id hid) hn, hr.nt, hr.defs⟩
def okAll : Nat → Bool := fun _ => true
theorem Le.slots {sl sl' : List (Nat × V)} {hp hp' : List (Nat × Blk)} {nx nx' nt : Nat} (h1 : leSl okAll sl sl') (h : ∀ id k, hget hp' id = some k → hget hp id = some k) (hn : nx ≤ nx') : Le B ⟨sl, hp, nx, nt⟩ ⟨sl', hp', nx', nt⟩ :=
  fun S rho A a w hr => ⟨S, rho, A, fun t => (leSl_get h1 t S rho A w _ (hr.slots t)).mono (fun _ h => ⟨h, rfl⟩) (fun _ h => ⟨h.1, rfl, fun _ h => h⟩), hr.mem.less h, fun id hid => Nat.lt_of_lt_of_le (hr.alt id hid) hn, hr.nt, hr.defs⟩
theorem Le.frz {sl : List (Nat × V)} {hp : List (Nat × Blk)} {nx nt : Nat} {y : V} {ids : List Nat} (t : Nat) (ht : t < nt) (h : frz 8 hp (get sl t) = some (y, ids)) : Le B ⟨sl, hp, nx, nt⟩ ⟨(t, y) :: sl, fzHp hp ids, nx, nt⟩ := by
  intro S rho A a w hr
  have hf := frz_sound hr.mem 8 _ _ _ _ h (hr.slots t)
  have hm := hr.mem.freeze ids hf.live
  refine ⟨addS S rho A ids, rho, A, fun t' => ?_, hm, hr.alt, hr.nt, hr.defs⟩
  simp only [get]
  by_cases e : t' = t
  · subst e; rw [if_pos rfl]; exact hf.rep.open
  · rw [if_neg e]; exact (hr.slots t').wide fun b hb => .inl hb
theorem SC.frz {cs : List Code} {Q : Exit → SS → Prop} {sl : List (Nat × V)} {hp hp' : List (Nat × Blk)} {nx nt : Nat} {y : V} {ids : List Nat} (t : Nat) (hcs : cs ≠ []) (h : frz 8 hp (get sl t) = some (y, ids)) (ht : t < nt) (he : fzHp hp ids = hp') (k : SC P B cs Q ⟨(t, y) :: sl, hp', nx, nt⟩) : SC P B cs Q ⟨sl, hp, nx, nt⟩ :=
  SC.weak hcs (Le.frz t ht h) (he ▸ k)
theorem SC.less {cs : List Code} {Q : Exit → SS → Prop} {sl : List (Nat × V)} {hp hp' : List (Nat × Blk)} {nx nt : Nat} (hcs : cs ≠ []) (h : ∀ id k, hget hp' id = some k → hget hp id = some k) (k : SC P B cs Q ⟨sl, hp', nx, nt⟩) : SC P B cs Q ⟨sl, hp, nx, nt⟩ :=
  SC.weak hcs (Le.less h (znb _)) k
def rowsH (ty : TypeId) : List Nat → List (List V) → List (Nat × Blk)
  | i :: ids, r :: rs => (i, ⟨ty, r, false⟩) :: rowsH ty ids rs
  | _, _ => []
theorem rows_get {ty : TypeId} : ∀ {ids : List Nat} {rs : List (List V)} {k : Nat}, ids.Nodup → k < ids.length → ids.length = rs.length → hget (rowsH ty ids rs) (ids.getD k 0) = some ⟨ty, rs.getD k [], false⟩
  | [], _, k, _, h, _ => by simp at h
  | _ :: _, [], k, _, _, h => by simp at h
  | j :: ids, r :: rs, 0, _, _, _ => by simp [rowsH, hget]
  | j :: ids, r :: rs, k + 1, hn, hk, hl => by
    have hk' : k < ids.length := by simpa using hk
    have hn' := List.nodup_cons.1 hn
    have hne : ids.getD k 0 ≠ j := by
      intro e
      have : ids.getD k 0 ∈ ids := by rw [List.getD_eq_getElem?_getD, zlb hk']; exact List.getElem_mem hk'
      exact hn'.1 (e ▸ this)
    rw [List.getD_cons_succ, List.getD_cons_succ, rowsH, hget, if_neg hne]
    exact rows_get hn'.2 hk' (by simpa using hl)
theorem rows_set {ty : TypeId} : ∀ {ids : List Nat} {rs : List (List V)} {k : Nat} {r : List V}, ids.Nodup → k < ids.length → ids.length = rs.length → hset (rowsH ty ids rs) (ids.getD k 0) ⟨ty, r, false⟩ = rowsH ty ids (rs.set k r)
  | [], _, k, _, _, h, _ => by simp at h
  | _ :: _, [], k, _, _, _, h => by simp at h
  | j :: ids, q :: rs, 0, _, _, _, _ => by simp [rowsH, hset]
  | j :: ids, q :: rs, k + 1, r, hn, hk, hl => by
    have hk' : k < ids.length := by simpa using hk
    have hn' := List.nodup_cons.1 hn
    have hne : ids.getD k 0 ≠ j := by
      intro e
      have : ids.getD k 0 ∈ ids := by rw [List.getD_eq_getElem?_getD, zlb hk']; exact List.getElem_mem hk'
      exact hn'.1 (e ▸ this)
    rw [List.getD_cons_succ, List.set_cons_succ, rowsH, rowsH, hset, if_neg hne, rows_set hn'.2 hk' (by simpa using hl)]
theorem rows_del {ty : TypeId} : ∀ {ids : List Nat} {rs : List (List V)} {i : Nat}, i ∉ ids → hdel (rowsH ty ids rs) i = rowsH ty ids rs
  | [], _, _, _ => by simp [rowsH, hdel]
  | _ :: _, [], _, _ => by simp [rowsH, hdel]
  | j :: ids, r :: rs, i, h => by
    simp only [List.mem_cons, not_or] at h
    rw [rowsH, hdel_cons, if_neg (fun e => h.1 e.symm), rows_del h.2]
theorem rows_inv {ty : TypeId} : ∀ {ids : List Nat} {rs : List (List V)} {i : Nat} {b : Blk}, hget (rowsH ty ids rs) i = some b → ∃ k, k < ids.length ∧ k < rs.length ∧ ids.getD k 0 = i ∧ b = ⟨ty, rs.getD k [], false⟩
  | [], rs, i, b, h => by simp [rowsH, hget] at h
  | _ :: _, [], i, b, h => by simp [rowsH, hget] at h
  | j :: ids, r :: rs, i, b, h => by
    rw [rowsH, hget] at h
    by_cases e : i = j
    · rw [if_pos e] at h; cases h
      exact ⟨0, by simp, by simp, by simp [e], by simp⟩
    · rw [if_neg e] at h
      obtain ⟨k, h1, h2, h3, h4⟩ := rows_inv h
      exact ⟨k + 1, by simpa using h1, by simpa using h2, by simpa using h3, by simpa using h4⟩
theorem getD_mem' {ids : List Nat} {k : Nat} (h : k < ids.length) : ids.getD k 0 ∈ ids := by
  rw [List.getD_eq_getElem?_getD, zlb h]; exact List.getElem_mem h
theorem getD_get' {α : Type} {l : List α} {k : Nat} {d : α} (h : k < l.length) : l[k]? = some (l.getD k d) := by
  rw [List.getD_eq_getElem?_getD, zlb h]; rfl
theorem frzAll_ix {g : V → Option (V × List Nat)} : ∀ {cs ys : List V} {is : List (List Nat)}, cs.length = ys.length → cs.length = is.length → (∀ k, k < cs.length → g (cs.getD k .junk) = some (ys.getD k .junk, is.getD k [])) → frzAll g cs = some (ys, is.flatten)
  | [], [], [], _, _, _ => rfl
  | c :: cs, y :: ys, i :: is, h1, h2, h => by
    have h0 := h 0 (by simp)
    simp at h0
    rw [frzAll_cons, h0, fzC_some, frzAll_ix (by simpa using h1) (by simpa using h2) (fun k hk => by have := h (k + 1) (by simpa using hk); simpa using this)]
    rfl
  | [], _ :: _, _, h, _, _ => by simp at h
  | _ :: _, [], _, h, _, _ => by simp at h
  | _ :: _, _ :: _, [], _, h, _ => by simp at h
  | [], [], _ :: _, _, h, _ => by simp at h
theorem frzL_ix {g : V → Option (V × List Nat)} {cs ys : List V} {is : List (List Nat)} (h1 : cs.length = ys.length) (h2 : cs.length = is.length) (hc : ∀ c ∈ cs, clo c = false) (h : ∀ k, k < cs.length → g (cs.getD k .junk) = some (ys.getD k .junk, is.getD k [])) : frzL g cs = some (ys, is.flatten) := by
  unfold frzL
  split
  · rename_i hall
    have : cs = [] := by
      cases cs with
      | nil => rfl
      | cons c r => have := hc c (by simp); simp at hall; rw [this] at hall; exact absurd hall.1 (by simp)
    subst this
    have e1 : ys = [] := List.eq_nil_of_length_eq_zero h1.symm
    have e2 : is = [] := List.eq_nil_of_length_eq_zero h2.symm
    subst e1; subst e2; rfl
  · exact frzAll_ix h1 h2 h
def slR (z m : Nat) (ids : List Nat) : List V := ids.map fun i => V.sl i 0 m z none
theorem slR_len (z m : Nat) (ids : List Nat) : (slR z m ids).length = ids.length := by simp [slR]
theorem slR_get {z m k : Nat} {ids : List Nat} (h : k < ids.length) : (slR z m ids)[k]? = some (V.sl (ids.getD k 0) 0 m z none) := by
  unfold slR; rw [List.getElem?_map, getD_get' (d := 0) h]; rfl
def imR (m : Nat) (rs : List (List V)) : List V := rs.map fun r => V.im r m
theorem frz_rows {hp : List (Nat × Blk)} {ty : TypeId} {ids : List Nat} {rs : List (List V)} {n m z : Nat} (hl : ids.length = rs.length) (hg : ∀ k, k < ids.length → hget hp (ids.getD k 0) = some ⟨ty, rs.getD k [], false⟩)
    (hr : ∀ r ∈ rs, r.length = m * z ∧ r.all clo = true) : frzL (frz (n + 1) hp) (slR z m ids) = some (imR m rs, ids) := by
  have h := frzL_ix (g := frz (n + 1) hp) (cs := slR z m ids) (ys := imR m rs) (is := ids.map fun i => [i]) (by simp [slR, imR, hl]) (by simp [slR]) (by intro c hc; obtain ⟨i, _, rfl⟩ := List.mem_map.1 hc; rfl) (fun k hk => by
    have hk' : k < ids.length := by simpa [slR] using hk
    have hk2 : k < rs.length := by omega
    have e1 : (slR z m ids).getD k .junk = V.sl (ids.getD k 0) 0 m z none := by rw [List.getD_eq_getElem?_getD, slR_get hk']; rfl
    have hrow := hr (rs.getD k []) (by rw [List.getD_eq_getElem?_getD, zlb hk2]; exact List.getElem_mem hk2)
    have e2 : (imR m rs).getD k .junk = V.im (rs.getD k []) m := by
      unfold imR; rw [List.getD_eq_getElem?_getD, List.getElem?_map, getD_get' (d := []) hk2]; rfl
    have e3 : (ids.map fun i => [i]).getD k [] = [ids.getD k 0] := by
      rw [List.getD_eq_getElem?_getD, List.getElem?_map, getD_get' (d := 0) hk']; rfl
    rw [e1, e2, e3, frz_sl, hg k hk', srcG_some, if_pos (by omega), zl2, zla (by omega), fzQ_some, frzL_eq, if_pos hrow.2]
    rfl)
  have e : ∀ l : List Nat, (l.map fun i => [i]).flatten = l := by
    intro l
    induction l with
    | nil => rfl
    | cons i r ih => rw [zld, List.flatten_cons, ih]; rfl
  rw [h, e]
theorem slR_some {z m : Nat} {ids : List Nat} (h : 0 < ids.length) : (slR z m ids).all clo = false := by
  cases ids with
  | nil => simp at h
  | cons i r => rfl
theorem frz_rowsA {hp : List (Nat × Blk)} {ty : TypeId} {ids : List Nat} {rs : List (List V)} {n m z : Nat} (h0 : 0 < ids.length) (hl : ids.length = rs.length) (hg : ∀ k, k < ids.length → hget hp (ids.getD k 0) = some ⟨ty, rs.getD k [], false⟩)
    (hr : ∀ r ∈ rs, r.length = m * z ∧ r.all clo = true) : frzAll (frz (n + 1) hp) (slR z m ids) = some (imR m rs, ids) := by
  have h := frz_rows (n := n) hl hg hr
  rwa [frzL_eq, slR_some h0, if_neg (by simp)] at h
def retIQ (P : Program) (fn : Func) (B : Base) (Q : V → List (Nat × Blk) → Nat → Prop) : Exit → SS → Prop
  | .normal, s | .ret, s => ∃ y x hp nx, resV P fn s = some y ∧ Q x hp nx ∧ Le B (vst y s.hp s.nx) (vst x hp nx)
  | _, _ => False
def Idle (P : Program) (g : Nat) : Prop := ∀ w : World, (callFunc g #[]).run P w = .ok (.enter g #[]) w ∧ CallsD P g #[] .returning w fun e u w' => (∃ v, e = .returned v) ∧ u = .returning ∧ w' = w
theorem Idle.of {g id t : Nat} {fn : Func} {o : Oper} {n : Nat} (hgo : isGo P g = true) (hf : P.funcs[g]? = some fn) (hb : fn.body = some (.region id #[o] false)) (ho : o.op = .call { callee := .builtin .recover, args := #[], argTypes := #[] }) (hd : o.dst = some t) (hg : o.guard = none) (hn : fn.ntmps = n) (hr : fn.results = #[]) : Idle P g := by
  intro w
  refine ⟨callFunc_go hgo _ _, callsD_of_wpS hf hb fun c₀ cs hu => ?_⟩
  apply wpS_region
  have hw : ∀ ts, Region.wanted o (yielded #[o] ts) = true := by intro ts; unfold Region.wanted; rw [hg]
  have hx : ∀ (ρ : Operand → Value), (execOp ρ o).run P w = .ok .recover w := by
    intro ρ
    obtain ⟨d, op, g, ty, pos, aft⟩ := o
    simp only at ho
    subst ho
    simp only [execOp, resolve, List.map_toArray, zle, Sem.run_bind, Sem.run_pure]
    rfl
  show wpOpsS P #[o] _ [0] _ _ _
  simp only [wpOpsS, List.getElem?_toArray, List.getElem?_cons_zero]
  rw [if_pos (hw _), hx]
  simp only [recoverD, hu, hd, Act.put]
  refine ⟨rfl, c₀.mode, ?_, .tuple #[], ?_, ⟨_, rfl⟩, hu, rfl⟩
  · cases c₀; rfl
  · rw [results, hr]; simp [go_sem]
def Base.dfr (B : Base) (D : List Deferred) : Base := ⟨B.w0, B.S0, B.K, B.rho0, B.L, D⟩
theorem Mem.dfr {hp : List (Nat × Blk)} (D : List Deferred) (h : Mem B S rho A hp w) : Mem (B.dfr D) S rho A hp w where
  cells := h.cells
  fz := h.fz
  own := h.own
  inj := h.inj
  slt := h.slt
  sub := h.sub
  base := h.base
  frame := ⟨h.frame.os, h.frame.tape, h.frame.output, h.frame.size, h.frame.block, h.frame.stay, h.frame.sz, h.frame.lt, h.frame.tab⟩
  keep := h.keep
theorem Mem.undfr {hp : List (Nat × Blk)} {D : List Deferred} (h : Mem (B.dfr D) S rho A hp w) : Mem B S rho A hp w := h.dfr B.D
theorem Rel.dfr {a : Act} (D : List Deferred) (h : Rel B S rho A s a w) : Rel (B.dfr D) S rho A s ⟨a.tmps, D⟩ w := ⟨h.slots, h.mem.dfr D, h.alt, h.nt, rfl⟩
def Dfr (P : Program) (c : Code) (s0 s1 : SS) (rest : Code) : Prop :=
  ∃ i0 r0 i1 o g, c = .seq (.region i0 (List.toArray r0) false) (.seq (.region i1 #[o] false) rest) ∧ o.op = .defer { callee := .value (.func g), args := #[], argTypes := #[] } ∧ o.dst = none ∧ o.guard = none ∧ Idle P g ∧ runL P r0.toArray s0 r0 = some s1
def InlQ (P : Program) (f : Nat) (args : List V) (hp : List (Nat × Blk)) (nx : Nat) (Q : V → List (Nat × Blk) → Nat → Prop) : Prop :=
  ∃ fn c, P.funcs[f]? = some fn ∧ fn.body = some c ∧ args.length ≤ fn.ntmps ∧ ((∀ B : Base, B.Old nx → SWp P B c (retIQ P fn B Q) ⟨stSl 0 args, hp, nx, fn.ntmps⟩) ∨ ∃ s1 rest, Dfr P c ⟨stSl 0 args, hp, nx, fn.ntmps⟩ s1 rest ∧ ∀ B : Base, B.Old nx → SWp P B rest (retIQ P fn B Q) s1)
theorem InlQ.run {f : Nat} {fn : Func} {c : Code} {args : List V} {n nx : Nat} {s0 : SS} {hp : List (Nat × Blk)} {Q : V → List (Nat × Blk) → Nat → Prop} (hf : P.funcs[f]? = some fn) (hb : fn.body = some c) (hnt : fn.ntmps = n) (hn : args.length ≤ n) (h0 : (⟨stSl 0 args, hp, nx, n⟩ : SS) = s0) (h : ∀ B : Base, B.Old nx → SC P B [c] (retIQ P fn B Q) s0) : InlQ P f args hp nx Q := by
  subst hnt; subst h0
  exact ⟨fn, c, hf, hb, hn, .inl fun B hB => SC.of (h B hB)⟩
theorem InlQ.runD {f g i0 i1 : Nat} {fn : Func} {r0 : List Oper} {o : Oper} {rest : Code} {args : List V} {n nx : Nat} {s0 s1 : SS} {hp : List (Nat × Blk)} {Q : V → List (Nat × Blk) → Nat → Prop} (hf : P.funcs[f]? = some fn) (hb : fn.body = some (.seq (.region i0 r0.toArray false) (.seq (.region i1 #[o] false) rest)))
    (ho : o.op = .defer { callee := .value (.func g), args := #[], argTypes := #[] }) (hd : o.dst = none) (hg : o.guard = none) (hi : Idle P g) (hnt : fn.ntmps = n) (hn : args.length ≤ n) (h0 : (⟨stSl 0 args, hp, nx, n⟩ : SS) = s0) (h1 : runL P r0.toArray s0 r0 = some s1)
    (h : ∀ B : Base, B.Old nx → SC P B [rest] (retIQ P fn B Q) s1) : InlQ P f args hp nx Q := by
  subst hnt; subst h0
  exact ⟨fn, _, hf, hb, hn, .inr ⟨s1, rest, ⟨i0, r0, i1, o, g, rfl, ho, hd, hg, hi, h1⟩, fun B hB => SC.of (h B hB)⟩⟩
theorem retIQ_ret {s : SS} {fn : Func} {y : V} (x : V) (hp : List (Nat × Blk)) (nx : Nat) {Q : V → List (Nat × Blk) → Nat → Prop} {rs : List ResultVar} (hr : fn.results = rs.toArray) (h1 : resG P s rs = some y) (hq : Q x hp nx) (h2 : Le B (vst y s.hp s.nx) (vst x hp nx)) : retIQ P fn B Q .ret s := ⟨y, x, hp, nx, by rw [resV_eq, hr]; exact h1, hq, h2⟩
theorem InlQ.callsI {f : Nat} {args : List V} {hp : List (Nat × Blk)} {nx : Nat} {Q : V → List (Nat × Blk) → Nat → Prop} {vs : Array Value} (h : InlQ P f args hp nx Q) (hm : Mem B S rho A hp w) (ha : ∀ id, A id → id < nx) (hv : All S rho A w args vs.toList) :
    Calls P f vs w fun e w' => ∃ v, e = .returned v ∧ ∃ x hp' nx' S' rho' A', Q x hp' nx' ∧ (∀ b, S b → S' b ∧ w'.heap[b]? = w.heap[b]?) ∧ (∀ id, A id → A' id ∧ rho' id = rho id ∧ ∀ n, szAt w (rho id) n → szAt w' (rho id) n) ∧
      Mem (Base.inner S rho A hp w) S' rho' A' hp' w' ∧ (∀ id, A' id → id < nx') ∧ R S' rho' w' A' x v := by
  obtain ⟨fn, c, hf, hb, hn, hI⟩ := h
  have hlen : vs.size = args.length := by have := hv.1; simpa using this.symm
  have fin : ∀ a1 w' S' rho' A' s', Rel (Base.inner S rho A hp w) S' rho' A' s' a1 w' → (∃ y x hp' nx', resV P fn s' = some y ∧ Q x hp' nx' ∧ Le (Base.inner S rho A hp w) (vst y s'.hp s'.nx) (vst x hp' nx')) → ∃ v, (results fn a1.tmps).run P w' = .ok v w' ∧ ∃ v', Ending.returned v = .returned v' ∧
      ∃ x hp' nx' S' rho' A', Q x hp' nx' ∧ (∀ b, S b → S' b ∧ w'.heap[b]? = w.heap[b]?) ∧ (∀ id, A id → A' id ∧ rho' id = rho id ∧ ∀ n, szAt w (rho id) n → szAt w' (rho id) n) ∧ Mem (Base.inner S rho A hp w) S' rho' A' hp' w' ∧ (∀ id, A' id → id < nx') ∧ R S' rho' w' A' x v' := by
    rintro a1 w' S' rho' A' s' hr ⟨y, x, hp', nx', h1, hQ, h2⟩
    obtain ⟨v, h3, h4⟩ := res_sound (P := P) hr h1
    obtain ⟨S2, rho2, A2, h5⟩ := h2 S' rho' A' ⟨#[v], []⟩ w' ⟨fun t => by
      simp only [vst, get]
      by_cases e : t = 0
      · subst e; rw [if_pos rfl]; exact h4
      · rw [if_neg e]; exact .junk _, hr.mem, hr.alt, rfl, rfl⟩
    have h6 := h5.slots 0
    refine ⟨v, h3, v, rfl, x, hp', nx', S2, rho2, A2, hQ, fun b hb => ⟨h5.mem.sub b hb, h5.mem.frame.stay b hb⟩, fun id hid => ?_, h5.mem, h5.alt, h6⟩
    obtain ⟨k1, k2⟩ := h5.mem.keep id hid
    exact ⟨k1, k2, fun n hn => h5.mem.frame.sz _ n hn⟩
  have hst : Rel (Base.inner S rho A hp w) S rho A ⟨stSl 0 args, hp, nx, fn.ntmps⟩ ⟨vs ++ Array.replicate (fn.ntmps - vs.size) undef, []⟩ w := ⟨start_slots hv, hm.inner, ha, by simp; omega, rfl⟩
  rcases hI with hI | ⟨s1, rest, ⟨i0, r0, i1, o, g, rfl, ho, hd, hg, hi, h1⟩, hI⟩
  · refine calls_of_wp hf hb (wp_mono (hI (Base.inner S rho A hp w) ha S rho A _ w hst) ?_)
    rintro e a1 w' ⟨S', rho', A', s', hq, hr⟩
    cases e with
    | normal => exact ⟨hr.defs, fin _ _ _ _ _ _ hr hq⟩
    | ret => exact ⟨hr.defs, fin _ _ _ _ _ _ hr hq⟩
    | _ => exact hq.elim
  · refine calls_of_wp_defers hf hb ?_
    refine wp_seq (wp_mono (SWp.region (Q := fun e s => e = .normal ∧ s = s1) (SOps.all h1 ⟨rfl, rfl⟩) S rho A _ w hst) ?_)
    rintro e a w1 ⟨S1, rho1, A1, s, ⟨rfl, rfl⟩, hr⟩
    have had : a.defers = [] := hr.defs
    refine wp_seq (wp_region_lit (l := [o]) (wpList_step fun K hK => ?_))
    have hw : Region.wanted o (yielded [o].toArray a.tmps) = true := by unfold Region.wanted; rw [hg]
    rw [hw, if_pos rfl]
    have hx : (execOp a.eval o).run P w1 = .ok (.defer ⟨.fn (.func g) #[], #[]⟩) w1 := by
      obtain ⟨d, op, gd, ty, pos, aft⟩ := o
      simp only at ho
      subst ho
      simp only [execOp, resolve, List.map_toArray, zle, Act.eval, Deferred.ofValue, Sem.run_bind, Sem.run_pure]
      rfl
    unfold Oper.wp
    rw [hx, Oper.upon_defer]
    refine hK _ _ (wpList_nil ?_)
    rw [hd, had]
    refine wp_mono (hI ((Base.inner S rho A hp w).dfr [⟨.fn (.func g) #[], #[]⟩]) ha S1 rho1 A1 _ w1 (hr.dfr _)) ?_
    rintro e a1 w' ⟨S', rho', A', s', hq, hr⟩
    have hdf : a1.defers = [⟨.fn (.func g) #[], #[]⟩] := hr.defs
    have lv : (∃ y x hp' nx', resV P fn s' = some y ∧ Q x hp' nx' ∧ Le ((Base.inner S rho A hp w).dfr [⟨.fn (.func g) #[], #[]⟩]) (vst y s'.hp s'.nx) (vst x hp' nx')) → Leaves P fn a1.tmps (fun e w' => ∃ v, e = .returned v ∧ ∃ x hp' nx' S' rho' A', Q x hp' nx' ∧ (∀ b, S b → S' b ∧ w'.heap[b]? = w.heap[b]?) ∧ (∀ id, A id → A' id ∧ rho' id = rho id ∧ ∀ n, szAt w (rho id) n → szAt w' (rho id) n) ∧
        Mem (Base.inner S rho A hp w) S' rho' A' hp' w' ∧ (∀ id, A' id → id < nx') ∧ R S' rho' w' A' x v) a1.defers .returning w' := by
      rintro ⟨y, x, hp', nx', g1, gQ, g2⟩
      rw [hdf]
      refine leaves_cons (f := g) (args := #[]) (by simp) (by simpa [go_sem] using (hi w').1) ((hi w').2.mono ?_)
      rintro e u w2 ⟨⟨v2, rfl⟩, rfl, rfl⟩
      refine fin ⟨a1.tmps, []⟩ _ _ _ _ _ (hr.dfr []) ⟨y, x, hp', nx', g1, gQ, fun S2 rho2 A2 a2 w2 h2 => ?_⟩
      obtain ⟨S3, rho3, A3, h3⟩ := g2 S2 rho2 A2 _ w2 (h2.dfr _)
      exact ⟨S3, rho3, A3, ⟨h3.slots, h3.mem.undfr, h3.alt, h3.nt, h2.defs⟩⟩
    cases e with
    | normal => exact lv hq
    | ret => exact lv hq
    | _ => exact hq.elim
def inOf (hp hpS : List (Nat × Blk)) (id : Nat) : Prop := hasId hpS id = true ∨ hasId hp id = false
theorem hasId_rest (hp l : List (Nat × Blk)) (i : Nat) : hasId (restH hp l) i = (hasId hp i && !hasId l i) := by
  induction hp with
  | nil => simp [restH, hasId]
  | cons p r ih =>
    simp only [restH]
    by_cases h : hasId l p.1 = true
    · rw [if_pos h, ih]
      by_cases e : i = p.1
      · subst e; simp [hasId, h]
      · simp [hasId, e]
    · rw [if_neg h]
      simp only [hasId, ih]
      by_cases e : i = p.1
      · subst e; simp [h]
      · simp [e]
theorem inOf_rest {hp hpS : List (Nat × Blk)} {id : Nat} (h : inOf hp hpS id) : hasId (restH hp hpS) id = false := by
  rw [hasId_rest]
  rcases h with h | h <;> simp [h]
theorem Only.mono {p q : Nat → Prop} {x : V} (h : Only p x) (hpq : ∀ i, p i → q i) : Only q x := by
  induction h with
  | sc v => exact .sc v
  | junk => exact .junk
  | ag _ ih => exact .ag ih
  | tu _ ih => exact .tu ih
  | pt h => exact .pt (hpq _ h)
  | sl h => exact .sl (hpq _ h)
  | im cs n => exact .im cs n
  | pi cs => exact .pi cs
  | fn _ _ i1 i2 => exact .fn i1 i2
theorem OnlyH.mono {p q : Nat → Prop} (hpq : ∀ i, p i → q i) : ∀ {l : List (Nat × Blk)}, OnlyH p l → OnlyH q l
  | [], _ => trivial
  | _ :: _, h => ⟨fun y hy => (h.1 y hy).mono hpq, h.2.mono hpq⟩
theorem OnlyH.app {p : Nat → Prop} : ∀ {a b : List (Nat × Blk)}, OnlyH p a → OnlyH p b → OnlyH p (a ++ b)
  | [], _, _, h => h
  | _ :: _, _, h, k => ⟨h.1, h.2.app k⟩
theorem Only.clo {p : Nat → Prop} {x : V} (h : clo x = true) : Only p x := by
  cases x <;> simp [Go.Proofs.YtphilljhfdlfdaaGreat.clo] at h
  · exact .sc _
  · exact .im _ _
  · exact .pi _
theorem OnlyH.rows {p : Nat → Prop} {ty : TypeId} : ∀ {ids : List Nat} {rs : List (List V)}, (∀ r ∈ rs, r.all clo = true) → OnlyH p (rowsH ty ids rs)
  | [], _, _ => by simp [rowsH, OnlyH]
  | _ :: _, [], _ => by simp [rowsH, OnlyH]
  | i :: ids, r :: rs, h => by
    rw [rowsH]
    refine ⟨fun y hy => Only.clo (List.all_eq_true.1 (h r (by simp)) y hy), OnlyH.rows fun r hr => h r (by simp [hr])⟩
theorem SO.weak {ops : Array Oper} {l : List Oper} {cs : List Code} {Q : Exit → SS → Prop} {s s' : SS} (h : Le B s s') (k : SO P B ops l cs Q s') : SO P B ops l cs Q s :=
  fun S rho A a w hr => let ⟨S', rho', A', hr'⟩ := h S rho A a w hr; k S' rho' A' a w hr'
def SInlQ (P : Program) (B : Base) (f : Nat) (ys : List V) (d : Option Nat) (ops : Array Oper) (l : List Oper) (cs : List Code) (Q : Exit → SS → Prop) (s : SS) : Prop :=
  ∃ hpS C, (∀ id k, hget hpS id = some k → hget s.hp id = some k) ∧ InlQ P f ys hpS s.nx C ∧ ∀ x hp' nx', C x hp' nx' → Only (fun id => hasId (restH s.hp hpS) id = false) x ∧ OnlyH (fun id => hasId (restH s.hp hpS) id = false) hp' ∧ SO P B ops l cs Q ⟨putS s.sl d x, hp' ++ restH s.hp hpS, nx', s.nt⟩
theorem SO.inlQ {s : SS} {ops : Array Oper} {l : List Oper} {cs : List Code} {Q : Exit → SS → Prop} {g : Operand} {f : Nat} {p q ys : List V} {args : List Operand} {ts : Array TypeId} {d : Option Tmp} {ty : TypeId} {pos : String} {after : Array Edge} {gd : Option (Nat × Bool)}
    (hfn : fnOf (evS s.sl g) = some (f, p, q)) (hgo : isGo P f = true) (hy : p ++ args.map (evS s.sl) ++ q = ys) (hg : guardV ops s.sl gd = some true ∧ dstOk d s.nt = true) (k : SInlQ P B f ys d ops l cs Q s) : SO P B ops (⟨d, .call ⟨.value g, args.toArray, ts⟩, ty, pos, after, gd⟩ :: l) cs Q s := by
  obtain ⟨hpS, C, hsub, hI, k⟩ := k
  intro S rho A a w hr
  have hw := guard_sound (o := (⟨d, .call ⟨.value g, args.toArray, ts⟩, ty, pos, after, gd⟩ : Oper)) hr.slots hg.1
  refine wpList_step fun K hK => ?_
  rw [if_pos hw]
  obtain ⟨ps, qs, he, hps, hqs⟩ := fn_sound hfn (ev_sound hr.mem.tab hr.slots g)
  have hrun : (execOp a.eval ⟨d, .call ⟨.value g, args.toArray, ts⟩, ty, pos, after, gd⟩).run P w = .ok (.enter f (ps ++ args.toArray.map a.eval ++ qs)) w := by
    simp only [execOp, resolve, he, Deferred.ofValue, Sem.run_bind, Sem.run_pure, Result.andThen_ok, invoke]
    have := callFunc_go hgo (ps ++ args.toArray.map a.eval ++ qs) w
    simpa using this
  unfold Oper.wp
  rw [hrun]
  refine (hI.callsI (hr.mem.less hsub) hr.alt (vs := ps ++ args.toArray.map a.eval ++ qs) ?_).mono ?_
  · have := (hps.append (All.ev hr.mem.tab hr.slots args)).append hqs
    rw [hy] at this
    simpa using this
  · rintro e w' ⟨v, rfl, x, hp', nx', S', rho', A', hC, h1, h2, h3, h4, h5⟩
    obtain ⟨hx, hc, k⟩ := k x hp' nx' hC
    have h6 := hr.mem.backS hsub h3 hc
    refine hK _ _ (k S' rho' (fun id => A' id ∧ (hasId (restH s.hp hpS) id = true → A id)) _ _ ⟨slots_put hr.slots (by rw [hr.nt]; exact hg.2) h1 (fun id hid => ⟨⟨(h2 id hid).1, fun _ => hid⟩, (h2 id hid).2⟩) (h5.only hx fun id hid hai => ⟨hai, fun e => by rw [hid] at e; cases e⟩), h6, fun id hid => h4 id hid.1, by rw [put_size]; exact hr.nt, by rw [put_defers]; exact hr.defs⟩)
theorem SInlQ.of {ops : Array Oper} {l : List Oper} {cs : List Code} {Q : Exit → SS → Prop} {f : Nat} {ys : List V} {d : Option Nat} {hpS hp : List (Nat × Blk)} {nx nt : Nat} {sl : List (Nat × V)} {C : V → List (Nat × Blk) → Nat → Prop} (hI : InlQ P f ys hpS nx C) (hs : ∀ id k, hget hpS id = some k → hget hp id = some k)
    (k : ∀ x hp' nx', C x hp' nx' → Only (inOf hp hpS) x ∧ OnlyH (inOf hp hpS) hp' ∧ ∃ hp'', (∀ id k, hget hp'' id = some k → hget (hp' ++ restH hp hpS) id = some k) ∧ SO P B ops l cs Q ⟨putS sl d x, hp'', nx', nt⟩) : SInlQ P B f ys d ops l cs Q ⟨sl, hp, nx, nt⟩ := by
  refine ⟨hpS, C, hs, hI, fun x hp' nx' hC => ?_⟩
  obtain ⟨h1, h2, hp'', h3, h4⟩ := k x hp' nx' hC
  exact ⟨h1.mono fun _ => inOf_rest, h2.mono fun _ => inOf_rest, SO.weak (Le.less h3 (znb _)) h4⟩
def hsets (hp : List (Nat × Blk)) : List (Nat × Blk) → List (Nat × Blk)
  | [] => hp
  | p :: r => hset (hsets hp r) p.1 p.2
end
end Go.Proofs.YtphilljhfdlfdaaGreat
namespace Go.Proofs.YtphilljhfdlfdaaGreat
open Go.RowKit
section
variable {P : Program} {B : Base} {l : List Oper} {st : Nat → SS} {en : Nat → En} {S : Nat → Prop} {rho : Nat → Nat} {A : Nat → Prop} {a : Act} {w : World} {L : Nat → Bool}
theorem DInv.ends (h : DRun P l st en) (hI : DInv B l st en L S rho A a w) (hall : ∀ i, i < l.length → L i = true) : Rel B S rho A (st l.length) a w := by
  refine ⟨?_, hI.mem.turn fun id k' hk' _ => ?_, fun id hid => ?_, hI.size.trans (h.nt l.length (znb _)).symm, hI.defs⟩
  · intro t
    by_cases hex : ∃ (j : Nat) (o : Oper), l[j]? = some o ∧ o.dst = some t
    · obtain ⟨j, o, hj, hd⟩ := hex
      have hjl := (List.getElem?_eq_some_iff.1 hj).1
      rw [h.slotx hj hd l.length hjl (znb _)]
      exact hI.done t j o hj hd (hall j hjl)
    · have hno : ∀ (j : Nat) (o : Oper), l[j]? = some o → o.dst ≠ some t := fun j o hj hd => hex ⟨j, o, hj, hd⟩
      rw [h.slot0 l.length (znb _) fun j o _ hj => hno j o hj]
      exact hI.open' t fun j o hj hd => absurd hd (hno j o hj)
  · have hq : nextC l.length en L id = l.length := by
      have hle := nextC_le (en := en) l.length L id
      rcases Nat.lt_or_eq_of_le hle with hlt | heq
      · obtain ⟨_, a2⟩ := nextC_at hlt
        rw [hall _ hlt] at a2; cases a2
      · exact heq
    refine ⟨k', ?_, rfl, rfl, fun h => h⟩
    rw [hget_hpD h, hq]; exact hk'
  · rcases hI.num id hid with h1 | ⟨j, hj, _, rfl, h2⟩
    · exact Nat.lt_of_lt_of_le h1 (h.nx 0 _ (znc _) (znb _))
    · exact Nat.lt_of_lt_of_le h2 (h.nx (j + 1) _ (by omega) (znb _))
theorem DInv.begin (h : DRun P l st en) (hr : Rel B S rho A (st 0) a w) (hf : ∀ j, L j = false) : DInv B l st en L S rho A a { w with drawn := w.drawn + 1 } := by
  have g := Grow.drawn w (w.drawn + 1)
  exact {
    mem := (hr.mem.grow g).turn fun id k' hk' hA => by
      rw [hget_hpD h] at hk'
      obtain ⟨k, hk⟩ := h.born (hr.alt id hA) _ (nextC_le _ _ _) k' hk'
      obtain ⟨k2, c1, c2, c3, c4⟩ := h.chain hk _ (znc _) (nextC_le _ _ _) (fun m _ hm hmt => by
        have := nextC_lt (L := L) hm hmt
        rw [hf m] at this; cases this)
      rw [hk'] at c1; cases c1
      exact ⟨k, hk, c2, c3, c4⟩
    done := fun t j o _ _ hL => by rw [hf j] at hL; cases hL
    open' := fun t _ => (hr.slots t).mono (fun b hb => ⟨hb, rfl⟩) (fun id h => ⟨h, rfl, fun _ => g.szAt⟩)
    num := fun id hA => .inl (hr.alt id hA)
    size := hr.nt
    defs := hr.defs
    closed := fun i j hi => by rw [hf i] at hi; cases hi }
def colF (f : Nat → Nat) (e : Option Nat × List Nat) : Option Nat × List Nat := (e.1.map f, e.2.map f)
@[go_sem] theorem colF_mk (f : Nat → Nat) (a : Option Nat) (l : List Nat) : colF f (a, l) = (a.map f, l.map f) := rfl
theorem chkD_colF (f : Nat → Nat) {en : List (Option Nat × List Nat)} (h : chkD l (en.map (colF f)) = true) : chkD l en = true := by
  unfold chkD at h ⊢
  rw [Bool.and_eq_true] at h ⊢
  refine ⟨h.1, List.all_eq_true.2 fun p hp => List.all_eq_true.2 fun q hq => ?_⟩
  have := List.all_eq_true.1 (List.all_eq_true.1 h.2 p hp) q hq
  rw [Bool.or_eq_true] at this ⊢
  refine this.imp id fun h1 => ?_
  unfold pairOk at h1 ⊢
  rw [Bool.and_eq_true] at h1 ⊢
  refine ⟨h1.1, ?_⟩
  have h2 := h1.2
  rw [List.getElem?_map, List.getD_eq_getElem?_getD, List.getElem?_map] at h2
  rw [List.getD_eq_getElem?_getD]
  cases e1 : en[q.2]? with
  | none => rfl
  | some eq =>
    rw [e1] at h2
    simp only [Option.map_some, Option.bind_some] at h2 ⊢
    cases e2 : eq.1 with
    | none => rfl
    | some id =>
      simp only [colF, e2, Option.map_some] at h2
      simp only [Bool.or_eq_true, Bool.and_eq_true, Bool.not_eq_true', bne_iff_ne, ne_eq] at h2 ⊢
      refine h2.imp (fun ⟨g1, g2⟩ => ?_) fun h => h
      cases e3 : en[p.2]? with
      | none => exact ⟨by simp, by simp⟩
      | some ep =>
        rw [e3] at g1 g2
        simp only [Option.map_some, Option.getD_some, colF] at g1 g2 ⊢
        constructor
        · cases hb : ep.2.contains id with
          | false => rfl
          | true =>
            have hm : id ∈ ep.2 := by simpa using hb
            have : (ep.2.map f).contains (f id) = true := by
              simp only [List.contains_iff_mem]; exact List.mem_map_of_mem hm
            rw [this] at g1; cases g1
        · cases h3 : ep.1 with
          | none => simp
          | some x =>
            rw [h3] at g2
            intro e
            simp only [Option.some.injEq] at e
            subst e
            exact g2 rfl
theorem DO.nilF {full : List Oper} {cs : List Code} {Q : Exit → SS → Prop} {tr tr' : List (Option Nat × List Nat)} {s : SS} (f : Nat → Nat) (ht : tr.map (colF f) = tr') (hc : chkD full tr'.reverse = true) (h : SC P B cs Q s) : DO P B full [] cs Q tr s :=
  DO.nil (chkD_colF f (by rw [List.map_reverse, ht]; exact hc)) h
@[go_sem] theorem klB_nil (n : Nat) : klB [] n = true := rfl
@[go_sem] theorem klB_cons (i n : Nat) (k : Blk) (r : List (Nat × Blk)) : klB ((i, k) :: r) n = if i < n then klB r n else false := by
  unfold klB
  rw [List.all_cons]
  by_cases h : i < n <;> simp [h]
theorem klB_rows {n : Nat} {ty : TypeId} : ∀ {ids : List Nat} {rs : List (List V)}, (∀ i ∈ ids, i < n) → klB (rowsH ty ids rs) n = true
  | [], _, _ => by simp [rowsH, klB]
  | _ :: _, [], _ => by simp [rowsH, klB]
  | i :: ids, r :: rs, h => by
    have := klB_rows (ty := ty) (rs := rs) (fun j hj => h j (List.mem_cons_of_mem _ hj))
    rw [rowsH, klB_cons, if_pos (h i (by simp)), this]
end
end Go.Proofs.YtphilljhfdlfdaaGreat
namespace Go.Proofs.YtphilljhfdlfdaaGreat
open Go.RowKit
section
variable {P : Program} {w : World} {B : Base} {S : Nat → Prop} {rho : Nat → Nat} {A : Nat → Prop}
def VMap (f : Nat → Nat) (D : Nat → Prop) (x y : V) : Prop := ∀ (S : Nat → Prop) (rho : Nat → Nat) (A : Nat → Prop) (w : World) (v : Value), R S rho w A x v → R S (fun i => rho (f i)) w (fun i => D i ∧ A (f i)) y v
variable {f : Nat → Nat} {D : Nat → Prop}
theorem VMap.clo {x : V} (h : clo x = true) : VMap f D x x := fun _ _ _ _ _ hx => (clo_sound h hx).mono (fun _ h => ⟨h, rfl⟩) (fun _ h => h.elim)
theorem VMap.nil : VMap f D (.sc (.slice none 0 0)) (.sc (.slice none 0 0)) := fun _ _ _ _ _ hx => by cases hx; exact .sc _
theorem VMap.sc (v : Value) : VMap f D (.sc v) (.sc v) := fun _ _ _ _ _ hx => by cases hx; exact .sc _
theorem VMap.junk (x : V) : VMap f D x .junk := fun _ _ _ _ v _ => .junk v
theorem VMap.nil_sl (id off z : Nat) : VMap f D (.sc (.slice none 0 0)) (.sl id off 0 z none) := fun _ _ _ _ _ h => by cases h; exact .sln (by simp)
theorem VMap.nil_im : VMap f D (.sc (.slice none 0 0)) (.im [] 0) := fun _ _ _ _ _ h => by cases h; exact .im0 (znb _) (by unfold maxLen; omega) (fun _ => rfl)
theorem VMap.sl {id id' off len z : Nat} {cap : Option Nat} (h : f id' = id) (hD : D id') : VMap f D (.sl id off len z cap) (.sl id' off len z cap) := by
  intro S rho A w v hx
  subst h
  cases hx with
  | sl a b c d e => exact .sl ⟨hD, a⟩ b c d e
  | sln a => exact .sln a
theorem VMap.cap {id id' off len z : Nat} {cap : Option Nat} (h : f id' = id) (hD : D id') : VMap f D (.sl id off len z cap) (.sl id' off len z none) := by
  intro S rho A w v hx
  subst h
  cases hx with
  | sl a b c d e => exact .sl ⟨hD, a⟩ b c (by simp) e
  | sln a => exact .sln (by simp)
theorem VMap.pt {id id' off : Nat} (h : f id' = id) (hD : D id') : VMap f D (.pt id off) (.pt id' off) := by
  intro S rho A w v hx
  subst h
  cases hx with
  | pt a => exact .pt ⟨hD, a⟩
theorem VMap.ag {cs ds : List V} (hl : cs.length = ds.length) (h : ∀ (i : Nat) (x y : V), cs[i]? = some x → ds[i]? = some y → VMap f D x y) : VMap f D (.ag cs) (.ag ds) := by
  intro S rho A w v hx
  cases hx with
  | ag h1 h2 =>
    refine .ag (hl.symm.trans h1) fun i y u hy hu => ?_
    have hlt : i < cs.length := by rw [hl]; exact (List.getElem?_eq_some_iff.1 hy).1
    exact h i _ y (zlb hlt) hy _ _ _ _ _ (h2 i _ u (zlb hlt) hu)
theorem VMap.fn {g : Fn} {p q p' q' : List V} (h1 : p.length = p'.length) (h2 : q.length = q'.length) (h3 : ∀ (i : Nat) (x y : V), p[i]? = some x → p'[i]? = some y → VMap f D x y) (h4 : ∀ (i : Nat) (x y : V), q[i]? = some x → q'[i]? = some y → VMap f D x y) : VMap f D (.fn g p q) (.fn g p' q') := by
  intro S rho A w v hx
  cases hx with
  | fn a b c d =>
    refine .fn (h1.symm.trans a) (h2.symm.trans b) (fun i y u hy hu => ?_) (fun i y u hy hu => ?_)
    · have hlt : i < p.length := by rw [h1]; exact (List.getElem?_eq_some_iff.1 hy).1
      exact h3 i _ y (zlb hlt) hy _ _ _ _ _ (c i _ u (zlb hlt) hu)
    · have hlt : i < q.length := by rw [h2]; exact (List.getElem?_eq_some_iff.1 hy).1
      exact h4 i _ y (zlb hlt) hy _ _ _ _ _ (d i _ u (zlb hlt) hu)
def mapSl (f : Nat → Nat) (D : Nat → Prop) (sl : List (Nat × V)) : List (Nat × V) → Prop
  | [] => True
  | (t, y) :: r => VMap f D (get sl t) y ∧ mapSl f D sl r
theorem mapSl_get {sl : List (Nat × V)} : ∀ {sl' : List (Nat × V)}, mapSl f D sl sl' → ∀ t, VMap f D (get sl t) (get sl' t)
  | [], _, t => VMap.junk _
  | (t', y) :: r, h, t => by
    simp only [get]
    by_cases e : t = t'
    · subst e; rw [if_pos rfl]; exact h.1
    · rw [if_neg e]; exact mapSl_get h.2 t
theorem mapSl_cons {sl r : List (Nat × V)} {t : Nat} {x y : V} (hg : get sl t = x) (h : VMap f D x y) (k : mapSl f D sl r) : mapSl f D sl ((t, y) :: r) := ⟨hg ▸ h, k⟩
theorem VMap.int {k : IntKind} {a b : Int} (h : a = b) : VMap f D (.sc (.int k a)) (.sc (.int k b)) := h ▸ VMap.sc _
def BMap (f : Nat → Nat) (D : Nat → Prop) (o : Option Blk) (k' : Blk) : Prop := ∃ k, o = some k ∧ k.ty = k'.ty ∧ k.fz = k'.fz ∧ ∀ (i : Nat) (y : V), k'.cs[i]? = some y → ∃ x, k.cs[i]? = some x ∧ VMap f D x y
theorem BMap.clo {k : Blk} (h : k.cs.all clo = true) : BMap f D (some k) k := ⟨k, rfl, rfl, rfl, fun i y hy => ⟨y, hy, VMap.clo (List.all_eq_true.1 h y (List.mem_of_getElem? hy))⟩⟩
theorem Le.map {sl sl' : List (Nat × V)} {hp hp' : List (Nat × Blk)} {nx nx' nt m : Nat} (f : Nat → Nat) (D : Nat → Prop) (hB : B.Old m) (hK : ∀ i, i < m → D i ∧ f i = i) (hD : ∀ i, D i → i < nx') (hi : ∀ i j, D i → D j → f i = f j → i = j)
    (h1 : mapSl f D sl sl') (h2 : ∀ i k', hget hp' i = some k' → D i → BMap f D (hget hp (f i)) k') : Le B ⟨sl, hp, nx, nt⟩ ⟨sl', hp', nx', nt⟩ := by
  intro S rho A a w hr
  have hm := hr.mem
  refine ⟨S, fun i => rho (f i), fun i => D i ∧ A (f i), fun t => mapSl_get h1 t S rho A w _ (hr.slots t), ?_, fun id h => hD id h.1, hr.nt, hr.defs⟩
  exact {
    cells := fun id k' hk' ha => by
      obtain ⟨k, e1, e2, e3, e4⟩ := h2 id k' hk' ha.1
      obtain ⟨cells, c1, c2⟩ := hm.cells _ k e1 ha.2
      refine ⟨cells, by rw [← e2]; exact c1, fun i y hy => ?_⟩
      obtain ⟨x, hx, hv⟩ := e4 i y hy
      obtain ⟨u, hu, hr⟩ := c2 i x hx
      exact ⟨u, hu, hv _ _ _ _ _ hr⟩
    fz := fun id k' hk' ha hf => by
      obtain ⟨k, e1, e2, e3, e4⟩ := h2 id k' hk' ha.1
      exact hm.fz _ k e1 ha.2 (e3.trans hf)
    own := fun id k' hk' ha => by
      obtain ⟨k, e1, e2, e3, e4⟩ := h2 id k' hk' ha.1
      exact hm.own _ k e1 ha.2
    inj := fun i j k k' hk hk' ha ha' he => by
      obtain ⟨q, e1, _⟩ := h2 i k hk ha.1
      obtain ⟨q', e1', _⟩ := h2 j k' hk' ha'.1
      exact hi i j ha.1 ha'.1 (hm.inj _ _ q q' e1 e1' ha.2 ha'.2 he)
    slt := hm.slt
    sub := hm.sub
    base := hm.base
    frame := hm.frame
    keep := fun id h => by
      obtain ⟨g1, g2⟩ := hK id (hB id h)
      obtain ⟨g3, g4⟩ := hm.keep id h
      exact ⟨⟨g1, by rw [g2]; exact g3⟩, by rw [g2]; exact g4⟩ }
theorem Le.sub {sl : List (Nat × V)} {hp hp' : List (Nat × Blk)} {nx nx' nt : Nat} (h : ∀ id k', hget hp' id = some k' → ∃ k, hget hp id = some k ∧ k.ty = k'.ty ∧ k.fz = k'.fz ∧ ∀ (i : Nat) (y : V), k'.cs[i]? = some y → k.cs[i]? = some y) (hn : nx ≤ nx') : Le B ⟨sl, hp, nx, nt⟩ ⟨sl, hp', nx', nt⟩ := by
  intro S rho A a w hr
  have hm := hr.mem
  refine ⟨S, rho, A, hr.slots, ?_, fun id hid => Nat.lt_of_lt_of_le (hr.alt id hid) hn, hr.nt, hr.defs⟩
  exact {
    cells := fun id k' hk' ha => by
      obtain ⟨k, e1, e2, e3, e4⟩ := h id k' hk'
      obtain ⟨cells, c1, c2⟩ := hm.cells id k e1 ha
      exact ⟨cells, by rw [← e2]; exact c1, fun i y hy => c2 i y (e4 i y hy)⟩
    fz := fun id k' hk' ha hf => by
      obtain ⟨k, e1, e2, e3, e4⟩ := h id k' hk'
      exact hm.fz id k e1 ha (e3.trans hf)
    own := fun id k' hk' ha => by
      obtain ⟨k, e1, _⟩ := h id k' hk'
      exact hm.own id k e1 ha
    inj := fun i j k k' hk hk' ha ha' he => by
      obtain ⟨q, e1, _⟩ := h i k hk
      obtain ⟨q', e1', _⟩ := h j k' hk'
      exact hm.inj i j q q' e1 e1' ha ha' he
    slt := hm.slt
    sub := hm.sub
    base := hm.base
    frame := hm.frame
    keep := hm.keep }
theorem hasId_lt {hp : List (Nat × Blk)} {n i : Nat} (h : ∀ id k, hget hp id = some k → id < n) (hi : n ≤ i) : hasId hp i = false := by
  cases hc : hasId hp i with
  | false => rfl
  | true =>
    have : ∀ {l : List (Nat × Blk)}, hasId l i = true → ∃ k, hget l i = some k := by
      intro l
      induction l with
      | nil => intro h; cases h
      | cons p r ih =>
        intro h
        simp only [hasId, Bool.or_eq_true, decide_eq_true_eq] at h
        by_cases e : i = p.1
        · exact ⟨p.2, by simp [hget, e]⟩
        · obtain ⟨k, hk⟩ := ih (h.resolve_left e)
          exact ⟨k, by simp [hget, e, hk]⟩
    obtain ⟨k, hk⟩ := this hc
    have := h i k hk
    omega
theorem restH_none (hp : List (Nat × Blk)) : restH hp [] = hp := by
  induction hp with
  | nil => rfl
  | cons p r ih => simp [restH, hasId, ih]
theorem SInlQ.new {ops : Array Oper} {l : List Oper} {cs : List Code} {Q : Exit → SS → Prop} {f : Nat} {ys : List V} {d : Option Nat} {hp : List (Nat × Blk)} {nx nt : Nat} {sl : List (Nat × V)} {C : V → List (Nat × Blk) → Nat → Prop} (hI : InlQ P f ys [] nx C) (hkl : ∀ id k, hget hp id = some k → id < nx)
    (hge : ∀ x hp' nx', C x hp' nx' → Only (fun i => nx ≤ i) x ∧ OnlyH (fun i => nx ≤ i) hp') (k : ∀ x hp' nx', C x hp' nx' → SO P B ops l cs Q ⟨putS sl d x, hp' ++ hp, nx', nt⟩) : SInlQ P B f ys d ops l cs Q ⟨sl, hp, nx, nt⟩ := by
  refine ⟨[], C, (fun id k h => by cases h), hI, fun x hp' nx' hC => ?_⟩
  obtain ⟨h1, h2⟩ := hge x hp' nx' hC
  have hm : ∀ i, nx ≤ i → hasId (restH hp []) i = false := fun i hi => by rw [restH_none]; exact hasId_lt hkl hi
  refine ⟨h1.mono hm, h2.mono hm, ?_⟩
  have := k x hp' nx' hC
  rwa [show restH (SS.mk sl hp nx nt).hp [] = hp from restH_none hp]
theorem hget_comm {a b : List (Nat × Blk)} (h : ∀ id k, hget b id = some k → hget a id = none) : ∀ id k, hget (b ++ a) id = some k → hget (a ++ b) id = some k := by
  intro id k hk
  rw [hget_app] at hk ⊢
  cases e : hget b id with
  | some q => rw [e] at hk; rw [h id q e]; exact hk
  | none =>
    rw [e] at hk
    simp only at hk
    rw [hk]
theorem SInlQ.frame {ops : Array Oper} {l : List Oper} {cs : List Code} {Q : Exit → SS → Prop} {f : Nat} {ys : List V} {d : Option Nat} {pre hpS : List (Nat × Blk)} {nx nt m : Nat} {sl : List (Nat × V)} {C : V → List (Nat × Blk) → Nat → Prop} (hI : InlQ P f ys hpS nx C) (hm : ∀ id k, hget pre id = some k → id < m) (hS : ∀ id k, hget hpS id = some k → m ≤ id)
    (hC : ∀ x hp' nx', C x hp' nx' → Only (fun i => m ≤ i) x ∧ OnlyH (fun i => m ≤ i) hp' ∧ ∀ id k, hget hp' id = some k → m ≤ id) (k : ∀ x hp' nx', C x hp' nx' → SO P B ops l cs Q ⟨putS sl d x, pre ++ hp', nx', nt⟩) : SInlQ P B f ys d ops l cs Q ⟨sl, pre ++ hpS, nx, nt⟩ := by
  have hsub : ∀ id k, hget hpS id = some k → hget (pre ++ hpS) id = some k := by
    intro id q hq
    rw [hget_app]
    cases e : hget pre id with
    | none => exact hq
    | some q' => have := hm id q' e; have := hS id q hq; omega
  have hrest : ∀ i, m ≤ i → hasId (restH (pre ++ hpS) hpS) i = false := by
    intro i hi
    rw [hasId_rest]
    cases e : hasId hpS i with
    | true => simp
    | false =>
      have h1 := hasId_lt hm hi
      have : hasId (pre ++ hpS) i = false := by
        have happ : ∀ (a b : List (Nat × Blk)) (i : Nat), hasId (a ++ b) i = (hasId a i || hasId b i) := by
          intro a b i
          induction a with
          | nil => simp [hasId]
          | cons p r ih => simp [hasId, ih, Bool.or_assoc]
        rw [happ, h1, e]; rfl
      rw [this]; rfl
  refine ⟨hpS, C, hsub, hI, fun x hp' nx' h => ?_⟩
  obtain ⟨h1, h2, h3⟩ := hC x hp' nx' h
  refine ⟨h1.mono hrest, h2.mono hrest, SO.weak (Le.less (fun id q hq => ?_) (znb _)) (k x hp' nx' h)⟩
  rw [hget_app] at hq ⊢
  cases e : hget pre id with
  | some q' =>
    rw [e] at hq
    cases hq
    have hlt := hm id _ e
    have e2 : hget hp' id = none := by
      cases e3 : hget hp' id with
      | none => rfl
      | some q' => have := h3 id q' e3; omega
    rw [e2]
    simp only
    rw [hget_rest, if_neg, hget_app, e]
    intro hh
    have : ∀ {l : List (Nat × Blk)}, hasId l id = true → ∃ k, hget l id = some k := by
      intro l
      induction l with
      | nil => intro h; cases h
      | cons p r ih =>
        intro h
        simp only [hasId, Bool.or_eq_true, decide_eq_true_eq] at h
        by_cases e : id = p.1
        · exact ⟨p.2, by simp [hget, e]⟩
        · obtain ⟨k, hk⟩ := ih (h.resolve_left e)
          exact ⟨k, by simp [hget, e, hk]⟩
    obtain ⟨q', hq'⟩ := this hh
    have := hS id q' hq'
    omega
  | none =>
    rw [e] at hq
    simp only at hq
    rw [hq]
theorem SInlQ.newR {ops : Array Oper} {l : List Oper} {cs : List Code} {Q : Exit → SS → Prop} {f : Nat} {ys : List V} {d : Option Nat} {hp : List (Nat × Blk)} {nx nt : Nat} {sl : List (Nat × V)} {C : V → List (Nat × Blk) → Nat → Prop} (hI : InlQ P f ys [] nx C) (hkl : ∀ id k, hget hp id = some k → id < nx)
    (hge : ∀ x hp' nx', C x hp' nx' → Only (fun i => nx ≤ i) x ∧ OnlyH (fun i => nx ≤ i) hp' ∧ ∀ id k, hget hp' id = some k → nx ≤ id) (k : ∀ x hp' nx', C x hp' nx' → SO P B ops l cs Q ⟨putS sl d x, hp ++ hp', nx', nt⟩) : SInlQ P B f ys d ops l cs Q ⟨sl, hp, nx, nt⟩ :=
  SInlQ.new hI hkl (fun x hp' nx' hC => ⟨(hge x hp' nx' hC).1, (hge x hp' nx' hC).2.1⟩) fun x hp' nx' hC => SO.weak (Le.less (hget_comm fun id q hq => by
    have h1 := hkl id q hq
    cases e : hget hp' id with
    | none => rfl
    | some q' => have := (hge x hp' nx' hC).2.2 id q' e; omega) (znb _)) (k x hp' nx' hC)
end
end Go.Proofs.YtphilljhfdlfdaaGreat
namespace Go.Proofs.YtphilljhfdlfdaaGreat
@[go_sem] theorem Tab.has2 : hasT Tryz.prog 2 = true := by kernel_rfl
@[go_sem] theorem Tab.int2 : intOf' Tryz.prog 2 = some .i64 := by kernel_rfl
@[go_sem] theorem Tab.agg3 : aggOf Tryz.prog 3 = some false := by kernel_rfl
@[go_sem] theorem Tab.sz3 : szOf Tryz.prog 3 = some 1 := by kernel_rfl
@[go_sem] theorem Tab.has3 : hasT Tryz.prog 3 = true := by kernel_rfl
@[go_sem] theorem Tab.int3 : intOf' Tryz.prog 3 = some .i64 := by kernel_rfl
@[go_sem] theorem Tab.agg4 : aggOf Tryz.prog 4 = some false := by kernel_rfl
@[go_sem] theorem Tab.sz4 : szOf Tryz.prog 4 = some 1 := by kernel_rfl
@[go_sem] theorem Tab.bool4 : isBool Tryz.prog 4 = true := by kernel_rfl
@[go_sem] theorem Tab.agg5 : aggOf Tryz.prog 5 = some false := by kernel_rfl
@[go_sem] theorem Tab.sz5 : szOf Tryz.prog 5 = some 1 := by kernel_rfl
@[go_sem] theorem Tab.has5 : hasT Tryz.prog 5 = true := by kernel_rfl
@[go_sem] theorem Tab.int5 : intOf' Tryz.prog 5 = some .u8 := by kernel_rfl
@[go_sem] theorem Tab.str9 : isStr Tryz.prog 9 = true := by kernel_rfl
@[go_sem] theorem Tab.agg22 : aggOf Tryz.prog 22 = some false := by kernel_rfl
@[go_sem] theorem Tab.sz22 : szOf Tryz.prog 22 = some 1 := by kernel_rfl
@[go_sem] theorem Tab.isSl22 : isSl Tryz.prog 22 = true := by kernel_rfl
@[go_sem] theorem Tab.sl22 : slOf Tryz.prog 22 = some (87, 1) := by kernel_rfl
@[go_sem] theorem Tab.mk22 : mkOf Tryz.prog 22 = some (87, 4, [.int .u32 0]) := by kernel_rfl
@[go_sem] theorem Tab.agg24 : aggOf Tryz.prog 24 = some true := by kernel_rfl
@[go_sem] theorem Tab.sz24 : szOf Tryz.prog 24 = some 2 := by kernel_rfl
@[go_sem] theorem Tab.zero24 : zeroOf Tryz.prog 24 = some (.agg #[.bool false, .slice none 0 0]) := by kernel_rfl
@[go_sem] theorem Tab.fld24_0 : fldOf Tryz.prog 24 0 = some (0, 4, 1) := by kernel_rfl
@[go_sem] theorem Tab.fld24_1 : fldOf Tryz.prog 24 1 = some (1, 22, 1) := by kernel_rfl
@[go_sem] theorem Tab.pl24 : plOf Tryz.prog 24 = some ([.bool false, .slice none 0 0], .st [(0, 1), (1, 1)]) := by kernel_rfl
@[go_sem] theorem Tab.agg25 : aggOf Tryz.prog 25 = some false := by kernel_rfl
@[go_sem] theorem Tab.sz25 : szOf Tryz.prog 25 = some 1 := by kernel_rfl
@[go_sem] theorem Tab.has25 : hasT Tryz.prog 25 = true := by kernel_rfl
@[go_sem] theorem Tab.int25 : intOf' Tryz.prog 25 = some .u64 := by kernel_rfl
@[go_sem] theorem Tab.agg26 : aggOf Tryz.prog 26 = some false := by kernel_rfl
@[go_sem] theorem Tab.sz26 : szOf Tryz.prog 26 = some 1 := by kernel_rfl
@[go_sem] theorem Tab.sl26 : slOf Tryz.prog 26 = some (3, 1) := by kernel_rfl
@[go_sem] theorem Tab.mk26 : mkOf Tryz.prog 26 = some (3, 8, [.int .i64 0]) := by kernel_rfl
@[go_sem] theorem Tab.agg27 : aggOf Tryz.prog 27 = some false := by kernel_rfl
@[go_sem] theorem Tab.sz27 : szOf Tryz.prog 27 = some 1 := by kernel_rfl
@[go_sem] theorem Tab.sl27 : slOf Tryz.prog 27 = some (49, 3) := by kernel_rfl
@[go_sem] theorem Tab.mk27 : mkOf Tryz.prog 27 = some (49, 40, [.int .i64 0, .int .i64 0, .slice none 0 0]) := by kernel_rfl
@[go_sem] theorem Tab.agg28 : aggOf Tryz.prog 28 = some false := by kernel_rfl
@[go_sem] theorem Tab.sz28 : szOf Tryz.prog 28 = some 1 := by kernel_rfl
@[go_sem] theorem Tab.sl28 : slOf Tryz.prog 28 = some (24, 2) := by kernel_rfl
@[go_sem] theorem Tab.mk28 : mkOf Tryz.prog 28 = some (24, 32, [.bool false, .slice none 0 0]) := by kernel_rfl
@[go_sem] theorem Tab.agg29 : aggOf Tryz.prog 29 = some false := by kernel_rfl
@[go_sem] theorem Tab.sz29 : szOf Tryz.prog 29 = some 1 := by kernel_rfl
@[go_sem] theorem Tab.sl29 : slOf Tryz.prog 29 = some (24, 2) := by kernel_rfl
@[go_sem] theorem Tab.mk29 : mkOf Tryz.prog 29 = some (24, 32, [.bool false, .slice none 0 0]) := by kernel_rfl
@[go_sem] theorem Tab.agg30 : aggOf Tryz.prog 30 = some false := by kernel_rfl
@[go_sem] theorem Tab.sz30 : szOf Tryz.prog 30 = some 1 := by kernel_rfl
@[go_sem] theorem Tab.sl30 : slOf Tryz.prog 30 = some (71, 4) := by kernel_rfl
@[go_sem] theorem Tab.mk30 : mkOf Tryz.prog 30 = some (71, 64, [.bool false, .slice none 0 0, .bool false, .slice none 0 0]) := by kernel_rfl
@[go_sem] theorem Tab.agg32 : aggOf Tryz.prog 32 = some true := by kernel_rfl
@[go_sem] theorem Tab.sz32 : szOf Tryz.prog 32 = some 10 := by kernel_rfl
@[go_sem] theorem Tab.zero32 : zeroOf Tryz.prog 32 = some (.agg #[.int .i64 0, .bool false, .slice none 0 0, .int .u64 0, .slice none 0 0, .slice none 0 0, .slice none 0 0, .slice none 0 0, .slice none 0 0, .bool false]) := by kernel_rfl
@[go_sem] theorem Tab.fld32_0 : fldOf Tryz.prog 32 0 = some (0, 3, 1) := by kernel_rfl
@[go_sem] theorem Tab.fld32_1 : fldOf Tryz.prog 32 1 = some (1, 24, 2) := by kernel_rfl
@[go_sem] theorem Tab.fld32_2 : fldOf Tryz.prog 32 2 = some (3, 25, 1) := by kernel_rfl
@[go_sem] theorem Tab.fld32_3 : fldOf Tryz.prog 32 3 = some (4, 26, 1) := by kernel_rfl
@[go_sem] theorem Tab.fld32_4 : fldOf Tryz.prog 32 4 = some (5, 26, 1) := by kernel_rfl
@[go_sem] theorem Tab.fld32_5 : fldOf Tryz.prog 32 5 = some (6, 27, 1) := by kernel_rfl
@[go_sem] theorem Tab.fld32_6 : fldOf Tryz.prog 32 6 = some (7, 29, 1) := by kernel_rfl
@[go_sem] theorem Tab.fld32_7 : fldOf Tryz.prog 32 7 = some (8, 30, 1) := by kernel_rfl
@[go_sem] theorem Tab.fld32_8 : fldOf Tryz.prog 32 8 = some (9, 4, 1) := by kernel_rfl
@[go_sem] theorem Tab.pl32 : plOf Tryz.prog 32 = some ([.int .i64 0, .bool false, .slice none 0 0, .int .u64 0, .slice none 0 0, .slice none 0 0, .slice none 0 0, .slice none 0 0, .slice none 0 0, .bool false], .st [(0, 1), (1, 2), (3, 1), (4, 1), (5, 1), (6, 1), (7, 1), (8, 1), (9, 1)]) := by kernel_rfl
@[go_sem] theorem Tab.sl33 : slOf Tryz.prog 33 = some (68, 3) := by kernel_rfl
@[go_sem] theorem Tab.agg34 : aggOf Tryz.prog 34 = some false := by kernel_rfl
@[go_sem] theorem Tab.sz34 : szOf Tryz.prog 34 = some 1 := by kernel_rfl
@[go_sem] theorem Tab.sl34 : slOf Tryz.prog 34 = some (69, 1) := by kernel_rfl
@[go_sem] theorem Tab.agg37 : aggOf Tryz.prog 37 = some false := by kernel_rfl
@[go_sem] theorem Tab.sz37 : szOf Tryz.prog 37 = some 1 := by kernel_rfl
@[go_sem] theorem Tab.isSl37 : isSl Tryz.prog 37 = true := by kernel_rfl
@[go_sem] theorem Tab.sl37 : slOf Tryz.prog 37 = some (5, 1) := by kernel_rfl
@[go_sem] theorem Tab.mk37 : mkOf Tryz.prog 37 = some (5, 1, [.int .u8 0]) := by kernel_rfl
@[go_sem] theorem Tab.agg40 : aggOf Tryz.prog 40 = some false := by kernel_rfl
@[go_sem] theorem Tab.sz40 : szOf Tryz.prog 40 = some 1 := by kernel_rfl
@[go_sem] theorem Tab.agg47 : aggOf Tryz.prog 47 = some false := by kernel_rfl
@[go_sem] theorem Tab.sz47 : szOf Tryz.prog 47 = some 1 := by kernel_rfl
@[go_sem] theorem Tab.sl47 : slOf Tryz.prog 47 = some (28, 1) := by kernel_rfl
@[go_sem] theorem Tab.mk47 : mkOf Tryz.prog 47 = some (28, 24, [.slice none 0 0]) := by kernel_rfl
@[go_sem] theorem Tab.agg49 : aggOf Tryz.prog 49 = some true := by kernel_rfl
@[go_sem] theorem Tab.sz49 : szOf Tryz.prog 49 = some 3 := by kernel_rfl
@[go_sem] theorem Tab.zero49 : zeroOf Tryz.prog 49 = some (.agg #[.int .i64 0, .int .i64 0, .slice none 0 0]) := by kernel_rfl
@[go_sem] theorem Tab.fld49_0 : fldOf Tryz.prog 49 0 = some (0, 3, 1) := by kernel_rfl
@[go_sem] theorem Tab.fld49_1 : fldOf Tryz.prog 49 1 = some (1, 3, 1) := by kernel_rfl
@[go_sem] theorem Tab.fld49_2 : fldOf Tryz.prog 49 2 = some (2, 47, 1) := by kernel_rfl
@[go_sem] theorem Tab.pl49 : plOf Tryz.prog 49 = some ([.int .i64 0, .int .i64 0, .slice none 0 0], .st [(0, 1), (1, 1), (2, 1)]) := by kernel_rfl
@[go_sem] theorem Tab.mk51 : mkOf Tryz.prog 51 = some (2, 8, [.int .i64 0]) := by kernel_rfl
@[go_sem] theorem Tab.mk56 : mkOf Tryz.prog 56 = some (120, 40, [.int .i64 0, .int .i64 0, .slice none 0 0]) := by kernel_rfl
@[go_sem] theorem Tab.sz57 : szOf Tryz.prog 57 = some 1 := by kernel_rfl
@[go_sem] theorem Tab.agg58 : aggOf Tryz.prog 58 = some false := by kernel_rfl
@[go_sem] theorem Tab.sz58 : szOf Tryz.prog 58 = some 1 := by kernel_rfl
@[go_sem] theorem Tab.sl58 : slOf Tryz.prog 58 = some (124, 8) := by kernel_rfl
@[go_sem] theorem Tab.mk58 : mkOf Tryz.prog 58 = some (124, 80, [.int .i64 0, .int .i64 0, .int .i64 0, .slice none 0 0, .int .i64 0, .int .i64 0, .int .i64 0, .int .i64 0]) := by kernel_rfl
@[go_sem] theorem Tab.agg60 : aggOf Tryz.prog 60 = some true := by kernel_rfl
@[go_sem] theorem Tab.sz60 : szOf Tryz.prog 60 = some 3 := by kernel_rfl
@[go_sem] theorem Tab.zero60 : zeroOf Tryz.prog 60 = some (.agg #[.int .i64 0, .slice none 0 0, .slice none 0 0]) := by kernel_rfl
@[go_sem] theorem Tab.fld60_0 : fldOf Tryz.prog 60 0 = some (0, 3, 1) := by kernel_rfl
@[go_sem] theorem Tab.fld60_1 : fldOf Tryz.prog 60 1 = some (1, 57, 1) := by kernel_rfl
@[go_sem] theorem Tab.fld60_2 : fldOf Tryz.prog 60 2 = some (2, 58, 1) := by kernel_rfl
@[go_sem] theorem Tab.pl60 : plOf Tryz.prog 60 = some ([.int .i64 0, .slice none 0 0, .slice none 0 0], .st [(0, 1), (1, 1), (2, 1)]) := by kernel_rfl
@[go_sem] theorem Tab.agg68 : aggOf Tryz.prog 68 = some true := by kernel_rfl
@[go_sem] theorem Tab.sz68 : szOf Tryz.prog 68 = some 3 := by kernel_rfl
@[go_sem] theorem Tab.fld68_0 : fldOf Tryz.prog 68 0 = some (0, 5, 1) := by kernel_rfl
@[go_sem] theorem Tab.fld68_1 : fldOf Tryz.prog 68 1 = some (1, 5, 1) := by kernel_rfl
@[go_sem] theorem Tab.fld68_2 : fldOf Tryz.prog 68 2 = some (2, 34, 1) := by kernel_rfl
@[go_sem] theorem Tab.agg69 : aggOf Tryz.prog 69 = some false := by kernel_rfl
@[go_sem] theorem Tab.sz69 : szOf Tryz.prog 69 = some 1 := by kernel_rfl
@[go_sem] theorem Tab.has69 : hasT Tryz.prog 69 = true := by kernel_rfl
@[go_sem] theorem Tab.agg71 : aggOf Tryz.prog 71 = some true := by kernel_rfl
@[go_sem] theorem Tab.sz71 : szOf Tryz.prog 71 = some 4 := by kernel_rfl
@[go_sem] theorem Tab.zero71 : zeroOf Tryz.prog 71 = some (.agg #[.bool false, .slice none 0 0, .bool false, .slice none 0 0]) := by kernel_rfl
@[go_sem] theorem Tab.fld71_0 : fldOf Tryz.prog 71 0 = some (0, 24, 2) := by kernel_rfl
@[go_sem] theorem Tab.fld71_1 : fldOf Tryz.prog 71 1 = some (2, 24, 2) := by kernel_rfl
@[go_sem] theorem Tab.pl71 : plOf Tryz.prog 71 = some ([.bool false, .slice none 0 0, .bool false, .slice none 0 0], .st [(0, 2), (2, 2)]) := by kernel_rfl
@[go_sem] theorem Tab.agg87 : aggOf Tryz.prog 87 = some false := by kernel_rfl
@[go_sem] theorem Tab.sz87 : szOf Tryz.prog 87 = some 1 := by kernel_rfl
@[go_sem] theorem Tab.has87 : hasT Tryz.prog 87 = true := by kernel_rfl
@[go_sem] theorem Tab.int87 : intOf' Tryz.prog 87 = some .u32 := by kernel_rfl
@[go_sem] theorem Tab.fld100_0 : fldOf Tryz.prog 100 0 = some (0, 37, 1) := by kernel_rfl
@[go_sem] theorem Tab.fld100_1 : fldOf Tryz.prog 100 1 = some (1, 3, 1) := by kernel_rfl
@[go_sem] theorem Tab.fld100_2 : fldOf Tryz.prog 100 2 = some (2, 40, 1) := by kernel_rfl
@[go_sem] theorem Tab.pl100 : plOf Tryz.prog 100 = some ([.slice none 0 0, .int .i64 0, .int .i64 0], .st [(0, 1), (1, 1), (2, 1)]) := by kernel_rfl
@[go_sem] theorem Tab.mk117 : mkOf Tryz.prog 117 = some (132, 40, [.int .i64 0, .bool false, .slice none 0 0]) := by kernel_rfl
@[go_sem] theorem Tab.sz118 : szOf Tryz.prog 118 = some 1 := by kernel_rfl
@[go_sem] theorem Tab.agg120 : aggOf Tryz.prog 120 = some true := by kernel_rfl
@[go_sem] theorem Tab.sz120 : szOf Tryz.prog 120 = some 3 := by kernel_rfl
@[go_sem] theorem Tab.zero120 : zeroOf Tryz.prog 120 = some (.agg #[.int .i64 0, .int .i64 0, .slice none 0 0]) := by kernel_rfl
@[go_sem] theorem Tab.fld120_1 : fldOf Tryz.prog 120 1 = some (1, 3, 1) := by kernel_rfl
@[go_sem] theorem Tab.fld120_2 : fldOf Tryz.prog 120 2 = some (2, 118, 1) := by kernel_rfl
@[go_sem] theorem Tab.pl120 : plOf Tryz.prog 120 = some ([.int .i64 0, .int .i64 0, .slice none 0 0], .st [(0, 1), (1, 1), (2, 1)]) := by kernel_rfl
@[go_sem] theorem Tab.ar122 : arOf Tryz.prog 122 = some (2, 3, 1) := by kernel_rfl
@[go_sem] theorem Tab.agg124 : aggOf Tryz.prog 124 = some true := by kernel_rfl
@[go_sem] theorem Tab.sz124 : szOf Tryz.prog 124 = some 8 := by kernel_rfl
@[go_sem] theorem Tab.zero124 : zeroOf Tryz.prog 124 = some (.agg #[.int .i64 0, .int .i64 0, .int .i64 0, .slice none 0 0, .int .i64 0, .int .i64 0, .int .i64 0, .int .i64 0]) := by kernel_rfl
@[go_sem] theorem Tab.fld124_1 : fldOf Tryz.prog 124 1 = some (1, 120, 3) := by kernel_rfl
@[go_sem] theorem Tab.fld124_2 : fldOf Tryz.prog 124 2 = some (4, 3, 1) := by kernel_rfl
@[go_sem] theorem Tab.fld124_3 : fldOf Tryz.prog 124 3 = some (5, 3, 1) := by kernel_rfl
@[go_sem] theorem Tab.fld124_4 : fldOf Tryz.prog 124 4 = some (6, 122, 2) := by kernel_rfl
@[go_sem] theorem Tab.pl124 : plOf Tryz.prog 124 = some ([.int .i64 0, .int .i64 0, .int .i64 0, .slice none 0 0, .int .i64 0, .int .i64 0, .int .i64 0, .int .i64 0], .st [(0, 1), (1, 3), (4, 1), (5, 1), (6, 2)]) := by kernel_rfl
@[go_sem] theorem Tab.agg132 : aggOf Tryz.prog 132 = some true := by kernel_rfl
@[go_sem] theorem Tab.sz132 : szOf Tryz.prog 132 = some 3 := by kernel_rfl
@[go_sem] theorem Tab.zero132 : zeroOf Tryz.prog 132 = some (.agg #[.int .i64 0, .bool false, .slice none 0 0]) := by kernel_rfl
@[go_sem] theorem Tab.fld132_1 : fldOf Tryz.prog 132 1 = some (1, 24, 2) := by kernel_rfl
@[go_sem] theorem Tab.pl132 : plOf Tryz.prog 132 = some ([.int .i64 0, .bool false, .slice none 0 0], .st [(0, 1), (1, 2)]) := by kernel_rfl
@[go_sem] theorem Tab.ar135 : arOf Tryz.prog 135 = some (4, 134, 1) := by kernel_rfl
@[go_sem] theorem Tab.pl135 : plOf Tryz.prog 135 = some ([.pointer none, .pointer none, .pointer none, .pointer none], .ar 1) := by kernel_rfl
@[go_sem] theorem Tab.go4 : isGo Tryz.prog 4 = true := by kernel_rfl
@[go_sem] theorem Tab.go5 : isGo Tryz.prog 5 = true := by kernel_rfl
@[go_sem] theorem Tab.go6 : isGo Tryz.prog 6 = true := by kernel_rfl
@[go_sem] theorem Tab.go7 : isGo Tryz.prog 7 = true := by kernel_rfl
@[go_sem] theorem Tab.go8 : isGo Tryz.prog 8 = true := by kernel_rfl
@[go_sem] theorem Tab.go9 : isGo Tryz.prog 9 = true := by kernel_rfl
@[go_sem] theorem Tab.go10 : isGo Tryz.prog 10 = true := by kernel_rfl
@[go_sem] theorem Tab.go11 : isGo Tryz.prog 11 = true := by kernel_rfl
@[go_sem] theorem Tab.go12 : isGo Tryz.prog 12 = true := by kernel_rfl
@[go_sem] theorem Tab.go13 : isGo Tryz.prog 13 = true := by kernel_rfl
@[go_sem] theorem Tab.go14 : isGo Tryz.prog 14 = true := by kernel_rfl
@[go_sem] theorem Tab.go15 : isGo Tryz.prog 15 = true := by kernel_rfl
@[go_sem] theorem Tab.go16 : isGo Tryz.prog 16 = true := by kernel_rfl
@[go_sem] theorem Tab.go17 : isGo Tryz.prog 17 = true := by kernel_rfl
@[go_sem] theorem Tab.go18 : isGo Tryz.prog 18 = true := by kernel_rfl
@[go_sem] theorem Tab.go19 : isGo Tryz.prog 19 = true := by kernel_rfl
@[go_sem] theorem Tab.go20 : isGo Tryz.prog 20 = true := by kernel_rfl
@[go_sem] theorem Tab.go21 : isGo Tryz.prog 21 = true := by kernel_rfl
@[go_sem] theorem Tab.go22 : isGo Tryz.prog 22 = true := by kernel_rfl
@[go_sem] theorem Tab.go23 : isGo Tryz.prog 23 = true := by kernel_rfl
@[go_sem] theorem Tab.go24 : isGo Tryz.prog 24 = true := by kernel_rfl
@[go_sem] theorem Tab.go25 : isGo Tryz.prog 25 = true := by kernel_rfl
@[go_sem] theorem Tab.go26 : isGo Tryz.prog 26 = true := by kernel_rfl
@[go_sem] theorem Tab.go27 : isGo Tryz.prog 27 = true := by kernel_rfl
@[go_sem] theorem Tab.go28 : isGo Tryz.prog 28 = true := by kernel_rfl
@[go_sem] theorem Tab.go29 : isGo Tryz.prog 29 = true := by kernel_rfl
@[go_sem] theorem Tab.go30 : isGo Tryz.prog 30 = true := by kernel_rfl
@[go_sem] theorem Tab.go31 : isGo Tryz.prog 31 = true := by kernel_rfl
@[go_sem] theorem Tab.go32 : isGo Tryz.prog 32 = true := by kernel_rfl
@[go_sem] theorem Tab.go33 : isGo Tryz.prog 33 = true := by kernel_rfl
@[go_sem] theorem Tab.go34 : isGo Tryz.prog 34 = true := by kernel_rfl
@[go_sem] theorem Tab.go35 : isGo Tryz.prog 35 = true := by kernel_rfl
@[go_sem] theorem Tab.go36 : isGo Tryz.prog 36 = true := by kernel_rfl
@[go_sem] theorem Tab.go37 : isGo Tryz.prog 37 = true := by kernel_rfl
@[go_sem] theorem Tab.go38 : isGo Tryz.prog 38 = true := by kernel_rfl
@[go_sem] theorem Tab.go39 : isGo Tryz.prog 39 = true := by kernel_rfl
@[go_sem] theorem Tab.go40 : isGo Tryz.prog 40 = true := by kernel_rfl
@[go_sem] theorem Tab.go41 : isGo Tryz.prog 41 = true := by kernel_rfl
@[go_sem] theorem Tab.go42 : isGo Tryz.prog 42 = true := by kernel_rfl
@[go_sem] theorem Tab.go43 : isGo Tryz.prog 43 = true := by kernel_rfl
@[go_sem] theorem Tab.go44 : isGo Tryz.prog 44 = true := by kernel_rfl
@[go_sem] theorem Tab.go45 : isGo Tryz.prog 45 = true := by kernel_rfl
@[go_sem] theorem Tab.go46 : isGo Tryz.prog 46 = true := by kernel_rfl
@[go_sem] theorem Tab.go47 : isGo Tryz.prog 47 = true := by kernel_rfl
@[go_sem] theorem Tab.go48 : isGo Tryz.prog 48 = true := by kernel_rfl
@[go_sem] theorem Tab.go49 : isGo Tryz.prog 49 = true := by kernel_rfl
@[go_sem] theorem Tab.go50 : isGo Tryz.prog 50 = true := by kernel_rfl
@[go_sem] theorem Tab.go51 : isGo Tryz.prog 51 = true := by kernel_rfl
@[go_sem] theorem Tab.go52 : isGo Tryz.prog 52 = true := by kernel_rfl
@[go_sem] theorem Tab.go53 : isGo Tryz.prog 53 = true := by kernel_rfl
@[go_sem] theorem Tab.go54 : isGo Tryz.prog 54 = true := by kernel_rfl
@[go_sem] theorem Tab.go55 : isGo Tryz.prog 55 = true := by kernel_rfl
@[go_sem] theorem Tab.go56 : isGo Tryz.prog 56 = true := by kernel_rfl
@[go_sem] theorem Tab.go57 : isGo Tryz.prog 57 = true := by kernel_rfl
@[go_sem] theorem Tab.go58 : isGo Tryz.prog 58 = true := by kernel_rfl
@[go_sem] theorem Tab.go59 : isGo Tryz.prog 59 = true := by kernel_rfl
@[go_sem] theorem Tab.go60 : isGo Tryz.prog 60 = true := by kernel_rfl
@[go_sem] theorem Tab.go61 : isGo Tryz.prog 61 = true := by kernel_rfl
@[go_sem] theorem Tab.go62 : isGo Tryz.prog 62 = true := by kernel_rfl
@[go_sem] theorem Tab.go63 : isGo Tryz.prog 63 = true := by kernel_rfl
@[go_sem] theorem Tab.go64 : isGo Tryz.prog 64 = true := by kernel_rfl
@[go_sem] theorem Tab.go65 : isGo Tryz.prog 65 = true := by kernel_rfl
@[go_sem] theorem Tab.go66 : isGo Tryz.prog 66 = true := by kernel_rfl
@[go_sem] theorem Tab.go67 : isGo Tryz.prog 67 = true := by kernel_rfl
@[go_sem] theorem Tab.go68 : isGo Tryz.prog 68 = true := by kernel_rfl
@[go_sem] theorem Tab.go69 : isGo Tryz.prog 69 = true := by kernel_rfl
@[go_sem] theorem Tab.go70 : isGo Tryz.prog 70 = true := by kernel_rfl
@[go_sem] theorem Tab.go71 : isGo Tryz.prog 71 = true := by kernel_rfl
@[go_sem] theorem Tab.go72 : isGo Tryz.prog 72 = true := by kernel_rfl
@[go_sem] theorem Tab.go73 : isGo Tryz.prog 73 = true := by kernel_rfl
@[go_sem] theorem Tab.go74 : isGo Tryz.prog 74 = true := by kernel_rfl
@[go_sem] theorem Tab.go75 : isGo Tryz.prog 75 = true := by kernel_rfl
@[go_sem] theorem Tab.go76 : isGo Tryz.prog 76 = true := by kernel_rfl
@[go_sem] theorem Tab.go77 : isGo Tryz.prog 77 = true := by kernel_rfl
@[go_sem] theorem Tab.go78 : isGo Tryz.prog 78 = true := by kernel_rfl
@[go_sem] theorem Tab.go79 : isGo Tryz.prog 79 = true := by kernel_rfl
@[go_sem] theorem Tab.go80 : isGo Tryz.prog 80 = true := by kernel_rfl
@[go_sem] theorem Tab.go81 : isGo Tryz.prog 81 = true := by kernel_rfl
@[go_sem] theorem Tab.go82 : isGo Tryz.prog 82 = true := by kernel_rfl
@[go_sem] theorem Tab.go83 : isGo Tryz.prog 83 = true := by kernel_rfl
@[go_sem] theorem Tab.go84 : isGo Tryz.prog 84 = true := by kernel_rfl
@[go_sem] theorem Tab.go85 : isGo Tryz.prog 85 = true := by kernel_rfl
@[go_sem] theorem Tab.go86 : isGo Tryz.prog 86 = true := by kernel_rfl
@[go_sem] theorem Tab.go87 : isGo Tryz.prog 87 = true := by kernel_rfl
@[go_sem] theorem Tab.go88 : isGo Tryz.prog 88 = true := by kernel_rfl
@[go_sem] theorem Tab.go89 : isGo Tryz.prog 89 = true := by kernel_rfl
@[go_sem] theorem Tab.go90 : isGo Tryz.prog 90 = true := by kernel_rfl
@[go_sem] theorem Tab.go91 : isGo Tryz.prog 91 = true := by kernel_rfl
@[go_sem] theorem Tab.go92 : isGo Tryz.prog 92 = true := by kernel_rfl
@[go_sem] theorem Tab.go93 : isGo Tryz.prog 93 = true := by kernel_rfl
@[go_sem] theorem Tab.go94 : isGo Tryz.prog 94 = true := by kernel_rfl
@[go_sem] theorem Tab.go95 : isGo Tryz.prog 95 = true := by kernel_rfl
@[go_sem] theorem Tab.go96 : isGo Tryz.prog 96 = true := by kernel_rfl
@[go_sem] theorem Tab.go97 : isGo Tryz.prog 97 = true := by kernel_rfl
@[go_sem] theorem Tab.go98 : isGo Tryz.prog 98 = true := by kernel_rfl
@[go_sem] theorem Tab.go99 : isGo Tryz.prog 99 = true := by kernel_rfl
@[go_sem] theorem Tab.go100 : isGo Tryz.prog 100 = true := by kernel_rfl
@[go_sem] theorem Tab.go101 : isGo Tryz.prog 101 = true := by kernel_rfl
@[go_sem] theorem Tab.go102 : isGo Tryz.prog 102 = true := by kernel_rfl
@[go_sem] theorem Tab.go103 : isGo Tryz.prog 103 = true := by kernel_rfl
@[go_sem] theorem Tab.go104 : isGo Tryz.prog 104 = true := by kernel_rfl
@[go_sem] theorem Tab.go105 : isGo Tryz.prog 105 = true := by kernel_rfl
@[go_sem] theorem Tab.go106 : isGo Tryz.prog 106 = true := by kernel_rfl
@[go_sem] theorem Tab.go107 : isGo Tryz.prog 107 = true := by kernel_rfl
@[go_sem] theorem Tab.go108 : isGo Tryz.prog 108 = true := by kernel_rfl
@[go_sem] theorem Tab.go109 : isGo Tryz.prog 109 = true := by kernel_rfl
@[go_sem] theorem Tab.go110 : isGo Tryz.prog 110 = true := by kernel_rfl
theorem Tab.mixed : Tryz.prog.follows .mixedOrders = true := by kernel_rfl
end Go.Proofs.YtphilljhfdlfdaaGreat
namespace Go.Proofs.YtphilljhfdlfdaaGreat
open Go.RowKit
abbrev HP := List (Nat × Blk)
def forceN {R : Type} (n : Nat) (k : Nat → R) : R :=
  match n with
  | .zero => k .zero
  | .succ m => k (.succ m)
theorem forceN_eq {R : Type} (n : Nat) (k : Nat → R) : forceN n k = k n := by cases n <;> rfl
def forceV {R : Type} (x : V) (k : V → R) : R :=
  match x with
  | .sc v => match v with
    | .int kd n => match n with
      | .ofNat m => forceN m fun m => k (.sc (.int kd (.ofNat m)))
      | .negSucc m => forceN m fun m => k (.sc (.int kd (.negSucc m)))
    | .bool b => match b with
      | true => k (.sc (.bool true))
      | false => k (.sc (.bool false))
    | v => k (.sc v)
  | .pt id off => forceN id fun id => forceN off fun off => k (.pt id off)
  | .sl id off len z c => forceN id fun id => forceN off fun off => forceN len fun len => k (.sl id off len z c)
  | x => k x
theorem forceV_eq {R : Type} (x : V) (k : V → R) : forceV x k = k x := by
  unfold forceV
  split
  · split
    · split <;> simp only [forceN_eq]
    · split <;> rfl
    · rfl
  · simp only [forceN_eq]
  · simp only [forceN_eq]
  · rfl
def spine {α R : Type} : List α → (List α → R) → R
  | [], k => k []
  | x :: r, k => spine r fun r' => k (x :: r')
theorem spine_eq {α R : Type} : ∀ (l : List α) (k : List α → R), spine l k = k l
  | [], k => rfl
  | x :: r, k => by rw [spine, spine_eq r]
def delS (t : Nat) : List (Nat × V) → List (Nat × V)
  | [] => []
  | (k, x) :: r => if k = t then r else (k, x) :: delS t r
def delK {R : Type} (t : Nat) : List (Nat × V) → (List (Nat × V) → R) → R
  | [], c => c []
  | (k, x) :: r, c => match Nat.beq k t with
    | true => c r
    | false => delK t r fun r' => c ((k, x) :: r')
theorem delK_eq {R : Type} (t : Nat) : ∀ (l : List (Nat × V)) (c : List (Nat × V) → R), delK t l c = c (delS t l)
  | [], c => rfl
  | (k, x) :: r, c => by
    rw [delK, delS]
    split
    · rename_i h; rw [if_pos (Nat.eq_of_beq_eq_true h)]
    · rename_i h; rw [if_neg (Nat.ne_of_beq_eq_false h), delK_eq t r]
def putT (sl : List (Nat × V)) (d : Option Nat) (x : V) : List (Nat × V) :=
  match d with
  | some d => (d, x) :: delS d sl
  | none => sl
def putK {R : Type} (sl : List (Nat × V)) (d : Option Nat) (x : V) (k : List (Nat × V) → R) : R :=
  match d with
  | some d => forceV x fun x => delK d sl fun r => k ((d, x) :: r)
  | none => k sl
theorem putK_eq {R : Type} (sl : List (Nat × V)) (d : Option Nat) (x : V) (k : List (Nat × V) → R) : putK sl d x k = k (putT sl d x) := by
  cases d with
  | none => rfl
  | some d => simp only [putK, putT, forceV_eq, delK_eq]
def blkK {R : Type} (b : Blk) (k : Blk → R) : R :=
  match b with
  | ⟨ty, cs, fz⟩ => spine cs fun cs => k ⟨ty, cs, fz⟩
theorem blkK_eq {R : Type} (b : Blk) (k : Blk → R) : blkK b k = k b := by cases b; simp only [blkK, spine_eq]
def hsetK {R : Type} : HP → Nat → Blk → (HP → R) → R
  | [], _, _, k => k []
  | (i, q) :: r, t, y, k => match Nat.beq t i with
    | true => k ((i, y) :: r)
    | false => hsetK r t y fun r' => k ((i, q) :: r')
theorem hsetK_eq {R : Type} : ∀ (l : HP) (t : Nat) (y : Blk) (k : HP → R), hsetK l t y k = k (hset l t y)
  | [], t, y, k => rfl
  | (i, q) :: r, t, y, k => by
    rw [hsetK, hset]
    split
    · rename_i h
      have := Nat.eq_of_beq_eq_true h
      subst this; rw [if_pos rfl]
    · rename_i h; rw [if_neg (Nat.ne_of_beq_eq_false h), hsetK_eq r]
def effK {R : Type} (f : Eff) (nx : Nat) (hp : HP) (k : HP → Nat → R) : R :=
  match f with
  | .none => k hp nx
  | .new b => blkK b fun b => forceN nx.succ fun n => k ((nx, b) :: hp) n
  | .set id b => blkK b fun b => hsetK hp id b fun hp' => k hp' nx
  | .app id b => blkK b fun b => spine (hdel hp id) fun hp' => forceN nx.succ fun n => k ((nx, b) :: hp') n
theorem effK_eq {R : Type} (f : Eff) (nx : Nat) (hp : HP) (k : HP → Nat → R) : effK f nx hp k = k (f.heap nx hp) (f.next nx) := by
  cases f <;> simp only [effK, blkK_eq, hsetK_eq, spine_eq, forceN_eq, Eff.heap, Eff.next]
theorem get_delS (t t' : Nat) (h : t' ≠ t) : ∀ l : List (Nat × V), get (delS t l) t' = get l t'
  | [] => rfl
  | (k, x) :: r => by
    simp only [delS]
    split
    · rename_i e; subst e; simp only [get]; rw [if_neg h]
    · simp only [get]; rw [get_delS t t' h r]
theorem get_putT (sl : List (Nat × V)) (d : Option Nat) (x : V) (t : Nat) : get (putT sl d x) t = get (putS sl d x) t := by
  cases d with
  | none => rfl
  | some d =>
    simp only [putT, putS, get]
    by_cases e : t = d
    · rw [if_pos e, if_pos e]
    · rw [if_neg e, if_neg e, get_delS d t e]
def SameS (s s' : SS) : Prop := (∀ t, get s.sl t = get s'.sl t) ∧ s.hp = s'.hp ∧ s.nx = s'.nx ∧ s.nt = s'.nt
def SS.putX {R : Type} (s : SS) (d : Option Nat) (x : V) (f : Eff) (k : SS → R) : R :=
  match s with
  | ⟨sl, hp, nx, nt⟩ => putK sl d x fun sl => effK f nx hp fun hp nx => k ⟨sl, hp, nx, nt⟩
theorem putX_eq {R : Type} (s : SS) (d : Option Nat) (x : V) (f : Eff) : ∃ s', SameS s' (s.put d x f) ∧ ∀ k : SS → R, s.putX d x f k = k s' := by
  obtain ⟨sl, hp, nx, nt⟩ := s
  exact ⟨⟨putT sl d x, f.heap nx hp, f.next nx, nt⟩, ⟨fun t => get_putT sl d x t, rfl, rfl, rfl⟩, fun k => by simp only [SS.putX, putK_eq, effK_eq]⟩
def SS.calledX {R : Type} (s : SS) (d : Option Nat) (x : V) (ids : List Nat) (k : SS → R) : R :=
  match s with
  | ⟨sl, hp, nx, nt⟩ => putK sl d x fun sl => match flat x with
    | true => k ⟨sl, hp, nx, nt⟩
    | false => spine (fzHp hp ids) fun hp => k ⟨sl, hp, nx, nt⟩
theorem calledX_eq {R : Type} (s : SS) (d : Option Nat) (x : V) (ids : List Nat) : ∃ s', SameS s' (s.called d x ids) ∧ ∀ k : SS → R, s.calledX d x ids k = k s' := by
  obtain ⟨sl, hp, nx, nt⟩ := s
  refine ⟨⟨putT sl d x, if flat x then hp else fzHp hp ids, nx, nt⟩, ⟨fun t => get_putT sl d x t, rfl, rfl, rfl⟩, fun k => ?_⟩
  simp only [SS.calledX, putK_eq, spine_eq]
  cases flat x <;> rfl
def SS.putY {R : Type} (s : SS) (d : Option Nat) (x : V) (f : Eff) (k : SS → R) : R :=
  match s with
  | ⟨sl, hp, nx, nt⟩ => forceV x fun x => effK f nx hp fun hp nx => k ⟨putS sl d x, hp, nx, nt⟩
theorem putY_eq {R : Type} (s : SS) (d : Option Nat) (x : V) (f : Eff) (k : SS → R) : s.putY d x f k = k (s.put d x f) := by
  obtain ⟨sl, hp, nx, nt⟩ := s
  simp only [SS.putY, forceV_eq, effK_eq]; rfl
def SS.calledY {R : Type} (s : SS) (d : Option Nat) (x : V) (ids : List Nat) (k : SS → R) : R :=
  match s with
  | ⟨sl, hp, nx, nt⟩ => match flat x with
    | true => k ⟨putS sl d x, hp, nx, nt⟩
    | false => spine (fzHp hp ids) fun hp => k ⟨putS sl d x, hp, nx, nt⟩
theorem calledY_eq {R : Type} (s : SS) (d : Option Nat) (x : V) (ids : List Nat) (k : SS → R) : s.calledY d x ids k = k (s.called d x ids) := by
  obtain ⟨sl, hp, nx, nt⟩ := s
  simp only [SS.calledY, spine_eq, SS.called]
  cases flat x <;> rfl
def stK {R : Type} : Nat → List V → (List (Nat × V) → R) → R
  | _, [], k => k []
  | n, x :: r, k => forceN n.succ fun m => stK m r fun l => k ((n, x) :: l)
theorem stK_eq {R : Type} : ∀ (n : Nat) (l : List V) (k : List (Nat × V) → R), stK n l k = k (stSl n l)
  | _, [], k => rfl
  | n, x :: r, k => by rw [stK, forceN_eq, stK_eq, stSl]
section
variable (P : Program) (K : Nat → List V → Option V) (inl : Nat → Bool)
def isEnd : Exit → Bool
  | .normal | .ret => true
  | _ => false
def runF (run : Code → SS → Option (Exit × SS)) (f : Nat) (ys : List V) (hp : HP) (nx : Nat) : Option (V × HP × Nat) :=
  match P.funcs[f]? with
  | some fn =>
    match fn.body with
    | some c =>
      match Nat.ble ys.length fn.ntmps with
      | true =>
        match stK 0 ys fun sl => run c ⟨sl, hp, nx, fn.ntmps⟩ with
        | some (e, s') => match isEnd e with
          | true => (resV P fn s').map fun x => (x, s'.hp, s'.nx)
          | false => none
        | none => none
      | false => none
    | none => none
  | none => none
def runV (run : Code → SS → Option (Exit × SS)) (f : Nat) (ys : List V) : Option V :=
  match K f ys with
  | some x => some x
  | none => match runF P run f ys [] 0 with
    | some (x, hp, _) => (frz 8 hp x).map (·.1)
    | none => none
def callX {R : Type} (run : Code → SS → Option (Exit × SS)) (f : Nat) (ys : List V) (s : SS) (d : Option Nat) (k : SS → Option R) : Option R :=
  match isGo P f with
  | true =>
    match (if inl f then none else frzAll (frz 8 s.hp) ys) with
    | some (zs, ids) => match runV P K run f zs with
      | some x => s.calledX d x ids k
      | none => none
    | none => match runF P run f ys s.hp s.nx with
      | some (x, hp', nx') => putK s.sl d x fun sl => k ⟨sl, hp', nx', s.nt⟩
      | none => none
  | false => none
def runX {R : Type} (ops : Array Oper) (s : SS) (o : Oper) (k : SS → Option R) : Option R :=
  match dstOk o.dst s.nt with
  | true => match guardV ops s.sl o.guard with
    | some true => match exOp P s.sl s.hp s.nx o.op with
      | some (x, f) => s.putX o.dst x f k
      | none => none
    | some false => s.putX o.dst (.tu []) .none k
    | none => none
  | false => none
def opX {R : Type} (run : Code → SS → Option (Exit × SS)) (ops : Array Oper) (s : SS) (o : Oper) (k : SS → Option R) : Option R :=
  match o.op with
  | .call ⟨.value g, args, _⟩ =>
    match dstOk o.dst s.nt with
    | true => match guardV ops s.sl o.guard with
      | some true => match fnOf (evS s.sl g) with
        | some (f, p, q) => callX P K inl run f (p ++ args.toList.map (evS s.sl) ++ q) s o.dst k
        | none => none
      | some false => s.putX o.dst (.tu []) .none k
      | none => none
    | false => none
  | _ => runX P ops s o k
def opsX (run : Code → SS → Option (Exit × SS)) (ops : Array Oper) : List Oper → SS → Option SS
  | [], s => some s
  | o :: l, s => opX P K inl run ops s o (opsX run ops l)
def opD {R : Type} (run : Code → SS → Option (Exit × SS)) (ops : Array Oper) (s : SS) (o : Oper) (k : Option Nat × List Nat → V → SS → Option R) : Option R :=
  match dstOk o.dst s.nt with
  | true => match guardV ops s.sl o.guard with
    | some true => match o.op with
      | .call ⟨.value g, args, _⟩ => match fnOf (evS s.sl g) with
        | some (f, p, q) => match isGo P f with
          | true => match frzAll (frz 8 s.hp) (p ++ args.toList.map (evS s.sl) ++ q) with
            | some (zs, ids) => match runV P K run f zs with
              | some x => s.calledY o.dst x ids (k (none, ids) x)
              | none => none
            | none => none
          | false => none
        | none => none
      | op => match okOp op with
        | true => match exOp P s.sl s.hp s.nx op with
          | some (x, f) => match noApp f with
            | true => s.putY o.dst x f (k (tgE f, rdOf s.sl op ++ crE f s.nx) x)
            | false => none
          | none => none
        | false => none
    | some false => s.putY o.dst (.tu []) .none (k (none, []) (.tu []))
    | none => none
  | false => none
def opsD (run : Code → SS → Option (Exit × SS)) (full : List Oper) : List Oper → List (Option Nat × List Nat) → List (Nat × V) → SS → Option SS
  | [], tr, sl, s => match chkD full tr.reverse with
    | true => some ⟨sl, s.hp, s.nx, s.nt⟩
    | false => none
  | o :: l, tr, sl, s => opD P K run full.toArray s o fun t x s' => putK sl o.dst x fun sl' => opsD run full l (t :: tr) sl' s'
def stepX (ih : Code → SS → Option (Exit × SS)) : Code → SS → Option (Exit × SS)
  | .skip, s => some (.normal, s)
  | .region _ ops false, s => (opsX P K inl ih ops ops.toList s).map (.normal, ·)
  | .region _ ops true, s => if P.follows .mixedOrders && klB s.hp s.nx then (opsD P K ih ops.toList ops.toList [] s.sl s).map (.normal, ·) else none
  | .seq a b, s => match ih a s with
    | some (.normal, s') => ih b s'
    | r => r
  | .cond c x y, s => match evS s.sl c with
    | .sc (.bool b) => match b with
      | true => ih x s
      | false => ih y s
    | _ => none
  | .block id c, s => match ih c s with
    | some (.exit i, s') => if i = id then some (.normal, s') else some (.exit i, s')
    | r => r
  | .loop c, s => match ih c s with
    | some (.normal, s') => ih (.loop c) s'
    | r => r
  | .exit id, s => some (.exit id, s)
  | .scope c, s => match ih c s with
    | some (.goto _, _) => none
    | r => r
  | .label _, s => some (.normal, s)
  | .ret, s => some (.ret, s)
  | _, _ => none
def exX (n : Nat) : Code → SS → Option (Exit × SS) := Nat.rec (fun _ _ => none) (fun _ ih => stepX P K inl ih) n
theorem exX_succ (n : Nat) : exX P K inl (n + 1) = stepX P K inl (exX P K inl n) := rfl
end
section
variable {P : Program} {K : Nat → List V → Option V} {inl : Nat → Bool}
theorem SameS.rel {B : Base} {S : Nat → Prop} {rho : Nat → Nat} {A : Nat → Prop} {s s' : SS} {a : Act} {w : World} (e : SameS s' s) (h : Rel B S rho A s a w) : Rel B S rho A s' a w := by
  obtain ⟨e1, e2, e3, e4⟩ := e
  exact ⟨fun t => by rw [e1]; exact h.slots t, by rw [e2]; exact h.mem, fun id hid => by rw [e3]; exact h.alt id hid, by rw [e4]; exact h.nt, h.defs⟩
theorem SameS.sops {B : Base} {ops : Array Oper} {l : List Oper} {Q : Exit → SS → Prop} {s s' : SS} (e : SameS s' s) (h : SOps P B ops l Q s') : SOps P B ops l Q s := fun S rho A a w hr => h S rho A a w (e.rel hr)
theorem SameS.swp {B : Base} {c : Code} {Q : Exit → SS → Prop} {s s' : SS} (e : SameS s' s) (h : SWp P B c Q s') : SWp P B c Q s := fun S rho A a w hr => h S rho A a w (e.rel hr)
def Sound (P : Program) (run : Code → SS → Option (Exit × SS)) : Prop := ∀ c s e s', run c s = some (e, s') → ∀ B, SWp P B c (fun e1 s1 => e1 = e ∧ s1 = s') s
def KSound (P : Program) (K : Nat → List V → Option V) : Prop := ∀ f ys x, K f ys = some x → Spec P f ys x
variable {run : Code → SS → Option (Exit × SS)}
theorem runF_parts {f : Nat} {ys : List V} {hp hp' : HP} {nx nx' : Nat} {x : V} (h : runF P run f ys hp nx = some (x, hp', nx')) : ∃ fn c e s', P.funcs[f]? = some fn ∧ fn.body = some c ∧ ys.length ≤ fn.ntmps ∧
    run c ⟨stSl 0 ys, hp, nx, fn.ntmps⟩ = some (e, s') ∧ isEnd e = true ∧ resV P fn s' = some x ∧ s'.hp = hp' ∧ s'.nx = nx' := by
  unfold runF at h
  split at h
  · rename_i fn hf
    split at h
    · rename_i c hb
      split at h
      · rename_i hn
        rw [stK_eq] at h
        split at h
        · rename_i e s' hrun
          split at h
          · rename_i he
            obtain ⟨y, hy, e1⟩ := Option.map_eq h
            simp only [Prod.mk.injEq] at e1
            obtain ⟨rfl, rfl, rfl⟩ := e1
            exact ⟨fn, c, e, s', hf, hb, Nat.le_of_ble_eq_true hn, hrun, he, hy, rfl, rfl⟩
          · cases h
        · cases h
      · cases h
    · cases h
  · cases h
theorem runF_sound (hr : Sound P run) {f : Nat} {ys : List V} {hp hp' : HP} {nx nx' : Nat} {x : V} (h : runF P run f ys hp nx = some (x, hp', nx')) : Inl P f ys hp nx x hp' nx' := by
  obtain ⟨fn, c, e, s', hf, hb, hn, hrun, he, hy, rfl, rfl⟩ := runF_parts h
  refine ⟨fn, c, hf, hb, hn, fun B _ => (hr c _ e s' hrun B).mono ?_⟩
  rintro e1 s1 ⟨rfl, rfl⟩
  cases e1 <;> first | exact ⟨x, hy, Le.refl _ _⟩ | cases he
theorem runV_sound (hr : Sound P run) (hK : KSound P K) {f : Nat} {ys : List V} {x : V} (h : runV P K run f ys = some x) : Spec P f ys x := by
  unfold runV at h
  split at h
  · rename_i hk; cases h; exact hK f ys _ hk
  · split at h
    · rename_i y hp nx' hF
      obtain ⟨⟨z, ids⟩, hz, e⟩ := Option.map_eq h
      cases e
      obtain ⟨fn, c, e, s', hf, hb, hn, hrun, he, hy, rfl, rfl⟩ := runF_parts hF
      refine Spec.of hf hb hn fun B _ => (hr c _ e s' hrun B).mono ?_
      rintro e1 s1 ⟨rfl, rfl⟩
      cases e1 <;> first | exact ⟨y, ids, hy, hz⟩ | cases he
    · cases h
theorem SOps.callV {B : Base} {s : SS} {ops : Array Oper} {Q : Exit → SS → Prop} {o : Oper} {l : List Oper} {g : Operand} {f : Nat} {p q : List V} {args : Array Operand} {ts : Array TypeId} {ys : List V} {ids : List Nat} {x : V} (ho : o.op = .call ⟨.value g, args, ts⟩) (hg : guardV ops s.sl o.guard = some true)
    (hd : dstOk o.dst s.nt = true) (hfn : fnOf (evS s.sl g) = some (f, p, q)) (hgo : isGo P f = true) (hf : frzAll (frz 8 s.hp) (p ++ args.toList.map (evS s.sl) ++ q) = some (ys, ids)) (hs : Spec P f ys x) (k : SOps P B ops l Q (s.called o.dst x ids)) : SOps P B ops (o :: l) Q s := by
  intro S rho A a w hr
  have hw := guard_sound hr.slots hg
  refine wpList_step fun K hK => ?_
  rw [if_pos hw]
  obtain ⟨ps, qs, he, hps, hqs⟩ := fn_sound hfn (ev_sound hr.mem.tab hr.slots g)
  have hall := (hps.append (All.ev hr.mem.tab hr.slots args.toList)).append hqs
  obtain ⟨h1, h2⟩ := frzAll_sound (frz_sound hr.mem 8) hf hall
  have hmf := hr.mem.freeze ids h2
  have hrun : (execOp a.eval o).run P w = .ok (.enter f (ps ++ args.map a.eval ++ qs)) w := by
    simp only [execOp, ho, resolve, he, Deferred.ofValue, Sem.run_bind, Sem.run_pure, Result.andThen_ok, invoke]
    exact callFunc_go hgo _ w
  have hvl : (ps ++ args.map a.eval ++ qs).toList = ps.toList ++ args.toList.map a.eval ++ qs.toList := by simp
  unfold Oper.wp
  rw [hrun]
  refine (hs (addS S rho A ids) w (ps ++ args.map a.eval ++ qs) hmf.slt hmf.tab ⟨by rw [hvl]; exact h1.1, fun i y u hy hu => (h1.2 i y u hy (by rw [← hvl]; exact hu)).rho⟩).mono ?_
  rintro e w' ⟨v, rfl, g, hx⟩
  refine hK _ _ ?_
  have hA : ∀ id, A id → A id ∧ rho id = rho id ∧ ∀ n, szAt w (rho id) n → szAt w' (rho id) n := fun id h => ⟨h, rfl, fun _ => g.szAt⟩
  by_cases hfl : flat x = true
  · have hm' := hr.mem.came g
    refine k (fun b => S b ∨ (w.heap.size ≤ b ∧ b < w'.heap.size)) rho A _ _ ⟨slots_put hr.slots (by rw [hr.nt]; exact hd) (fun b hb => ⟨.inl hb, g.block b (hr.mem.slt b hb)⟩) hA (flat_sound hfl hx.rho.open), ?_, hr.alt, by rw [put_size]; exact hr.nt, by rw [put_defers]; exact hr.defs⟩
    show Mem B _ rho A (if flat x then s.hp else fzHp s.hp ids) w'
    rw [if_pos hfl]; exact hm'
  · have hm' := hmf.came g
    refine k (fun b => addS S rho A ids b ∨ (w.heap.size ≤ b ∧ b < w'.heap.size)) rho A _ _ ⟨slots_put hr.slots (by rw [hr.nt]; exact hd) (fun b hb => ⟨.inl (.inl hb), g.block b (hr.mem.slt b hb)⟩) hA hx.rho.open, ?_, hr.alt, by rw [put_size]; exact hr.nt, by rw [put_defers]; exact hr.defs⟩
    show Mem B _ rho A (if flat x then s.hp else fzHp s.hp ids) w'
    rw [if_neg hfl]; exact hm'
theorem runX_sound {R : Type} {B : Base} {ops : Array Oper} {s : SS} {o : Oper} {l : List Oper} {Q : Exit → SS → Prop} {k : SS → Option R} {r : R} (h : runX P ops s o k = some r) (hk : ∀ s', k s' = some r → SOps P B ops l Q s') : SOps P B ops (o :: l) Q s := by
  unfold runX at h
  split at h
  · rename_i hd
    split at h
    · rename_i hg
      split at h
      · rename_i x f hx
        obtain ⟨s', e1, e2⟩ := putX_eq (R := Option R) s o.dst x f
        rw [e2] at h
        exact SOps.run1 (s' := s.put o.dst x f) (by unfold run1; rw [if_pos hd, hg]; simp only [hx, Option.map_some]) (e1.sops (hk s' h))
      · cases h
    · rename_i hg
      obtain ⟨s', e1, e2⟩ := putX_eq (R := Option R) s o.dst (.tu []) .none
      rw [e2] at h
      exact SOps.run1 (s' := s.put o.dst (.tu []) .none) (by unfold run1; rw [if_pos hd, hg]) (e1.sops (hk s' h))
    · cases h
  · cases h
theorem opX_sound {R : Type} (hr : Sound P run) (hK : KSound P K) {B : Base} {ops : Array Oper} {s : SS} {o : Oper} {l : List Oper} {Q : Exit → SS → Prop} {k : SS → Option R} {r : R} (h : opX P K inl run ops s o k = some r) (hk : ∀ s', k s' = some r → SOps P B ops l Q s') : SOps P B ops (o :: l) Q s := by
  unfold opX at h
  split at h
  · rename_i g args ts ho
    split at h
    · rename_i hd
      split at h
      · rename_i hg
        split at h
        · rename_i f p q hfn
          unfold callX at h
          split at h
          · rename_i hgo
            split at h
            · rename_i zs ids hz
              split at hz
              · cases hz
              · split at h
                · rename_i x hx
                  obtain ⟨s', e1, e2⟩ := calledX_eq (R := Option R) s o.dst x ids
                  rw [e2] at h
                  exact SOps.callV ho hg hd hfn hgo hz (runV_sound hr hK hx) (e1.sops (hk s' h))
                · cases h
            · split at h
              · rename_i x hp' nx' hx
                rw [putK_eq] at h
                exact SOps.inl ho hg hd hfn hgo (runF_sound hr hx) (SameS.sops (s' := ⟨putT s.sl o.dst x, hp', nx', s.nt⟩) ⟨fun t => get_putT s.sl o.dst x t, rfl, rfl, rfl⟩ (hk _ h))
              · cases h
          · cases h
        · cases h
      · rename_i hg
        obtain ⟨s', e1, e2⟩ := putX_eq (R := Option R) s o.dst (.tu []) .none
        rw [e2] at h
        exact SOps.run1 (s' := s.put o.dst (.tu []) .none) (by unfold run1; rw [if_pos hd, hg]) (e1.sops (hk s' h))
      · cases h
    · cases h
  · exact runX_sound h hk
theorem opsX_sound (hr : Sound P run) (hK : KSound P K) {B : Base} {ops : Array Oper} {Q : Exit → SS → Prop} : ∀ {l : List Oper} {s s' : SS}, opsX P K inl run ops l s = some s' → Q .normal s' → SOps P B ops l Q s
  | [], s, s', h, k => by simp only [opsX, Option.some.injEq] at h; subst h; exact SOps.nil k
  | o :: l, s, s', h, k => by
    simp only [opsX] at h
    exact opX_sound hr hK h fun s1 h1 => opsX_sound hr hK h1 k
theorem opD_sound {R : Type} (hr : Sound P run) (hK : KSound P K) {ops : Array Oper} {s : SS} {o : Oper} {k : Option Nat × List Nat → V → SS → Option R} {r : R} (h : opD P K run ops s o k = some r) : ∃ e s', DStep P ops o s e s' ∧ k (pr e) e.x s' = some r := by
  unfold opD at h
  split at h
  · rename_i hd
    split at h
    · rename_i hg
      split at h
      · rename_i g args ts ho
        split at h
        · rename_i f p q hfn
          split at h
          · rename_i hgo
            split at h
            · rename_i zs ids hz
              split at h
              · rename_i x hx
                rw [calledY_eq] at h
                exact ⟨⟨x, none, ids⟩, _, ⟨hd, .inr (.inr (.inl ⟨g, f, p, q, args, ts, zs, flat x, ho, hfn, hg, hgo, .inl hz, runV_sound hr hK hx, rfl, rfl, fun h => h⟩))⟩, h⟩
              · cases h
            · cases h
          · cases h
        · cases h
      · split at h
        · rename_i hok
          split at h
          · rename_i x f hx
            split at h
            · rename_i hna
              rw [putY_eq] at h
              exact ⟨⟨x, tgE f, rdOf s.sl o.op ++ crE f s.nx⟩, _, ⟨hd, .inl ⟨f, hg, hok, hx, rfl, rfl, rfl, hna⟩⟩, h⟩
            · cases h
          · cases h
        · cases h
    · rename_i hg
      rw [putY_eq] at h
      exact ⟨⟨.tu [], none, []⟩, _, ⟨hd, .inr (.inl ⟨hg, rfl, rfl, rfl, rfl⟩)⟩, h⟩
    · cases h
  · cases h
theorem SWp.conv {B : Base} {c : Code} {Q Q' : Exit → SS → Prop} {s : SS} (h : SWp P B c Q s) (hq : ∀ e s1, Q e s1 → ∃ s2, SameS s2 s1 ∧ Q' e s2) : SWp P B c Q' s := by
  intro S rho A a w hr
  refine wp_mono (h S rho A a w hr) ?_
  rintro e a w ⟨S, rho, A, s1, h1, h2⟩
  obtain ⟨s2, h3, h4⟩ := hq e s1 h1
  exact ⟨S, rho, A, s2, h4, h3.rel h2⟩
theorem opsD_sound (hr : Sound P run) (hK : KSound P K) {full : List Oper} : ∀ {l : List Oper} {tr : List (Option Nat × List Nat)} {sl : List (Nat × V)} {s s' : SS}, opsD P K run full l tr sl s = some s' → (∀ t, get sl t = get s.sl t) →
    ∃ es s1, DTr P full.toArray s l es s1 ∧ chkD full (tr.reverse ++ es.map pr) = true ∧ SameS s' s1
  | [], tr, sl, s, s', h, e => by
    simp only [opsD] at h
    split at h
    · rename_i hc; cases h
      exact ⟨[], s, ⟨rfl, rfl⟩, by simpa using hc, e, rfl, rfl, rfl⟩
    · cases h
  | o :: l, tr, sl, s, s', h, e => by
    simp only [opsD] at h
    obtain ⟨en, s1, h1, h2⟩ := opD_sound hr hK h
    rw [putK_eq] at h2
    obtain ⟨es, s2, h3, h4, h5⟩ := opsD_sound hr hK h2 (fun t => by
      rw [get_putT, h1.sl.1]
      cases o.dst with
      | none => exact e t
      | some d => simp only [putS, get]; rw [e])
    exact ⟨en :: es, s2, ⟨en, es, s1, rfl, h1, h3⟩, by simpa using h4, h5⟩
theorem exX_sound (hK : KSound P K) : ∀ n, Sound P (exX P K inl n)
  | 0 => fun c s e s' h => by cases h
  | n + 1 => by
    have ih := exX_sound hK n
    intro c s e s' h B
    rw [exX_succ] at h
    cases c with
    | skip => simp only [stepX, Option.some.injEq, Prod.mk.injEq] at h; obtain ⟨rfl, rfl⟩ := h; exact SWp.skip ⟨rfl, rfl⟩
    | region id ops d =>
      cases d with
      | false =>
        obtain ⟨s1, h1, e1⟩ := Option.map_eq h
        cases e1
        exact SWp.region (l := ops.toList) (opsX_sound ih hK h1 ⟨rfl, rfl⟩)
      | true =>
        simp only [stepX] at h
        split at h
        · rename_i hc
          rw [Bool.and_eq_true] at hc
          obtain ⟨s1, h1, e1⟩ := Option.map_eq h
          cases e1
          obtain ⟨es, s1, k1, k2, k3⟩ := opsD_sound ih hK h1 (fun _ => rfl)
          obtain ⟨st, en, k4, k5, k6⟩ := chk_run (klB_sound hc.2) k1 (by simpa using k2)
          exact SWp.conv (region_draw (id := id) (B := B) (Q := fun e2 s2 => e2 = .normal ∧ s2 = s1) k4 k5 hc.1 ⟨rfl, k6⟩) (by rintro e2 s2 ⟨rfl, rfl⟩; exact ⟨_, k3, rfl, rfl⟩)
        · cases h
    | seq a b =>
      simp only [stepX] at h
      split at h
      · rename_i s1 h1
        refine SWp.seq fun K1 hK1 => (ih a s _ _ h1 B).mono ?_
        rintro e1 s2 ⟨rfl, rfl⟩
        exact hK1 _ (ih b _ _ _ h B)
      · rename_i hne
        refine SWp.seq fun K1 hK1 => (ih a s _ _ h B).mono ?_
        rintro e1 s2 ⟨rfl, rfl⟩
        cases e1 <;> first | exact ⟨rfl, rfl⟩ | exact absurd h (hne _)
    | cond c x y =>
      simp only [stepX] at h
      split at h
      · rename_i b hc
        cases b with
        | true => exact SWp.cond hc (fun _ => ih x s _ _ h B) (fun h => by cases h)
        | false => exact SWp.cond hc (fun h => by cases h) (fun _ => ih y s _ _ h B)
      · cases h
    | block id c =>
      simp only [stepX] at h
      split at h
      · rename_i i s1 h1
        refine SWp.block ((ih c s _ _ h1 B).mono ?_)
        rintro e1 s2 ⟨rfl, rfl⟩
        simp only [blockQ]
        split at h
        · rename_i hi; rw [if_pos hi]; cases h; exact ⟨rfl, rfl⟩
        · rename_i hi; rw [if_neg hi]; cases h; exact ⟨rfl, rfl⟩
      · rename_i hne
        refine SWp.block ((ih c s _ _ h B).mono ?_)
        rintro e1 s2 ⟨rfl, rfl⟩
        cases e1 <;> first | exact ⟨rfl, rfl⟩ | exact absurd h (hne _ _)
    | loop c =>
      refine SWp.loop (α := Nat × SS) (fun x => x.2) (fun x => x.1 ≤ n + 1 ∧ exX P K inl x.1 (.loop c) x.2 = some (e, s')) (fun x => x.1) (n + 1, s) (Le.refl _ _) ⟨znb _, h⟩ ?_
      rintro ⟨m, s1⟩ ⟨hm, hx⟩ K1 hK1
      cases m with
      | zero => cases hx
      | succ m =>
        have ihm : Sound P (exX P K inl m) := by
          rcases Nat.lt_or_eq_of_le (Nat.le_of_succ_le_succ hm) with hlt | heq
          · exact exX_sound hK m
          · rw [heq]; exact ih
        simp only [exX_succ, stepX] at hx
        split at hx
        · rename_i s2 h1
          refine (ihm c s1 _ _ h1 B).mono ?_
          rintro e1 s3 ⟨rfl, rfl⟩
          exact hK1 _ (m, s3) (Le.refl _ _) ⟨by simp only at hm ⊢; omega, hx⟩ (by simp)
        · rename_i hne
          refine (ihm c s1 _ _ hx B).mono ?_
          rintro e1 s3 ⟨rfl, rfl⟩
          cases e1 <;> first | exact ⟨rfl, rfl⟩ | exact absurd hx (hne _)
    | exit id => simp only [stepX, Option.some.injEq, Prod.mk.injEq] at h; obtain ⟨rfl, rfl⟩ := h; exact SWp.exit ⟨rfl, rfl⟩
    | scope c =>
      simp only [stepX] at h
      split at h
      · cases h
      · rename_i hne
        refine SWp.scope ((ih c s _ _ h B).mono ?_)
        rintro e1 s2 ⟨rfl, rfl⟩
        cases e1 <;> first | exact ⟨rfl, rfl⟩ | exact absurd h (hne _ _)
    | label l => simp only [stepX, Option.some.injEq, Prod.mk.injEq] at h; obtain ⟨rfl, rfl⟩ := h; exact SWp.label ⟨rfl, rfl⟩
    | ret => simp only [stepX, Option.some.injEq, Prod.mk.injEq] at h; obtain ⟨rfl, rfl⟩ := h; exact SWp.ret ⟨rfl, rfl⟩
    | _ => cases h
theorem Spec.eval (hK : KSound P K) (n : Nat) (inl : Nat → Bool) {f : Nat} {ys : List V} {x : V} (h : runV P (fun _ _ => none) (exX P K inl n) f ys = some x) : Spec P f ys x := by
  exact runV_sound (K := fun _ _ => none) (exX_sound hK n) (fun _ _ _ h => by cases h) h
end
end Go.Proofs.YtphilljhfdlfdaaGreat
namespace Go.Proofs.YtphilljhfdlfdaaGreat
open Go.RowKit
variable {P : Program} {B : Base}
def cloN : V → Bool
  | .sc (.slice none 0 0) => true
  | x => clo x
theorem BMap.cloN {f : Nat → Nat} {D : Nat → Prop} {k : Blk} (h : k.cs.all cloN = true) : BMap f D (some k) k := ⟨k, rfl, rfl, rfl, fun i y hy => ⟨y, hy, by
  have hc := List.all_eq_true.1 h y (List.mem_of_getElem? hy)
  unfold Go.Proofs.YtphilljhfdlfdaaGreat.cloN at hc
  split at hc
  · exact VMap.nil
  · exact VMap.clo hc⟩⟩
def restLt (hp : List (Nat × Blk)) (q0 d q : Nat) (ids : List Nat) : List (Nat × Blk) → Prop
  | [] => True
  | p :: r => (p.1 < q0 ∧ p.1 ≠ d ∧ p.1 ≠ q ∧ p.1 ∉ ids ∧ hget hp p.1 = some p.2 ∧ p.2.cs.all cloN = true) ∧ restLt hp q0 d q ids r
theorem restLt_get {hp : List (Nat × Blk)} {q0 d q : Nat} {ids : List Nat} : ∀ {r : List (Nat × Blk)}, restLt hp q0 d q ids r → ∀ i b, hget r i = some b → i < q0 ∧ i ≠ d ∧ i ≠ q ∧ i ∉ ids ∧ hget hp i = some b ∧ b.cs.all cloN = true
  | [], _, i, b, h => by cases h
  | p :: r, hr, i, b, h => by
    simp only [hget] at h
    split at h
    · rename_i e
      subst e
      cases h
      exact hr.1
    · exact restLt_get hr.2 i b h
theorem clo_map {f : Nat → Nat} {D : Nat → Prop} {pre : List V} {x y : V} (hp : pre.all clo = true) (h : VMap f D x y) : ∀ (i : Nat) (z : V), (pre ++ [y])[i]? = some z → ∃ u, (pre ++ [x])[i]? = some u ∧ VMap f D u z := by
  intro i z hz
  rcases Nat.lt_trichotomy i pre.length with g | g | g
  · rw [List.getElem?_append_left g] at hz ⊢
    exact ⟨z, hz, VMap.clo (List.all_eq_true.1 hp z (List.mem_of_getElem? hz))⟩
  · rw [List.getElem?_append_right (by omega), g, Nat.sub_self] at hz ⊢
    cases hz
    exact ⟨x, rfl, h⟩
  · rw [List.getElem?_append_right (by omega)] at hz
    obtain ⟨n, hn⟩ : ∃ n, i - pre.length = n + 1 := ⟨i - pre.length - 1, by omega⟩
    rw [hn] at hz
    simp at hz
end Go.Proofs.YtphilljhfdlfdaaGreat
namespace Go.Proofs.YtphilljhfdlfdaaGreat
open Go.RowKit
variable {P : Program} {B : Base}
def mapL (f : Nat → Nat) (D : Nat → Prop) : List V → List V → Prop
  | _, [] => True
  | x :: xs, y :: ys => VMap f D x y ∧ mapL f D xs ys
  | [], _ :: _ => False
theorem mapL_get {f : Nat → Nat} {D : Nat → Prop} : ∀ {xs ys : List V}, mapL f D xs ys → ∀ (i : Nat) (y : V), ys[i]? = some y → ∃ x, xs[i]? = some x ∧ VMap f D x y
  | _, [], _, i, y, h => by simp at h
  | x :: xs, y0 :: ys, hm, i, y, h => by
    cases i with
    | zero => cases h; exact ⟨x, rfl, hm.1⟩
    | succ i => simp at h ⊢; exact mapL_get hm.2 i y h
  | [], _ :: _, hm, _, _, _ => hm.elim
theorem mapL_nil {f : Nat → Nat} {D : Nat → Prop} {xs : List V} : mapL f D xs [] := by cases xs <;> trivial
theorem mapL_cons {f : Nat → Nat} {D : Nat → Prop} {x y : V} {xs ys : List V} (h : VMap f D x y) (k : mapL f D xs ys) : mapL f D (x :: xs) (y :: ys) := ⟨h, k⟩
theorem BMap.list {f : Nat → Nat} {D : Nat → Prop} {ty : TypeId} {fz : Bool} {xs ys : List V} (h : mapL f D xs ys) : BMap f D (some ⟨ty, xs, fz⟩) ⟨ty, ys, fz⟩ := ⟨_, rfl, rfl, rfl, mapL_get h⟩
def mapHp (f : Nat → Nat) (D : Nat → Prop) (hp : List (Nat × Blk)) : List (Nat × Blk) → Prop
  | [] => True
  | p :: r => BMap f D (hget hp (f p.1)) p.2 ∧ mapHp f D hp r
theorem mapHp_get {f : Nat → Nat} {D : Nat → Prop} {hp : List (Nat × Blk)} : ∀ {r : List (Nat × Blk)}, mapHp f D hp r → ∀ i k', hget r i = some k' → BMap f D (hget hp (f i)) k'
  | [], _, i, k', h => by cases h
  | p :: r, hr, i, k', h => by
    simp only [hget] at h
    split at h
    · rename_i e; subst e; cases h; exact hr.1
    · exact mapHp_get hr.2 i k' h
theorem mapHp_nil {f : Nat → Nat} {D : Nat → Prop} {hp : List (Nat × Blk)} : mapHp f D hp [] := trivial
theorem mapHp_cons {f : Nat → Nat} {D : Nat → Prop} {hp r : List (Nat × Blk)} {i : Nat} {k k' : Blk} (h : hget hp (f i) = some k) (h1 : BMap f D (some k) k') (h2 : mapHp f D hp r) : mapHp f D hp ((i, k') :: r) := ⟨h ▸ h1, h2⟩
theorem Le.ren {sl sl' : List (Nat × V)} {hp hp' : List (Nat × Blk)} {nx nx' nt m : Nat} (a b : Nat) (hB : B.Old m) (ha : m ≤ a) (hb : nx' ≤ b) (hm : m ≤ nx')
    (h1 : mapSl (fun i => if i = a then b else i) (fun i => i < nx') sl sl') (h2 : mapHp (fun i => if i = a then b else i) (fun i => i < nx') hp hp') : Le B ⟨sl, hp, nx, nt⟩ ⟨sl', hp', nx', nt⟩ :=
  Le.map (fun i => if i = a then b else i) (fun i => i < nx') hB (fun i hi => ⟨by omega, if_neg (by omega)⟩) (fun i hi => hi) (fun i j hi hj e => by split at e <;> split at e <;> omega) h1 fun i k' h _ => mapHp_get h2 i k' h
end Go.Proofs.YtphilljhfdlfdaaGreat
namespace Go.Proofs.YtphilljhfdlfdaaGreat
end Go.Proofs.YtphilljhfdlfdaaGreat
namespace Go.Proofs.YtphilljhfdlfdaaGreat
open Go
section
variable {P : Program}
theorem Spec.runD {f g i0 i1 n : Nat} {fn : Func} {r0 : List Oper} {o : Oper} {rest : Code} {args : List V} {x : V} {s0 s1 : SS} (hf : P.funcs[f]? = some fn) (hb : fn.body = some (.seq (.region i0 r0.toArray false) (.seq (.region i1 #[o] false) rest)))
    (ho : o.op = .defer { callee := .value (.func g), args := #[], argTypes := #[] }) (hd : o.dst = none) (hg : o.guard = none) (hi : Idle P g) (hnt : fn.ntmps = n) (hn : args.length ≤ n) (h0 : SS.start args n = s0) (h1 : runL P r0.toArray s0 r0 = some s1)
    (h : ∀ B : Base, B.Old 0 → SC P B [rest] (retQ P fn x) s1) : Spec P f args x := by
  subst hnt; subst h0
  intro S w vs hS hT hargs
  have hlen : vs.size = args.length := by have := hargs.1; simpa using this.symm
  refine calls_of_wp_defers hf hb ?_
  have hB : (⟨w, S, fun _ => False, fun _ => 0, fun _ => False, []⟩ : Base).Old 0 := fun _ h => h.elim
  refine wp_seq (wp_mono (SWp.region (Q := fun e s => e = .normal ∧ s = s1) (SOps.all h1 ⟨rfl, rfl⟩) S (fun _ => 0) (fun _ => False) ⟨vs ++ Array.replicate (fn.ntmps - vs.size) undef, []⟩ w (B := ⟨w, S, fun _ => False, fun _ => 0, fun _ => False, []⟩) ?_) ?_)
  · refine ⟨fun t => ?_, ?_, fun _ h => h.elim, ?_, rfl⟩
    · show R S (fun _ => 0) w (fun _ => False) (get (stSl 0 args) t) _
      rw [get_start, if_pos (znc _), Nat.sub_zero]
      cases ht : args[t]? with
      | none => exact .junk _
      | some y =>
        have hlt := (List.getElem?_eq_some_iff.1 ht).1
        have hu : vs.toList[t]? = some (vs[t]'(by omega)) := by simp [hlen, hlt]
        have := hargs.2 t y _ ht hu
        have he : (⟨vs ++ Array.replicate (fn.ntmps - vs.size) undef, []⟩ : Act).eval (.tmp t) = vs[t]'(by omega) := by
          simp [Act.eval, Array.getElem?_append, hlen, hlt]
        rw [he]; exact this
    · exact {
        cells := fun id k hk => by cases hk
        fz := fun id k hk => by cases hk
        own := fun id k hk => by cases hk
        inj := fun id id' k k' hk => by cases hk
        slt := hS
        sub := fun _ h => h
        base := fun _ h => .inl h
        frame := ⟨rfl, rfl, rfl, znb _, fun _ _ _ => rfl, fun _ _ => rfl, fun _ _ h => h, hS, hT⟩
        keep := fun id h => h.elim }
    · simp [SS.start]; omega
  · rintro e a w1 ⟨S1, rho, A, s, ⟨rfl, rfl⟩, hr⟩
    have had : a.defers = [] := hr.defs
    refine wp_seq (wp_region_lit (l := [o]) (wpList_step fun K hK => ?_))
    have hw : Region.wanted o (yielded [o].toArray a.tmps) = true := by unfold Region.wanted; rw [hg]
    rw [hw, if_pos rfl]
    have hx : (execOp a.eval o).run P w1 = .ok (.defer ⟨.fn (.func g) #[], #[]⟩) w1 := by
      obtain ⟨d, op, g, ty, pos, aft⟩ := o
      simp only at ho
      subst ho
      simp only [execOp, resolve, List.map_toArray, zle, Act.eval, Deferred.ofValue, Sem.run_bind, Sem.run_pure]
      rfl
    unfold Oper.wp
    rw [hx, Oper.upon_defer]
    refine hK _ _ (wpList_nil ?_)
    rw [hd, had]
    refine wp_mono (SC.of (h ⟨w, S, fun _ => False, fun _ => 0, fun _ => False, [⟨.fn (.func g) #[], #[]⟩]⟩ (fun _ h => h.elim)) S1 rho A ⟨a.tmps, [⟨.fn (.func g) #[], #[]⟩]⟩ w1 ?_) ?_
    · exact ⟨hr.slots, {
        cells := hr.mem.cells
        fz := hr.mem.fz
        own := hr.mem.own
        inj := hr.mem.inj
        slt := hr.mem.slt
        sub := hr.mem.sub
        base := hr.mem.base
        frame := ⟨hr.mem.frame.os, hr.mem.frame.tape, hr.mem.frame.output, hr.mem.frame.size, hr.mem.frame.block, hr.mem.frame.stay, hr.mem.frame.sz, hr.mem.frame.lt, hr.mem.frame.tab⟩
        keep := hr.mem.keep }, hr.alt, hr.nt, rfl⟩
    · rintro e a w' ⟨S', rho, A, s, hq, hr⟩
      have fin : (∃ y ids, resV P fn s = some y ∧ frz 8 s.hp y = some (x, ids)) → Leaves P fn a.tmps (fun e w' => ∃ v', e = .returned v' ∧ Grow w w' ∧ Rc (fun b => S b ∨ (w.heap.size ≤ b ∧ b < w'.heap.size)) w' x v') a.defers .returning w' := by
        rintro ⟨y, ids, h1, h2⟩
        obtain ⟨v, h3, h4⟩ := res_sound (P := P) hr h1
        have h5 := frz_sound hr.mem 8 y v x ids h2 h4
        have hmf := hr.mem.freeze ids h5.live
        have hdf : a.defers = [⟨.fn (.func g) #[], #[]⟩] := hr.defs
        rw [hdf]
        refine leaves_cons (f := g) (args := #[]) (by simp) (by simpa [go_sem] using (hi w').1) ((hi w').2.mono ?_)
        rintro e u w2 ⟨⟨v2, rfl⟩, rfl, rfl⟩
        refine ⟨v, h3, v, rfl, ⟨hr.mem.frame.os, hr.mem.frame.tape, hr.mem.frame.output, hr.mem.frame.size, fun b hb => hr.mem.frame.block b hb (fun h => h)⟩, ?_⟩
        refine (h5.rep.wide fun b hb => ?_).rho
        rcases hmf.base b hb with h | h | h
        · exact .inl h
        · exact .inr ⟨h, hmf.slt b hb⟩
        · exact h.elim
      cases e with
      | normal => exact fin hq
      | ret => exact fin hq
      | _ => exact hq.elim
end
end Go.Proofs.YtphilljhfdlfdaaGreat
namespace Go.Proofs.YtphilljhfdlfdaaGreat
open Go.RowKit
def SR (P : Program) (B : Base) (c : Code) (cs : List Code) (Q : Exit → SS → Prop) : Nat → SS → Prop
  | 0, _ => False
  | n + 1, s => SC P B [c] (thenQ (SR P B c cs Q n) (thenQ (SC P B cs Q) Q)) s
theorem SR.next {P : Program} {B : Base} {c : Code} {cs : List Code} {Q : Exit → SS → Prop} {n : Nat} {s : SS} (h : SC P B [c] (thenQ (SR P B c cs Q n) (thenQ (SC P B cs Q) Q)) s) : SR P B c cs Q (n + 1) s := h
theorem SC.loopN {P : Program} {B : Base} {c : Code} {cs : List Code} {Q : Exit → SS → Prop} {s : SS} (n : Nat) (h : SR P B c cs Q n s) : SC P B (.loop c :: cs) Q s := by
  have key : ∀ n s, SR P B c cs Q n s → ∀ S rho A a w, Rel B S rho A s a w → Code.rounds P c (Post B (thenQ (SC P B cs Q) Q)) n a w := by
    intro n
    induction n with
    | zero => intro s h; exact h.elim
    | succ n ih =>
      intro s h S rho A a w hr
      have h1 : SWp P B c (thenQ (SC P B [] (thenQ (SR P B c cs Q n) (thenQ (SC P B cs Q) Q))) (thenQ (SR P B c cs Q n) (thenQ (SC P B cs Q) Q))) s := h
      refine wp_mono (h1 S rho A a w hr) ?_
      rintro e a w ⟨S, rho, A, s', hq, hr'⟩
      cases e with
      | normal => exact ih s' hq S rho A a w hr'
      | _ => exact ⟨S, rho, A, s', hq, hr'⟩
  intro S rho A a w hr
  exact wp_loop_rounds n (key n s h S rho A a w hr)
end Go.Proofs.YtphilljhfdlfdaaGreat
namespace Go.Proofs.YtphilljhfdlfdaaGreat
open Go.RowKit
variable {P : Program} {B : Base}
end Go.Proofs.YtphilljhfdlfdaaGreat
namespace Go.Proofs.YtphilljhfdlfdaaGreat
open Go.RowKit
section
variable {P : Program} {B : Base}
theorem hasId_some : ∀ {l : List (Nat × Blk)} {id : Nat}, hasId l id = true → ∃ k, hget l id = some k := by
  intro l id
  induction l with
  | nil => intro h; cases h
  | cons p r ih =>
    intro h
    simp only [hasId, Bool.or_eq_true, decide_eq_true_eq] at h
    by_cases e : id = p.1
    · exact ⟨p.2, by simp [hget, e]⟩
    · obtain ⟨k, hk⟩ := ih (h.resolve_left e)
      exact ⟨k, by simp [hget, e, hk]⟩
theorem SInlQ.part {ops : Array Oper} {l : List Oper} {cs : List Code} {Q : Exit → SS → Prop} {f : Nat} {ys : List V} {d : Option Nat} (pre : List (Nat × Blk)) {hpS : List (Nat × Blk)} {nx nt : Nat} {sl : List (Nat × V)} {C : V → List (Nat × Blk) → Nat → Prop} (p : Nat → Prop) (hI : InlQ P f ys hpS nx C) (hm : ∀ id k, hget pre id = some k → ¬ p id) (hS : ∀ id k, hget hpS id = some k → p id)
    (hC : ∀ x hp' nx', C x hp' nx' → Only p x ∧ OnlyH p hp' ∧ ∀ id k, hget hp' id = some k → p id) (k : ∀ x hp' nx', C x hp' nx' → SO P B ops l cs Q ⟨putS sl d x, pre ++ hp', nx', nt⟩) : SInlQ P B f ys d ops l cs Q ⟨sl, pre ++ hpS, nx, nt⟩ := by
  have hsub : ∀ id k, hget hpS id = some k → hget (pre ++ hpS) id = some k := by
    intro id q hq
    rw [hget_app]
    cases e : hget pre id with
    | none => exact hq
    | some q' => exact absurd (hS id q hq) (hm id q' e)
  have hrest : ∀ i, p i → hasId (restH (pre ++ hpS) hpS) i = false := by
    intro i hi
    rw [hasId_rest]
    cases e : hasId hpS i with
    | true => simp
    | false =>
      have h1 : hasId pre i = false := by
        cases h : hasId pre i with
        | false => rfl
        | true => obtain ⟨q, hq⟩ := hasId_some h; exact absurd hi (hm i q hq)
      have : hasId (pre ++ hpS) i = false := by
        have happ : ∀ (a b : List (Nat × Blk)) (i : Nat), hasId (a ++ b) i = (hasId a i || hasId b i) := by
          intro a b i
          induction a with
          | nil => simp [hasId]
          | cons p r ih => simp [hasId, ih, Bool.or_assoc]
        rw [happ, h1, e]; rfl
      rw [this]; rfl
  refine ⟨hpS, C, hsub, hI, fun x hp' nx' h => ?_⟩
  obtain ⟨h1, h2, h3⟩ := hC x hp' nx' h
  refine ⟨h1.mono hrest, h2.mono hrest, SO.weak (Le.less (fun id q hq => ?_) (znb _)) (k x hp' nx' h)⟩
  rw [hget_app] at hq ⊢
  cases e : hget pre id with
  | some q' =>
    rw [e] at hq
    cases hq
    have e2 : hget hp' id = none := by
      cases e3 : hget hp' id with
      | none => rfl
      | some q' => exact absurd (h3 id q' e3) (hm id _ e)
    rw [e2]
    simp only
    rw [hget_rest, if_neg, hget_app, e]
    intro hh
    obtain ⟨q', hq'⟩ := hasId_some hh
    exact absurd (hS id q' hq') (hm id _ e)
  | none =>
    rw [e] at hq
    simp only at hq
    rw [hq]
end
end Go.Proofs.YtphilljhfdlfdaaGreat
namespace Go.Proofs.YtphilljhfdlfdaaGreat
open Go.RowKit
variable {P : Program}
theorem retIQ.mono {fn : Func} {B : Base} {Q Q' : V → List (Nat × Blk) → Nat → Prop} (h : ∀ y hp nx, Q y hp nx → Q' y hp nx) {e : Exit} {s : SS} (hr : retIQ P fn B Q e s) : retIQ P fn B Q' e s := by
  cases e <;> first | exact hr.elim | exact (let ⟨y, x, hp, nx, h1, h2, h3⟩ := hr; ⟨y, x, hp, nx, h1, h _ _ _ h2, h3⟩)
theorem InlQ.mono {f : Nat} {args : List V} {hp : List (Nat × Blk)} {nx : Nat} {Q Q' : V → List (Nat × Blk) → Nat → Prop} (hI : InlQ P f args hp nx Q) (h : ∀ y hp nx, Q y hp nx → Q' y hp nx) : InlQ P f args hp nx Q' := by
  obtain ⟨fn, c, h1, h2, h3, h4⟩ := hI
  refine ⟨fn, c, h1, h2, h3, h4.imp (fun h4 B hB => SWp.mono (h4 B hB) fun e s => retIQ.mono h) ?_⟩
  rintro ⟨s1, rest, h5, h6⟩
  exact ⟨s1, rest, h5, fun B hB => SWp.mono (h6 B hB) fun e s => retIQ.mono h⟩
theorem AppC.of {f id : Nat} {ys : List V} {k k' : Blk} {off len z : Nat} {cap : Option Nat} (hl : 0 < len) (hfz : k'.fz = false) (hsc2 : ∀ y ∈ k'.cs, ∃ v, y = .sc v)
    (hI : ∀ nx, id < nx → InlQ P f ys [(id, k)] nx fun y hp' nx' => ∃ q, q < nx' ∧ y = .sl q off len z cap ∧ hp' = [(q, k')]) : AppC P f ys id k off len z cap k' := by
  intro B S rho A w vs m hm hA hv
  have hb : ∀ j, A j → j < m + id + 1 := fun j hj => by have := hA j hj; omega
  refine ((hI (m + id + 1) (by omega)).callsI hm hb hv).mono ?_
  rintro e w' ⟨v, rfl, x, hp', nx', S', rho', A', ⟨q, hq, rfl, rfl⟩, h1, h2, h3, h4, h5⟩
  have hk : hget [(q, k')] q = some k' := by simp [hget]
  have hL : ∀ b, (Base.inner S rho A [(id, k)] w).L b → A id ∧ rho id = b := by
    rintro b ⟨i, kk, hi, ha, hr⟩
    simp only [hget] at hi
    split at hi
    · rename_i e; subst e; exact ⟨ha, hr⟩
    · cases hi
  cases h5 with
  | sln h => omega
  | sl h0 hl' hm' hc hz =>
    refine ⟨_, rho' q, rfl, ⟨h3.frame.os, h3.frame.tape, h3.frame.output, h3.frame.size, fun b hb hn => h3.frame.block b hb (fun h => hn (hL b h)), fun b n hn => h3.frame.sz b n hn⟩, fun b hb => (h1 b hb).2, (h3.own q k' hk h0).imp (fun h => h) (hL _), fun h => h3.fz q k' hk h0 hfz (h1 _ h).1, ?_, .sl rfl hl' hm' hc hz⟩
    obtain ⟨cells, c1, c2⟩ := h3.cells q k' hk h0
    refine ⟨cells, c1, fun i x hx => ?_⟩
    obtain ⟨u, hu, hr⟩ := c2 i x hx
    obtain ⟨v, rfl⟩ := hsc2 x (List.mem_of_getElem? hx)
    cases hr
    exact ⟨_, hu, .sc _⟩
section
variable {B : Base} {s : SS}
def SApp (P : Program) (B : Base) (f : Nat) (ys : List V) (d : Option Nat) (ops : Array Oper) (l : List Oper) (cs : List Code) (Q : Exit → SS → Prop) (s : SS) : Prop :=
  ∃ id k off len z cap k', hget s.hp id = some k ∧ AppC P f ys id k off len z cap k' ∧ SO P B ops l cs Q (s.put d (.sl s.nx off len z cap) (.app id k'))
theorem SO.callA {ops : Array Oper} {l : List Oper} {cs : List Code} {Q : Exit → SS → Prop} {f : Nat} {args : List Operand} {ts : Array TypeId} {d : Option Tmp} {ty : TypeId} {pos : String} {after : Array Edge} {gd : Option (Nat × Bool)} {ys : List V}
    (hgo : isGo P f = true) (hy : args.map (evS s.sl) = ys) (hg : guardV ops s.sl gd = some true ∧ dstOk d s.nt = true) (k : SApp P B f ys d ops l cs Q s) : SO P B ops (⟨d, .call ⟨.value (.func f), args.toArray, ts⟩, ty, pos, after, gd⟩ :: l) cs Q s := by
  subst hy
  obtain ⟨id, k0, off, len, z, cap, k', hk, hs, k⟩ := k
  intro S rho A a w hr
  have hw := guard_sound (o := (⟨d, .call ⟨.value (.func f), args.toArray, ts⟩, ty, pos, after, gd⟩ : Oper)) hr.slots hg.1
  refine wpList_step fun K hK => ?_
  rw [if_pos hw]
  have hall := All.ev hr.mem.tab hr.slots args
  have hrun : (execOp a.eval ⟨d, .call ⟨.value (.func f), args.toArray, ts⟩, ty, pos, after, gd⟩).run P w = .ok (.enter f (args.toArray.map a.eval)) w := by
    simp only [execOp, resolve, Act.eval, Deferred.ofValue, Sem.run_bind, Sem.run_pure, Result.andThen_ok, invoke]
    have := callFunc_go hgo (args.toArray.map a.eval) w
    simpa using this
  unfold Oper.wp
  rw [hrun]
  have hm1 : Mem B S rho A [(id, k0)] w := hr.mem.less fun j q hj => by
    simp only [hget] at hj
    split at hj
    · rename_i e; subst e; cases hj; exact hk
    · cases hj
  refine (hs B S rho A w (args.toArray.map a.eval) _ hm1 hr.alt (by simpa using hall)).mono ?_
  rintro e w' ⟨v, b, rfl, g, hS, hbn, hnb, hcs, hv⟩
  have hid : ¬ A s.nx := fun h => Nat.lt_irrefl _ (hr.alt _ h)
  have hm2 := hr.mem.moved hk g hS
  have hm3 := hm2.come s.nx hid k' b (fun j q hq ha e => by
    rw [hget_hdel] at hq
    split at hq
    · cases hq
    · rcases hbn with hbn | ⟨hbn, hbr⟩
      · have := hr.mem.lt hq ha; omega
      · exact absurd (hr.mem.inj j id q k0 hq hk ha hbn (e.trans hbr.symm)) ‹_›) hnb
    (hbn.elim (fun h => .inl (Nat.le_trans hr.mem.frame.size h)) (fun ⟨h1, h2⟩ => h2 ▸ hr.mem.own id k0 hk h1)) (hcs.mono rfl (fun _ h => h.elim) (fun _ h => h.elim))
  refine hK _ _ (k S (fun j => if j = s.nx then b else rho j) (fun j => j = s.nx ∨ A j) _ _ ⟨slots_put hr.slots (by rw [hr.nt]; exact hg.2) (fun b hb => ⟨hb, hS b hb⟩) (fun i hi => ⟨.inr hi, if_neg (fun e : i = s.nx => hid (e ▸ hi)), fun n => g.sz _ n⟩) (hv.renum (.inl rfl) (if_pos rfl)), hm3, ?_, by rw [put_size]; exact hr.nt, by rw [put_defers]; exact hr.defs⟩)
  rintro i (rfl | h)
  · exact Nat.lt_succ_self _
  · exact Nat.lt_succ_of_lt (hr.alt i h)
theorem SApp.of {ops : Array Oper} {l : List Oper} {cs : List Code} {Q : Exit → SS → Prop} {f : Nat} {ys : List V} {d : Option Nat} {id : Nat} {k k' : Blk} {off len z n : Nat} {c : Option Nat} {s' : SS} (hs : AppC P f ys id k off len z c k') (hk : hget s.hp id = some k) (hn : s.nx = n) (hp : s.put d (.sl n off len z c) (.app id k') = s') (h : SO P B ops l cs Q s') : SApp P B f ys d ops l cs Q s := by
  subst hn; subst hp; exact ⟨id, k, off, len, z, c, k', hk, hs, h⟩
end
end Go.Proofs.YtphilljhfdlfdaaGreat
namespace Go.Proofs.YtphilljhfdlfdaaGreat
open Go.RowKit
variable {P : Program} {B : Base}
theorem only_true : ∀ x : V, Only (fun _ => True) x
  | .sc v => .sc v
  | .ag cs => .ag fun x _ => only_true x
  | .tu cs => .tu fun x _ => only_true x
  | .pt _ _ => .pt trivial
  | .sl _ _ _ _ _ => .sl trivial
  | .im cs n => .im cs n
  | .pi cs => .pi cs
  | .fn _ a b => .fn (fun x _ => only_true x) (fun x _ => only_true x)
  | .junk => .junk
theorem onlyH_true : ∀ l : List (Nat × Blk), OnlyH (fun _ => True) l
  | [] => trivial
  | _ :: r => ⟨fun y _ => only_true y, onlyH_true r⟩
theorem restH_self (l : List (Nat × Blk)) : restH l l = [] := by
  have h : ∀ i, hasId (restH l l) i = false := fun i => by rw [hasId_rest]; cases hasId l i <;> rfl
  cases e : restH l l with
  | nil => rfl
  | cons p r =>
    have := h p.1
    rw [e] at this
    simp [hasId] at this
theorem SInlQ.all {ops : Array Oper} {l : List Oper} {cs : List Code} {Q : Exit → SS → Prop} {f : Nat} {ys : List V} {d : Option Nat} {hp : List (Nat × Blk)} {nx nt : Nat} {sl : List (Nat × V)} {C : V → List (Nat × Blk) → Nat → Prop} (hI : InlQ P f ys hp nx C)
    (k : ∀ x hp' nx', C x hp' nx' → SO P B ops l cs Q ⟨putS sl d x, hp', nx', nt⟩) : SInlQ P B f ys d ops l cs Q ⟨sl, hp, nx, nt⟩ := by
  have hr : ∀ i : Nat, True → hasId (restH hp hp) i = false := fun i _ => by rw [restH_self]; rfl
  refine ⟨hp, C, fun _ _ h => h, hI, fun x hp' nx' hC => ⟨(only_true x).mono hr, (onlyH_true hp').mono hr, ?_⟩⟩
  have := k x hp' nx' hC
  show SO P B ops l cs Q ⟨putS sl d x, hp' ++ restH hp hp, nx', nt⟩
  rwa [restH_self, List.append_nil]
theorem NewP.ofQ {f : Nat} {args : List V} {k : Blk} {len z : Nat} (hsc : ∀ y ∈ k.cs, ∃ v, y = .sc v) (hI : InlQ P f args [] 0 fun y hp' nx' => ∃ q, q < nx' ∧ y = .sl q 0 len z none ∧ hp' = [(q, k)]) : NewP P f args k 0 len z none := by
  refine ⟨rx_sl 0 len z none, ?_⟩
  intro S w vs hS hT hargs
  have hm : Mem ⟨w, S, fun _ => False, fun _ => 0, fun _ => False, []⟩ S (fun _ => 0) (fun _ => False) [] w := {
    cells := fun id k hk => by cases hk
    fz := fun id k hk => by cases hk
    own := fun id k hk => by cases hk
    inj := fun id id' k k' hk => by cases hk
    slt := hS
    sub := fun _ h => h
    base := fun _ h => .inl h
    frame := ⟨rfl, rfl, rfl, znb _, fun _ _ _ => rfl, fun _ _ => rfl, fun _ _ h => h, hS, hT⟩
    keep := fun id h => h.elim }
  refine (hI.callsI hm (fun _ h => h.elim) (vs := vs) hargs).mono ?_
  rintro e w' ⟨v, rfl, x, hp', nx', S', rho', A', ⟨q, hq, rfl, rfl⟩, h1, h2, h3, h4, h5⟩
  have hL : ∀ b, ¬ (Base.inner S (fun _ => 0) (fun _ => False) [] w).L b := by
    rintro b ⟨i, kk, hi, ha, hr⟩
    cases hi
  have hk : hget [(q, k)] q = some k := by simp [hget]
  refine ⟨v, rfl, ⟨h3.frame.os, h3.frame.tape, h3.frame.output, h3.frame.size, fun b hb => h3.frame.block b hb (hL b)⟩, ?_⟩
  cases h5 with
  | sln h => exact .inr fun S rho w A id => .sln h
  | sl h0 hl' hm' hc hz =>
    refine .inl ⟨rho' q, fun _ => False, ?_, fun _ h => h.elim, fun h => h, ?_, .sl rfl hl' hm' hc hz⟩
    · exact (h3.own q k hk h0).elim (fun h => h) (fun h => (hL _ h).elim)
    · obtain ⟨cells, c1, c2⟩ := h3.cells q k hk h0
      refine ⟨cells, c1, fun i x hx => ?_⟩
      obtain ⟨u, hu, hr⟩ := c2 i x hx
      obtain ⟨v, rfl⟩ := hsc x (List.mem_of_getElem? hx)
      cases hr
      exact ⟨_, hu, .sc _⟩
theorem Spec.split0 {f : Nat} {x : V} (h1 : Spec P f [.sc (.slice none 0 0)] x) (h2 : ∀ a c, c ≤ maxLen → Spec P f [.sc (.slice (some a) 0 c)] x) : Spec P f [.im [] 0] x := by
  intro S w vs hS hT ha
  obtain ⟨vl⟩ := vs
  have hlen := ha.1
  match vl, ha with
  | [v], ha =>
    have hr := ha.2 0 _ v rfl rfl
    have key : ∀ u : Value, v = u → AllC S w [.sc u] (#[v] : Array Value).toList := fun u e => ⟨rfl, fun i y z hy hz => by
      cases i with
      | zero => simp at hy hz; subst hy; subst hz; rw [e]; exact .sc _
      | succ i => simp at hy⟩
    cases hr with
    | im0 hl hm ha' =>
      rename_i c a
      cases a with
      | none => have hc := ha' rfl; subst hc; exact h1 S w #[.slice none 0 0] hS hT (key _ rfl)
      | some ad => exact h2 ad c hm S w #[.slice (some ad) 0 c] hS hT (key _ rfl)
    | im1 f hl hm hS' hc hx => rename_i c b off; exact h2 ⟨b, off, none⟩ c hm S w #[.slice (some ⟨b, off, none⟩) 0 c] hS hT (key _ rfl)
  | [], ha => simp at hlen
  | _ :: _ :: _, ha => simp at hlen
end Go.Proofs.YtphilljhfdlfdaaGreat
namespace Go.Proofs.YtphilljhfdlfdaaGreat
open Go.RowKit
variable {P : Program}
section
variable {B : Base} {s : SS}
theorem SO.callAV {ops : Array Oper} {l : List Oper} {cs : List Code} {Q : Exit → SS → Prop} {g : Operand} {f : Nat} {p q : List V} {args : List Operand} {ts : Array TypeId} {d : Option Tmp} {ty : TypeId} {pos : String} {after : Array Edge} {gd : Option (Nat × Bool)} {ys : List V}
    (hfn : fnOf (evS s.sl g) = some (f, p, q)) (hgo : isGo P f = true) (hy : p ++ args.map (evS s.sl) ++ q = ys) (hg : guardV ops s.sl gd = some true ∧ dstOk d s.nt = true) (k : SApp P B f ys d ops l cs Q s) : SO P B ops (⟨d, .call ⟨.value g, args.toArray, ts⟩, ty, pos, after, gd⟩ :: l) cs Q s := by
  subst hy
  obtain ⟨id, k0, off, len, z, cap, k', hk, hs, k⟩ := k
  intro S rho A a w hr
  have hw := guard_sound (o := (⟨d, .call ⟨.value g, args.toArray, ts⟩, ty, pos, after, gd⟩ : Oper)) hr.slots hg.1
  refine wpList_step fun K hK => ?_
  rw [if_pos hw]
  obtain ⟨ps, qs, he, hps, hqs⟩ := fn_sound hfn (ev_sound hr.mem.tab hr.slots g)
  have hall := (hps.append (All.ev hr.mem.tab hr.slots args)).append hqs
  have hrun : (execOp a.eval ⟨d, .call ⟨.value g, args.toArray, ts⟩, ty, pos, after, gd⟩).run P w = .ok (.enter f (ps ++ args.toArray.map a.eval ++ qs)) w := by
    simp only [execOp, resolve, he, Deferred.ofValue, Sem.run_bind, Sem.run_pure, Result.andThen_ok, invoke]
    exact callFunc_go hgo _ w
  unfold Oper.wp
  rw [hrun]
  have hm1 : Mem B S rho A [(id, k0)] w := hr.mem.less fun j q hj => by
    simp only [hget] at hj
    split at hj
    · rename_i e; subst e; cases hj; exact hk
    · cases hj
  refine (hs B S rho A w (ps ++ args.toArray.map a.eval ++ qs) _ hm1 hr.alt (by simpa using hall)).mono ?_
  rintro e w' ⟨v, b, rfl, g, hS, hbn, hnb, hcs, hv⟩
  have hid : ¬ A s.nx := fun h => Nat.lt_irrefl _ (hr.alt _ h)
  have hm2 := hr.mem.moved hk g hS
  have hm3 := hm2.come s.nx hid k' b (fun j q hq ha e => by
    rw [hget_hdel] at hq
    split at hq
    · cases hq
    · rcases hbn with hbn | ⟨hbn, hbr⟩
      · have := hr.mem.lt hq ha; omega
      · exact absurd (hr.mem.inj j id q k0 hq hk ha hbn (e.trans hbr.symm)) ‹_›) hnb
    (hbn.elim (fun h => .inl (Nat.le_trans hr.mem.frame.size h)) (fun ⟨h1, h2⟩ => h2 ▸ hr.mem.own id k0 hk h1)) (hcs.mono rfl (fun _ h => h.elim) (fun _ h => h.elim))
  refine hK _ _ (k S (fun j => if j = s.nx then b else rho j) (fun j => j = s.nx ∨ A j) _ _ ⟨slots_put hr.slots (by rw [hr.nt]; exact hg.2) (fun b hb => ⟨hb, hS b hb⟩) (fun i hi => ⟨.inr hi, if_neg (fun e : i = s.nx => hid (e ▸ hi)), fun n => g.sz _ n⟩) (hv.renum (.inl rfl) (if_pos rfl)), hm3, ?_, by rw [put_size]; exact hr.nt, by rw [put_defers]; exact hr.defs⟩)
  rintro i (rfl | h)
  · exact Nat.lt_succ_self _
  · exact Nat.lt_succ_of_lt (hr.alt i h)
end
end Go.Proofs.YtphilljhfdlfdaaGreat
