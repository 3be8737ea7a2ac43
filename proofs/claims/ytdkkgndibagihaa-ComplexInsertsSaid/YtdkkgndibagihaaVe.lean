/- Texts joined: Su Sv Sx Tab Sn Qa Base Val Ja Jb Jc Jd. -/
import Derived.Test.YtdkkgndibagihaaProg
import Derived.KernelRfl
import Derived.WalkSmall
import Derived.WalkKit
import Derived.Deep.QuietTactic
import Derived.BigQuiet
import Derived.Deep.LoopGhost
import Derived.Laws.AppendOwnNone
import Derived.Deep.RegionHeld3
import Derived.Deep.DeepCutAuto
import Derived.Test.YtdkkgndibagihaaVc
import Derived.Test.YtdkkgndibagihaaVd
set_option linter.all false
open Nat renaming reduceEqDiff → zn1, reduceLT → zn2, reduceLeDiff → zn3, reduceAdd → zn4, reduceMul → zn5, reduceSub → zn6, reduceBEq → zn7, mul_one → zn8, zero_add → zn9, one_mul → zna, le_refl → znb, zero_le → znc, add_sub_cancel_left → znd, sub_eq_zero_of_le → zne, add_assoc → znf
open Int renaming reduceToNat → zi1, reducePow → zi2
open List renaming length_append → zl1, drop_zero → zl2, take_succ_cons → zl3, take_zero → zl4, getElem?_drop → zl5, append_assoc → zl6, nil_append → zl7, cons_append → zl8, drop_succ_cons → zl9, take_of_length_le → zla, getElem?_eq_getElem → zlb, getElem?_eq_some_iff → zlc, map_cons → zld, map_nil → zle, all_eq_true → zlf
namespace Go.Proofs.Ytdkkgndibagihaa
open Go.RowKit
section
variable {P : Program} {w : World} {B : Base} {S : Nat → Prop} {rho : Nat → Nat} {A : Nat → Prop} {s : SS} {a : Act}
def Base.inner (S : Nat → Prop) (rho : Nat → Nat) (A : Nat → Prop) (hp : List (Nat × Blk)) (w : World) : Base := ⟨w, S, A, rho, fun b => ∃ id k, hget hp id = some k ∧ A id ∧ rho id = b, []⟩
theorem Mem.inner {hp : List (Nat × Blk)} (h : Mem B S rho A hp w) : Mem (Base.inner S rho A hp w) S rho A hp w where
 cells := h.cells
 fz := h.fz
 own id k hk ha := .inr ⟨id, k, hk, ha, rfl⟩
 inj := h.inj
 slt := h.slt
 sub _ hb := hb
 base _ hb := .inl hb
 frame := ⟨rfl, rfl, rfl, znb _, fun _ _ _ => rfl, fun _ _ => rfl, fun _ _ h => h, h.slt, h.tab⟩
 keep _ h := ⟨h, rfl⟩
theorem Frame'.szL {w' : World} (k : Frame' B w') (hL : ∀ b, B.L b → ∃ c e f, B.w0.heap[b]? = some (.cells c e f)) : ∀ (b : Nat) (n : Sz), szAt B.w0 b n → szAt w' b n
 | b, .n _, hn => k.sz b _ hn
 | b, .m es c, hn => hn.of_heap (k.block b hn.lt fun hb => by
  obtain ⟨c', e, f, h1⟩ := hL b hb
  have h2 : B.w0.heap[b]? = some (.map es c) := hn
  rw [h1] at h2; cases h2)
theorem Mem.Lc {hp : List (Nat × Blk)} (h : Mem B S rho A hp w) : ∀ b, (Base.inner S rho A hp w).L b → ∃ c e f, w.heap[b]? = some (.cells c e f) := by
 rintro b ⟨id, q, hq, ha, rfl⟩
 obtain ⟨cells, h1, _⟩ := h.cells id q hq ha
 exact ⟨_, _, _, h1⟩
theorem Mem.innerSz {hp : List (Nat × Blk)} {w' : World} (h : Mem B S rho A hp w) (k : Frame' (Base.inner S rho A hp w) w') : ∀ (b : Nat) (n : Sz), szAt w b n → szAt w' b n := k.szL h.Lc
theorem Mem.back {hp hp' : List (Nat × Blk)} {w' : World} {S' : Nat → Prop} {rho' : Nat → Nat} {A' : Nat → Prop} (h : Mem B S rho A hp w) (k : Mem (Base.inner S rho A hp w) S' rho' A' hp' w') : Mem B S' rho' A' hp' w' := by
 have hL : ∀ b, (Base.inner S rho A hp w).L b → B.n0 ≤ b ∨ B.L b := by
  rintro b ⟨id, q, hq, ha, rfl⟩
  exact h.own id q hq ha
 have hn : ∀ b, w.heap.size ≤ b → B.n0 ≤ b := fun b hb => Nat.le_trans h.frame.size hb
 exact {
  cells := k.cells
  fz := k.fz
  own := fun id q hq ha => (k.own id q hq ha).elim (fun h => .inl (hn _ h)) (hL _)
  inj := k.inj
  slt := k.slt
  sub := fun b hb => k.sub b (h.sub b hb)
  base := fun b hb => by
   rcases k.base b hb with h1 | h1 | h1
   ·exact h.base b h1
   ·exact .inr (.inl (hn _ h1))
   ·exact .inr (hL _ h1)
  frame := {
   os := k.frame.os.trans h.frame.os
   tape := k.frame.tape.trans h.frame.tape
   output := k.frame.output.trans h.frame.output
   size := Nat.le_trans h.frame.size k.frame.size
   block := fun b hb hl => by
    have h1 : ¬ (Base.inner S rho A hp w).L b := fun hh => by
     rcases hL b hh with h2 | h2
     ·unfold Base.n0 at h2; omega
     ·exact hl h2
    exact (k.frame.block b (Nat.lt_of_lt_of_le hb h.frame.size) h1).trans (h.frame.block b hb hl)
   stay := fun b hb => (k.frame.stay b (h.sub b hb)).trans (h.frame.stay b hb)
   sz := fun b n hk => k.frame.sz b n (h.frame.sz b n hk)
   lt := h.frame.lt
   tab := h.frame.tab }
  keep := fun id hid => by
   obtain ⟨h1, h2⟩ := h.keep id hid
   obtain ⟨h3, h4⟩ := k.keep id h1
   exact ⟨h3, h4.trans h2⟩ }
def vst (x : V) (hp : List (Nat × Blk)) (nx : Nat) : SS := ⟨[(0, x)], hp, nx, 1⟩
def retI (P : Program) (fn : Func) (B : Base) (x : V) (hp : List (Nat × Blk)) (nx : Nat) : Exit → SS → Prop
 | .normal, s | .ret, s => ∃ y, resV P fn s = some y ∧ Le B (vst y s.hp s.nx) (vst x hp nx)
 | _, _ => False
def Inl (P : Program) (f : Nat) (args : List V) (hp : List (Nat × Blk)) (nx : Nat) (x : V) (hp' : List (Nat × Blk)) (nx' : Nat) : Prop :=
 ∃ fn c, P.funcs[f]? = some fn ∧ fn.body = some c ∧ args.length ≤ fn.ntmps ∧ ∀ B : Base, B.Old nx → SWp P B c (retI P fn B x hp' nx') ⟨stSl 0 args, hp, nx, fn.ntmps⟩
theorem start_slots {args : List V} {vs : Array Value} {n : Nat} (h : All S rho A w args vs.toList) (t : Nat) : R S rho w A (get (stSl 0 args) t) ((⟨vs ++ Array.replicate (n - vs.size) undef, []⟩ : Act).eval (.tmp t)) := by
 rw [get_start, if_pos (znc _), Nat.sub_zero]
 cases ht : args[t]? with
 | none => exact .junk _
 | some y =>
  have hlt := (List.getElem?_eq_some_iff.1 ht).1
  have hlen : vs.size = args.length := by have := h.1; simpa using this.symm
  have hu : vs.toList[t]? = some (vs[t]'(by omega)) := by simp [hlen, hlt]
  have := h.2 t y _ ht hu
  have he : (⟨vs ++ Array.replicate (n - vs.size) undef, []⟩ : Act).eval (.tmp t) = vs[t]'(by omega) := by
   simp [Act.eval, Array.getElem?_append, hlen, hlt]
  rw [he]; exact this
theorem Inl.callsI {f : Nat} {args : List V} {hp hp' : List (Nat × Blk)} {nx nx' : Nat} {x : V} {vs : Array Value} (h : Inl P f args hp nx x hp' nx') (hm : Mem B S rho A hp w) (ha : ∀ id, A id → id < nx) (hv : All S rho A w args vs.toList) :
  Calls P f vs w fun e w' => ∃ v, e = .returned v ∧ ∃ S' rho' A', (∀ b, S b → S' b ∧ w'.heap[b]? = w.heap[b]?) ∧ (∀ id, A id → A' id ∧ rho' id = rho id ∧ ∀ n, szAt w (rho id) n → szAt w' (rho id) n) ∧
   Mem (Base.inner S rho A hp w) S' rho' A' hp' w' ∧ (∀ id, A' id → id < nx') ∧ R S' rho' w' A' x v := by
 obtain ⟨fn, c, hf, hb, hn, hI⟩ := h
 have hlen : vs.size = args.length := by have := hv.1; simpa using this.symm
 refine calls_of_wp hf hb (wp_mono (hI (Base.inner S rho A hp w) ha S rho A _ w ⟨start_slots hv, hm.inner, ha, ?_, rfl⟩) ?_)
 ·simp; omega
 ·rintro e a1 w' ⟨S', rho', A', s', hq, hr⟩
  have fin : (∃ y, resV P fn s' = some y ∧ Le (Base.inner S rho A hp w) (vst y s'.hp s'.nx) (vst x hp' nx')) → a1.defers = [] ∧ ∃ v, (results fn a1.tmps).run P w' = .ok v w' ∧ ∃ v', Ending.returned v = .returned v' ∧
    ∃ S' rho' A', (∀ b, S b → S' b ∧ w'.heap[b]? = w.heap[b]?) ∧ (∀ id, A id → A' id ∧ rho' id = rho id ∧ ∀ n, szAt w (rho id) n → szAt w' (rho id) n) ∧ Mem (Base.inner S rho A hp w) S' rho' A' hp' w' ∧ (∀ id, A' id → id < nx') ∧ R S' rho' w' A' x v' := by
   rintro ⟨y, h1, h2⟩
   obtain ⟨v, h3, h4⟩ := res_sound (P := P) hr h1
   obtain ⟨S2, rho2, A2, h5⟩ := h2 S' rho' A' ⟨#[v], []⟩ w' ⟨fun t => by
    simp only [vst, get]
    by_cases e : t = 0
    ·subst e; rw [if_pos rfl]; exact h4
    ·rw [if_neg e]; exact .junk _, hr.mem, hr.alt, rfl, rfl⟩
   have h6 := h5.slots 0
   refine ⟨hr.defs, v, h3, v, rfl, S2, rho2, A2, fun b hb => ⟨h5.mem.sub b hb, h5.mem.frame.stay b hb⟩, fun id hid => ?_, h5.mem, h5.alt, h6⟩
   obtain ⟨k1, k2⟩ := h5.mem.keep id hid
   exact ⟨k1, k2, fun n hn => hm.innerSz h5.mem.frame _ n hn⟩
  cases e with
  | normal => exact fin hq
  | ret => exact fin hq
  | _ => exact hq.elim
theorem Inl.calls {f : Nat} {args : List V} {hp hp' : List (Nat × Blk)} {nx nx' : Nat} {x : V} {vs : Array Value} (h : Inl P f args hp nx x hp' nx') (hm : Mem B S rho A hp w) (ha : ∀ id, A id → id < nx) (hv : All S rho A w args vs.toList) :
  Calls P f vs w fun e w' => ∃ v, e = .returned v ∧ ∃ S' rho' A', (∀ b, S b → S' b ∧ w'.heap[b]? = w.heap[b]?) ∧ (∀ id, A id → A' id ∧ rho' id = rho id ∧ ∀ n, szAt w (rho id) n → szAt w' (rho id) n) ∧
   Mem B S' rho' A' hp' w' ∧ (∀ id, A' id → id < nx') ∧ R S' rho' w' A' x v :=
 (h.callsI hm ha hv).mono fun _ _ ⟨v, h1, S', rho', A', h2, h3, h4, h5, h6⟩ => ⟨v, h1, S', rho', A', h2, h3, hm.back h4, h5, h6⟩
def hasId : List (Nat × Blk) → Nat → Bool
 | [], _ => false
 | p :: r, i => decide (i = p.1) || hasId r i
def restH : List (Nat × Blk) → List (Nat × Blk) → List (Nat × Blk)
 | [], _ => []
 | p :: r, l => if hasId l p.1 = true then restH r l else p :: restH r l
theorem hget_rest (hp l : List (Nat × Blk)) (id : Nat) : hget (restH hp l) id = if hasId l id = true then none else hget hp id := by
 induction hp with
 | nil => simp [restH, hget]
 | cons p r ih =>
  obtain ⟨i, k⟩ := p
  simp only [restH]
  by_cases h : hasId l i = true
  ·rw [if_pos h, ih]
   by_cases e : id = i
   ·subst e; rw [if_pos h, if_pos h]
   ·simp only [hget, if_neg e]
  ·rw [if_neg h]
   simp only [hget]
   by_cases e : id = i
   ·subst e; rw [if_pos rfl, if_neg h, if_pos rfl]
   ·rw [if_neg e, if_neg e, ih]
theorem hget_app (a b : List (Nat × Blk)) (id : Nat) : hget (a ++ b) id = match hget a id with | some k => some k | none => hget b id := by
 induction a with
 | nil => rfl
 | cons p r ih =>
  obtain ⟨i, k⟩ := p
  simp only [zl8, hget]
  by_cases e : id = i
  ·rw [if_pos e, if_pos e]
  ·rw [if_neg e, if_neg e]; exact ih
theorem hasId_of {l : List (Nat × Blk)} {id : Nat} {k : Blk} (h : hget l id = some k) : hasId l id = true := by
 induction l with
 | nil => cases h
 | cons p r ih =>
  obtain ⟨i, q⟩ := p
  simp only [hget] at h
  by_cases e : id = i
  ·simp [hasId, e]
  ·rw [if_neg e] at h; simp [hasId, ih h]
inductive Only (p : Nat → Prop) : V → Prop
 | sc (v : Value) : Only p (.sc v)
 | junk : Only p .junk
 | ag {cs : List V} (h : ∀ x ∈ cs, Only p x) : Only p (.ag cs)
 | tu {cs : List V} (h : ∀ x ∈ cs, Only p x) : Only p (.tu cs)
 | pt {id off : Nat} (h : p id) : Only p (.pt id off)
 | sl {id off len z : Nat} {c : Option Nat} (h : p id) : Only p (.sl id off len z c)
 | im (cs : List V) (n : Nat) : Only p (.im cs n)
 | pi (cs : List V) : Only p (.pi cs)
 | fn {f : Fn} {a b : List V} (h1 : ∀ x ∈ a, Only p x) (h2 : ∀ x ∈ b, Only p x) : Only p (.fn f a b)
 | mp {id b : Nat} {ks : List Int} {vs : List V} (h : p id) : Only p (.mp id b ks vs)
theorem R.only {p : Nat → Prop} {x : V} {v : Value} {A' : Nat → Prop} (h : R S rho w A x v) (ho : Only p x) (hp : ∀ id, p id → A id → A' id) : R S rho w A' x v := by
 induction h generalizing A' with
 | sc v => exact .sc v
 | junk v => exact .junk v
 | ag h _ ih => cases ho with | ag ho => exact .ag h fun i x u h1 h2 => ih i x u h1 h2 (ho x (List.mem_of_getElem? h1)) hp
 | tu h _ ih => cases ho with | tu ho => exact .tu h fun i x u h1 h2 => ih i x u h1 h2 (ho x (List.mem_of_getElem? h1)) hp
 | pt h => cases ho with | pt ho => exact .pt (hp _ ho h)
 | sl h hl hm hc hz => cases ho with | sl ho => exact .sl (hp _ ho h) hl hm hc hz
 | sln h => exact .sln h
 | im0 hl hm ha => exact .im0 hl hm ha
 | im1 f hl hm hs hc hx _ => exact .im1 f hl hm hs hc hx
 | pi f hs hc hx _ => exact .pi f hs hc hx
 | fn hp' hq _ _ i1 i2 => cases ho with | fn h1 h2 => exact .fn hp' hq (fun i x u a b => i1 i x u a b (h1 x (List.mem_of_getElem? a)) hp) (fun i x u a b => i2 i x u a b (h2 x (List.mem_of_getElem? a)) hp)
 | mp h hb hm hk hl hx _ => cases ho with | mp ho => exact .mp (hp _ ho h) hb hm hk hl hx
def OnlyH (p : Nat → Prop) : List (Nat × Blk) → Prop
 | [] => True
 | q :: r => (∀ y ∈ q.2.cs, Only p y) ∧ OnlyH p r
theorem OnlyH.of {p : Nat → Prop} {l : List (Nat × Blk)} {id : Nat} {k : Blk} (h : OnlyH p l) (hk : hget l id = some k) : ∀ y ∈ k.cs, Only p y := by
 induction l with
 | nil => cases hk
 | cons q r ih =>
  obtain ⟨i, q⟩ := q
  simp only [hget] at hk
  by_cases e : id = i
  ·rw [if_pos e] at hk; cases hk; exact h.1
  ·rw [if_neg e] at hk; exact ih h.2 hk
def subH : List (Nat × Blk) → List (Nat × Blk) → Prop
 | [], _ => True
 | p :: r, hp => hget hp p.1 = some p.2 ∧ subH r hp
theorem subH.of {l hp : List (Nat × Blk)} (h : subH l hp) : ∀ id k, hget l id = some k → hget hp id = some k := by
 induction l with
 | nil => intro id k hk; cases hk
 | cons q r ih =>
  obtain ⟨i, q⟩ := q
  intro id k hk
  simp only [hget] at hk
  by_cases e : id = i
  ·subst e; rw [if_pos rfl] at hk; cases hk; exact h.1
  ·rw [if_neg e] at hk; exact ih h.2 id k hk
theorem Mem.backS {hp hpS hp' : List (Nat × Blk)} {w' : World} {S' : Nat → Prop} {rho' : Nat → Nat} {A' : Nat → Prop} (h : Mem B S rho A hp w) (hsub : ∀ id k, hget hpS id = some k → hget hp id = some k) (k : Mem (Base.inner S rho A hpS w) S' rho' A' hp' w')
  (hc : OnlyH (fun id => hasId (restH hp hpS) id = false) hp') : Mem B S' rho' (fun id => A' id ∧ (hasId (restH hp hpS) id = true → A id)) (hp' ++ restH hp hpS) w' := by
 have k0 := (h.less hsub).back k
 have hS : ∀ b, S b → S' b ∧ w'.heap[b]? = w.heap[b]? := fun b hb => ⟨k.sub b hb, k.frame.stay b hb⟩
 have hA : ∀ id, A id → (A' id ∧ (hasId (restH hp hpS) id = true → A id)) ∧ rho' id = rho id ∧ ∀ n, szAt w (rho id) n → szAt w' (rho id) n := fun id hid => ⟨⟨(k.keep id hid).1, fun _ => hid⟩, (k.keep id hid).2, fun n hn => (h.less hsub).innerSz k.frame _ n hn⟩
 have hold : ∀ id q, hget (restH hp hpS) id = some q → hasId (restH hp hpS) id = true ∧ hasId hpS id = false ∧ hget hp id = some q := by
  intro id q hq
  refine ⟨hasId_of hq, ?_⟩
  rw [hget_rest] at hq
  split at hq
  ·cases hq
  ·rename_i hn; exact ⟨by simpa using hn, hq⟩
 have hstill : ∀ id q, hget (restH hp hpS) id = some q → A id → w'.heap[rho id]? = w.heap[rho id]? ∧ ¬ (Base.inner S rho A hpS w).L (rho id) := by
  intro id q hq ha
  obtain ⟨_, h2, h3⟩ := hold id q hq
  have hnl : ¬ (Base.inner S rho A hpS w).L (rho id) := by
   rintro ⟨i, qi, hqi, hai, he⟩
   have := h.inj i id qi q (hsub i qi hqi) h3 hai ha he
   subst this
   rw [hasId_of hqi] at h2; cases h2
  exact ⟨k.frame.block _ (h.lt h3 ha) hnl, hnl⟩
 have hcase : ∀ {P : Nat → Blk → Prop}, (∀ i q, hget hp' i = some q → P i q) → (∀ i q, hget (restH hp hpS) i = some q → P i q) → ∀ i q, hget (hp' ++ restH hp hpS) i = some q → P i q := by
  intro P h1 h2 i q hq
  rw [hget_app] at hq
  cases e : hget hp' i with
  | some k1 => rw [e] at hq; cases hq; exact h1 i _ e
  | none => rw [e] at hq; exact h2 i q hq
 have hne : ∀ i q j p, hget hp' i = some q → A' i → hget (restH hp hpS) j = some p → A j → rho' i ≠ rho j := by
  intro i q j p hi hai hj haj e
  obtain ⟨_, _, h3⟩ := hold j p hj
  rcases k.own i q hi hai with h4 | h4
  ·have := h.lt h3 haj; rw [e] at h4; unfold Base.n0 at h4; exact absurd this (Nat.not_lt.2 h4)
  ·rw [e] at h4; exact (hstill j p hj haj).2 h4
 exact {
  cells := by
   refine hcase (fun i q hq ha => ?_) (fun i q hq ha => ?_)
   ·obtain ⟨cells, c1, c2⟩ := k0.cells i q hq ha.1
    refine ⟨cells, c1, fun j x hx => ?_⟩
    obtain ⟨u, hu, hr⟩ := c2 j x hx
    exact ⟨u, hu, hr.only (hc.of hq x (List.mem_of_getElem? hx)) fun id hid hai => ⟨hai, fun e => by rw [hid] at e; cases e⟩⟩
   ·obtain ⟨h1, h2, h3⟩ := hold i q hq
    have hai := ha.2 h1
    rw [(hA i hai).2.1]
    exact (h.cells i q h3 hai).mono (hstill i q hq hai).1 hS hA
  fz := by
   refine hcase (fun i q hq ha => k0.fz i q hq ha.1) (fun i q hq ha h0 => ?_)
   obtain ⟨h1, h2, h3⟩ := hold i q hq
   have hai := ha.2 h1
   rw [(hA i hai).2.1]
   intro hs
   rcases k.base _ hs with h4 | h4 | h4
   ·exact h.fz i q h3 hai h0 h4
   ·have := h.lt h3 hai; unfold Base.n0 at h4; exact absurd this (Nat.not_lt.2 h4)
   ·exact (hstill i q hq hai).2 h4
  own := by
   refine hcase (fun i q hq ha => k0.own i q hq ha.1) (fun i q hq ha => ?_)
   obtain ⟨h1, h2, h3⟩ := hold i q hq
   rw [(hA i (ha.2 h1)).2.1]
   exact h.own i q h3 (ha.2 h1)
  inj := by
   intro i j q p hq hp1
   refine hcase (P := fun i _ => (A' i ∧ (hasId (restH hp hpS) i = true → A i)) → (A' j ∧ (hasId (restH hp hpS) j = true → A j)) → rho' i = rho' j → i = j) (fun i q hq ha haj e => ?_) (fun i q hq ha haj e => ?_) i q hq
   ·refine hcase (P := fun j _ => (A' j ∧ (hasId (restH hp hpS) j = true → A j)) → rho' i = rho' j → i = j) (fun j p hp1 haj e => k0.inj i j q p hq hp1 ha.1 haj.1 e) (fun j p hp1 haj e => ?_) j p hp1 haj e
    obtain ⟨h1, h2, h3⟩ := hold j p hp1
    have hj := haj.2 h1
    rw [(hA j hj).2.1] at e
    exact absurd e (hne i q j p hq ha.1 hp1 hj)
   ·obtain ⟨h1, h2, h3⟩ := hold i q hq
    have hai := ha.2 h1
    rw [(hA i hai).2.1] at e
    refine hcase (P := fun j _ => (A' j ∧ (hasId (restH hp hpS) j = true → A j)) → rho i = rho' j → i = j) (fun j p hp1 haj e => ?_) (fun j p hp1 haj e => ?_) j p hp1 haj e
    ·exact absurd e.symm (hne j p i q hp1 haj.1 hq hai)
    ·obtain ⟨g1, g2, g3⟩ := hold j p hp1
     have hj := haj.2 g1
     rw [(hA j hj).2.1] at e
     exact h.inj i j q p h3 g3 hai hj e
  slt := k0.slt
  sub := k0.sub
  base := k0.base
  frame := k0.frame
  keep := fun id hid => by
   obtain ⟨h1, h2⟩ := h.keep id hid
   exact ⟨(hA id h1).1, (hA id h1).2.1.trans h2⟩ }
theorem SOps.inl {ops : Array Oper} {Q : Exit → SS → Prop} {o : Oper} {l : List Oper} {g : Operand} {f : Nat} {p q : List V} {args : Array Operand} {ts : Array TypeId} {x : V} {hp' : List (Nat × Blk)} {nx' : Nat} (ho : o.op = .call ⟨.value g, args, ts⟩) (hg : guardV ops s.sl o.guard = some true)
  (hd : dstOk o.dst s.nt = true) (hfn : fnOf (evS s.sl g) = some (f, p, q)) (hgo : isGo P f = true) (hI : Inl P f (p ++ args.toList.map (evS s.sl) ++ q) s.hp s.nx x hp' nx') (k : SOps P B ops l Q ⟨putS s.sl o.dst x, hp', nx', s.nt⟩) : SOps P B ops (o :: l) Q s := by
 intro S rho A a w hr
 have hw := guard_sound hr.slots hg
 refine wpList_step fun K hK => ?_
 rw [if_pos hw]
 obtain ⟨ps, qs, he, hps, hqs⟩ := fn_sound hfn (ev_sound hr.mem.tab hr.slots g)
 have hrun : (execOp a.eval o).run P w = .ok (.enter f (ps ++ args.map a.eval ++ qs)) w := by
  simp only [execOp, ho, resolve, he, Deferred.ofValue, Sem.run_bind, Sem.run_pure, Result.andThen_ok, invoke]
  exact callFunc_go hgo _ w
 unfold Oper.wp
 rw [hrun]
 refine (hI.calls hr.mem hr.alt (vs := ps ++ args.map a.eval ++ qs) ?_).mono ?_
 ·have := (hps.append (All.ev hr.mem.tab hr.slots args.toList)).append hqs
  simpa using this
 ·rintro e w' ⟨v, rfl, S', rho', A', h1, h2, h3, h4, h5⟩
  refine hK _ _ (k S' rho' A' _ _ ⟨slots_put hr.slots (by rw [hr.nt]; exact hd) h1 h2 h5, h3, h4, by rw [put_size]; exact hr.nt, by rw [put_defers]; exact hr.defs⟩)
theorem SOps.inlS {ops : Array Oper} {Q : Exit → SS → Prop} {o : Oper} {l : List Oper} {g : Operand} {f : Nat} {p q ys : List V} {args : Array Operand} {ts : Array TypeId} {x : V} {hpS hp' : List (Nat × Blk)} {nx' : Nat} (ho : o.op = .call ⟨.value g, args, ts⟩) (hg : guardV ops s.sl o.guard = some true)
  (hd : dstOk o.dst s.nt = true) (hfn : fnOf (evS s.sl g) = some (f, p, q)) (hgo : isGo P f = true) (hy : p ++ args.toList.map (evS s.sl) ++ q = ys) (hsub : subH hpS s.hp) (hI : Inl P f ys hpS s.nx x hp' nx')
  (hx : Only (fun id => hasId (restH s.hp hpS) id = false) x) (hc : OnlyH (fun id => hasId (restH s.hp hpS) id = false) hp') (k : SOps P B ops l Q ⟨putS s.sl o.dst x, hp' ++ restH s.hp hpS, nx', s.nt⟩) : SOps P B ops (o :: l) Q s := by
 intro S rho A a w hr
 have hw := guard_sound hr.slots hg
 refine wpList_step fun K hK => ?_
 rw [if_pos hw]
 obtain ⟨ps, qs, he, hps, hqs⟩ := fn_sound hfn (ev_sound hr.mem.tab hr.slots g)
 have hrun : (execOp a.eval o).run P w = .ok (.enter f (ps ++ args.map a.eval ++ qs)) w := by
  simp only [execOp, ho, resolve, he, Deferred.ofValue, Sem.run_bind, Sem.run_pure, Result.andThen_ok, invoke]
  exact callFunc_go hgo _ w
 unfold Oper.wp
 rw [hrun]
 refine (hI.callsI (hr.mem.less hsub.of) hr.alt (vs := ps ++ args.map a.eval ++ qs) ?_).mono ?_
 ·have := (hps.append (All.ev hr.mem.tab hr.slots args.toList)).append hqs
  rw [hy] at this
  simpa using this
 ·rintro e w' ⟨v, rfl, S', rho', A', h1, h2, h3, h4, h5⟩
  have h6 := hr.mem.backS hsub.of h3 hc
  refine hK _ _ (k S' rho' (fun id => A' id ∧ (hasId (restH s.hp hpS) id = true → A id)) _ _ ⟨slots_put hr.slots (by rw [hr.nt]; exact hd) h1 (fun id hid => ⟨⟨(h2 id hid).1, fun _ => hid⟩, (h2 id hid).2⟩) (h5.only hx fun id hid hai => ⟨hai, fun e => by rw [hid] at e; cases e⟩), h6, fun id hid => h4 id hid.1, by rw [put_size]; exact hr.nt, by rw [put_defers]; exact hr.defs⟩)
def SInl (P : Program) (B : Base) (f : Nat) (ys : List V) (d : Option Nat) (ops : Array Oper) (l : List Oper) (cs : List Code) (Q : Exit → SS → Prop) (s : SS) : Prop :=
 ∃ hpS x hp' nx', subH hpS s.hp ∧ Inl P f ys hpS s.nx x hp' nx' ∧ Only (fun id => hasId (restH s.hp hpS) id = false) x ∧ OnlyH (fun id => hasId (restH s.hp hpS) id = false) hp' ∧ SO P B ops l cs Q ⟨putS s.sl d x, hp' ++ restH s.hp hpS, nx', s.nt⟩
theorem SO.inl {ops : Array Oper} {l : List Oper} {cs : List Code} {Q : Exit → SS → Prop} {g : Operand} {f : Nat} {p q ys : List V} {args : List Operand} {ts : Array TypeId} {d : Option Tmp} {ty : TypeId} {pos : String} {after : Array Edge} {gd : Option (Nat × Bool)}
  (hfn : fnOf (evS s.sl g) = some (f, p, q)) (hgo : isGo P f = true) (hy : p ++ args.map (evS s.sl) ++ q = ys) (hg : guardV ops s.sl gd = some true ∧ dstOk d s.nt = true) (k : SInl P B f ys d ops l cs Q s) : SO P B ops (⟨d, .call ⟨.value g, args.toArray, ts⟩, ty, pos, after, gd⟩ :: l) cs Q s := by
 obtain ⟨hpS, x, hp', nx', h1, h2, h3, h4, h5⟩ := k
 exact SOps.inlS rfl hg.1 hg.2 hfn hgo (by simpa using hy) h1 h2 h3 h4 h5
theorem SInl.of {ops : Array Oper} {l : List Oper} {cs : List Code} {Q : Exit → SS → Prop} {f : Nat} {ys : List V} {d : Option Nat} {hpS hp' hp'' : List (Nat × Blk)} {nx nx' nt : Nat} {sl sl' : List (Nat × V)} {hp : List (Nat × Blk)} {x : V} (hI : Inl P f ys hpS nx x hp' nx') (hs : subH hpS hp)
  (hx : Only (fun id => hasId (restH hp hpS) id = false) x) (hc : OnlyH (fun id => hasId (restH hp hpS) id = false) hp') (h1 : putS sl d x = sl') (h2 : hp' ++ restH hp hpS = hp'') (k : SO P B ops l cs Q ⟨sl', hp'', nx', nt⟩) : SInl P B f ys d ops l cs Q ⟨sl, hp, nx, nt⟩ := by
 subst h1; subst h2; exact ⟨hpS, x, hp', nx', hs, hI, hx, hc, k⟩
def SNew (P : Program) (B : Base) (f : Nat) (ys : List V) (d : Option Nat) (ops : Array Oper) (l : List Oper) (cs : List Code) (Q : Exit → SS → Prop) (s : SS) : Prop :=
 ∃ k X, NewX P f ys k X true ∧ SO P B ops l cs Q (s.put d (X s.nx) (.new k))
theorem SO.callN {ops : Array Oper} {l : List Oper} {cs : List Code} {Q : Exit → SS → Prop} {f : Nat} {args : List Operand} {ts : Array TypeId} {d : Option Tmp} {ty : TypeId} {pos : String} {after : Array Edge} {gd : Option (Nat × Bool)} {ys : List V} {ids : List Nat}
  (hgo : isGo P f = true) (hf : frzAll (frz 8 s.hp) (args.map (evS s.sl)) = some (ys, ids)) (hg : guardV ops s.sl gd = some true ∧ dstOk d s.nt = true) (k : SNew P B f ys d ops l cs Q s) : SO P B ops (⟨d, .call ⟨.value (.func f), args.toArray, ts⟩, ty, pos, after, gd⟩ :: l) cs Q s := by
 obtain ⟨k0, X, hs, k⟩ := k
 intro S rho A a w hr
 have hw := guard_sound (o := (⟨d, .call ⟨.value (.func f), args.toArray, ts⟩, ty, pos, after, gd⟩ : Oper)) hr.slots hg.1
 refine wpList_step fun K hK => ?_
 rw [if_pos hw]
 have hall := All.ev hr.mem.tab hr.slots args
 obtain ⟨h1, h2⟩ := frzAll_sound (frz_sound hr.mem 8) hf hall
 have hmf := hr.mem.freeze ids h2
 have hrun : (execOp a.eval ⟨d, .call ⟨.value (.func f), args.toArray, ts⟩, ty, pos, after, gd⟩).run P w = .ok (.enter f (args.toArray.map a.eval)) w := by
  simp only [execOp, resolve, Act.eval, Deferred.ofValue, Sem.run_bind, Sem.run_pure, Result.andThen_ok, invoke]
  have := callFunc_go hgo (args.toArray.map a.eval) w
  simpa using this
 unfold Oper.wp
 rw [hrun]
 refine (hs.2 (addS S rho A ids) w (args.toArray.map a.eval) hmf.slt hmf.tab ⟨by have := h1.1; simpa using this, fun i y u hy hu => (h1.2 i y u hy (by simpa using hu)).rho⟩).mono ?_
 have hid : ¬ A s.nx := fun h => Nat.lt_irrefl _ (hr.alt _ h)
 rintro e w' ⟨v, rfl, g, ⟨b, S2, hb, hS2, hnb, hcs, hv⟩ | hv⟩
 ·have hS0 : ∀ c, S2 c → False := fun c h => by have := (hS2 c h).1; cases this
  have hm := hr.mem.new g s.nx hid k0 b hb (hcs.mono rfl (fun c h => (hS0 c h).elim) (fun _ h => h.elim))
  refine hK _ _ (k S (fun j => if j = s.nx then b else rho j) (fun j => j = s.nx ∨ A j) _ _ ⟨slots_put hr.slots (by rw [hr.nt]; exact hg.2) (fun b hb => ⟨hb, g.block b (hr.mem.slt b hb)⟩) (fun id hid' => ⟨.inr hid', if_neg (fun e : id = s.nx => hid (e ▸ hid')), fun _ => g.szAt⟩) (hs.1 _ _ _ _ _ _ _ _ _ _ hv (fun c h => (hS0 c h).elim) (fun i h => h) (.inl rfl) (if_pos rfl)), hm, ?_, by rw [put_size]; exact hr.nt, by rw [put_defers]; exact hr.defs⟩)
  rintro id (rfl | h)
  ·exact Nat.lt_succ_self _
  ·exact Nat.lt_succ_of_lt (hr.alt id h)
 ·refine hK _ _ (k S rho A _ _ ⟨slots_put hr.slots (by rw [hr.nt]; exact hg.2) (fun b hb => ⟨hb, g.block b (hr.mem.slt b hb)⟩) (fun id hid' => ⟨hid', rfl, fun _ => g.szAt⟩) (hv _ _ _ _ _), (hr.mem.grow g).phantom s.nx hid k0, fun id h => Nat.lt_succ_of_lt (hr.alt id h), by rw [put_size]; exact hr.nt, by rw [put_defers]; exact hr.defs⟩)
theorem SNew.of {ops : Array Oper} {l : List Oper} {cs : List Code} {Q : Exit → SS → Prop} {f : Nat} {ys : List V} {d : Option Nat} {k : Blk} {off len z n : Nat} {c : Option Nat} {s' : SS} (hs : NewP P f ys k off len z c) (hn : s.nx = n) (hp : s.put d (.sl n off len z c) (.new k) = s') (h : SO P B ops l cs Q s') : SNew P B f ys d ops l cs Q s := by
 subst hn; subst hp; exact ⟨k, _, hs, h⟩
theorem NewP.of {f : Nat} {args : List V} {k : Blk} {off len z : Nat} {cap : Option Nat} (hl : 0 < len) (hsc : ∀ y ∈ k.cs, ∃ v, y = .sc v) (hI : Inl P f args [] 0 (.sl 0 off len z cap) [(0, k)] 1) : NewP P f args k off len z cap := by
 refine ⟨rx_sl off len z cap, ?_⟩
 intro S w vs hS hT hargs
 have hm : Mem ⟨w, S, fun _ => False, fun _ => 0, fun _ => False, []⟩ S (fun _ => 0) (fun _ => False) [] w := {
  cells := fun id k hk => by cases hk
  fz := fun id k hk => by cases hk
  own := fun id k hk => by cases hk
  inj := fun id id' k k' hk => by cases hk
  slt := hS
  sub := fun _ h => h
  base := fun _ h => .inl h
  frame := ⟨rfl, rfl, rfl, znb _, fun _ _ _ => rfl, fun _ _ => rfl, fun _ _ h => h, hS, hT⟩
  keep := fun id h => h.elim }
 refine (hI.calls hm (fun _ h => h.elim) (vs := vs) hargs).mono ?_
 rintro e w' ⟨v, rfl, S', rho', A', h1, h2, h3, h4, h5⟩
 cases h5 with
 | sln h => omega
 | sl h0 hl' hm' hc hz =>
  have hk : hget [(0, k)] 0 = some k := rfl
  refine ⟨_, rfl, ⟨h3.frame.os, h3.frame.tape, h3.frame.output, h3.frame.size, fun b hb => h3.frame.block b hb (fun h => h)⟩, .inl ⟨rho' 0, fun _ => False, ?_, fun _ h => h.elim, fun h => h, ?_, .sl rfl hl' hm' hc hz⟩⟩
  ·rcases h3.own 0 k hk h0 with h | h
   ·exact h
   ·exact h.elim
  ·obtain ⟨cells, c1, c2⟩ := h3.cells 0 k hk h0
   refine ⟨cells, c1, fun i x hx => ?_⟩
   obtain ⟨u, hu, hr⟩ := c2 i x hx
   obtain ⟨v, rfl⟩ := hsc x (List.mem_of_getElem? hx)
   cases hr
   exact ⟨_, hu, .sc _⟩
theorem NewX.of {f : Nat} {args : List V} {k : Blk} {X : Nat → V} (i0 : Nat) {m : Nat} {hp : List (Nat × Blk)} (hX : RX X) (hk : hget hp i0 = some k) (hz : k.fz = false) (hlive : ∀ (S : Nat → Prop) (rho : Nat → Nat) (A : Nat → Prop) (w : World) (v : Value), R S rho w A (X i0) v → A i0 ∧ R S rho w (fun i => i = i0) (X i0) v) (hc : k.cs.all clo = true) (hI : Inl P f args [] 0 (X i0) hp m) : NewX P f args k X false := by
 refine ⟨hX, ?_⟩
 intro S w vs hS hT hargs
 have hm : Mem ⟨w, S, fun _ => False, fun _ => 0, fun _ => False, []⟩ S (fun _ => 0) (fun _ => False) [] w := {
  cells := fun id k hk => by cases hk
  fz := fun id k hk => by cases hk
  own := fun id k hk => by cases hk
  inj := fun id id' k k' hk => by cases hk
  slt := hS
  sub := fun _ h => h
  base := fun _ h => .inl h
  frame := ⟨rfl, rfl, rfl, znb _, fun _ _ _ => rfl, fun _ _ => rfl, fun _ _ h => h, hS, hT⟩
  keep := fun id h => h.elim }
 refine (hI.calls hm (fun _ h => h.elim) (vs := vs) hargs).mono ?_
 rintro e w' ⟨v, rfl, S', rho', A', h1, h2, h3, h4, h5⟩
 obtain ⟨hA, h6⟩ := hlive _ _ _ _ _ h5
 refine ⟨v, rfl, ⟨h3.frame.os, h3.frame.tape, h3.frame.output, h3.frame.size, fun b hb => h3.frame.block b hb (fun h => h)⟩, .inl ⟨rho' i0, S', ?_, fun c hc' => ⟨rfl, ?_⟩, h3.fz i0 k hk hA hz, ?_, ?_⟩⟩
 ·rcases h3.own i0 k hk hA with h | h
  ·exact h
  ·exact h.elim
 ·rcases h3.base c hc' with h | h | h
  ·exact .inl h
  ·exact .inr ⟨h, h3.slt c hc'⟩
  ·exact h.elim
 ·obtain ⟨cells, c1, c2⟩ := h3.cells i0 k hk hA
  refine ⟨cells, c1, fun i x hx => ?_⟩
  obtain ⟨u, hu, hr⟩ := c2 i x hx
  exact ⟨u, hu, (clo_sound (List.all_eq_true.1 hc x (List.mem_of_getElem? hx)) hr).rho⟩
 ·exact hX _ _ _ _ _ _ _ _ _ _ h6 (fun _ h => h) (fun i h => h) rfl rfl
theorem Inl.run {f : Nat} {fn : Func} {c : Code} {args : List V} {x : V} {n nx nx' : Nat} {s0 : SS} {hp hp' : List (Nat × Blk)} (hf : P.funcs[f]? = some fn) (hb : fn.body = some c) (hnt : fn.ntmps = n) (hn : args.length ≤ n) (h0 : (⟨stSl 0 args, hp, nx, n⟩ : SS) = s0) (h : ∀ B : Base, B.Old nx → SC P B [c] (retI P fn B x hp' nx') s0) : Inl P f args hp nx x hp' nx' := by
 subst hnt; subst h0
 exact ⟨fn, c, hf, hb, hn, fun B hB => SC.of (h B hB)⟩
theorem retI_ret {fn : Func} {x y : V} {hp' : List (Nat × Blk)} {nx' : Nat} {rs : List ResultVar} (hr : fn.results = rs.toArray) (h1 : resG P s rs = some y) (h2 : Le B (vst y s.hp s.nx) (vst x hp' nx')) : retI P fn B x hp' nx' .ret s := ⟨y, by rw [resV_eq, hr]; exact h1, h2⟩
@[go_sem] theorem fnOf_func (f : Nat) : fnOf (.sc (.func (.func f) #[] #[])) = some (f, [], []) := rfl
@[go_sem] theorem hasId_nil (i : Nat) : hasId [] i = false := rfl
@[go_sem] theorem restH_nil (l : List (Nat × Blk)) : restH [] l = [] := rfl
@[go_sem] theorem subH_nil (hp : List (Nat × Blk)) : subH [] hp = True := rfl
end
end Go.Proofs.Ytdkkgndibagihaa
namespace Go.Proofs.Ytdkkgndibagihaa
open Go.RowKit
abbrev HP := List (Nat × Blk)
def forceN {R : Type} (n : Nat) (k : Nat → R) : R :=
 match n with
 | .zero => k .zero
 | .succ m => k (.succ m)
theorem forceN_eq {R : Type} (n : Nat) (k : Nat → R) : forceN n k = k n := by cases n <;> rfl
def forceV {R : Type} (x : V) (k : V → R) : R :=
 match x with
 | .sc v => match v with
  | .int kd n => match n with
   | .ofNat m => forceN m fun m => k (.sc (.int kd (.ofNat m)))
   | .negSucc m => forceN m fun m => k (.sc (.int kd (.negSucc m)))
  | .bool b => match b with
   | true => k (.sc (.bool true))
   | false => k (.sc (.bool false))
  | v => k (.sc v)
 | .pt id off => forceN id fun id => forceN off fun off => k (.pt id off)
 | .sl id off len z c => forceN id fun id => forceN off fun off => forceN len fun len => k (.sl id off len z c)
 | x => k x
theorem forceV_eq {R : Type} (x : V) (k : V → R) : forceV x k = k x := by
 unfold forceV
 split
 ·split
  ·split <;> simp only [forceN_eq]
  ·split <;> rfl
  ·rfl
 ·simp only [forceN_eq]
 ·simp only [forceN_eq]
 ·rfl
def spine {α R : Type} : List α → (List α → R) → R
 | [], k => k []
 | x :: r, k => spine r fun r' => k (x :: r')
theorem spine_eq {α R : Type} : ∀ (l : List α) (k : List α → R), spine l k = k l
 | [], k => rfl
 | x :: r, k => by rw [spine, spine_eq r]
def delS (t : Nat) : List (Nat × V) → List (Nat × V)
 | [] => []
 | (k, x) :: r => if k = t then r else (k, x) :: delS t r
def delK {R : Type} (t : Nat) : List (Nat × V) → (List (Nat × V) → R) → R
 | [], c => c []
 | (k, x) :: r, c => match Nat.beq k t with
  | true => c r
  | false => delK t r fun r' => c ((k, x) :: r')
theorem delK_eq {R : Type} (t : Nat) : ∀ (l : List (Nat × V)) (c : List (Nat × V) → R), delK t l c = c (delS t l)
 | [], c => rfl
 | (k, x) :: r, c => by
  rw [delK, delS]
  split
  ·rename_i h; rw [if_pos (Nat.eq_of_beq_eq_true h)]
  ·rename_i h; rw [if_neg (Nat.ne_of_beq_eq_false h), delK_eq t r]
def putT (sl : List (Nat × V)) (d : Option Nat) (x : V) : List (Nat × V) :=
 match d with
 | some d => (d, x) :: delS d sl
 | none => sl
def putK {R : Type} (sl : List (Nat × V)) (d : Option Nat) (x : V) (k : List (Nat × V) → R) : R :=
 match d with
 | some d => forceV x fun x => delK d sl fun r => k ((d, x) :: r)
 | none => k sl
theorem putK_eq {R : Type} (sl : List (Nat × V)) (d : Option Nat) (x : V) (k : List (Nat × V) → R) : putK sl d x k = k (putT sl d x) := by
 cases d with
 | none => rfl
 | some d => simp only [putK, putT, forceV_eq, delK_eq]
def blkK {R : Type} (b : Blk) (k : Blk → R) : R :=
 match b with
 | ⟨ty, cs, fz⟩ => spine cs fun cs => k ⟨ty, cs, fz⟩
theorem blkK_eq {R : Type} (b : Blk) (k : Blk → R) : blkK b k = k b := by cases b; simp only [blkK, spine_eq]
def hsetK {R : Type} : HP → Nat → Blk → (HP → R) → R
 | [], _, _, k => k []
 | (i, q) :: r, t, y, k => match Nat.beq t i with
  | true => k ((i, y) :: r)
  | false => hsetK r t y fun r' => k ((i, q) :: r')
theorem hsetK_eq {R : Type} : ∀ (l : HP) (t : Nat) (y : Blk) (k : HP → R), hsetK l t y k = k (hset l t y)
 | [], t, y, k => rfl
 | (i, q) :: r, t, y, k => by
  rw [hsetK, hset]
  split
  ·rename_i h
   have := Nat.eq_of_beq_eq_true h
   subst this; rw [if_pos rfl]
  ·rename_i h; rw [if_neg (Nat.ne_of_beq_eq_false h), hsetK_eq r]
def effK {R : Type} (f : Eff) (nx : Nat) (hp : HP) (k : HP → Nat → R) : R :=
 match f with
 | .none => k hp nx
 | .new b => blkK b fun b => forceN nx.succ fun n => k ((nx, b) :: hp) n
 | .set id b => blkK b fun b => hsetK hp id b fun hp' => k hp' nx
 | .app id b => blkK b fun b => spine (hdel hp id) fun hp' => forceN nx.succ fun n => k ((nx, b) :: hp') n
theorem effK_eq {R : Type} (f : Eff) (nx : Nat) (hp : HP) (k : HP → Nat → R) : effK f nx hp k = k (f.heap nx hp) (f.next nx) := by
 cases f <;> simp only [effK, blkK_eq, hsetK_eq, spine_eq, forceN_eq, Eff.heap, Eff.next]
theorem get_delS (t t' : Nat) (h : t' ≠ t) : ∀ l : List (Nat × V), get (delS t l) t' = get l t'
 | [] => rfl
 | (k, x) :: r => by
  simp only [delS]
  split
  ·rename_i e; subst e; simp only [get]; rw [if_neg h]
  ·simp only [get]; rw [get_delS t t' h r]
theorem get_putT (sl : List (Nat × V)) (d : Option Nat) (x : V) (t : Nat) : get (putT sl d x) t = get (putS sl d x) t := by
 cases d with
 | none => rfl
 | some d =>
  simp only [putT, putS, get]
  by_cases e : t = d
  ·rw [if_pos e, if_pos e]
  ·rw [if_neg e, if_neg e, get_delS d t e]
def SameS (s s' : SS) : Prop := (∀ t, get s.sl t = get s'.sl t) ∧ s.hp = s'.hp ∧ s.nx = s'.nx ∧ s.nt = s'.nt
def SS.putX {R : Type} (s : SS) (d : Option Nat) (x : V) (f : Eff) (k : SS → R) : R :=
 match s with
 | ⟨sl, hp, nx, nt⟩ => putK sl d x fun sl => effK f nx hp fun hp nx => k ⟨sl, hp, nx, nt⟩
theorem putX_eq {R : Type} (s : SS) (d : Option Nat) (x : V) (f : Eff) : ∃ s', SameS s' (s.put d x f) ∧ ∀ k : SS → R, s.putX d x f k = k s' := by
 obtain ⟨sl, hp, nx, nt⟩ := s
 exact ⟨⟨putT sl d x, f.heap nx hp, f.next nx, nt⟩, ⟨fun t => get_putT sl d x t, rfl, rfl, rfl⟩, fun k => by simp only [SS.putX, putK_eq, effK_eq]⟩
def SS.calledX {R : Type} (s : SS) (d : Option Nat) (x : V) (ids : List Nat) (k : SS → R) : R :=
 match s with
 | ⟨sl, hp, nx, nt⟩ => putK sl d x fun sl => match flat x with
  | true => k ⟨sl, hp, nx, nt⟩
  | false => spine (fzHp hp ids) fun hp => k ⟨sl, hp, nx, nt⟩
theorem calledX_eq {R : Type} (s : SS) (d : Option Nat) (x : V) (ids : List Nat) : ∃ s', SameS s' (s.called d x ids) ∧ ∀ k : SS → R, s.calledX d x ids k = k s' := by
 obtain ⟨sl, hp, nx, nt⟩ := s
 refine ⟨⟨putT sl d x, if flat x then hp else fzHp hp ids, nx, nt⟩, ⟨fun t => get_putT sl d x t, rfl, rfl, rfl⟩, fun k => ?_⟩
 simp only [SS.calledX, putK_eq, spine_eq]
 cases flat x <;> rfl
def SS.putY {R : Type} (s : SS) (d : Option Nat) (x : V) (f : Eff) (k : SS → R) : R :=
 match s with
 | ⟨sl, hp, nx, nt⟩ => forceV x fun x => effK f nx hp fun hp nx => k ⟨putS sl d x, hp, nx, nt⟩
theorem putY_eq {R : Type} (s : SS) (d : Option Nat) (x : V) (f : Eff) (k : SS → R) : s.putY d x f k = k (s.put d x f) := by
 obtain ⟨sl, hp, nx, nt⟩ := s
 simp only [SS.putY, forceV_eq, effK_eq]; rfl
def SS.calledY {R : Type} (s : SS) (d : Option Nat) (x : V) (ids : List Nat) (k : SS → R) : R :=
 match s with
 | ⟨sl, hp, nx, nt⟩ => match flat x with
  | true => k ⟨putS sl d x, hp, nx, nt⟩
  | false => spine (fzHp hp ids) fun hp => k ⟨putS sl d x, hp, nx, nt⟩
theorem calledY_eq {R : Type} (s : SS) (d : Option Nat) (x : V) (ids : List Nat) (k : SS → R) : s.calledY d x ids k = k (s.called d x ids) := by
 obtain ⟨sl, hp, nx, nt⟩ := s
 simp only [SS.calledY, spine_eq, SS.called]
 cases flat x <;> rfl
def stK {R : Type} : Nat → List V → (List (Nat × V) → R) → R
 | _, [], k => k []
 | n, x :: r, k => forceN n.succ fun m => stK m r fun l => k ((n, x) :: l)
theorem stK_eq {R : Type} : ∀ (n : Nat) (l : List V) (k : List (Nat × V) → R), stK n l k = k (stSl n l)
 | _, [], k => rfl
 | n, x :: r, k => by rw [stK, forceN_eq, stK_eq, stSl]
section
variable (P : Program) (K : Nat → List V → Option V) (inl : Nat → Bool)
def isEnd : Exit → Bool
 | .normal | .ret => true
 | _ => false
def runF (run : Code → SS → Option (Exit × SS)) (f : Nat) (ys : List V) (hp : HP) (nx : Nat) : Option (V × HP × Nat) :=
 match P.funcs[f]? with
 | some fn =>
  match fn.body with
  | some c =>
   match Nat.ble ys.length fn.ntmps with
   | true =>
    match stK 0 ys fun sl => run c ⟨sl, hp, nx, fn.ntmps⟩ with
    | some (e, s') => match isEnd e with
     | true => (resV P fn s').map fun x => (x, s'.hp, s'.nx)
     | false => none
    | none => none
   | false => none
  | none => none
 | none => none
def runV (run : Code → SS → Option (Exit × SS)) (f : Nat) (ys : List V) : Option V :=
 match K f ys with
 | some x => some x
 | none => match runF P run f ys [] 0 with
  | some (x, hp, _) => (frz 8 hp x).map (·.1)
  | none => none
def callX {R : Type} (run : Code → SS → Option (Exit × SS)) (f : Nat) (ys : List V) (s : SS) (d : Option Nat) (k : SS → Option R) : Option R :=
 match isGo P f with
 | true =>
  match (if inl f then none else frzAll (frz 8 s.hp) ys) with
  | some (zs, ids) => match runV P K run f zs with
   | some x => s.calledX d x ids k
   | none => none
  | none => match runF P run f ys s.hp s.nx with
   | some (x, hp', nx') => putK s.sl d x fun sl => k ⟨sl, hp', nx', s.nt⟩
   | none => none
 | false => none
def runX {R : Type} (ops : Array Oper) (s : SS) (o : Oper) (k : SS → Option R) : Option R :=
 match dstOk o.dst s.nt with
 | true => match guardV ops s.sl o.guard with
  | some true => match exOp P s.sl s.hp s.nx o.op with
   | some (x, f) => s.putX o.dst x f k
   | none => none
  | some false => s.putX o.dst (.tu []) .none k
  | none => none
 | false => none
def opX {R : Type} (run : Code → SS → Option (Exit × SS)) (ops : Array Oper) (s : SS) (o : Oper) (k : SS → Option R) : Option R :=
 match o.op with
 | .call ⟨.value g, args, _⟩ =>
  match dstOk o.dst s.nt with
  | true => match guardV ops s.sl o.guard with
   | some true => match fnOf (evS s.sl g) with
    | some (f, p, q) => callX P K inl run f (p ++ args.toList.map (evS s.sl) ++ q) s o.dst k
    | none => none
   | some false => s.putX o.dst (.tu []) .none k
   | none => none
  | false => none
 | _ => runX P ops s o k
def opsX (run : Code → SS → Option (Exit × SS)) (ops : Array Oper) : List Oper → SS → Option SS
 | [], s => some s
 | o :: l, s => opX P K inl run ops s o (opsX run ops l)
def opD {R : Type} (run : Code → SS → Option (Exit × SS)) (ops : Array Oper) (s : SS) (o : Oper) (k : Option Nat × List Nat → V → SS → Option R) : Option R :=
 match dstOk o.dst s.nt with
 | true => match guardV ops s.sl o.guard with
  | some true => match o.op with
   | .call ⟨.value g, args, _⟩ => match fnOf (evS s.sl g) with
    | some (f, p, q) => match isGo P f with
     | true => match frzAll (frz 8 s.hp) (p ++ args.toList.map (evS s.sl) ++ q) with
      | some (zs, ids) => match runV P K run f zs with
       | some x => s.calledY o.dst x ids (k (none, ids) x)
       | none => none
      | none => none
     | false => none
    | none => none
   | op => match okOp op with
    | true => match exOp P s.sl s.hp s.nx op with
     | some (x, f) => match noApp f with
      | true => s.putY o.dst x f (k (tgE f, rdOf s.sl op ++ crE f s.nx) x)
      | false => none
     | none => none
    | false => none
  | some false => s.putY o.dst (.tu []) .none (k (none, []) (.tu []))
  | none => none
 | false => none
def opsD (run : Code → SS → Option (Exit × SS)) (full : List Oper) : List Oper → List (Option Nat × List Nat) → List (Nat × V) → SS → Option SS
 | [], tr, sl, s => match chkD full tr.reverse with
  | true => some ⟨sl, s.hp, s.nx, s.nt⟩
  | false => none
 | o :: l, tr, sl, s => opD P K run full.toArray s o fun t x s' => putK sl o.dst x fun sl' => opsD run full l (t :: tr) sl' s'
def stepX (ih : Code → SS → Option (Exit × SS)) : Code → SS → Option (Exit × SS)
 | .skip, s => some (.normal, s)
 | .region _ ops false, s => (opsX P K inl ih ops ops.toList s).map (.normal, ·)
 | .region _ ops true, s => if P.follows .mixedOrders && klB s.hp s.nx then (opsD P K ih ops.toList ops.toList [] s.sl s).map (.normal, ·) else none
 | .seq a b, s => match ih a s with
  | some (.normal, s') => ih b s'
  | r => r
 | .cond c x y, s => match evS s.sl c with
  | .sc (.bool b) => match b with
   | true => ih x s
   | false => ih y s
  | _ => none
 | .block id c, s => match ih c s with
  | some (.exit i, s') => if i = id then some (.normal, s') else some (.exit i, s')
  | r => r
 | .loop c, s => match ih c s with
  | some (.normal, s') => ih (.loop c) s'
  | r => r
 | .exit id, s => some (.exit id, s)
 | .scope c, s => match ih c s with
  | some (.goto _, _) => none
  | r => r
 | .label _, s => some (.normal, s)
 | .ret, s => some (.ret, s)
 | _, _ => none
def exX (n : Nat) : Code → SS → Option (Exit × SS) := Nat.rec (fun _ _ => none) (fun _ ih => stepX P K inl ih) n
theorem exX_succ (n : Nat) : exX P K inl (n + 1) = stepX P K inl (exX P K inl n) := rfl
end
section
variable {P : Program} {K : Nat → List V → Option V} {inl : Nat → Bool}
theorem SameS.rel {B : Base} {S : Nat → Prop} {rho : Nat → Nat} {A : Nat → Prop} {s s' : SS} {a : Act} {w : World} (e : SameS s' s) (h : Rel B S rho A s a w) : Rel B S rho A s' a w := by
 obtain ⟨e1, e2, e3, e4⟩ := e
 exact ⟨fun t => by rw [e1]; exact h.slots t, by rw [e2]; exact h.mem, fun id hid => by rw [e3]; exact h.alt id hid, by rw [e4]; exact h.nt, h.defs⟩
theorem SameS.sops {B : Base} {ops : Array Oper} {l : List Oper} {Q : Exit → SS → Prop} {s s' : SS} (e : SameS s' s) (h : SOps P B ops l Q s') : SOps P B ops l Q s := fun S rho A a w hr => h S rho A a w (e.rel hr)
theorem SameS.swp {B : Base} {c : Code} {Q : Exit → SS → Prop} {s s' : SS} (e : SameS s' s) (h : SWp P B c Q s') : SWp P B c Q s := fun S rho A a w hr => h S rho A a w (e.rel hr)
def Sound (P : Program) (run : Code → SS → Option (Exit × SS)) : Prop := ∀ c s e s', run c s = some (e, s') → ∀ B, SWp P B c (fun e1 s1 => e1 = e ∧ s1 = s') s
def KSound (P : Program) (K : Nat → List V → Option V) : Prop := ∀ f ys x, K f ys = some x → Spec P f ys x
variable {run : Code → SS → Option (Exit × SS)}
theorem runF_parts {f : Nat} {ys : List V} {hp hp' : HP} {nx nx' : Nat} {x : V} (h : runF P run f ys hp nx = some (x, hp', nx')) : ∃ fn c e s', P.funcs[f]? = some fn ∧ fn.body = some c ∧ ys.length ≤ fn.ntmps ∧
  run c ⟨stSl 0 ys, hp, nx, fn.ntmps⟩ = some (e, s') ∧ isEnd e = true ∧ resV P fn s' = some x ∧ s'.hp = hp' ∧ s'.nx = nx' := by
 unfold runF at h
 split at h
 ·rename_i fn hf
  split at h
  ·rename_i c hb
   split at h
   ·rename_i hn
    rw [stK_eq] at h
    split at h
    ·rename_i e s' hrun
     split at h
     ·rename_i he
      obtain ⟨y, hy, e1⟩ := Option.map_eq h
      simp only [Prod.mk.injEq] at e1
      obtain ⟨rfl, rfl, rfl⟩ := e1
      exact ⟨fn, c, e, s', hf, hb, Nat.le_of_ble_eq_true hn, hrun, he, hy, rfl, rfl⟩
     ·cases h
    ·cases h
   ·cases h
  ·cases h
 ·cases h
theorem runF_sound (hr : Sound P run) {f : Nat} {ys : List V} {hp hp' : HP} {nx nx' : Nat} {x : V} (h : runF P run f ys hp nx = some (x, hp', nx')) : Inl P f ys hp nx x hp' nx' := by
 obtain ⟨fn, c, e, s', hf, hb, hn, hrun, he, hy, rfl, rfl⟩ := runF_parts h
 refine ⟨fn, c, hf, hb, hn, fun B _ => (hr c _ e s' hrun B).mono ?_⟩
 rintro e1 s1 ⟨rfl, rfl⟩
 cases e1 <;> first | exact ⟨x, hy, Le.refl _ _⟩ | cases he
theorem runV_sound (hr : Sound P run) (hK : KSound P K) {f : Nat} {ys : List V} {x : V} (h : runV P K run f ys = some x) : Spec P f ys x := by
 unfold runV at h
 split at h
 ·rename_i hk; cases h; exact hK f ys _ hk
 ·split at h
  ·rename_i y hp nx' hF
   obtain ⟨⟨z, ids⟩, hz, e⟩ := Option.map_eq h
   cases e
   obtain ⟨fn, c, e, s', hf, hb, hn, hrun, he, hy, rfl, rfl⟩ := runF_parts hF
   refine Spec.of hf hb hn fun B _ => (hr c _ e s' hrun B).mono ?_
   rintro e1 s1 ⟨rfl, rfl⟩
   cases e1 <;> first | exact ⟨y, ids, hy, hz⟩ | cases he
  ·cases h
theorem SOps.callV {B : Base} {s : SS} {ops : Array Oper} {Q : Exit → SS → Prop} {o : Oper} {l : List Oper} {g : Operand} {f : Nat} {p q : List V} {args : Array Operand} {ts : Array TypeId} {ys : List V} {ids : List Nat} {x : V} (ho : o.op = .call ⟨.value g, args, ts⟩) (hg : guardV ops s.sl o.guard = some true)
  (hd : dstOk o.dst s.nt = true) (hfn : fnOf (evS s.sl g) = some (f, p, q)) (hgo : isGo P f = true) (hf : frzAll (frz 8 s.hp) (p ++ args.toList.map (evS s.sl) ++ q) = some (ys, ids)) (hs : Spec P f ys x) (k : SOps P B ops l Q (s.called o.dst x ids)) : SOps P B ops (o :: l) Q s := by
 intro S rho A a w hr
 have hw := guard_sound hr.slots hg
 refine wpList_step fun K hK => ?_
 rw [if_pos hw]
 obtain ⟨ps, qs, he, hps, hqs⟩ := fn_sound hfn (ev_sound hr.mem.tab hr.slots g)
 have hall := (hps.append (All.ev hr.mem.tab hr.slots args.toList)).append hqs
 obtain ⟨h1, h2⟩ := frzAll_sound (frz_sound hr.mem 8) hf hall
 have hmf := hr.mem.freeze ids h2
 have hrun : (execOp a.eval o).run P w = .ok (.enter f (ps ++ args.map a.eval ++ qs)) w := by
  simp only [execOp, ho, resolve, he, Deferred.ofValue, Sem.run_bind, Sem.run_pure, Result.andThen_ok, invoke]
  exact callFunc_go hgo _ w
 have hvl : (ps ++ args.map a.eval ++ qs).toList = ps.toList ++ args.toList.map a.eval ++ qs.toList := by simp
 unfold Oper.wp
 rw [hrun]
 refine (hs (addS S rho A ids) w (ps ++ args.map a.eval ++ qs) hmf.slt hmf.tab ⟨by rw [hvl]; exact h1.1, fun i y u hy hu => (h1.2 i y u hy (by rw [← hvl]; exact hu)).rho⟩).mono ?_
 rintro e w' ⟨v, rfl, g, hx⟩
 refine hK _ _ ?_
 have hA : ∀ id, A id → A id ∧ rho id = rho id ∧ ∀ n, szAt w (rho id) n → szAt w' (rho id) n := fun id h => ⟨h, rfl, fun _ => g.szAt⟩
 by_cases hfl : flat x = true
 ·have hm' := hr.mem.came g
  refine k (fun b => S b ∨ (w.heap.size ≤ b ∧ b < w'.heap.size)) rho A _ _ ⟨slots_put hr.slots (by rw [hr.nt]; exact hd) (fun b hb => ⟨.inl hb, g.block b (hr.mem.slt b hb)⟩) hA (flat_sound hfl hx.rho.open), ?_, hr.alt, by rw [put_size]; exact hr.nt, by rw [put_defers]; exact hr.defs⟩
  show Mem B _ rho A (if flat x then s.hp else fzHp s.hp ids) w'
  rw [if_pos hfl]; exact hm'
 ·have hm' := hmf.came g
  refine k (fun b => addS S rho A ids b ∨ (w.heap.size ≤ b ∧ b < w'.heap.size)) rho A _ _ ⟨slots_put hr.slots (by rw [hr.nt]; exact hd) (fun b hb => ⟨.inl (.inl hb), g.block b (hr.mem.slt b hb)⟩) hA hx.rho.open, ?_, hr.alt, by rw [put_size]; exact hr.nt, by rw [put_defers]; exact hr.defs⟩
  show Mem B _ rho A (if flat x then s.hp else fzHp s.hp ids) w'
  rw [if_neg hfl]; exact hm'
theorem runX_sound {R : Type} {B : Base} {ops : Array Oper} {s : SS} {o : Oper} {l : List Oper} {Q : Exit → SS → Prop} {k : SS → Option R} {r : R} (h : runX P ops s o k = some r) (hk : ∀ s', k s' = some r → SOps P B ops l Q s') : SOps P B ops (o :: l) Q s := by
 unfold runX at h
 split at h
 ·rename_i hd
  split at h
  ·rename_i hg
   split at h
   ·rename_i x f hx
    obtain ⟨s', e1, e2⟩ := putX_eq (R := Option R) s o.dst x f
    rw [e2] at h
    exact SOps.run1 (s' := s.put o.dst x f) (by unfold run1; rw [if_pos hd, hg]; simp only [hx, Option.map_some]) (e1.sops (hk s' h))
   ·cases h
  ·rename_i hg
   obtain ⟨s', e1, e2⟩ := putX_eq (R := Option R) s o.dst (.tu []) .none
   rw [e2] at h
   exact SOps.run1 (s' := s.put o.dst (.tu []) .none) (by unfold run1; rw [if_pos hd, hg]) (e1.sops (hk s' h))
  ·cases h
 ·cases h
theorem opX_sound {R : Type} (hr : Sound P run) (hK : KSound P K) {B : Base} {ops : Array Oper} {s : SS} {o : Oper} {l : List Oper} {Q : Exit → SS → Prop} {k : SS → Option R} {r : R} (h : opX P K inl run ops s o k = some r) (hk : ∀ s', k s' = some r → SOps P B ops l Q s') : SOps P B ops (o :: l) Q s := by
 unfold opX at h
 split at h
 ·rename_i g args ts ho
  split at h
  ·rename_i hd
   split at h
   ·rename_i hg
    split at h
    ·rename_i f p q hfn
     unfold callX at h
     split at h
     ·rename_i hgo
      split at h
      ·rename_i zs ids hz
       split at hz
       ·cases hz
       ·split at h
        ·rename_i x hx
         obtain ⟨s', e1, e2⟩ := calledX_eq (R := Option R) s o.dst x ids
         rw [e2] at h
         exact SOps.callV ho hg hd hfn hgo hz (runV_sound hr hK hx) (e1.sops (hk s' h))
        ·cases h
      ·split at h
       ·rename_i x hp' nx' hx
        rw [putK_eq] at h
        exact SOps.inl ho hg hd hfn hgo (runF_sound hr hx) (SameS.sops (s' := ⟨putT s.sl o.dst x, hp', nx', s.nt⟩) ⟨fun t => get_putT s.sl o.dst x t, rfl, rfl, rfl⟩ (hk _ h))
       ·cases h
     ·cases h
    ·cases h
   ·rename_i hg
    obtain ⟨s', e1, e2⟩ := putX_eq (R := Option R) s o.dst (.tu []) .none
    rw [e2] at h
    exact SOps.run1 (s' := s.put o.dst (.tu []) .none) (by unfold run1; rw [if_pos hd, hg]) (e1.sops (hk s' h))
   ·cases h
  ·cases h
 ·exact runX_sound h hk
theorem opsX_sound (hr : Sound P run) (hK : KSound P K) {B : Base} {ops : Array Oper} {Q : Exit → SS → Prop} : ∀ {l : List Oper} {s s' : SS}, opsX P K inl run ops l s = some s' → Q .normal s' → SOps P B ops l Q s
 | [], s, s', h, k => by simp only [opsX, Option.some.injEq] at h; subst h; exact SOps.nil k
 | o :: l, s, s', h, k => by
  simp only [opsX] at h
  exact opX_sound hr hK h fun s1 h1 => opsX_sound hr hK h1 k
theorem opD_sound {R : Type} (hr : Sound P run) (hK : KSound P K) {ops : Array Oper} {s : SS} {o : Oper} {k : Option Nat × List Nat → V → SS → Option R} {r : R} (h : opD P K run ops s o k = some r) : ∃ e s', DStep P ops o s e s' ∧ k (pr e) e.x s' = some r := by
 unfold opD at h
 split at h
 ·rename_i hd
  split at h
  ·rename_i hg
   split at h
   ·rename_i g args ts ho
    split at h
    ·rename_i f p q hfn
     split at h
     ·rename_i hgo
      split at h
      ·rename_i zs ids hz
       split at h
       ·rename_i x hx
        rw [calledY_eq] at h
        exact ⟨⟨x, none, ids⟩, _, ⟨hd, .inr (.inr (.inl ⟨g, f, p, q, args, ts, zs, flat x, ho, hfn, hg, hgo, .inl hz, runV_sound hr hK hx, rfl, rfl, fun h => h⟩))⟩, h⟩
       ·cases h
      ·cases h
     ·cases h
    ·cases h
   ·split at h
    ·rename_i hok
     split at h
     ·rename_i x f hx
      split at h
      ·rename_i hna
       rw [putY_eq] at h
       exact ⟨⟨x, tgE f, rdOf s.sl o.op ++ crE f s.nx⟩, _, ⟨hd, .inl ⟨f, hg, hok, hx, rfl, rfl, rfl, hna⟩⟩, h⟩
      ·cases h
     ·cases h
    ·cases h
  ·rename_i hg
   rw [putY_eq] at h
   exact ⟨⟨.tu [], none, []⟩, _, ⟨hd, .inr (.inl ⟨hg, rfl, rfl, rfl, rfl⟩)⟩, h⟩
  ·cases h
 ·cases h
theorem SWp.conv {B : Base} {c : Code} {Q Q' : Exit → SS → Prop} {s : SS} (h : SWp P B c Q s) (hq : ∀ e s1, Q e s1 → ∃ s2, SameS s2 s1 ∧ Q' e s2) : SWp P B c Q' s := by
 intro S rho A a w hr
 refine wp_mono (h S rho A a w hr) ?_
 rintro e a w ⟨S, rho, A, s1, h1, h2⟩
 obtain ⟨s2, h3, h4⟩ := hq e s1 h1
 exact ⟨S, rho, A, s2, h4, h3.rel h2⟩
theorem opsD_sound (hr : Sound P run) (hK : KSound P K) {full : List Oper} : ∀ {l : List Oper} {tr : List (Option Nat × List Nat)} {sl : List (Nat × V)} {s s' : SS}, opsD P K run full l tr sl s = some s' → (∀ t, get sl t = get s.sl t) →
  ∃ es s1, DTr P full.toArray s l es s1 ∧ chkD full (tr.reverse ++ es.map pr) = true ∧ SameS s' s1
 | [], tr, sl, s, s', h, e => by
  simp only [opsD] at h
  split at h
  ·rename_i hc; cases h
   exact ⟨[], s, ⟨rfl, rfl⟩, by simpa using hc, e, rfl, rfl, rfl⟩
  ·cases h
 | o :: l, tr, sl, s, s', h, e => by
  simp only [opsD] at h
  obtain ⟨en, s1, h1, h2⟩ := opD_sound hr hK h
  rw [putK_eq] at h2
  obtain ⟨es, s2, h3, h4, h5⟩ := opsD_sound hr hK h2 (fun t => by
   rw [get_putT, h1.sl.1]
   cases o.dst with
   | none => exact e t
   | some d => simp only [putS, get]; rw [e])
  exact ⟨en :: es, s2, ⟨en, es, s1, rfl, h1, h3⟩, by simpa using h4, h5⟩
theorem exX_sound (hK : KSound P K) : ∀ n, Sound P (exX P K inl n)
 | 0 => fun c s e s' h => by cases h
 | n + 1 => by
  have ih := exX_sound hK n
  intro c s e s' h B
  rw [exX_succ] at h
  cases c with
  | skip => simp only [stepX, Option.some.injEq, Prod.mk.injEq] at h; obtain ⟨rfl, rfl⟩ := h; exact SWp.skip ⟨rfl, rfl⟩
  | region id ops d =>
   cases d with
   | false =>
    obtain ⟨s1, h1, e1⟩ := Option.map_eq h
    cases e1
    exact SWp.region (l := ops.toList) (opsX_sound ih hK h1 ⟨rfl, rfl⟩)
   | true =>
    simp only [stepX] at h
    split at h
    ·rename_i hc
     rw [Bool.and_eq_true] at hc
     obtain ⟨s1, h1, e1⟩ := Option.map_eq h
     cases e1
     obtain ⟨es, s1, k1, k2, k3⟩ := opsD_sound ih hK h1 (fun _ => rfl)
     obtain ⟨st, en, k4, k5, k6⟩ := chk_run (klB_sound hc.2) k1 (by simpa using k2)
     exact SWp.conv (region_draw (id := id) (B := B) (Q := fun e2 s2 => e2 = .normal ∧ s2 = s1) k4 k5 hc.1 ⟨rfl, k6⟩) (by rintro e2 s2 ⟨rfl, rfl⟩; exact ⟨_, k3, rfl, rfl⟩)
    ·cases h
  | seq a b =>
   simp only [stepX] at h
   split at h
   ·rename_i s1 h1
    refine SWp.seq fun K1 hK1 => (ih a s _ _ h1 B).mono ?_
    rintro e1 s2 ⟨rfl, rfl⟩
    exact hK1 _ (ih b _ _ _ h B)
   ·rename_i hne
    refine SWp.seq fun K1 hK1 => (ih a s _ _ h B).mono ?_
    rintro e1 s2 ⟨rfl, rfl⟩
    cases e1 <;> first | exact ⟨rfl, rfl⟩ | exact absurd h (hne _)
  | cond c x y =>
   simp only [stepX] at h
   split at h
   ·rename_i b hc
    cases b with
    | true => exact SWp.cond hc (fun _ => ih x s _ _ h B) (fun h => by cases h)
    | false => exact SWp.cond hc (fun h => by cases h) (fun _ => ih y s _ _ h B)
   ·cases h
  | block id c =>
   simp only [stepX] at h
   split at h
   ·rename_i i s1 h1
    refine SWp.block ((ih c s _ _ h1 B).mono ?_)
    rintro e1 s2 ⟨rfl, rfl⟩
    simp only [blockQ]
    split at h
    ·rename_i hi; rw [if_pos hi]; cases h; exact ⟨rfl, rfl⟩
    ·rename_i hi; rw [if_neg hi]; cases h; exact ⟨rfl, rfl⟩
   ·rename_i hne
    refine SWp.block ((ih c s _ _ h B).mono ?_)
    rintro e1 s2 ⟨rfl, rfl⟩
    cases e1 <;> first | exact ⟨rfl, rfl⟩ | exact absurd h (hne _ _)
  | loop c =>
   refine SWp.loop (α := Nat × SS) (fun x => x.2) (fun x => x.1 ≤ n + 1 ∧ exX P K inl x.1 (.loop c) x.2 = some (e, s')) (fun x => x.1) (n + 1, s) (Le.refl _ _) ⟨znb _, h⟩ ?_
   rintro ⟨m, s1⟩ ⟨hm, hx⟩ K1 hK1
   cases m with
   | zero => cases hx
   | succ m =>
    have ihm : Sound P (exX P K inl m) := by
     rcases Nat.lt_or_eq_of_le (Nat.le_of_succ_le_succ hm) with hlt | heq
     ·exact exX_sound hK m
     ·rw [heq]; exact ih
    simp only [exX_succ, stepX] at hx
    split at hx
    ·rename_i s2 h1
     refine (ihm c s1 _ _ h1 B).mono ?_
     rintro e1 s3 ⟨rfl, rfl⟩
     exact hK1 _ (m, s3) (Le.refl _ _) ⟨by simp only at hm ⊢; omega, hx⟩ (by simp)
    ·rename_i hne
     refine (ihm c s1 _ _ hx B).mono ?_
     rintro e1 s3 ⟨rfl, rfl⟩
     cases e1 <;> first | exact ⟨rfl, rfl⟩ | exact absurd hx (hne _)
  | exit id => simp only [stepX, Option.some.injEq, Prod.mk.injEq] at h; obtain ⟨rfl, rfl⟩ := h; exact SWp.exit ⟨rfl, rfl⟩
  | scope c =>
   simp only [stepX] at h
   split at h
   ·cases h
   ·rename_i hne
    refine SWp.scope ((ih c s _ _ h B).mono ?_)
    rintro e1 s2 ⟨rfl, rfl⟩
    cases e1 <;> first | exact ⟨rfl, rfl⟩ | exact absurd h (hne _ _)
  | label l => simp only [stepX, Option.some.injEq, Prod.mk.injEq] at h; obtain ⟨rfl, rfl⟩ := h; exact SWp.label ⟨rfl, rfl⟩
  | ret => simp only [stepX, Option.some.injEq, Prod.mk.injEq] at h; obtain ⟨rfl, rfl⟩ := h; exact SWp.ret ⟨rfl, rfl⟩
  | _ => cases h
theorem Spec.eval (hK : KSound P K) (n : Nat) (inl : Nat → Bool) {f : Nat} {ys : List V} {x : V} (h : runV P (fun _ _ => none) (exX P K inl n) f ys = some x) : Spec P f ys x := by
 exact runV_sound (K := fun _ _ => none) (exX_sound hK n) (fun _ _ _ h => by cases h) h
end
end Go.Proofs.Ytdkkgndibagihaa
namespace Go.Proofs.Ytdkkgndibagihaa
open Go.RowKit
mutual
/-- the numbers of own blocks renamed -/
def V.ren (f : Nat → Nat) : V → V
 | .sc v => .sc v
 | .ag cs => .ag (V.renL f cs)
 | .tu cs => .tu (V.renL f cs)
 | .pt id off => .pt (f id) off
 | .sl id off len z cap => .sl (f id) off len z cap
 | .im cs len => .im cs len
 | .pi cs => .pi cs
 | .fn g p q => .fn g (V.renL f p) (V.renL f q)
 | .mp id b ks vs => .mp (f id) b ks vs
 | .junk => .junk
def V.renL (f : Nat → Nat) : List V → List V
 | [] => []
 | x :: r => V.ren f x :: V.renL f r
end
section
variable (f : Nat → Nat)
@[go_sem] theorem ren_sc (v : Value) : V.ren f (.sc v) = .sc v := by simp [V.ren]
@[go_sem] theorem ren_ag (cs : List V) : V.ren f (.ag cs) = .ag (V.renL f cs) := by simp [V.ren]
@[go_sem] theorem ren_tu (cs : List V) : V.ren f (.tu cs) = .tu (V.renL f cs) := by simp [V.ren]
@[go_sem] theorem ren_pt (id off : Nat) : V.ren f (.pt id off) = .pt (f id) off := by simp [V.ren]
@[go_sem] theorem ren_sl (id off len z : Nat) (cap : Option Nat) : V.ren f (.sl id off len z cap) = .sl (f id) off len z cap := by simp [V.ren]
@[go_sem] theorem ren_im (cs : List V) (len : Nat) : V.ren f (.im cs len) = .im cs len := by simp [V.ren]
@[go_sem] theorem ren_mp (id b : Nat) (ks : List Int) (vs : List V) : V.ren f (.mp id b ks vs) = .mp (f id) b ks vs := by simp [V.ren]
@[go_sem] theorem ren_pi (cs : List V) : V.ren f (.pi cs) = .pi cs := by simp [V.ren]
@[go_sem] theorem ren_fn (g : Fn) (p q : List V) : V.ren f (.fn g p q) = .fn g (V.renL f p) (V.renL f q) := by simp [V.ren]
@[go_sem] theorem ren_junk : V.ren f .junk = .junk := by simp [V.ren]
@[go_sem] theorem renL_nil : V.renL f [] = [] := by simp [V.renL]
@[go_sem] theorem renL_cons (x : V) (r : List V) : V.renL f (x :: r) = V.ren f x :: V.renL f r := by simp [V.renL]
theorem renL_get : ∀ (cs : List V) (i : Nat), (V.renL f cs)[i]? = cs[i]?.map (V.ren f)
 | [], i => by simp [V.renL]
 | x :: r, 0 => by simp [V.renL]
 | x :: r, i + 1 => by simp [V.renL, renL_get r i]
theorem renL_len (cs : List V) : (V.renL f cs).length = cs.length := by
 induction cs with
 | nil => simp [V.renL]
 | cons x r ih => simp [V.renL, ih]
theorem renL_app (a b : List V) : V.renL f (a ++ b) = V.renL f a ++ V.renL f b := by
 induction a with
 | nil => simp [V.renL]
 | cons x r ih => simp [V.renL, ih]
theorem renL_map_sc (l : List Value) : V.renL f (l.map .sc) = l.map .sc := by
 induction l with
 | nil => simp [V.renL]
 | cons x r ih => simp [V.renL, V.ren, ih]
end
def renS (f : Nat → Nat) (sl : List (Nat × V)) : List (Nat × V) := sl.map fun p => (p.1, p.2.ren f)
def renH (f : Nat → Nat) (hp : List (Nat × Blk)) : List (Nat × Blk) := hp.map fun p => (f p.1, ⟨p.2.ty, V.renL f p.2.cs, p.2.fz⟩)
def bren (f : Nat → Nat) : Option Blk → Option Blk
 | some k => some ⟨k.ty, V.renL f k.cs, k.fz⟩
 | none => none
@[go_sem] theorem bren_some (f : Nat → Nat) (ty : Nat) (cs : List V) (fz : Bool) : bren f (some ⟨ty, cs, fz⟩) = some ⟨ty, V.renL f cs, fz⟩ := rfl
@[go_sem] theorem get_ren (f : Nat → Nat) (sl : List (Nat × V)) (t : Nat) : get (renS f sl) t = (get sl t).ren f := by
 induction sl with
 | nil => simp [renS, get, V.ren]
 | cons p r ih =>
  obtain ⟨k, x⟩ := p
  simp only [renS, zld, get] at ih ⊢
  split
  ·rfl
  ·exact ih
theorem hget_ren {f : Nat → Nat} (hf : ∀ i, f (f i) = i) (hp : List (Nat × Blk)) (id : Nat) : hget (renH f hp) id = bren f (hget hp (f id)) := by
 induction hp with
 | nil => rfl
 | cons p r ih =>
  obtain ⟨k, x⟩ := p
  simp only [renH, zld, hget] at ih ⊢
  by_cases h : id = f k
  ·subst h; rw [if_pos rfl, hf, if_pos rfl]; rfl
  ·rw [if_neg h, if_neg (fun e => h (by rw [← e, hf]))]; exact ih
theorem R.ren {S : Nat → Prop} {rho : Nat → Nat} {w : World} {f : Nat → Nat} (hf : ∀ i, f (f i) = i) {A : Nat → Prop} {x : V} {v : Value} (h : R S rho w A x v) : R S (fun i => rho (f i)) w (fun i => A (f i)) (x.ren f) v := by
 have lift : ∀ {cs : List V} {vs : Array Value} {A : Nat → Prop}, (∀ (i : Nat) (x : V) (u : Value), cs[i]? = some x → vs[i]? = some u → R S (fun i => rho (f i)) w (fun i => A (f i)) (x.ren f) u) →
   ∀ (i : Nat) (x : V) (u : Value), (V.renL f cs)[i]? = some x → vs[i]? = some u → R S (fun i => rho (f i)) w (fun i => A (f i)) x u := by
  intro cs vs A h i x u hx hu
  rw [renL_get] at hx
  cases hc : cs[i]? with
  | none => rw [hc] at hx; cases hx
  | some y => rw [hc] at hx; cases hx; exact h i y u hc hu
 have clo : ∀ {cs : List V} {g : Nat → Value} {a : Nat → Option Addr}, (∀ (i : Nat) (x : V), cs[i]? = some x → R S rho w (fun _ => False) x (g i)) → ∀ (i : Nat) (x : V), cs[i]? = some x → R S (fun i => rho (f i)) w (fun _ => False) x (g i) :=
  fun h i x hx => (h i x hx).mono (fun _ h => ⟨h, rfl⟩) (fun _ h => h.elim)
 induction h with
 | sc v => rw [ren_sc]; exact .sc v
 | junk v => rw [ren_junk]; exact .junk v
 | ag h _ ih => rw [ren_ag]; exact .ag (by rw [renL_len, h]) (lift ih)
 | tu h _ ih => rw [ren_tu]; exact .tu (by rw [renL_len, h]) (lift ih)
 | @pt A id off h =>
  rw [ren_pt]
  have := R.pt (S := S) (rho := fun i => rho (f i)) (w := w) (A := fun i => A (f i)) (id := f id) (off := off) (by rw [hf]; exact h)
  simpa only [hf] using this
 | @sl A id off len z c cap h hl hm hc hz =>
  rw [ren_sl]
  have := R.sl (S := S) (rho := fun i => rho (f i)) (w := w) (A := fun i => A (f i)) (id := f id) (off := off) (len := len) (z := z) (c := c) (cap := cap) (by rw [hf]; exact h) hl hm hc (by rw [hf]; exact hz)
  simpa only [hf] using this
 | sln h => rw [ren_sl]; exact .sln h
 | im0 a b c => rw [ren_im]; exact .im0 a b c
 | im1 g a b c d e => rw [ren_im]; exact .im1 g a b c d fun i x hx => (e i x hx).mono (fun _ h => ⟨h, rfl⟩) (fun _ h => h.elim)
 | pi g a c e => rw [ren_pi]; exact .pi g a c fun i x hx => (e i x hx).mono (fun _ h => ⟨h, rfl⟩) (fun _ h => h.elim)
 | fn hp hq _ _ i1 i2 => rw [ren_fn]; exact .fn (by rw [renL_len, hp]) (by rw [renL_len, hq]) (lift i1) (lift i2)
 | @mp A id b c ks vs es h hb hm hk hl hx =>
  rw [ren_mp]
  exact R.mp (S := S) (rho := fun i => rho (f i)) (w := w) (A := fun i => A (f i)) (id := f id) (by rw [hf]; exact h) (by rw [hf]; exact hb) (by rw [hf]; exact hm) hk hl fun i x e h1 h2 => (hx i x e h1 h2).mono (fun _ h => ⟨h, rfl⟩) (fun _ h => h.elim)
def swp (a b i : Nat) : Nat := if i = a then b else if i = b then a else i
@[go_sem] theorem swp_eq (a b i : Nat) : swp a b i = if i = a then b else if i = b then a else i := rfl
theorem swp_swp (a b i : Nat) : swp a b (swp a b i) = i := by
 unfold swp
 repeat' split
 all_goals omega
@[go_sem] theorem hget_swp (a b : Nat) (hp : List (Nat × Blk)) (id : Nat) : hget (renH (swp a b) hp) id = bren (swp a b) (hget hp (swp a b id)) := hget_ren (swp_swp a b) hp id
theorem Le.swap {B : Base} {s' : SS} {sl : List (Nat × V)} {hp : List (Nat × Blk)} {nx nt : Nat} (a b : Nat) {m : Nat} (hB : B.Old m) (ha : m ≤ a ∧ a < nx) (hb : m ≤ b ∧ b < nx) (h : Le B ⟨renS (swp a b) sl, renH (swp a b) hp, nx, nt⟩ s') : Le B ⟨sl, hp, nx, nt⟩ s' := by
 intro S rho A c w hr
 refine h S (fun i => rho (swp a b i)) (fun i => A (swp a b i)) c w ⟨fun t => ?_, ?_, fun id hid => ?_, hr.nt, hr.defs⟩
 ·show R _ _ _ _ (get (renS (swp a b) sl) t) _
  rw [get_ren]; exact (hr.slots t).ren (swp_swp a b)
 ·have hm := hr.mem
  have g : ∀ {id k}, hget (renH (swp a b) hp) id = some k → ∃ k0, hget hp (swp a b id) = some k0 ∧ k = ⟨k0.ty, V.renL (swp a b) k0.cs, k0.fz⟩ := by
   intro id k h
   rw [hget_swp] at h
   cases hk : hget hp (swp a b id) with
   | none => rw [hk] at h; cases h
   | some k0 => rw [hk] at h; cases h; exact ⟨k0, rfl, rfl⟩
  have fixK : ∀ id, B.K id → swp a b id = id := by
   intro id h
   have := hB id h
   unfold swp
   rw [if_neg (by omega), if_neg (by omega)]
  exact {
   cells := fun id k hk ha => by
    obtain ⟨k0, e, rfl⟩ := g hk
    obtain ⟨cells, c1, c2⟩ := hm.cells _ k0 e ha
    refine ⟨cells, c1, fun i x hx => ?_⟩
    have hx' : (V.renL (swp a b) k0.cs)[i]? = some x := hx
    rw [renL_get] at hx'
    cases hc : k0.cs[i]? with
    | none => rw [hc] at hx'; cases hx'
    | some y =>
     rw [hc] at hx'; cases hx'
     obtain ⟨u, hu, hr⟩ := c2 i y hc
     exact ⟨u, hu, hr.ren (swp_swp a b)⟩
   fz := fun id k hk ha hf => by
    obtain ⟨k0, e, rfl⟩ := g hk
    exact hm.fz _ k0 e ha hf
   own := fun id k hk ha => by
    obtain ⟨k0, e, rfl⟩ := g hk
    exact hm.own _ k0 e ha
   inj := fun id id' k k' hk hk' ha ha' he => by
    obtain ⟨k0, e, rfl⟩ := g hk
    obtain ⟨k0', e', rfl⟩ := g hk'
    have := hm.inj _ _ k0 k0' e e' ha ha' he
    rw [← swp_swp a b id, this, swp_swp]
   slt := hm.slt
   sub := hm.sub
   base := hm.base
   frame := hm.frame
   keep := fun id h => by rw [fixK id h]; exact hm.keep id h }
 ·have : swp a b id < nx := hr.alt _ hid
  unfold swp at this
  show id < nx
  split at this
  ·omega
  ·split at this <;> omega
def pick2 (t : Bool) (x y : Code) : Code := bif t then x else y
theorem SC.condB {P : Program} {B : Base} {c : Operand} {x y : Code} {cs : List Code} {Q : Exit → SS → Prop} {s : SS} {t : Bool} (hc : evS s.sl c = .sc (.bool t)) (h : SC P B (pick2 t x y :: cs) Q s) : SC P B (.cond c x y :: cs) Q s :=
 SC.cond hc (fun e => by subst e; exact h) (fun e => by subst e; exact h)
theorem pickT {P : Program} {B : Base} {x y : Code} {cs : List Code} {Q : Exit → SS → Prop} {s : SS} (h : SC P B (x :: cs) Q s) : SC P B (pick2 true x y :: cs) Q s := h
theorem pickA {P : Program} {B : Base} {x y : Code} {cs : List Code} {Q : Exit → SS → Prop} {s : SS} {t : Bool} (h : SC P B (pick2 t x y :: cs) Q s) : SC P B (pick2 t x y :: cs) Q s := h
theorem pickF {P : Program} {B : Base} {x y : Code} {cs : List Code} {Q : Exit → SS → Prop} {s : SS} (h : SC P B (y :: cs) Q s) : SC P B (pick2 false x y :: cs) Q s := h
@[go_sem] theorem repl3 {α : Type} (x : α) : List.replicate 3 x = [x, x, x] := rfl
@[go_sem] theorem bb_ft : (false == true) = false := rfl
@[go_sem] theorem bb_tf : (true == false) = false := rfl
theorem SO.nilq {P : Program} {B : Base} {ops : Array Oper} {l : List Oper} {cs' : List Code} {Q : Exit → SS → Prop} {s : SS} {d : Option Tmp} {t ty : TypeId} {x y : Operand} {u : TypeId} {pos : String} {after : Array Edge} {gd : Option (Nat × Bool)} {cs : List V} {n : Nat}
  (hT : isSl P t = true) (hx : evS s.sl x = .im cs n) (hy : evS s.sl y = .sc (.slice none 0 0)) (hg : guardV ops s.sl gd = some true ∧ dstOk d s.nt = true)
  (k : ∀ b, SO P B ops l cs' Q (s.put d (.sc (.bool b)) .none)) : SO P B ops (⟨d, .binOp .eql t x y u, ty, pos, after, gd⟩ :: l) cs' Q s := by
 intro S rho A a w hr
 have hw := guard_sound (o := ⟨d, .binOp .eql t x y u, ty, pos, after, gd⟩) hr.slots hg.1
 refine wpList_step fun K hK => ?_
 rw [if_pos hw]
 have h1 := ev_sound hr.mem.tab hr.slots x
 have h2 := ev_sound hr.mem.tab hr.slots y
 rw [hx] at h1
 rw [hy] at h2
 obtain ⟨ad, m, c, e1⟩ : ∃ ad m c, a.eval x = .slice ad m c := by
  generalize a.eval x = v at h1
  cases h1 with
  | im0 => exact ⟨_, _, _, rfl⟩
  | im1 => exact ⟨_, _, _, rfl⟩
 have e2 : a.eval y = .slice none 0 0 := by
  generalize a.eval y = v at h2
  cases h2; rfl
 have hO : OutN B S rho A s.hp s.nx w ((execOp a.eval ⟨d, .binOp .eql t x y u, ty, pos, after, gd⟩).run P w) (.sc (.bool ad.isNone)) .none := by
  refine OutN.of hr.mem ?_
  rw [e1, e2]
  exact nil_sound hT rfl rfl
 obtain ⟨v, w', rho', A', g1, g2, g3, g4, g5, g6⟩ := hO
 have := hK _ _ (k ad.isNone S rho' A' (a.put d v) w' (hr.put hg.2 g2 g3 g4 g5 g6))
 unfold Oper.wp
 rcases g1 with g1 | ⟨g1, rfl⟩ <;> rw [g1] <;> exact this
def wa := @SC.condB
def wb := @SC.region
def wc := @SO.run
def pT := @pickT
def pF := @pickF
def pA := @pickA
def wd := @DO.run
end Go.Proofs.Ytdkkgndibagihaa
namespace Go.Proofs.Ytdkkgndibagihaa
@[go_sem] theorem Tab.has2 : hasT Try.prog 2 = true := by kernel_rfl
@[go_sem] theorem Tab.int2 : intOf' Try.prog 2 = some .i64 := by kernel_rfl
@[go_sem] theorem Tab.agg3 : aggOf Try.prog 3 = some false := by kernel_rfl
@[go_sem] theorem Tab.sz3 : szOf Try.prog 3 = some 1 := by kernel_rfl
@[go_sem] theorem Tab.has3 : hasT Try.prog 3 = true := by kernel_rfl
@[go_sem] theorem Tab.int3 : intOf' Try.prog 3 = some .i64 := by kernel_rfl
@[go_sem] theorem Tab.zero3 : zeroOf Try.prog 3 = some (.int .i64 0) := by kernel_rfl
@[go_sem] theorem Tab.agg4 : aggOf Try.prog 4 = some false := by kernel_rfl
@[go_sem] theorem Tab.sz4 : szOf Try.prog 4 = some 1 := by kernel_rfl
@[go_sem] theorem Tab.bool4 : isBool Try.prog 4 = true := by kernel_rfl
@[go_sem] theorem Tab.agg5 : aggOf Try.prog 5 = some false := by kernel_rfl
@[go_sem] theorem Tab.sz5 : szOf Try.prog 5 = some 1 := by kernel_rfl
@[go_sem] theorem Tab.has5 : hasT Try.prog 5 = true := by kernel_rfl
@[go_sem] theorem Tab.int5 : intOf' Try.prog 5 = some .u8 := by kernel_rfl
@[go_sem] theorem Tab.sl22 : slOf Try.prog 22 = some (53, 3) := by kernel_rfl
@[go_sem] theorem Tab.sl24 : slOf Try.prog 24 = some (39, 3) := by kernel_rfl
@[go_sem] theorem Tab.mk24 : mkOf Try.prog 24 = some (39, 40, [.int .i64 0, .int .i64 0, .slice none 0 0]) := by kernel_rfl
@[go_sem] theorem Tab.isSl25 : isSl Try.prog 25 = true := by kernel_rfl
@[go_sem] theorem Tab.sl25 : slOf Try.prog 25 = some (39, 3) := by kernel_rfl
@[go_sem] theorem Tab.mk25 : mkOf Try.prog 25 = some (39, 40, [.int .i64 0, .int .i64 0, .slice none 0 0]) := by kernel_rfl
@[go_sem] theorem Tab.sl29 : slOf Try.prog 29 = some (3, 1) := by kernel_rfl
@[go_sem] theorem Tab.mk29 : mkOf Try.prog 29 = some (3, 8, [.int .i64 0]) := by kernel_rfl
@[go_sem] theorem Tab.agg32 : aggOf Try.prog 32 = some false := by kernel_rfl
@[go_sem] theorem Tab.sz32 : szOf Try.prog 32 = some 1 := by kernel_rfl
@[go_sem] theorem Tab.sl32 : slOf Try.prog 32 = some (80, 1) := by kernel_rfl
@[go_sem] theorem Tab.mk32 : mkOf Try.prog 32 = some (80, 24, [.slice none 0 0]) := by kernel_rfl
@[go_sem] theorem Tab.agg34 : aggOf Try.prog 34 = some true := by kernel_rfl
@[go_sem] theorem Tab.sz34 : szOf Try.prog 34 = some 3 := by kernel_rfl
@[go_sem] theorem Tab.zero34 : zeroOf Try.prog 34 = some (.agg #[.int .i64 0, .int .i64 0, .slice none 0 0]) := by kernel_rfl
@[go_sem] theorem Tab.fld34_0 : fldOf Try.prog 34 0 = some (0, 3, 1) := by kernel_rfl
@[go_sem] theorem Tab.fld34_1 : fldOf Try.prog 34 1 = some (1, 3, 1) := by kernel_rfl
@[go_sem] theorem Tab.fld34_2 : fldOf Try.prog 34 2 = some (2, 32, 1) := by kernel_rfl
@[go_sem] theorem Tab.pl34 : plOf Try.prog 34 = some ([.int .i64 0, .int .i64 0, .slice none 0 0], .st [(0, 1), (1, 1), (2, 1)]) := by kernel_rfl
@[go_sem] theorem Tab.agg37 : aggOf Try.prog 37 = some false := by kernel_rfl
@[go_sem] theorem Tab.sz37 : szOf Try.prog 37 = some 1 := by kernel_rfl
@[go_sem] theorem Tab.isSl37 : isSl Try.prog 37 = true := by kernel_rfl
@[go_sem] theorem Tab.sl37 : slOf Try.prog 37 = some (86, 3) := by kernel_rfl
@[go_sem] theorem Tab.mk37 : mkOf Try.prog 37 = some (86, 40, [.int .i64 0, .bool false, .slice none 0 0]) := by kernel_rfl
@[go_sem] theorem Tab.agg39 : aggOf Try.prog 39 = some true := by kernel_rfl
@[go_sem] theorem Tab.sz39 : szOf Try.prog 39 = some 3 := by kernel_rfl
@[go_sem] theorem Tab.zero39 : zeroOf Try.prog 39 = some (.agg #[.int .i64 0, .int .i64 0, .slice none 0 0]) := by kernel_rfl
@[go_sem] theorem Tab.fld39_0 : fldOf Try.prog 39 0 = some (0, 3, 1) := by kernel_rfl
@[go_sem] theorem Tab.fld39_1 : fldOf Try.prog 39 1 = some (1, 3, 1) := by kernel_rfl
@[go_sem] theorem Tab.fld39_2 : fldOf Try.prog 39 2 = some (2, 37, 1) := by kernel_rfl
@[go_sem] theorem Tab.pl39 : plOf Try.prog 39 = some ([.int .i64 0, .int .i64 0, .slice none 0 0], .st [(0, 1), (1, 1), (2, 1)]) := by kernel_rfl
@[go_sem] theorem Tab.agg46 : aggOf Try.prog 46 = some false := by kernel_rfl
@[go_sem] theorem Tab.sz46 : szOf Try.prog 46 = some 1 := by kernel_rfl
@[go_sem] theorem Tab.has46 : hasT Try.prog 46 = true := by kernel_rfl
@[go_sem] theorem Tab.agg48 : aggOf Try.prog 48 = some true := by kernel_rfl
@[go_sem] theorem Tab.sz48 : szOf Try.prog 48 = some 4 := by kernel_rfl
@[go_sem] theorem Tab.fld48_0 : fldOf Try.prog 48 0 = some (0, 5, 1) := by kernel_rfl
@[go_sem] theorem Tab.fld48_1 : fldOf Try.prog 48 1 = some (1, 5, 1) := by kernel_rfl
@[go_sem] theorem Tab.fld48_2 : fldOf Try.prog 48 2 = some (2, 5, 1) := by kernel_rfl
@[go_sem] theorem Tab.fld48_3 : fldOf Try.prog 48 3 = some (3, 46, 1) := by kernel_rfl
@[go_sem] theorem Tab.pl48 : plOf Try.prog 48 = some ([.int .u8 0, .int .u8 0, .int .u8 0, .int .i8 0], .st [(0, 1), (1, 1), (2, 1), (3, 1)]) := by kernel_rfl
@[go_sem] theorem Tab.agg51 : aggOf Try.prog 51 = some false := by kernel_rfl
@[go_sem] theorem Tab.sz51 : szOf Try.prog 51 = some 1 := by kernel_rfl
@[go_sem] theorem Tab.sl51 : slOf Try.prog 51 = some (46, 1) := by kernel_rfl
@[go_sem] theorem Tab.agg53 : aggOf Try.prog 53 = some true := by kernel_rfl
@[go_sem] theorem Tab.sz53 : szOf Try.prog 53 = some 3 := by kernel_rfl
@[go_sem] theorem Tab.fld53_0 : fldOf Try.prog 53 0 = some (0, 5, 1) := by kernel_rfl
@[go_sem] theorem Tab.fld53_1 : fldOf Try.prog 53 1 = some (1, 5, 1) := by kernel_rfl
@[go_sem] theorem Tab.fld53_2 : fldOf Try.prog 53 2 = some (2, 51, 1) := by kernel_rfl
@[go_sem] theorem Tab.sz55 : szOf Try.prog 55 = some 6 := by kernel_rfl
@[go_sem] theorem Tab.zero55 : zeroOf Try.prog 55 = some (.agg #[.int .i64 0, .int .i64 0, .slice none 0 0, .int .i64 0, .int .i64 0, .slice none 0 0]) := by kernel_rfl
@[go_sem] theorem Tab.ar55 : arOf Try.prog 55 = some (2, 39, 3) := by kernel_rfl
@[go_sem] theorem Tab.pl55 : plOf Try.prog 55 = some ([.int .i64 0, .int .i64 0, .slice none 0 0, .int .i64 0, .int .i64 0, .slice none 0 0], .ar 3) := by kernel_rfl
@[go_sem] theorem Tab.mk77 : mkOf Try.prog 77 = some (2, 8, [.int .i64 0]) := by kernel_rfl
@[go_sem] theorem Tab.agg80 : aggOf Try.prog 80 = some false := by kernel_rfl
@[go_sem] theorem Tab.sz80 : szOf Try.prog 80 = some 1 := by kernel_rfl
@[go_sem] theorem Tab.sl80 : slOf Try.prog 80 = some (84, 2) := by kernel_rfl
@[go_sem] theorem Tab.mk80 : mkOf Try.prog 80 = some (84, 32, [.bool false, .slice none 0 0]) := by kernel_rfl
@[go_sem] theorem Tab.mp81 : mpOf Try.prog 81 = some (3, 3) := by kernel_rfl
@[go_sem] theorem Tab.isM81 : isMap Try.prog 81 = true := by kernel_rfl
@[go_sem] theorem Tab.agg82 : aggOf Try.prog 82 = some false := by kernel_rfl
@[go_sem] theorem Tab.sz82 : szOf Try.prog 82 = some 1 := by kernel_rfl
@[go_sem] theorem Tab.sl82 : slOf Try.prog 82 = some (115, 1) := by kernel_rfl
@[go_sem] theorem Tab.mk82 : mkOf Try.prog 82 = some (115, 4, [.int .u32 0]) := by kernel_rfl
@[go_sem] theorem Tab.agg84 : aggOf Try.prog 84 = some true := by kernel_rfl
@[go_sem] theorem Tab.sz84 : szOf Try.prog 84 = some 2 := by kernel_rfl
@[go_sem] theorem Tab.zero84 : zeroOf Try.prog 84 = some (.agg #[.bool false, .slice none 0 0]) := by kernel_rfl
@[go_sem] theorem Tab.fld84_0 : fldOf Try.prog 84 0 = some (0, 4, 1) := by kernel_rfl
@[go_sem] theorem Tab.fld84_1 : fldOf Try.prog 84 1 = some (1, 82, 1) := by kernel_rfl
@[go_sem] theorem Tab.pl84 : plOf Try.prog 84 = some ([.bool false, .slice none 0 0], .st [(0, 1), (1, 1)]) := by kernel_rfl
@[go_sem] theorem Tab.agg86 : aggOf Try.prog 86 = some true := by kernel_rfl
@[go_sem] theorem Tab.sz86 : szOf Try.prog 86 = some 3 := by kernel_rfl
@[go_sem] theorem Tab.zero86 : zeroOf Try.prog 86 = some (.agg #[.int .i64 0, .bool false, .slice none 0 0]) := by kernel_rfl
@[go_sem] theorem Tab.fld86_0 : fldOf Try.prog 86 0 = some (0, 3, 1) := by kernel_rfl
@[go_sem] theorem Tab.fld86_1 : fldOf Try.prog 86 1 = some (1, 84, 2) := by kernel_rfl
@[go_sem] theorem Tab.pl86 : plOf Try.prog 86 = some ([.int .i64 0, .bool false, .slice none 0 0], .st [(0, 1), (1, 2)]) := by kernel_rfl
@[go_sem] theorem Tab.sl88 : slOf Try.prog 88 = some (84, 2) := by kernel_rfl
@[go_sem] theorem Tab.mk88 : mkOf Try.prog 88 = some (84, 32, [.bool false, .slice none 0 0]) := by kernel_rfl
@[go_sem] theorem Tab.mp111 : mpOf Try.prog 111 = some (3, 84) := by kernel_rfl
@[go_sem] theorem Tab.isM111 : isMap Try.prog 111 = true := by kernel_rfl
@[go_sem] theorem Tab.has113 : hasT Try.prog 113 = true := by kernel_rfl
@[go_sem] theorem Tab.int113 : intOf' Try.prog 113 = some .u64 := by kernel_rfl
@[go_sem] theorem Tab.agg115 : aggOf Try.prog 115 = some false := by kernel_rfl
@[go_sem] theorem Tab.sz115 : szOf Try.prog 115 = some 1 := by kernel_rfl
@[go_sem] theorem Tab.has115 : hasT Try.prog 115 = true := by kernel_rfl
@[go_sem] theorem Tab.int115 : intOf' Try.prog 115 = some .u32 := by kernel_rfl
@[go_sem] theorem Tab.has116 : hasT Try.prog 116 = true := by kernel_rfl
@[go_sem] theorem Tab.int116 : intOf' Try.prog 116 = some .u64 := by kernel_rfl
@[go_sem] theorem Tab.agg132 : aggOf Try.prog 132 = some true := by kernel_rfl
@[go_sem] theorem Tab.sz132 : szOf Try.prog 132 = some 9 := by kernel_rfl
@[go_sem] theorem Tab.zero132 : zeroOf Try.prog 132 = some (.agg #[.int .i64 0, .int .i64 0, .slice none 0 0, .int .i64 0, .int .i64 0, .slice none 0 0, .int .i64 0, .int .i64 0, .slice none 0 0]) := by kernel_rfl
@[go_sem] theorem Tab.fld132_0 : fldOf Try.prog 132 0 = some (0, 34, 3) := by kernel_rfl
@[go_sem] theorem Tab.fld132_1 : fldOf Try.prog 132 1 = some (3, 34, 3) := by kernel_rfl
@[go_sem] theorem Tab.pl132 : plOf Try.prog 132 = some ([.int .i64 0, .int .i64 0, .slice none 0 0, .int .i64 0, .int .i64 0, .slice none 0 0, .int .i64 0, .int .i64 0, .slice none 0 0], .st [(0, 3), (3, 3), (6, 3)]) := by kernel_rfl
@[go_sem] theorem Tab.fld140_0 : fldOf Try.prog 140 0 = some (0, 34, 3) := by kernel_rfl
@[go_sem] theorem Tab.fld140_1 : fldOf Try.prog 140 1 = some (3, 34, 3) := by kernel_rfl
@[go_sem] theorem Tab.fld140_2 : fldOf Try.prog 140 2 = some (6, 34, 3) := by kernel_rfl
@[go_sem] theorem Tab.pl140 : plOf Try.prog 140 = some ([.int .i64 0, .int .i64 0, .slice none 0 0, .int .i64 0, .int .i64 0, .slice none 0 0, .int .i64 0, .int .i64 0, .slice none 0 0], .st [(0, 3), (3, 3), (6, 3)]) := by kernel_rfl
@[go_sem] theorem Tab.go11 : isGo Try.prog 11 = true := by kernel_rfl
@[go_sem] theorem Tab.go12 : isGo Try.prog 12 = true := by kernel_rfl
@[go_sem] theorem Tab.go14 : isGo Try.prog 14 = true := by kernel_rfl
@[go_sem] theorem Tab.go15 : isGo Try.prog 15 = true := by kernel_rfl
@[go_sem] theorem Tab.go16 : isGo Try.prog 16 = true := by kernel_rfl
@[go_sem] theorem Tab.go17 : isGo Try.prog 17 = true := by kernel_rfl
@[go_sem] theorem Tab.go18 : isGo Try.prog 18 = true := by kernel_rfl
@[go_sem] theorem Tab.go19 : isGo Try.prog 19 = true := by kernel_rfl
@[go_sem] theorem Tab.go20 : isGo Try.prog 20 = true := by kernel_rfl
@[go_sem] theorem Tab.go21 : isGo Try.prog 21 = true := by kernel_rfl
@[go_sem] theorem Tab.go22 : isGo Try.prog 22 = true := by kernel_rfl
@[go_sem] theorem Tab.go24 : isGo Try.prog 24 = true := by kernel_rfl
@[go_sem] theorem Tab.go26 : isGo Try.prog 26 = true := by kernel_rfl
@[go_sem] theorem Tab.go27 : isGo Try.prog 27 = true := by kernel_rfl
@[go_sem] theorem Tab.go28 : isGo Try.prog 28 = true := by kernel_rfl
@[go_sem] theorem Tab.go29 : isGo Try.prog 29 = true := by kernel_rfl
@[go_sem] theorem Tab.go30 : isGo Try.prog 30 = true := by kernel_rfl
@[go_sem] theorem Tab.go31 : isGo Try.prog 31 = true := by kernel_rfl
@[go_sem] theorem Tab.go32 : isGo Try.prog 32 = true := by kernel_rfl
@[go_sem] theorem Tab.go33 : isGo Try.prog 33 = true := by kernel_rfl
@[go_sem] theorem Tab.go38 : isGo Try.prog 38 = true := by kernel_rfl
@[go_sem] theorem Tab.go39 : isGo Try.prog 39 = true := by kernel_rfl
@[go_sem] theorem Tab.go40 : isGo Try.prog 40 = true := by kernel_rfl
@[go_sem] theorem Tab.go41 : isGo Try.prog 41 = true := by kernel_rfl
@[go_sem] theorem Tab.go42 : isGo Try.prog 42 = true := by kernel_rfl
@[go_sem] theorem Tab.go43 : isGo Try.prog 43 = true := by kernel_rfl
@[go_sem] theorem Tab.go44 : isGo Try.prog 44 = true := by kernel_rfl
@[go_sem] theorem Tab.go46 : isGo Try.prog 46 = true := by kernel_rfl
@[go_sem] theorem Tab.go47 : isGo Try.prog 47 = true := by kernel_rfl
@[go_sem] theorem Tab.go48 : isGo Try.prog 48 = true := by kernel_rfl
@[go_sem] theorem Tab.go49 : isGo Try.prog 49 = true := by kernel_rfl
@[go_sem] theorem Tab.go50 : isGo Try.prog 50 = true := by kernel_rfl
@[go_sem] theorem Tab.go51 : isGo Try.prog 51 = true := by kernel_rfl
@[go_sem] theorem Tab.go52 : isGo Try.prog 52 = true := by kernel_rfl
@[go_sem] theorem Tab.go53 : isGo Try.prog 53 = true := by kernel_rfl
@[go_sem] theorem Tab.go54 : isGo Try.prog 54 = true := by kernel_rfl
@[go_sem] theorem Tab.go55 : isGo Try.prog 55 = true := by kernel_rfl
@[go_sem] theorem Tab.go57 : isGo Try.prog 57 = true := by kernel_rfl
@[go_sem] theorem Tab.go61 : isGo Try.prog 61 = true := by kernel_rfl
@[go_sem] theorem Tab.go62 : isGo Try.prog 62 = true := by kernel_rfl
@[go_sem] theorem Tab.go63 : isGo Try.prog 63 = true := by kernel_rfl
@[go_sem] theorem Tab.go64 : isGo Try.prog 64 = true := by kernel_rfl
@[go_sem] theorem Tab.go65 : isGo Try.prog 65 = true := by kernel_rfl
@[go_sem] theorem Tab.go66 : isGo Try.prog 66 = true := by kernel_rfl
@[go_sem] theorem Tab.go67 : isGo Try.prog 67 = true := by kernel_rfl
@[go_sem] theorem Tab.go68 : isGo Try.prog 68 = true := by kernel_rfl
@[go_sem] theorem Tab.go69 : isGo Try.prog 69 = true := by kernel_rfl
@[go_sem] theorem Tab.go70 : isGo Try.prog 70 = true := by kernel_rfl
@[go_sem] theorem Tab.go71 : isGo Try.prog 71 = true := by kernel_rfl
@[go_sem] theorem Tab.go72 : isGo Try.prog 72 = true := by kernel_rfl
@[go_sem] theorem Tab.go73 : isGo Try.prog 73 = true := by kernel_rfl
@[go_sem] theorem Tab.go74 : isGo Try.prog 74 = true := by kernel_rfl
@[go_sem] theorem Tab.go75 : isGo Try.prog 75 = true := by kernel_rfl
@[go_sem] theorem Tab.go76 : isGo Try.prog 76 = true := by kernel_rfl
@[go_sem] theorem Tab.go77 : isGo Try.prog 77 = true := by kernel_rfl
@[go_sem] theorem Tab.go78 : isGo Try.prog 78 = true := by kernel_rfl
@[go_sem] theorem Tab.go79 : isGo Try.prog 79 = true := by kernel_rfl
@[go_sem] theorem Tab.go83 : isGo Try.prog 83 = true := by kernel_rfl
@[go_sem] theorem Tab.go84 : isGo Try.prog 84 = true := by kernel_rfl
@[go_sem] theorem Tab.go85 : isGo Try.prog 85 = true := by kernel_rfl
@[go_sem] theorem Tab.go86 : isGo Try.prog 86 = true := by kernel_rfl
@[go_sem] theorem Tab.go87 : isGo Try.prog 87 = true := by kernel_rfl
@[go_sem] theorem Tab.go88 : isGo Try.prog 88 = true := by kernel_rfl
@[go_sem] theorem Tab.go89 : isGo Try.prog 89 = true := by kernel_rfl
@[go_sem] theorem Tab.go90 : isGo Try.prog 90 = true := by kernel_rfl
@[go_sem] theorem Tab.go91 : isGo Try.prog 91 = true := by kernel_rfl
@[go_sem] theorem Tab.go92 : isGo Try.prog 92 = true := by kernel_rfl
@[go_sem] theorem Tab.go93 : isGo Try.prog 93 = true := by kernel_rfl
@[go_sem] theorem Tab.go94 : isGo Try.prog 94 = true := by kernel_rfl
@[go_sem] theorem Tab.go95 : isGo Try.prog 95 = true := by kernel_rfl
@[go_sem] theorem Tab.go97 : isGo Try.prog 97 = true := by kernel_rfl
@[go_sem] theorem Tab.go98 : isGo Try.prog 98 = true := by kernel_rfl
@[go_sem] theorem Tab.go99 : isGo Try.prog 99 = true := by kernel_rfl
@[go_sem] theorem Tab.go100 : isGo Try.prog 100 = true := by kernel_rfl
@[go_sem] theorem Tab.go101 : isGo Try.prog 101 = true := by kernel_rfl
@[go_sem] theorem Tab.go102 : isGo Try.prog 102 = true := by kernel_rfl
@[go_sem] theorem Tab.go103 : isGo Try.prog 103 = true := by kernel_rfl
@[go_sem] theorem Tab.go104 : isGo Try.prog 104 = true := by kernel_rfl
@[go_sem] theorem Tab.go105 : isGo Try.prog 105 = true := by kernel_rfl
@[go_sem] theorem Tab.go106 : isGo Try.prog 106 = true := by kernel_rfl
@[go_sem] theorem Tab.go108 : isGo Try.prog 108 = true := by kernel_rfl
@[go_sem] theorem Tab.go111 : isGo Try.prog 111 = true := by kernel_rfl
@[go_sem] theorem Tab.go112 : isGo Try.prog 112 = true := by kernel_rfl
@[go_sem] theorem Tab.go114 : isGo Try.prog 114 = true := by kernel_rfl
@[go_sem] theorem Tab.go115 : isGo Try.prog 115 = true := by kernel_rfl
theorem Tab.mixed : Try.prog.follows .mixedOrders = true := by kernel_rfl
end Go.Proofs.Ytdkkgndibagihaa
namespace Go.Proofs.Ytdkkgndibagihaa
open Go.RowKit
@[go_sem high] theorem wi64 (n : Int) (h1 : -9223372036854775808 ≤ n) (h2 : n ≤ 9223372036854775807) : IntKind.i64.wrap n = n := IntWalk.i64_in n ⟨h1, h2⟩
@[go_sem high] theorem wi32 (n : Int) (h1 : -2147483648 ≤ n) (h2 : n ≤ 2147483647) : IntKind.i32.wrap n = n := IntWalk.i32_in n ⟨h1, h2⟩
@[go_sem high] theorem wi8 (n : Int) (h1 : -128 ≤ n) (h2 : n ≤ 127) : IntKind.i8.wrap n = n := IntWalk.i8_in n ⟨h1, h2⟩
@[go_sem high] theorem wu64 (n : Int) (h1 : 0 ≤ n) (h2 : n ≤ 18446744073709551615) : IntKind.u64.wrap n = n := IntWalk.u64_in n ⟨h1, h2⟩
@[go_sem high] theorem wu32 (n : Int) (h1 : 0 ≤ n) (h2 : n ≤ 4294967295) : IntKind.u32.wrap n = n := IntWalk.u32_in n ⟨h1, h2⟩
@[go_sem high] theorem wu16 (n : Int) (h1 : 0 ≤ n) (h2 : n ≤ 65535) : IntKind.u16.wrap n = n := IntWalk.u16_in n ⟨h1, h2⟩
@[go_sem high] theorem wu8 (n : Int) (h1 : 0 ≤ n) (h2 : n ≤ 255) : IntKind.u8.wrap n = n := IntWalk.u8_in n ⟨h1, h2⟩
@[go_sem low] theorem wu32m (n : Int) : IntKind.u32.wrap n = n % 4294967296 := IntKind.wrap_u32 n
@[go_sem low] theorem wu8m (n : Int) : IntKind.u8.wrap n = n % 256 := IntKind.wrap_u8 n
@[go_sem] theorem tmod_nn (x y : Int) (h : 0 ≤ x) : x.tmod y = x % y := Int.tmod_eq_emod_of_nonneg h
@[go_sem] theorem tdiv_nn (x y : Int) (h : 0 ≤ x) : x.tdiv y = x / y := Int.tdiv_eq_ediv_of_nonneg h
theorem fdiv_pow (x : Int) (k : Nat) : x.fdiv (2 ^ k) = x / 2 ^ k := Int.fdiv_eq_ediv_of_nonneg _ (Int.le_of_lt (Int.pow_pos (by omega)))
attribute [go_sem] fdiv_pow
end Go.Proofs.Ytdkkgndibagihaa
namespace Go.Proofs.Ytdkkgndibagihaa
open Go.RowKit
end Go.Proofs.Ytdkkgndibagihaa
namespace Go.Proofs.Ytdkkgndibagihaa
open Go.RowKit
theorem hid {p : Prop} (h : p) : Hid p := h
def Cells (w : World) (v : Value) (xs : List Value) : Prop :=
 ∃ a cap, v = .slice a xs.length cap ∧ xs.length ≤ cap ∧ cap ≤ maxLen ∧ (a = none → cap = 0) ∧
  (xs ≠ [] → ∃ b off, a = some ⟨b, off, none⟩ ∧ b < w.heap.size ∧ ∀ i x, xs[i]? = some x → w.cell? ⟨b, off + i, none⟩ = some x)
def u32s (l : List Nat) : List Value := l.map fun (n : Nat) => Value.int .u32 (n : Int)
@[simp] theorem u32s_length (l : List Nat) : (u32s l).length = l.length := by simp [u32s]
section
variable {P : Program} {ops : Array Oper} {rest : List Oper} {o : Oper} {a : Act} {Q : Exit → Act → World → Prop}
end
end Go.Proofs.Ytdkkgndibagihaa
namespace Go.Proofs.Ytdkkgndibagihaa
def val : List Nat → Nat
 | [] => 0
 | x :: l => x + 4294967296 * val l
def limbs (l : List Nat) : Prop := ∀ x ∈ l, x < 4294967296
theorem limbs_cons {x : Nat} {l : List Nat} (h : limbs (x :: l)) : x < 4294967296 ∧ limbs l := ⟨h x (by simp), fun y hy => h y (by simp [hy])⟩
theorem limbs_getD {l : List Nat} (h : limbs l) (i : Nat) : l.getD i 0 < 4294967296 := by
 rw [List.getD_eq_getElem?_getD]
 by_cases hi : i < l.length
 ·simp [hi]; exact h _ (List.getElem_mem hi)
 ·simp [hi]
theorem val_append (a b : List Nat) : val (a ++ b) = val a + 4294967296 ^ a.length * val b := by
 induction a with
 | nil => simp [val]
 | cons x a ih => simp only [zl8, val, ih, List.length_cons, Nat.pow_succ]; grind
theorem val_lt {l : List Nat} (h : limbs l) : val l < 4294967296 ^ l.length := by
 induction l with
 | nil => simp [val]
 | cons x l ih =>
  obtain ⟨hx, hl⟩ := limbs_cons h
  have := ih hl
  simp only [val, List.length_cons, Nat.pow_succ]
  omega
theorem val_take_succ {l : List Nat} {k : Nat} (h : k < l.length) : val (l.take (k + 1)) = val (l.take k) + 4294967296 ^ k * l.getD k 0 := by
 rw [List.take_succ_eq_append_getElem h, val_append]
 simp [val, h, Nat.min_eq_left (Nat.le_of_lt h)]
theorem limbs_take {l : List Nat} (h : limbs l) (k : Nat) : limbs (l.take k) := fun x hx => h x (List.mem_of_mem_take hx)
theorem limbs_drop {l : List Nat} (h : limbs l) (k : Nat) : limbs (l.drop k) := fun x hx => h x (List.mem_of_mem_drop hx)
theorem val_split (l : List Nat) (k : Nat) (h : k ≤ l.length) : val l = val (l.take k) + 4294967296 ^ k * val (l.drop k) := by
 conv => lhs; rw [← List.take_append_drop k l]
 rw [val_append]; simp [Nat.min_eq_left h]
theorem val_lt_step {a b : List Nat} {k : Nat} (ha : limbs a) (hb : limbs b) (hka : k < a.length) (hkb : k < b.length) :
  (a.getD k 0 = b.getD k 0 → (val (a.take (k + 1)) < val (b.take (k + 1)) ↔ val (a.take k) < val (b.take k))) ∧
  (a.getD k 0 ≠ b.getD k 0 → (val (a.take (k + 1)) < val (b.take (k + 1)) ↔ a.getD k 0 < b.getD k 0)) := by
 have h1 := val_lt (limbs_take ha k)
 have h2 := val_lt (limbs_take hb k)
 rw [List.length_take, Nat.min_eq_left (Nat.le_of_lt hka)] at h1
 rw [List.length_take, Nat.min_eq_left (Nat.le_of_lt hkb)] at h2
 rw [val_take_succ hka, val_take_succ hkb]
 generalize val (a.take k) = x at *
 generalize val (b.take k) = y at *
 generalize a.getD k 0 = c
 generalize b.getD k 0 = d
 generalize 4294967296 ^ k = p at *
 refine ⟨fun h => by subst h; omega, fun h => ?_⟩
 rcases Nat.lt_or_gt_of_ne h with h' | h'
 ·have : p * (c + 1) ≤ p * d := Nat.mul_le_mul_left _ h'
  rw [Nat.mul_add] at this
  constructor
  ·intro _; exact h'
  ·intro _; omega
 ·have : p * (d + 1) ≤ p * c := Nat.mul_le_mul_left _ h'
  rw [Nat.mul_add] at this
  constructor
  ·intro _; omega
  ·intro _; omega
def lessL (a b : List Nat) : Bool := if a.length = b.length then decide (val a < val b) else decide (a.length < b.length)
def canon (l : List Nat) : Prop := ∀ h : l ≠ [], l.getLast h ≠ 0
theorem canon_ge {l : List Nat} (h : canon l) (hn : l ≠ []) : 4294967296 ^ (l.length - 1) ≤ val l := by
 have e := List.dropLast_concat_getLast hn
 have h1 := h hn
 conv => rhs; rw [← e]
 rw [val_append]
 simp only [List.length_dropLast, val]
 have : 4294967296 ^ (l.length - 1) * 1 ≤ 4294967296 ^ (l.length - 1) * (l.getLast hn + 4294967296 * 0) := Nat.mul_le_mul_left _ (by omega)
 omega
theorem lessL_eq {a b : List Nat} (ha : limbs a) (hb : limbs b) (ca : canon a) (cb : canon b) : lessL a b = decide (val a < val b) := by
 unfold lessL
 split
 ·rfl
 ·rename_i hne
  have key : ∀ {a b : List Nat}, limbs a → canon b → a.length < b.length → val a < val b := by
   intro a b ha cb h
   have h1 := val_lt ha
   have h2 := canon_ge cb (by intro e; subst e; simp at h)
   have h3 : 4294967296 ^ a.length ≤ 4294967296 ^ (b.length - 1) := Nat.pow_le_pow_right (by omega) (by omega)
   omega
  rcases Nat.lt_or_gt_of_ne hne with h | h
  ·simp [h, key ha cb h]
  ·have := key hb ca h
   rw [Bool.eq_iff_iff]; simp; omega
theorem val_inj {a b : List Nat} (ha : limbs a) (hb : limbs b) (h : a.length = b.length) (e : val a = val b) : a = b := by
 induction a generalizing b with
 | nil => cases b with | nil => rfl | cons => simp at h
 | cons x a ih =>
  cases b with
  | nil => simp at h
  | cons y b =>
   obtain ⟨hx, ha⟩ := limbs_cons ha
   obtain ⟨hy, hb⟩ := limbs_cons hb
   simp only [val] at e
   have h1 : x = y := by omega
   have h2 : val a = val b := by omega
   rw [h1, ih ha hb (by simpa using h) h2]
theorem canon_inj {a b : List Nat} (ha : limbs a) (hb : limbs b) (ca : canon a) (cb : canon b) (e : val a = val b) : a = b := by
 have h1 := lessL_eq ha hb ca cb
 have h2 := lessL_eq hb ha cb ca
 unfold lessL at h1 h2
 have hl : a.length = b.length := by
  by_cases hl : a.length = b.length
  ·exact hl
  ·rw [if_neg hl] at h1
   rw [if_neg (fun h => hl h.symm)] at h2
   simp [e] at h1 h2
   omega
 exact val_inj ha hb hl e
theorem val_take_succ' (l : List Nat) (k : Nat) : val (l.take (k + 1)) = val (l.take k) + 4294967296 ^ k * l.getD k 0 := by
 by_cases h : k < l.length
 ·exact val_take_succ h
 ·rw [zla (by omega), zla (by omega)]
  simp [List.getD_eq_getElem?_getD, List.getElem?_eq_none (Nat.le_of_not_lt h)]
theorem getD_ge {l : List Nat} {k : Nat} (h : ¬ k < l.length) : l.getD k 0 = 0 := by
 simp [List.getD_eq_getElem?_getD, List.getElem?_eq_none (Nat.le_of_not_lt h)]
theorem limbs_snoc {l : List Nat} (h : limbs l) {x : Nat} (hx : x < 4294967296) : limbs (l ++ [x]) := by
 intro y hy
 rcases List.mem_append.1 hy with hy | hy
 ·exact h y hy
 ·simp at hy; omega
def plusInv (a b : List Nat) (k c : Nat) (l : List Nat) : Prop := l.length = k ∧ limbs l ∧ val l + 4294967296 ^ k * c = val (a.take k) + val (b.take k)
theorem plusInv.step {a b l : List Nat} {k c : Nat} (h : plusInv a b k c l) (x y : Nat) (hx : a.getD k 0 = x) (hy : b.getD k 0 = y) : plusInv a b (k + 1) ((c + x + y) / 4294967296) (l ++ [(c + x + y) % 4294967296]) := by
 obtain ⟨h1, h2, h3⟩ := h
 refine ⟨by simp [h1], limbs_snoc h2 (by omega), ?_⟩
 rw [val_take_succ', val_take_succ', val_append, hx, hy, h1, Nat.pow_succ]
 simp only [val]
 have hd := Nat.div_add_mod (c + x + y) 4294967296
 generalize 4294967296 ^ k = p at *
 generalize (c + x + y) / 4294967296 = d at *
 generalize (c + x + y) % 4294967296 = m at *
 have : p * (c + x + y) = p * (4294967296 * d + m) := by rw [hd]
 grind
theorem plusInv.done {a b l : List Nat} {k : Nat} (h : plusInv a b k 0 l) (ha : a.length ≤ k) (hb : b.length ≤ k) : val l = val a + val b := by
 obtain ⟨h1, h2, h3⟩ := h
 rw [zla ha, zla hb] at h3
 simpa using h3
theorem val_set {z : List Nat} {j : Nat} (h : j < z.length) (x : Nat) : val (z.set j x) + 4294967296 ^ j * z.getD j 0 = val z + 4294967296 ^ j * x := by
 induction z generalizing j with
 | nil => simp at h
 | cons y z ih =>
  cases j with
  | zero => simp [val]; omega
  | succ j =>
   have := ih (j := j) (by simpa using h)
   simp only [List.set_cons_succ, val, List.getD_cons_succ, Nat.pow_succ] at *
   grind
theorem limbs_set {z : List Nat} (h : limbs z) (j : Nat) {x : Nat} (hx : x < 4294967296) : limbs (z.set j x) := by
 intro y hy
 rcases List.mem_or_eq_of_mem_set hy with hy | rfl
 ·exact h y hy
 ·exact hx
theorem limbs_replicate (n : Nat) : limbs (List.replicate n 0) := by intro x hx; simp at hx; omega
theorem val_replicate (n : Nat) : val (List.replicate n 0) = 0 := by induction n with | zero => rfl | succ n ih => simp [List.replicate_succ, val, ih]
def mulInv (a b : List Nat) (i k c : Nat) (z : List Nat) : Prop :=
 z.length = a.length + b.length + 1 ∧ limbs z ∧ val z + 4294967296 ^ (i + k) * c = val (a.take i) * val b + 4294967296 ^ i * (a.getD i 0 * val (b.take k))
theorem mulInv.step {a b z : List Nat} {i k c : Nat} (h : mulInv a b i k c z) (hj : i + k < z.length) (x y t : Nat) (hx : a.getD i 0 = x) (hy : b.getD k 0 = y) (ht : z.getD (i + k) 0 = t) :
  mulInv a b i (k + 1) ((c + t + x * y) / 4294967296) (z.set (i + k) ((c + t + x * y) % 4294967296)) := by
 obtain ⟨h1, h2, h3⟩ := h
 refine ⟨by simp [h1], limbs_set h2 _ (by omega), ?_⟩
 have h4 := val_set hj ((c + t + x * y) % 4294967296)
 rw [val_take_succ', hx, hy] at *
 rw [ht] at h4
 have hd := Nat.div_add_mod (c + t + x * y) 4294967296
 rw [show i + (k + 1) = i + k + 1 from rfl, Nat.pow_succ]
 generalize hD : (c + t + x * y) / 4294967296 = d at *
 generalize hM : (c + t + x * y) % 4294967296 = m at *
 generalize val (z.set (i + k) m) = V at *
 have e1 : 4294967296 ^ (i + k) = 4294967296 ^ i * 4294967296 ^ k := Nat.pow_add _ _ _
 generalize 4294967296 ^ (i + k) = p at *
 generalize 4294967296 ^ i = q at *
 generalize 4294967296 ^ k = r at *
 subst e1
 have : q * r * (c + t + x * y) = q * r * (4294967296 * d + m) := by rw [hd]
 grind
theorem mulInv.noCarry {a b z : List Nat} {i c : Nat} (h : mulInv a b i (b.length + 1) c z) (ha : limbs a) (hb : limbs b) (hi : i < a.length) : c = 0 := by
 obtain ⟨h1, h2, h3⟩ := h
 rw [zla (l := b) (by omega)] at h3
 have e : val (a.take (i + 1)) * val b = val (a.take i) * val b + 4294967296 ^ i * (a.getD i 0 * val b) := by
  rw [val_take_succ', Nat.add_mul, Nat.mul_assoc]
 have hA := val_lt (limbs_take ha (i + 1))
 have hB := val_lt hb
 rw [List.length_take, Nat.min_eq_left hi] at hA
 have hP : val (a.take (i + 1)) * val b < 4294967296 ^ (i + (b.length + 1)) := by
  rw [show i + (b.length + 1) = (i + 1) + b.length by omega, Nat.pow_add]
  exact Nat.mul_lt_mul'' hA hB
 rcases Nat.eq_zero_or_pos c with h0 | h0
 ·exact h0
 ·have : 4294967296 ^ (i + (b.length + 1)) * 1 ≤ 4294967296 ^ (i + (b.length + 1)) * c := Nat.mul_le_mul_left _ h0
  omega
theorem mulInv.row {a b z : List Nat} {i k : Nat} (h : mulInv a b i k 0 z) (hk : b.length ≤ k) : mulInv a b (i + 1) 0 0 z := by
 obtain ⟨h1, h2, h3⟩ := h
 refine ⟨h1, h2, ?_⟩
 rw [zla (l := b) hk, Nat.mul_zero, Nat.add_zero] at h3
 rw [val_take_succ', Nat.add_mul, h3, Nat.mul_zero, zl4, Nat.mul_assoc, show val [] = 0 from rfl, Nat.mul_zero, Nat.mul_zero]
theorem mulInv.done {a b z : List Nat} {i : Nat} (h : mulInv a b i 0 0 z) (hi : a.length ≤ i) : val z = val a * val b := by
 obtain ⟨h1, h2, h3⟩ := h
 rw [zla (l := a) hi, Nat.mul_zero, zl4, show val [] = 0 from rfl, Nat.mul_zero, Nat.mul_zero] at h3
 exact h3
def minusInv (a b : List Nat) (k c : Nat) (l : List Nat) : Prop := l.length = k ∧ limbs l ∧ val l + val (b.take k) = val (a.take k) + 4294967296 ^ k * c
theorem minusInv.step {a b l : List Nat} {k c : Nat} (h : minusInv a b k c l) (x y d c' : Nat) (hx : a.getD k 0 = x) (hy : b.getD k 0 = y) (hd : d < 4294967296) (he : (d : Int) = x - c - y + 4294967296 * c') : minusInv a b (k + 1) c' (l ++ [d]) := by
 obtain ⟨h1, h2, h3⟩ := h
 refine ⟨by simp [h1], limbs_snoc h2 hd, ?_⟩
 rw [val_take_succ', val_take_succ', val_append, hx, hy, h1, Nat.pow_succ]
 simp only [val]
 have he' : d + c + y = x + 4294967296 * c' := by omega
 generalize 4294967296 ^ k = p at *
 have : p * (d + c + y) = p * (x + 4294967296 * c') := by rw [he']
 grind
theorem minusInv.done {a b l : List Nat} {c : Nat} (h : minusInv a b a.length c l) (hc : c ≤ 1) (ha : limbs a) (hb : b.length ≤ a.length) (hab : val b ≤ val a) : val l = val a - val b := by
 obtain ⟨h1, h2, h3⟩ := h
 rw [zla (znb _), zla hb] at h3
 have h4 := val_lt h2
 rw [h1] at h4
 have h5 := val_lt ha
 have : c = 0 := by
  rcases Nat.lt_or_ge c 1 with hh | hh
  ·omega
  ·have : c = 1 := by omega
   subst this
   omega
 subst this
 omega
def sgn (neg : Bool) (m : Nat) : Int := if neg then -(m : Int) else m
def Fits (K : Nat) (n : Int) : Prop := n.natAbs < 4294967296 ^ K
theorem Fits.mono {K L : Nat} {n : Int} (h : Fits K n) (hl : K ≤ L) : Fits L n := Nat.lt_of_lt_of_le h (Nat.pow_le_pow_right (by omega) hl)
theorem Fits.neg {K : Nat} {n : Int} (h : Fits K n) : Fits K (-n) := by unfold Fits at *; rwa [Int.natAbs_neg]
theorem Fits.add {K : Nat} {a b : Int} (ha : Fits K a) (hb : Fits K b) : Fits (K + 1) (a + b) := by
 unfold Fits at *; rw [Nat.pow_succ]; generalize 4294967296 ^ K = p at *; omega
theorem Fits.sub {K : Nat} {a b : Int} (ha : Fits K a) (hb : Fits K b) : Fits (K + 1) (a - b) := by
 have := Fits.add ha hb.neg; rwa [← Int.sub_eq_add_neg] at this
theorem Fits.mul {K L : Nat} {a b : Int} (ha : Fits K a) (hb : Fits L b) : Fits (K + L) (a * b) := by
 unfold Fits at *; rw [Int.natAbs_mul, Nat.pow_add]; exact Nat.mul_lt_mul'' ha hb
theorem Fits.of_natAbs_le {K : Nat} {a b : Int} (h : Fits K b) (hl : a.natAbs ≤ b.natAbs) : Fits K a := Nat.lt_of_le_of_lt hl h
theorem fits_one {n : Int} (h : n.natAbs < 4294967296) : Fits 1 n := by simpa [Fits] using h
theorem canon_len {l : List Nat} {K : Nat} (hc : canon l) (h : val l < 4294967296 ^ K) : l.length ≤ K := by
 by_cases hn : l = []
 ·subst hn; simp
 ·have h1 := canon_ge hc hn
  by_cases hk : l.length ≤ K
  ·exact hk
  ·have h2 : 4294967296 ^ K ≤ 4294967296 ^ (l.length - 1) := Nat.pow_le_pow_right (by omega) (by omega)
   omega
end Go.Proofs.Ytdkkgndibagihaa
namespace Go.Proofs.Ytdkkgndibagihaa
open Go.RowKit
def lv (l : List Nat) : List V := l.map fun (n : Nat) => .sc (.int .u32 (n : Int))
theorem lv_len (l : List Nat) : (lv l).length = l.length := by simp [lv]
theorem lv_get {l : List Nat} {i : Nat} (h : i < l.length) : (lv l)[i]? = some (.sc (.int .u32 (l.getD i 0 : Nat))) := by
 simp [lv, h]
theorem lv_take (l : List Nat) (k : Nat) : (lv l).take k = lv (l.take k) := by simp [lv]
theorem lv_all (l : List Nat) : (lv l).all V.one = true := by simp [lv, V.one, Value.oneCell']
theorem lv_clo (l : List Nat) : (lv l).all clo = true := by simp [lv, clo]
def sv (l : List Nat) : V := .im (lv l) l.length
def digs : Nat → Nat → List Nat
 | 0, _ => []
 | f + 1, n => if n = 0 then [] else n % 4294967296 :: digs f (n / 4294967296)
def limbsOf (n : Nat) : List Nat := digs (n + 1) n
def iv (z : Int) : V := .ag [.sc (.bool (decide (z < 0))), sv (limbsOf z.natAbs)]
theorem canon_cons {x : Nat} {r : List Nat} (h1 : r = [] → x ≠ 0) (h2 : canon r) : canon (x :: r) := by
 intro hn
 cases r with
 | nil => simpa using h1 rfl
 | cons a r => rw [List.getLast_cons (by simp)]; exact h2 (by simp)
theorem digs_spec : ∀ (f n : Nat), n < f → val (digs f n) = n ∧ limbs (digs f n) ∧ canon (digs f n)
 | 0, n, h => by omega
 | f + 1, n, h => by
  simp only [digs]
  split
  ·rename_i h0; subst h0
   exact ⟨rfl, fun x hx => (by simp at hx), fun hn => absurd rfl hn⟩
  ·rename_i h0
   obtain ⟨h1, h2, h3⟩ := digs_spec f (n / 4294967296) (by omega)
   refine ⟨?_, ?_, ?_⟩
   ·show n % 4294967296 + 4294967296 * val (digs f (n / 4294967296)) = n
    rw [h1]; omega
   ·intro x hx
    rcases List.mem_cons.1 hx with rfl | hx
    ·omega
    ·exact h2 x hx
   ·refine canon_cons (fun e => ?_) h3
    rw [e] at h1
    have : n / 4294967296 = 0 := h1.symm
    omega
theorem limbsOf_val (n : Nat) : val (limbsOf n) = n := (digs_spec _ _ (Nat.lt_succ_self _)).1
theorem limbsOf_limbs (n : Nat) : limbs (limbsOf n) := (digs_spec _ _ (Nat.lt_succ_self _)).2.1
theorem limbsOf_canon (n : Nat) : canon (limbsOf n) := (digs_spec _ _ (Nat.lt_succ_self _)).2.2
theorem limbsOf_eq {l : List Nat} (h : limbs l) (hc : canon l) : limbsOf (val l) = l := canon_inj (limbsOf_limbs _) h (limbsOf_canon _) hc (limbsOf_val _)
theorem limbsOf_zero : limbsOf 0 = [] := rfl
theorem limbsOf_nil {n : Nat} : limbsOf n = [] ↔ n = 0 := ⟨fun h => by have := limbsOf_val n; rw [h] at this; exact this.symm, fun h => by subst h; rfl⟩
theorem val_take_zeros {l : List Nat} {k : Nat} (h : ∀ i, k ≤ i → l.getD i 0 = 0) : val (l.take k) = val l := by
 have key : ∀ m : List Nat, (∀ i, m.getD i 0 = 0) → val m = 0 := by
  intro m
  induction m with
  | nil => intro _; rfl
  | cons x r ih =>
   intro hm
   have h0 := hm 0
   simp at h0
   have := ih (fun i => by simpa using hm (i + 1))
   simp [val, h0, this]
 rcases Nat.le_total k l.length with hk | hk
 ·rw [val_split l k hk, key (l.drop k) (fun i => by have := h (k + i) (by omega); simpa [List.getD_eq_getElem?_getD] using this)]; simp
 ·rw [zla hk]
theorem made_tree {l : List Nat} {k : Nat} {neg : Bool} (hl : limbs l) (h : ∀ i, k ≤ i → l.getD i 0 = 0) (hk : k ≤ l.length) (h0 : k ≠ 0 → l.getD (k - 1) 0 ≠ 0) : limbsOf (sgn neg (val l)).natAbs = l.take k ∧ decide (sgn neg (val l) < 0) = (neg && decide (0 < k)) := by
 have hv := val_take_zeros h
 have hc : canon (l.take k) := by
  intro hn
  have hk0 : k ≠ 0 := by intro e; subst e; simp at hn
  rw [List.getLast_eq_getElem]
  have := h0 hk0
  simp only [List.length_take, Nat.min_eq_left hk, List.getElem_take]
  rwa [List.getD_eq_getElem?_getD, zlb (by omega)] at this
 have hn : (sgn neg (val l)).natAbs = val l := by unfold sgn; cases neg <;> simp
 refine ⟨by rw [hn, ← hv]; exact limbsOf_eq (limbs_take hl k) hc, ?_⟩
 have hz : val l = 0 ↔ k = 0 := by
  rw [← hv]
  constructor
  ·intro e
   have := limbsOf_eq (limbs_take hl k) hc
   rw [e, limbsOf_zero] at this
   have := congrArg List.length this
   simp at this
   omega
  ·intro e; subst e; rfl
 unfold sgn
 cases neg with
 | false => simp
 | true =>
  simp only [if_true, Bool.true_and]
  by_cases hk0 : k = 0
  ·have := hz.2 hk0; simp [this, hk0]
  ·have : val l ≠ 0 := fun e => hk0 (hz.1 e)
   simp; omega
end Go.Proofs.Ytdkkgndibagihaa
namespace Go.Proofs.Ytdkkgndibagihaa
open Go.RowKit
theorem made_i (l : List Nat) (neg : Bool) (hl : limbs l) (hm : l.length ≤ 1000000000000) : Spec Try.prog 70 [sv l, .sc (.bool neg)] (iv (sgn neg (val l))) := by
 unfold sv
 refine qF Try.func70 Try.ntmps70 fun B hB => ?_
 refine qG ?_
 refine SC.loop (fun k : Nat => ⟨[(0, .im (lv l) l.length), (1, .sc (.bool neg)), (4, .pt 0 0), (5, .sc (.int .i64 k))], [(0, ⟨84, [.sc (.bool false), .sc (.slice none 0 0)], false⟩)], 1, 31⟩)
  (fun k => k ≤ l.length ∧ ∀ i, k ≤ i → l.getD i 0 = 0) (fun k => k) l.length ?_ ?_ ?_
 ·exact qL
 ·exact ⟨znb _, fun i hi => by simp [hi]⟩
 ·rintro k ⟨hk, hz⟩ K hK
  have hlen : (l.take k).length = k := by simp; omega
  have h3 : k = 0 ∨ (k ≠ 0 ∧ l.getD (k - 1) 0 ≠ 0) ∨ (k ≠ 0 ∧ l.getD (k - 1) 0 = 0) := by omega
  rcases h3 with h0 | ⟨h0, hx⟩ | ⟨h0, hx⟩
  ·subst h0
   refine qG ?_
   refine SC.cond qT ?_ ?_
   ·intro h; cases h
   intro _
   refine qG ?_
   refine SC.weak (by simp) (s' := ⟨[(0, .im (lv l) l.length), (1, .sc (.bool neg)), (4, .pt 0 0), (5, .sc (.int .i64 (0 : Nat)))], [(0, ⟨84, [.sc (.bool false), .sc (.slice none 0 0)], false⟩)], 1, 31⟩) (by (refine Le.of [] hB (by first | exact ⟨znc _, fun _ _ => znc _⟩ | (constructor <;> (try simp) <;> (try omega))) ?_ ?_ <;> (repeat' (first | exact leSl_nil | exact leHp_nil | refine leSl_cons qT ?_ ?_ | refine leHp_cons qT ?_ ?_ | exact VLe.junk _ | exact VLe.refl rfl | exact VLe.nil_sl _ _ _ | exact VLe.int (by first | rfl | omega | (dsimp only; omega)) | exact VLe.bool rfl | exact VLe.sl rfl (by first | rfl | omega | (dsimp only; omega) | (simp; done)) | exact VLe.cap rfl (by first | rfl | omega | (dsimp only; omega) | (simp; done)) | exact VLe.im rfl rfl | exact HLe.new rfl | exact HLe.same rfl (LLe.refl rfl) | refine HLe.same rfl ?_ | exact LLe.nil _ | exact LLe.refl rfl | exact LLe.cl rfl qS | exact LLe.clR rfl qS | refine LLe.cons ?_ ?_)))) ?_
   obtain ⟨e1, e2⟩ := made_tree (neg := neg) hl hz hk (fun h => absurd rfl h)
   have e3 : decide ((0 : Int) < ((0 : Nat) : Int)) = decide (0 < 0) := by simp
   cases neg
   all_goals
    refine SC.ops ?_
    (repeat (refine SO.run (by simp (disch := omega) only [go_sem, ↓reduceIte, zn1, zn2, zn3, zn4, zn5, zn6, reduceCtorEq, zn7, zi1, zi2, if_pos, if_neg, Int.reduceAdd, zn8, zna, Nat.zero_mul, Nat.add_zero, zn9, Nat.sub_zero, zl2, zl4, zl3, zl9, zl7, zl8, List.append_nil, List.take_length, List.take_nil, List.drop_nil, List.length_nil, List.length_set, List.length_replicate, List.flatten_nil, List.flatten_cons, Bool.not_true, Bool.not_false, Bool.false_eq_true, Bool.or_true, Bool.true_or, Bool.or_false, Bool.or_self, bne_self_eq_false, beq_self_eq_true, lv_len, lv_take, Int.toNat_natCast, hlen, lv_all, List.replicate_zero]; rfl) ?_))
    refine qG ?_
    refine retQ_ret Try.results70 qT (by simp (disch := omega) only [go_sem, ↓reduceIte, zn1, zn2, zn3, zn4, zn5, zn6, reduceCtorEq, zn7, zi1, zi2, if_pos, if_neg, Int.reduceAdd, zn8, zna, Nat.zero_mul, Nat.add_zero, zn9, Nat.sub_zero, zl2, zl4, zl3, zl9, zl7, zl8, List.append_nil, List.take_length, List.take_nil, List.drop_nil, List.length_nil, List.length_set, List.length_replicate, List.flatten_nil, List.flatten_cons, Bool.not_true, Bool.not_false, Bool.false_eq_true, Bool.or_true, Bool.true_or, Bool.or_false, Bool.or_self, bne_self_eq_false, beq_self_eq_true, lv_len, lv_take, hlen, List.take_take, Nat.min_self, lv_clo]; rfl) ?_
    unfold iv sv
    rw [e1, e2]
    simp [hlen, lv]
  ·have hi : ((k : Int) - 1).toNat = k - 1 := by omega
   have hg := lv_get (l := l) (i := k - 1) (by omega)
   have hd : decide ((k : Int) > 0) = true := by simp; omega
   have hb : (((l.getD (k - 1) 0 : Nat) : Int) == 0) = false := by simp only [beq_eq_false_iff_ne, ne_eq]; omega
   refine qG ?_
   refine SC.ops ?_
   refine qRf (Q6 @hi @hg @hd @hb @lv_len @gD) ?_
   refine qG ?_
   refine SC.cond qT ?_ ?_
   ·intro h; cases h
   intro _
   refine qG ?_
   refine SC.weak (by simp) (s' := ⟨[(0, .im (lv l) l.length), (1, .sc (.bool neg)), (4, .pt 0 0), (5, .sc (.int .i64 (k : Nat)))], [(0, ⟨84, [.sc (.bool false), .sc (.slice none 0 0)], false⟩)], 1, 31⟩) (by (refine Le.of [] hB (by first | exact ⟨znc _, fun _ _ => znc _⟩ | (constructor <;> (try simp) <;> (try omega))) ?_ ?_ <;> (repeat' (first | exact leSl_nil | exact leHp_nil | refine leSl_cons qT ?_ ?_ | refine leHp_cons qT ?_ ?_ | exact VLe.junk _ | exact VLe.refl rfl | exact VLe.nil_sl _ _ _ | exact VLe.int (by first | rfl | omega | (dsimp only; omega)) | exact VLe.bool rfl | exact VLe.sl rfl (by first | rfl | omega | (dsimp only; omega) | (simp; done)) | exact VLe.cap rfl (by first | rfl | omega | (dsimp only; omega) | (simp; done)) | exact VLe.im rfl rfl | exact HLe.new rfl | exact HLe.same rfl (LLe.refl rfl) | refine HLe.same rfl ?_ | exact LLe.nil _ | exact LLe.refl rfl | exact LLe.cl rfl qS | exact LLe.clR rfl qS | refine LLe.cons ?_ ?_)))) ?_
   obtain ⟨e1, e2⟩ := made_tree (neg := neg) hl hz hk (fun _ => hx)
   have e3 : decide ((0 : Int) < ((k : Nat) : Int)) = decide (0 < k) := by simp
   cases neg
   all_goals
    refine SC.ops ?_
    (repeat (refine SO.run (by simp (disch := omega) only [go_sem, ↓reduceIte, zn1, zn2, zn3, zn4, zn5, zn6, reduceCtorEq, zn7, zi1, zi2, if_pos, if_neg, Int.reduceAdd, zn8, zna, Nat.zero_mul, Nat.add_zero, zn9, Nat.sub_zero, zl2, zl4, zl3, zl9, zl7, zl8, List.append_nil, List.take_length, List.take_nil, List.drop_nil, List.length_nil, List.length_set, List.length_replicate, List.flatten_nil, List.flatten_cons, Bool.not_true, Bool.not_false, Bool.false_eq_true, Bool.or_true, Bool.true_or, Bool.or_false, Bool.or_self, bne_self_eq_false, beq_self_eq_true, lv_len, lv_take, Int.toNat_natCast, hlen, lv_all, List.replicate_zero]; rfl) ?_))
    refine qG ?_
    refine retQ_ret Try.results70 qT (by simp (disch := omega) only [go_sem, ↓reduceIte, zn1, zn2, zn3, zn4, zn5, zn6, reduceCtorEq, zn7, zi1, zi2, if_pos, if_neg, Int.reduceAdd, zn8, zna, Nat.zero_mul, Nat.add_zero, zn9, Nat.sub_zero, zl2, zl4, zl3, zl9, zl7, zl8, List.append_nil, List.take_length, List.take_nil, List.drop_nil, List.length_nil, List.length_set, List.length_replicate, List.flatten_nil, List.flatten_cons, Bool.not_true, Bool.not_false, Bool.false_eq_true, Bool.or_true, Bool.true_or, Bool.or_false, Bool.or_self, bne_self_eq_false, beq_self_eq_true, lv_len, lv_take, hlen, List.take_take, Nat.min_self, lv_clo]; rfl) ?_
    unfold iv sv
    rw [e1, e2]
    simp [hlen]
  ·have hi : ((k : Int) - 1).toNat = k - 1 := by omega
   have hg := lv_get (l := l) (i := k - 1) (by omega)
   have hd : decide ((k : Int) > 0) = true := by simp; omega
   have hb : (((l.getD (k - 1) 0 : Nat) : Int) == 0) = true := by simp only [beq_iff_eq]; omega
   refine qG ?_
   refine SC.ops ?_
   refine qRf (Q6 @hi @hg @hd @hb @lv_len @gD) ?_
   refine qG ?_
   refine SC.cond qT ?_ ?_
   rotate_left
   ·intro h; cases h
   intro _
   refine qG ?_
   refine hK _ (k - 1) ?_ ⟨by omega, fun i hi => ?_⟩ (by omega)
   ·exact qL
   ·rcases Nat.lt_or_ge i k with h | h
    ·rw [show i = k - 1 by omega]; exact hx
    ·exact hz i h
end Go.Proofs.Ytdkkgndibagihaa
namespace Go.Proofs.Ytdkkgndibagihaa
open Go.RowKit
theorem less_i (a b : List Nat) (ha : limbs a) (hb : limbs b) (hma : a.length ≤ 1000000000000) (hmb : b.length ≤ 1000000000000) : Spec Try.prog 65 [sv a, sv b] (.sc (.bool (lessL a b))) := by
 unfold sv
 refine qF Try.func65 Try.ntmps65 fun B hB => ?_
 by_cases hab : a.length = b.length
 ·have h1 : ((a.length : Int) != (b.length : Int)) = false := by rw [hab]; simp
  refine qG ?_
  refine SC.cond (qTf @h1) ?_ ?_
  ·intro h; cases h
  intro _
  refine qG ?_
  refine SC.loop (fun k : Nat => ⟨[(0, .im (lv a) a.length), (1, .im (lv b) b.length), (4, .sc (.bool false)), (5, .sc (.int .i64 ((k : Int) - 1)))], [], 0, 41⟩)
   (fun k => k ≤ a.length ∧ (val a < val b ↔ val (a.take k) < val (b.take k))) (fun k => k) a.length ?_ ?_ ?_
  ·exact qL
  ·exact ⟨znb _, by rw [List.take_length, hab, List.take_length]⟩
  ·rintro k ⟨hk, hI⟩ K hK
   by_cases h0 : k = 0
   ·subst h0
    refine qG ?_
    refine SC.cond qT ?_ ?_
    ·intro h; simp at h
    intro _
    refine qG ?_
    refine retQ_ret Try.results65 qT qT ?_
    unfold lessL
    rw [if_pos hab, decide_eq_false (fun h => by have := hI.1 h; simp [val] at this)]
   ·have hi : ((k : Int) - 1).toNat = k - 1 := by omega
    have hga := lv_get (l := a) (i := k - 1) (by omega)
    have hgb := lv_get (l := b) (i := k - 1) (by omega)
    have hd : decide ((k : Int) - 1 ≥ 0) = true := by simp; omega
    refine qG ?_
    refine SC.cond (qTf @hd) ?_ ?_
    rotate_left
    ·intro h; cases h
    intro _
    have hs := val_lt_step (a := a) (b := b) (k := k - 1) ha hb (by omega) (by omega)
    rw [show k - 1 + 1 = k by omega, ← hI] at hs
    by_cases hx : a.getD (k - 1) 0 = b.getD (k - 1) 0
    ·have hne : (((a.getD (k - 1) 0 : Nat) : Int) != ((b.getD (k - 1) 0 : Nat) : Int)) = false := by rw [hx]; simp
     refine qGf (Q7 @hi @hga @hgb @hd @hne @lv_len @gD) ?_
     refine SC.cond qT ?_ ?_
     ·intro h; cases h
     intro _
     refine qG ?_
     refine hK _ (k - 1) ?_ ⟨by omega, hs.1 hx⟩ (by omega)
     exact qL
    ·have hne : (((a.getD (k - 1) 0 : Nat) : Int) != ((b.getD (k - 1) 0 : Nat) : Int)) = true := by simp only [bne_iff_ne, ne_eq]; omega
     refine qGf (Q7 @hi @hga @hgb @hd @hne @lv_len @gD) ?_
     refine SC.cond qT ?_ ?_
     rotate_left
     ·intro h; cases h
     intro _
     refine qGf (Q7 @hi @hga @hgb @hd @hne @lv_len @gD) ?_
     refine retQ_ret Try.results65 qT qT ?_
     unfold lessL
     rw [if_pos hab]
     have := hs.2 hx
     exact congrArg (fun t => V.sc (.bool t)) (decide_eq_decide.2 (by rw [this]; omega))
 ·have h1 : ((a.length : Int) != (b.length : Int)) = true := by simp only [bne_iff_ne, ne_eq]; omega
  refine qG ?_
  refine SC.cond (qTf @h1) ?_ ?_
  rotate_left
  ·intro h; cases h
  intro _
  refine qG ?_
  refine retQ_ret Try.results65 qT qT ?_
  unfold lessL
  rw [if_neg hab]
  exact congrArg (fun t => V.sc (.bool t)) (decide_eq_decide.2 (by omega))
end Go.Proofs.Ytdkkgndibagihaa
namespace Go.Proofs.Ytdkkgndibagihaa
open Go.RowKit
def Short (x : Int) : Prop := (limbsOf x.natAbs).length ≤ 1000000000000
theorem lessL_limbs (m n : Nat) : lessL (limbsOf m) (limbsOf n) = decide (m < n) := by
 rw [lessL_eq (limbsOf_limbs m) (limbsOf_limbs n) (limbsOf_canon m) (limbsOf_canon n), limbsOf_val, limbsOf_val]
theorem less_n (m n : Nat) (hm : (limbsOf m).length ≤ 1000000000000) (hn : (limbsOf n).length ≤ 1000000000000) : Spec Try.prog 65 [sv (limbsOf m), sv (limbsOf n)] (.sc (.bool (decide (m < n)))) := by
 have := less_i _ _ (limbsOf_limbs m) (limbsOf_limbs n) hm hn
 rwa [lessL_limbs] at this
theorem same_i (x y : Int) (hx : Short x) (hy : Short y) : Spec Try.prog 48 [iv x, iv y] (.sc (.bool (decide (x = y)))) := by
 have l1 := less_n x.natAbs y.natAbs hx hy
 have l2 := less_n y.natAbs x.natAbs hy hx
 unfold sv at l1 l2
 unfold iv sv
 refine qF Try.func48 Try.ntmps48 fun B hB => ?_
 have hsx : (decide (x < 0) == decide (y < 0)) = true ↔ (x < 0 ↔ y < 0) := by simp
 by_cases hs : (decide (x < 0) == decide (y < 0)) = true
 ·have hs' := hsx.1 hs
  by_cases h1 : x.natAbs < y.natAbs
  ·rw [decide_eq_true h1] at l1
   refine qG ?_
   refine SC.ops ?_
   refine qRf @hs ?_
   (refine SO.call Tab.go65 qT qS ?_)
   (refine SCall.of (l1) qT ?_)
   refine qRf @hs ?_
   refine qG ?_
   refine retQ_ret Try.results48 qT qT ?_
   rw [decide_eq_false (by omega)]
  ·rw [decide_eq_false h1] at l1
   by_cases h2 : y.natAbs < x.natAbs
   ·rw [decide_eq_true h2] at l2
    refine qG ?_
    refine SC.ops ?_
    refine qRf @hs ?_
    (refine SO.call Tab.go65 qT qS ?_)
    (refine SCall.of (l1) qT ?_)
    refine qRf @hs ?_
    (refine SO.call Tab.go65 qT qS ?_)
    (refine SCall.of (l2) qT ?_)
    refine qRf @hs ?_
    refine qG ?_
    refine retQ_ret Try.results48 qT qT ?_
    rw [decide_eq_false (by omega)]
   ·rw [decide_eq_false h2] at l2
    refine qG ?_
    refine SC.ops ?_
    refine qRf @hs ?_
    (refine SO.call Tab.go65 qT qS ?_)
    (refine SCall.of (l1) qT ?_)
    refine qRf @hs ?_
    (refine SO.call Tab.go65 qT qS ?_)
    (refine SCall.of (l2) qT ?_)
    refine qRf @hs ?_
    refine qG ?_
    refine retQ_ret Try.results48 qT qT ?_
    rw [decide_eq_true (by omega)]
 ·have hs' : ¬ (x < 0 ↔ y < 0) := fun h => hs (hsx.2 h)
  rw [Bool.not_eq_true] at hs
  refine qG ?_
  refine SC.ops ?_
  refine qRf @hs ?_
  refine qG ?_
  refine retQ_ret Try.results48 qT qT ?_
  rw [decide_eq_false (by omega)]
theorem two_limbs {m : Nat} (h : m < 18446744073709551616) : val [m % 4294967296, m / 4294967296] = m ∧ limbs [m % 4294967296, m / 4294967296] := by
 refine ⟨by simp [val]; omega, fun x hx => ?_⟩
 simp at hx
 omega
theorem of_i (n : Int) (h1 : -9223372036854775808 ≤ n) (h2 : n < 9223372036854775808) : Spec Try.prog 51 [.sc (.int .i64 n)] (iv n) := by
 obtain ⟨hv, hl⟩ := two_limbs (m := n.natAbs) (by omega)
 have hm := made_i [n.natAbs % 4294967296, n.natAbs / 4294967296] (decide (n < 0)) hl (by simp)
 rw [hv] at hm
 have hs : sgn (decide (n < 0)) n.natAbs = n := by unfold sgn; split <;> simp_all <;> omega
 rw [hs] at hm
 unfold sv at hm
 rw [show lv [n.natAbs % 4294967296, n.natAbs / 4294967296] = [.sc (.int .u32 ((n.natAbs % 4294967296 : Nat) : Int)), .sc (.int .u32 ((n.natAbs / 4294967296 : Nat) : Int))] from rfl] at hm
 unfold iv sv at hm ⊢
 refine qF Try.func51 Try.ntmps51 fun B hB => ?_
 obtain ⟨m, hm0⟩ : ∃ m, m = n.natAbs := ⟨_, rfl⟩
 rw [← hm0] at hm
 have w1 : (m : Int) % 4294967296 = ((m % 4294967296 : Nat) : Int) := by simp
 have w2 : (m : Int) / 2 ^ min 32 64 % 4294967296 = ((m / 4294967296 : Nat) : Int) := by
  have : (2 : Int) ^ min 32 64 = 4294967296 := by decide
  rw [this]; omega
 simp only [List.length_cons, List.length_nil, zn9, zn4] at hm
 by_cases h0 : n < 0
 ·have e1 : IntKind.u64.wrap n = n + 18446744073709551616 := by simp [IntKind.wrap, IntKind.bits, IntKind.signed]; omega
  have e2 : IntKind.u64.wrap (0 - (n + 18446744073709551616)) = (m : Int) := by simp [IntKind.wrap, IntKind.bits, IntKind.signed]; omega
  have hd : decide (n < 0) = true := decide_eq_true h0
  rw [hd] at hm
  refine qGf (Q2 @e1 @hd) ?_
  refine SC.cond qT ?_ ?_
  rotate_left
  ·intro h; cases h
  intro _
  refine qGf (Q3 @e1 @e2 @hd) ?_
  refine SC.ops ?_
  refine qRf @hd ?_
  (refine SO.call Tab.go70 qT qS ?_)
  rw [w1, w2]
  (refine SCall.ofF (hm) qT ?_)
  refine qR ?_
  refine qG ?_
  refine retQ_ret Try.results51 qT qT ?_
  rw [hd, ← hm0]
 ·have e1 : IntKind.u64.wrap n = (m : Int) := by simp [IntKind.wrap, IntKind.bits, IntKind.signed]; omega
  have hd : decide (n < 0) = false := decide_eq_false h0
  rw [hd] at hm
  refine qGf (Q2 @e1 @hd) ?_
  refine SC.cond qT ?_ ?_
  ·intro h; cases h
  intro _
  refine qG ?_
  refine SC.ops ?_
  refine qRf @hd ?_
  (refine SO.call Tab.go70 qT qS ?_)
  rw [w1, w2]
  (refine SCall.ofF (hm) qT ?_)
  refine qR ?_
  refine qG ?_
  refine retQ_ret Try.results51 qT qT ?_
  rw [hd, ← hm0]
end Go.Proofs.Ytdkkgndibagihaa
