/- Texts joined: Sp Sq Sr Ss St. -/
import Derived.Test.YtdkkgndibagihaaVc
set_option linter.all false
open Nat renaming reduceEqDiff → zn1, reduceLT → zn2, reduceLeDiff → zn3, reduceAdd → zn4, reduceMul → zn5, reduceSub → zn6, reduceBEq → zn7, mul_one → zn8, zero_add → zn9, one_mul → zna, le_refl → znb, zero_le → znc, add_sub_cancel_left → znd, sub_eq_zero_of_le → zne, add_assoc → znf
open Int renaming reduceToNat → zi1, reducePow → zi2
open List renaming length_append → zl1, drop_zero → zl2, take_succ_cons → zl3, take_zero → zl4, getElem?_drop → zl5, append_assoc → zl6, nil_append → zl7, cons_append → zl8, drop_succ_cons → zl9, take_of_length_le → zla, getElem?_eq_getElem → zlb, getElem?_eq_some_iff → zlc, map_cons → zld, map_nil → zle, all_eq_true → zlf
namespace Go.Proofs.Ytdkkgndibagihaa
open Go.RowKit
section
variable {P : Program} {ops : Array Oper} {Q : Exit → Act → World → Prop}
def unl (listed : Array Bool) (n : Nat) : Nat := ((List.range n).filter fun i => !listed.getD i false).length
theorem unl_set {listed : Array Bool} {n i : Nat} (hs : listed.size = n) (hi : i < n) (h : listed.getD i false = false) : unl (listed.setIfInBounds i true) n < unl listed n := by
 unfold unl
 have e : (List.range n).filter (fun j => !(listed.setIfInBounds i true).getD j false) = ((List.range n).filter fun j => !listed.getD j false).filter (fun j => j != i) := by
  rw [List.filter_filter]
  apply List.filter_congr
  intro j hj
  by_cases hji : j = i
  ·subst hji
   simp [hs, hi]
  ·have hij : i ≠ j := fun e => hji e.symm
   simp [hij, hji]
 rw [e]
 apply List.length_filter_lt_length_iff_exists.2
 exact ⟨i, by simp only [List.mem_filter, List.mem_range]; exact ⟨hi, by rw [h]; rfl⟩, by simp⟩
theorem wpAny_act (Inv : (Nat → Bool) → Act → World → Prop)
  (hord : ∀ (i : Nat) (o : Oper), ops[i]? = some o → ∀ e ∈ o.after.toList, Region.binds .any e = true → e.on < i)
  (hstep : ∀ L a w i o, ops[i]? = some o → L i = false → (∀ e ∈ o.after.toList, Region.binds .any e = true → L e.on = true) → Inv L a w →
   wpOp P ops Q i (fun a' w' => Inv (fun j => if j = i then true else L j) a' w') a w)
  (hend : ∀ L a w, (∀ i, i < ops.size → L i = true) → Inv L a w → Q .normal a w) :
  ∀ (fuel : Nat) (listed : Array Bool) (a : Act) (w : World), listed.size = ops.size → unl listed ops.size ≤ fuel → Inv (fun j => listed.getD j false) a w → wpAny P .any ops Q fuel listed a w := by
 have hall : ∀ (listed : Array Bool), listed.size = ops.size → Region.ready .any ops listed = [] → ∀ i, i < ops.size → listed.getD i false = true := by
  intro listed hs hr i
  induction i using Nat.strongRecOn with
  | _ i ih =>
   intro hi
   cases hb : listed.getD i false with
   | true => rfl
   | false =>
    exfalso
    have hm : i ∈ Region.ready .any ops listed := by
     unfold Region.ready
     rw [List.mem_filter]
     refine ⟨List.mem_range.2 hi, ?_⟩
     have hlt : i < listed.size := by omega
     have ho : ops[i]? = some ops[i] := Array.getElem?_eq_getElem hi
     have h1 : listed.getD i true = false := by
      rw [Array.getD_eq_getD_getElem?, Array.getElem?_eq_getElem hlt] at hb ⊢; exact hb
     rw [h1, ho]
     simp only [Bool.not_false, Bool.true_and, Option.map_some, Option.getD_some]
     rw [Array.all_eq_true']
     intro e he
     cases hbind : Region.binds .any e with
     | false => rfl
     | true =>
      have hlt2 := hord i _ ho e (by simpa using he) hbind
      simp only [Bool.not_true, Bool.false_or]
      exact ih e.on hlt2 (by omega)
    rw [hr] at hm
    cases hm
 intro fuel
 induction fuel with
 | zero =>
  intro listed a w hs hu hI
  have hr : Region.ready .any ops listed = [] := by
   apply List.eq_nil_iff_forall_not_mem.2
   intro i hi
   unfold Region.ready at hi
   rw [List.mem_filter] at hi
   obtain ⟨h1, h2⟩ := hi
   have h1' := List.mem_range.1 h1
   unfold unl at hu
   have : i ∈ (List.range ops.size).filter fun i => !listed.getD i false := by
    rw [List.mem_filter]
    refine ⟨h1, ?_⟩
    rw [Bool.and_eq_true] at h2
    have h3 := h2.1
    rw [Array.getD_eq_getD_getElem?, Array.getElem?_eq_getElem (by omega)] at h3 ⊢
    exact h3
   rw [List.eq_nil_of_length_eq_zero (by omega : ((List.range ops.size).filter fun i => !listed.getD i false).length = 0)] at this
   cases this
  exact ⟨hr, hend _ a w (hall listed hs hr) hI⟩
 | succ fuel ih =>
  intro listed a w hs hu hI
  refine ⟨fun hr => hend _ a w (hall listed hs hr) hI, fun i hi => ?_⟩
  unfold Region.ready at hi
  rw [List.mem_filter] at hi
  obtain ⟨h1, h2⟩ := hi
  have h1' := List.mem_range.1 h1
  rw [Bool.and_eq_true] at h2
  have h3 : listed.getD i false = false := by
   have h3 := h2.1
   rw [Array.getD_eq_getD_getElem?, Array.getElem?_eq_getElem (by omega)] at h3 ⊢
   simpa using h3
  have ho : ops[i]? = some ops[i] := Array.getElem?_eq_getElem h1'
  refine wpOp_mono ?_ (hstep (fun j => listed.getD j false) a w i _ ho h3 ?_ hI)
  ·intro a' w' hI'
   refine ih (listed.setIfInBounds i true) a' w' (by simpa using hs) (by have := unl_set hs h1' h3; omega) ?_
   have e : (fun j => (listed.setIfInBounds i true).getD j false) = (fun j => if j = i then true else listed.getD j false) := by
    funext j
    by_cases hji : j = i
    ·subst hji; simp [hs, h1']
    ·have hij : i ≠ j := fun e => hji e.symm
     simp [hij, hji]
   rw [e]; exact hI'
  ·intro e he hb
   have h4 := h2.2
   rw [ho] at h4
   simp only [Option.map_some, Option.getD_some] at h4
   rw [Array.all_eq_true'] at h4
   have h5 := h4 e (by simpa using he)
   rw [hb] at h5
   simpa using h5
end
def depB (ops : Array Oper) (i j : Nat) : Bool := match ops[i]? with | some o => o.after.any fun e => Region.binds .any e && e.on == j | none => false
def reachB (ops : Array Oper) : Nat → Nat → Nat → Bool
 | 0, _, _ => false
 | f + 1, i, j => depB ops i j || (List.range i).any fun m => depB ops i m && reachB ops f m j
theorem reachB_spec {ops : Array Oper} {L : Nat → Bool} (hc : ∀ i j, L i = true → depB ops i j = true → L j = true) : ∀ (f i j : Nat), reachB ops f i j = true → (∀ m, depB ops i m = true → L m = true) → L j = true
 | 0, _, _, h, _ => by cases h
 | f + 1, i, j, h, hi => by
  simp only [reachB, Bool.or_eq_true, List.any_eq_true, Bool.and_eq_true] at h
  rcases h with h | ⟨m, _, h1, h2⟩
  ·exact hi j h
  ·exact reachB_spec hc f m j h2 (fun k hk => hc m k (hi m h1) hk)
structure En where
 x : V
 tg : Option Nat
 tc : List Nat
def crE : Eff → Nat → List Nat
 | .new _, nx => [nx]
 | .app _ _, nx => [nx]
 | _, _ => []
def noApp : Eff → Bool
 | .app _ _ => true
 | _ => true
def RX (X : Nat → V) : Prop := ∀ (S S' : Nat → Prop) (rho rho' : Nat → Nat) (A A' : Nat → Prop) (w : World) (id id' : Nat) (v : Value), R S rho w A (X id) v → (∀ b, S b → S' b) → (∀ i, A i → i = id) → A' id' → rho' id' = rho id → R S' rho' w A' (X id') v
def NewX (P : Program) (f : Nat) (args : List V) (k : Blk) (X : Nat → V) (fl : Bool) : Prop :=
 RX X ∧ ∀ (S : Nat → Prop) (w : World) (vs : Array Value), (∀ b, S b → b < w.heap.size) → TabOK S w → AllC S w args vs.toList →
  Calls P f vs w (fun e w' => ∃ v, e = .returned v ∧ Grow w w' ∧ ((∃ b S2, w.heap.size ≤ b ∧ (∀ c, S2 c → fl = false ∧ (S c ∨ (w.heap.size ≤ c ∧ c < w'.heap.size))) ∧ ¬ S2 b ∧ Cellsat S2 (fun _ => 0) (fun _ => False) w' b k ∧ R S2 (fun _ => b) w' (fun i => i = 0) (X 0) v) ∨ ∀ (S : Nat → Prop) (rho : Nat → Nat) (w : World) (A : Nat → Prop) (id : Nat), R S rho w A (X id) v))
def NewP (P : Program) (f : Nat) (args : List V) (k : Blk) (off len z : Nat) (cap : Option Nat) : Prop := NewX P f args k (fun id => .sl id off len z cap) true
theorem rx_sl (off len z : Nat) (cap : Option Nat) : RX fun id => .sl id off len z cap := by
 intro S S' rho rho' A A' w id id' v h _ _ ha he
 cases h with
 | sl _ hl hm hc hz => rw [← he]; exact .sl ha hl hm hc (by rw [he]; exact hz)
 | sln h => exact .sln h
theorem R.renum {S S' : Nat → Prop} {rho rho' : Nat → Nat} {A A' : Nat → Prop} {w : World} {id id' off len z : Nat} {c : Option Nat} {v : Value} (h : R S rho w A (.sl id off len z c) v) (ha : A' id') (he : rho' id' = rho id) : R S' rho' w A' (.sl id' off len z c) v := by
 cases h with
 | sl _ hl hm hc hz => rw [← he]; exact .sl ha hl hm hc (by rw [he]; exact hz)
 | sln h => exact .sln h
structure Moved (A : Nat → Prop) (rho : Nat → Nat) (id : Nat) (w w' : World) : Prop where
 os : w'.os = w.os
 tape : w'.tape = w.tape
 output : w'.output = w.output
 size : w.heap.size ≤ w'.heap.size
 block : ∀ b, b < w.heap.size → ¬ (A id ∧ rho id = b) → w'.heap[b]? = w.heap[b]?
 sz : ∀ b n, szAt w b n → szAt w' b n
def AppC (P : Program) (f : Nat) (ys : List V) (id : Nat) (k : Blk) (off len z : Nat) (cap : Option Nat) (k' : Blk) : Prop :=
 ∀ (B : Base) (S : Nat → Prop) (rho : Nat → Nat) (A : Nat → Prop) (w : World) (vs : Array Value) (m : Nat), Mem B S rho A [(id, k)] w → (∀ j, A j → j < m) → All S rho A w ys vs.toList →
  Calls P f vs w (fun e w' => ∃ v b, e = .returned v ∧ Moved A rho id w w' ∧ (∀ b, S b → w'.heap[b]? = w.heap[b]?) ∧ (w.heap.size ≤ b ∨ A id ∧ rho id = b) ∧ ¬ S b ∧ Cellsat (fun _ => False) (fun _ => 0) (fun _ => False) w' b k' ∧ R (fun _ => False) (fun _ => b) w' (fun i => i = 0) (.sl 0 off len z cap) v)
theorem Mem.moved {B : Base} {S : Nat → Prop} {rho : Nat → Nat} {A : Nat → Prop} {hp : List (Nat × Blk)} {w w' : World} {id : Nat} {k : Blk} (h : Mem B S rho A hp w) (hk : hget hp id = some k) (g : Moved A rho id w w') (hS : ∀ b, S b → w'.heap[b]? = w.heap[b]?) : Mem B S rho A (hdel hp id) w' := by
 have hg : ∀ j q, hget (hdel hp id) j = some q → hget hp j = some q ∧ j ≠ id := by
  intro j q hj
  rw [hget_hdel] at hj
  split at hj
  ·cases hj
  ·exact ⟨hj, ‹_›⟩
 have hL : ∀ b, A id ∧ rho id = b → B.n0 ≤ b ∨ B.L b := fun b ⟨h1, h2⟩ => h2 ▸ h.own id k hk h1
 exact {
  cells := fun j q hj ha => by
   obtain ⟨h1, h2⟩ := hg j q hj
   refine (h.cells j q h1 ha).mono (g.block _ (h.lt h1 ha) fun ⟨a1, a2⟩ => h2 (h.inj j id q k h1 hk ha a1 a2.symm)) (fun b hb => ⟨hb, hS b hb⟩) (fun _ h => ⟨h, rfl, fun n => g.sz _ n⟩)
  fz := fun j q hj => h.fz j q (hg j q hj).1
  own := fun j q hj => h.own j q (hg j q hj).1
  inj := fun j j' q q' hj hj' => h.inj j j' q q' (hg j q hj).1 (hg j' q' hj').1
  slt := fun b hb => Nat.lt_of_lt_of_le (h.slt b hb) g.size
  sub := h.sub
  base := h.base
  frame := ⟨g.os.trans h.frame.os, g.tape.trans h.frame.tape, g.output.trans h.frame.output, Nat.le_trans h.frame.size g.size,
   fun b hb hl => (g.block b (Nat.lt_of_lt_of_le hb h.frame.size) fun hh => (hL b hh).elim (fun e => by unfold Base.n0 at e; omega) hl).trans (h.frame.block b hb hl),
   fun b hb => (hS b (h.sub b hb)).trans (h.frame.stay b hb), fun b n hn => g.sz b _ (h.frame.sz b n hn), h.frame.lt, h.frame.tab⟩
  keep := h.keep }
def fnOf : V → Option (Nat × List V × List V)
 | .sc (.func (.func f) p q) => some (f, p.toList.map .sc, q.toList.map .sc)
 | .fn (.func f) p q => some (f, p, q)
 | _ => none
theorem All.scs {S : Nat → Prop} {rho : Nat → Nat} {A : Nat → Prop} {w : World} (l : List Value) : All S rho A w (l.map .sc) l := ⟨by simp, fun i x u hx hu => by
 rw [List.getElem?_map, hu] at hx
 cases hx; exact .sc _⟩
theorem fn_sound {S : Nat → Prop} {rho : Nat → Nat} {A : Nat → Prop} {w : World} {x : V} {v : Value} {f : Nat} {p q : List V} (h : fnOf x = some (f, p, q)) (hx : R S rho w A x v) : ∃ ps qs : Array Value, v = .func (.func f) ps qs ∧ All S rho A w p ps.toList ∧ All S rho A w q qs.toList := by
 unfold fnOf at h
 split at h
 ·cases h
  cases hx
  exact ⟨_, _, rfl, All.scs _, All.scs _⟩
 ·cases h
  cases hx with | fn hp hq h1 h2 =>
  exact ⟨_, _, rfl, ⟨by simpa using hp, fun i x u hx hu => h1 i x u hx (by simpa using hu)⟩, ⟨by simpa using hq, fun i x u hx hu => h2 i x u hx (by simpa using hu)⟩⟩
 ·cases h
def cloM : V → Bool
 | .sc _ | .im _ _ | .pi _ => true
 | _ => false
def frzN (cs : List V) : Option (List V × List Nat) := if cs.all cloM then some (cs, []) else none
theorem cloM_sound {S : Nat → Prop} {rho : Nat → Nat} {A : Nat → Prop} {w : World} {x : V} {v : Value} (hc : cloM x = true) (h : R S rho w A x v) : R S rho w (fun _ => False) x v := by
 cases h <;> simp [cloM] at hc
 ·exact .sc _
 ·exact .im0 ‹_› ‹_› ‹_›
 ·exact .im1 _ ‹_› ‹_› ‹_› ‹_› ‹_›
 ·exact .pi _ ‹_› ‹_› ‹_›
theorem frzN_sound {S : Nat → Prop} {rho : Nat → Nat} {A : Nat → Prop} {w : World} {hp : List (Nat × Blk)} {cs ys : List V} {vs : List Value} {ids : List Nat} (h : frzN cs = some (ys, ids)) (ha : All S rho A w cs vs) : All (addS S rho A ids) rho (fun _ => False) w ys vs ∧ ∀ id, id ∈ ids → ∃ k, hget hp id = some k := by
 unfold frzN at h
 split at h
 ·rename_i hc
  simp only [Option.some.injEq, Prod.mk.injEq] at h
  obtain ⟨rfl, rfl⟩ := h
  refine ⟨⟨ha.1, fun i x u hx hu => ?_⟩, fun id h => by simp at h⟩
  exact (cloM_sound (List.all_eq_true.1 hc _ (List.mem_of_getElem? hx)) (ha.2 i x u hx hu)).wide fun b hb => .inl hb
 ·cases h
theorem frzN_none {cs ys : List V} {ids : List Nat} (h : frzN cs = some (ys, ids)) : ids = [] := by
 unfold frzN at h
 split at h
 ·simp only [Option.some.injEq, Prod.mk.injEq] at h; exact h.2.symm
 ·cases h
def DStep (P : Program) (ops : Array Oper) (o : Oper) (s : SS) (e : En) (s' : SS) : Prop :=
 dstOk o.dst s.nt = true ∧
 ((∃ f, guardV ops s.sl o.guard = some true ∧ okOp o.op = true ∧ exOp P s.sl s.hp s.nx o.op = some (e.x, f) ∧ s' = s.put o.dst e.x f ∧ e.tg = tgE f ∧ e.tc = rdOf s.sl o.op ++ crE f s.nx ∧ noApp f = true) ∨
  (guardV ops s.sl o.guard = some false ∧ e.x = .tu [] ∧ e.tg = none ∧ e.tc = [] ∧ s' = s.put o.dst (.tu []) .none) ∨
  (∃ g f p q args ts ys fb, o.op = .call ⟨.value g, args, ts⟩ ∧ fnOf (evS s.sl g) = some (f, p, q) ∧ guardV ops s.sl o.guard = some true ∧ isGo P f = true ∧ (frzAll (frz 8 s.hp) (p ++ args.toList.map (evS s.sl) ++ q) = some (ys, e.tc) ∨ frzN (p ++ args.toList.map (evS s.sl) ++ q) = some (ys, e.tc)) ∧ Spec P f ys e.x ∧ s' = calledG s o.dst e.x e.tc fb ∧ e.tg = none ∧ (fb = true → flat e.x = true)) ∨
  (∃ f args ts ys ids k X fl, o.op = .call ⟨.value (.func f), args, ts⟩ ∧ guardV ops s.sl o.guard = some true ∧ isGo P f = true ∧ frzAll (frz 8 s.hp) (args.toList.map (evS s.sl)) = some (ys, ids) ∧ NewX P f ys k X fl ∧ e.x = X s.nx ∧ s' = s.put o.dst e.x (.new k) ∧ e.tg = none ∧ e.tc = ids ++ [s.nx] ∧ (fl = true ∨ ids = [])) ∨
  (∃ f args ts id k off len z cap k', o.op = .call ⟨.value (.func f), args, ts⟩ ∧ guardV ops s.sl o.guard = some true ∧ isGo P f = true ∧ hget s.hp id = some k ∧ AppC P f (args.toList.map (evS s.sl)) id k off len z cap k' ∧ e.x = .sl s.nx off len z cap ∧ s' = s.put o.dst e.x (.app id k') ∧ e.tg = some id ∧ e.tc = [id, s.nx]))
def KL (s : SS) : Prop := ∀ id k, hget s.hp id = some k → id < s.nx
section
variable {P : Program} {ops : Array Oper}
theorem exStore_tgt {hp : List (Nat × Blk)} {t : TypeId} {a x : V} {id : Nat} {k' : Blk} (h : exStore P hp t a x = some (.set id k')) : ∃ k, hget hp id = some k ∧ k.fz = false ∧ k'.fz = false ∧ idOf a = [id] := by
 unfold exStore at h
 split at h
 ·rename_i i off
  cases hk : hget hp i with
  | none => simp [hk] at h
  | some k =>
   cases hv : vcells x with
   | none => simp [hk, hv] at h
   | some xs =>
    simp only [hk, hv, Option.bind_some] at h
    split at h
    ·rename_i hc
     simp only [Option.some.injEq, Eff.set.injEq] at h
     obtain ⟨rfl, rfl⟩ := h
     exact ⟨k, hk, hc.1, rfl, rfl⟩
    ·cases h
 ·cases h
theorem app_open {hp : List (Nat × Blk)} {nx : Nat} {ts : List TypeId} {xs : List V} {x : V} {f : Eff} (h : exBuiltin P hp nx .append ts xs = some (x, f)) (hf : ∀ b, f ≠ .new b) : ∃ t s y, ts = [t, t] ∧ xs = [s, y] ∧ exAppend P hp nx t s y = some (x, f) := by
 unfold exBuiltin at h
 split at h <;> first | (cases h; done) | contradiction | skip
 rename_i t t' s y _
 split at h
 ·rename_i e; subst e; exact ⟨t, s, y, rfl, rfl, h⟩
 ·obtain ⟨b, rfl⟩ := exAppendZ_new h; exact absurd rfl (hf b)
theorem exAppend_set {hp : List (Nat × Blk)} {nx : Nat} {t : TypeId} {s y x : V} {id : Nat} {k : Blk} : ¬ exAppend P hp nx t s y = some (x, .set id k) := by
 intro h
 unfold exAppend at h
 cases hk : mkOf P t with
 | none => simp [hk] at h
 | some p =>
  cases hsrc : srcV hp y with
  | none => simp [hk, hsrc] at h
  | some q =>
   simp only [hk, hsrc, Option.bind_some] at h
   split at h
   ·split at h
    ·rename_i i off n z c
     cases hg : hget hp i with
     | none => simp [hg] at h
     | some k =>
      simp only [hg, Option.bind_some] at h
      split at h <;> cases h
    ·split at h <;> cases h
    ·cases h
   ·cases h
theorem exAppend_live {hp : List (Nat × Blk)} {nx : Nat} {t : TypeId} {s y x : V} {id : Nat} {k : Blk} (h : exAppend P hp nx t s y = some (x, .app id k)) : ∃ k, hget hp id = some k := by
 unfold exAppend at h
 cases hk : mkOf P t with
 | none => simp [hk] at h
 | some p =>
  cases hsrc : srcV hp y with
  | none => simp [hk, hsrc] at h
  | some q =>
   simp only [hk, hsrc, Option.bind_some] at h
   split at h
   ·split at h
    ·rename_i i off n z c
     cases hg : hget hp i with
     | none => simp [hg] at h
     | some k1 =>
      simp only [hg, Option.bind_some] at h
      split at h
      ·cases h; exact ⟨k1, hg⟩
      ·cases h
    ·split at h <;> cases h
    ·cases h
   ·cases h
theorem set_store {sl : List (Nat × V)} {hp : List (Nat × Blk)} {nx : Nat} {op : Op} {x : V} {id : Nat} {k' : Blk} (hok : okOp op = true) (h : exOp P sl hp nx op = some (x, .set id k')) :
  ∃ t a y, op = .store t a y ∧ exStore P hp t (evS sl a) (evS sl y) = some (.set id k') := by
 cases op <;> simp only [exOp] at h <;> try (first | (cases h; done) | (obtain ⟨_, _, e⟩ := Option.map_eq h; cases e; done))
 case store t a y =>
  obtain ⟨f, hf, e⟩ := Option.map_eq h
  cases e
  exact ⟨t, a, y, rfl, hf⟩
 case buildSlice t n ps =>
  unfold exBuildSlice at h
  cases hk : mkOf P t with
  | none => simp [hk] at h
  | some p =>
   simp only [hk, Option.bind_some] at h
   split at h
   ·obtain ⟨_, _, e⟩ := Option.map_eq h; cases e
   ·cases h
 case makeSlice t l c =>
  unfold exMake at h
  split at h
  ·cases hk : mkOf P t with
   | none => simp [hk] at h
   | some p =>
    simp only [hk, Option.bind_some] at h
    split at h
    ·simp only [Option.some.injEq, Prod.mk.injEq] at h; obtain ⟨_, e⟩ := h; cases e
    ·cases h
  ·cases h
 case call c =>
  obtain ⟨callee, args, ts⟩ := c
  cases callee <;> try (cases hok; done)
  rename_i b
  have h : exBuiltin P hp nx b ts.toList (args.toList.map (evS sl)) = some (x, .set id k') := h
  generalize args.toList.map (evS sl) = xs at h
  generalize ts.toList = tl at h
  by_cases hb : b = .append
  ·subst hb
   obtain ⟨t, s, y, _, _, h⟩ := app_open h (fun _ h => by cases h)
   exact absurd h (exAppend_set)
  cases b <;> first | (exact absurd rfl hb) | (cases hok; done) | (unfold exBuiltin at h; split at h <;> first | (cases h; done) | (obtain ⟨_, _, e⟩ := Option.map_eq h; cases e; done) | contradiction)
theorem app_op {sl : List (Nat × V)} {hp : List (Nat × Blk)} {nx : Nat} {op : Op} {x : V} {id : Nat} {k' : Blk} (hok : okOp op = true) (h : exOp P sl hp nx op = some (x, .app id k')) : ∃ k, hget hp id = some k := by
 cases op <;> simp only [exOp] at h <;> try (first | (cases h; done) | (obtain ⟨_, _, e⟩ := Option.map_eq h; cases e; done))
 case store t a y =>
  obtain ⟨f, hf, e⟩ := Option.map_eq h
  cases e
  unfold exStore at hf
  split at hf
  ·rename_i i off _
   cases hk : hget hp i with
   | none => simp [hk] at hf
   | some k =>
    cases hv : vcells (evS sl y) with
    | none => simp [hk, hv] at hf
    | some xs =>
     simp only [hk, hv, Option.bind_some] at hf
     split at hf <;> cases hf
  ·cases hf
 case buildSlice t n ps =>
  unfold exBuildSlice at h
  cases hk : mkOf P t with
  | none => simp [hk] at h
  | some p =>
   simp only [hk, Option.bind_some] at h
   split at h
   ·obtain ⟨_, _, e⟩ := Option.map_eq h; cases e
   ·cases h
 case makeSlice t l c =>
  unfold exMake at h
  split at h
  ·cases hk : mkOf P t with
   | none => simp [hk] at h
   | some p =>
    simp only [hk, Option.bind_some] at h
    split at h
    ·simp only [Option.some.injEq, Prod.mk.injEq] at h; obtain ⟨_, e⟩ := h; cases e
    ·cases h
  ·cases h
 case call c =>
  obtain ⟨callee, args, ts⟩ := c
  cases callee <;> try (cases hok; done)
  rename_i b
  have h : exBuiltin P hp nx b ts.toList (args.toList.map (evS sl)) = some (x, .app id k') := h
  generalize args.toList.map (evS sl) = xs at h
  generalize ts.toList = tl at h
  by_cases hb : b = .append
  ·subst hb
   obtain ⟨t, s, y, _, _, h⟩ := app_open h (fun _ h => by cases h)
   exact exAppend_live h
  cases b <;> first | (exact absurd rfl hb) | (cases hok; done) | (unfold exBuiltin at h; split at h <;> first | (cases h; done) | (obtain ⟨_, _, e⟩ := Option.map_eq h; cases e; done) | contradiction)
theorem DStep.heap {o : Oper} {s s' : SS} {e : En} (h : DStep P ops o s e s') (kl : KL s) :
  (∀ id k, hget s.hp id = some k → e.tg ≠ some id → ∃ k', hget s'.hp id = some k' ∧ (k'.ty = k.ty ∧ k'.cs = k.cs) ∧ (k'.fz = false → k.fz = false)) ∧ s.nx ≤ s'.nx ∧ KL s' := by
 obtain ⟨_, ⟨f, hg, hok, he, rfl, htg, htc, hna⟩ | ⟨_, _, _, _, rfl⟩ | ⟨_, f, _, _, args, ts, ys, fb, _, _, _, _, _, _, rfl, _⟩ | ⟨f, args, ts, ys, ids, k0, X, fl, _, _, _, _, _, _, rfl, _⟩ | ⟨f, args, ts, i, kk, off, len, z, cap, k0, _, _, _, hki, _, _, rfl, htg, _⟩⟩ := h
 ·cases f with
  | none => exact ⟨fun id k hk _ => ⟨k, hk, ⟨rfl, rfl⟩, fun h => h⟩, znb _, kl⟩
  | new k0 =>
   refine ⟨fun id k hk _ => ⟨k, ?_, ⟨rfl, rfl⟩, fun h => h⟩, Nat.le_succ _, fun id k hk => ?_⟩
   ·have := kl id k hk
    show hget ((s.nx, k0) :: s.hp) id = some k
    simp only [hget]; rw [if_neg (by omega)]; exact hk
   ·have hk : hget ((s.nx, k0) :: s.hp) id = some k := hk
    show id < s.nx + 1
    simp only [hget] at hk
    by_cases e : id = s.nx
    ·omega
    ·rw [if_neg e] at hk; have := kl id k hk; omega
  | set i k0 =>
   obtain ⟨t, a, y, _, hst⟩ := set_store hok he
   obtain ⟨k1, h1, h2, h3, _⟩ := exStore_tgt hst
   refine ⟨fun id k hk hne => ?_, znb _, fun id k hk => ?_⟩
   ·show ∃ k', hget (hset s.hp i k0) id = some k' ∧ _
    rw [hget_hset]
    by_cases e : id = i
    ·subst e
     exact absurd (htg.trans rfl) hne
    ·rw [if_neg e]; exact ⟨k, hk, ⟨rfl, rfl⟩, fun h => h⟩
   ·have hk : hget (hset s.hp i k0) id = some k := hk
    rw [hget_hset] at hk
    by_cases e : id = i
    ·subst e; exact kl id k1 h1
    ·rw [if_neg e] at hk; exact kl id k hk
  | app i k0 =>
   refine ⟨fun id k hk hne => ⟨k, ?_, ⟨rfl, rfl⟩, fun h => h⟩, Nat.le_succ _, fun id k hk => ?_⟩
   ·have := kl id k hk
    have hni : id ≠ i := fun e => hne (by rw [htg, e]; rfl)
    show hget ((s.nx, k0) :: hdel s.hp i) id = some k
    simp only [hget]; rw [if_neg (by omega), hget_hdel, if_neg hni]; exact hk
   ·have hk : hget ((s.nx, k0) :: hdel s.hp i) id = some k := hk
    show id < s.nx + 1
    simp only [hget] at hk
    by_cases e : id = s.nx
    ·omega
    ·rw [if_neg e, hget_hdel] at hk
     split at hk
     ·cases hk
     ·have := kl id k hk; omega
 ·exact ⟨fun id k hk _ => ⟨k, hk, ⟨rfl, rfl⟩, fun h => h⟩, znb _, kl⟩
 ·by_cases hf : fb = true
  ·have e1 : (calledG s o.dst e.x e.tc fb).hp = s.hp := by simp [calledG, hf]
   refine ⟨fun id k hk _ => ⟨k, by rw [e1]; exact hk, ⟨rfl, rfl⟩, fun h => h⟩, znb _, fun id k hk => ?_⟩
   rw [e1] at hk; exact kl id k hk
  ·have e1 : (calledG s o.dst e.x e.tc fb).hp = fzHp s.hp e.tc := by simp [calledG, hf]
   refine ⟨fun id k hk _ => ?_, znb _, fun id k hk => ?_⟩
   ·rw [e1, hget_fz, hk]
    refine ⟨_, rfl, by split <;> exact ⟨rfl, rfl⟩, ?_⟩
    split
    ·intro h; cases h
    ·exact fun h => h
   ·rw [e1, hget_fz] at hk
    obtain ⟨k', hk', _⟩ := Option.map_eq hk
    exact kl id k' hk'
 ·refine ⟨fun id k hk _ => ⟨k, ?_, ⟨rfl, rfl⟩, fun h => h⟩, Nat.le_succ _, fun id k hk => ?_⟩
  ·have := kl id k hk
   show hget ((s.nx, k0) :: s.hp) id = some k
   simp only [hget]; rw [if_neg (by omega)]; exact hk
  ·have hk : hget ((s.nx, k0) :: s.hp) id = some k := hk
   show id < s.nx + 1
   simp only [hget] at hk
   by_cases e : id = s.nx
   ·omega
   ·rw [if_neg e] at hk; have := kl id k hk; omega
 ·refine ⟨fun id k hk hne => ⟨k, ?_, ⟨rfl, rfl⟩, fun h => h⟩, Nat.le_succ _, fun id k hk => ?_⟩
  ·have := kl id k hk
   have hni : id ≠ i := fun e => hne (by rw [htg, e])
   show hget ((s.nx, k0) :: hdel s.hp i) id = some k
   simp only [hget]; rw [if_neg (by omega), hget_hdel, if_neg hni]; exact hk
  ·have hk : hget ((s.nx, k0) :: hdel s.hp i) id = some k := hk
   show id < s.nx + 1
   simp only [hget] at hk
   by_cases e : id = s.nx
   ·omega
   ·rw [if_neg e, hget_hdel] at hk
    split at hk
    ·cases hk
    ·have := kl id k hk; omega
end
def looks (ops : Array Oper) (o : Oper) : List Nat := o.looksAt ops
def cmpB (ops : Array Oper) (i j : Nat) : Bool := reachB ops 7 i j || reachB ops 7 j i
def pairOk (ops : Array Oper) (en : List (Option Nat × List Nat)) (i j : Nat) (oi oj : Oper) : Bool :=
 (match oj.dst with
  | some d => !(looks ops oi).contains d && oi.dst != some d || cmpB ops i j && oi.dst != some d
  | none => true) &&
 (match (en[j]?).bind (·.1) with
  | some id => !((en.getD i (none, [])).2.contains id) && (en.getD i (none, [])).1 != some id || cmpB ops i j
  | none => true)
def ordB (l : List Oper) : Bool := l.zipIdx.all fun p => p.1.after.all fun e => !Region.binds .any e || decide (e.on < p.2)
def chkD (l : List Oper) (en : List (Option Nat × List Nat)) : Bool :=
 ordB l && l.zipIdx.all fun p => l.zipIdx.all fun q => p.2 == q.2 || pairOk l.toArray en p.2 q.2 p.1 q.1
end Go.Proofs.Ytdkkgndibagihaa
namespace Go.Proofs.Ytdkkgndibagihaa
open Go.RowKit
section
variable {P : Program} {ops : Array Oper}
theorem DStep.sl {o : Oper} {s s' : SS} {e : En} (h : DStep P ops o s e s') : s'.sl = putS s.sl o.dst e.x ∧ s'.nt = s.nt := by
 obtain ⟨_, ⟨f, _, _, _, rfl, _⟩ | ⟨_, hx, _, _, rfl⟩ | ⟨_, f, _, _, args, ts, ys, fb, _, _, _, _, _, _, rfl, _⟩ | ⟨f, args, ts, ys, ids, k0, X, fl, _, _, _, _, _, _, rfl, _⟩ | ⟨f, args, ts, i, kk, off, len, z, cap, k0, _, _, _, hki, _, _, rfl, htg, _⟩⟩ := h
 ·exact ⟨rfl, rfl⟩
 ·rw [hx]; exact ⟨rfl, rfl⟩
 ·exact ⟨rfl, rfl⟩
 ·exact ⟨rfl, rfl⟩
 ·exact ⟨rfl, rfl⟩
structure DRun (P : Program) (l : List Oper) (st : Nat → SS) (en : Nat → En) : Prop where
 kl : KL (st 0)
 step : ∀ (i : Nat) (o : Oper), l[i]? = some o → DStep P l.toArray o (st i) (en i) (st (i + 1))
 ord : ∀ (i : Nat) (o : Oper), l[i]? = some o → ∀ e ∈ o.after.toList, Region.binds .any e = true → e.on < i
 slot : ∀ (i j : Nat) (oi oj : Oper) (d : Nat), i ≠ j → l[i]? = some oi → l[j]? = some oj → oj.dst = some d → oi.dst ≠ some d ∧ (d ∈ oi.looksAt l.toArray → cmpB l.toArray i j = true)
 tgt : ∀ (i j : Nat) (id : Nat), i ≠ j → i < l.length → j < l.length → (en j).tg = some id → id ∈ (en i).tc ∨ (en i).tg = some id → cmpB l.toArray i j = true
variable {l : List Oper} {st : Nat → SS} {en : Nat → En}
theorem getL {i : Nat} (h : i < l.length) : ∃ o, l[i]? = some o := ⟨_, zlb h⟩
theorem DRun.klAt (h : DRun P l st en) : ∀ i, i ≤ l.length → KL (st i)
 | 0, _ => h.kl
 | i + 1, hi => by
  obtain ⟨o, ho⟩ := getL (l := l) (i := i) (by omega)
  exact ((h.step i o ho).heap (h.klAt i (by omega))).2.2
theorem DRun.nx (h : DRun P l st en) (i : Nat) : ∀ j, i ≤ j → j ≤ l.length → (st i).nx ≤ (st j).nx
 | 0, hij, _ => by have : i = 0 := by omega
                   subst this; exact znb _
 | j + 1, hij, hj => by
  by_cases e : i = j + 1
  ·subst e; exact znb _
  ·obtain ⟨o, ho⟩ := getL (l := l) (i := j) (by omega)
   exact Nat.le_trans (h.nx i j (by omega) (by omega)) ((h.step j o ho).heap (h.klAt j (by omega))).2.1
theorem DRun.nt (h : DRun P l st en) : ∀ i, i ≤ l.length → (st i).nt = (st 0).nt
 | 0, _ => rfl
 | i + 1, hi => by
  obtain ⟨o, ho⟩ := getL (l := l) (i := i) (by omega)
  exact ((h.step i o ho).sl).2.trans (h.nt i (by omega))
theorem DRun.chain (h : DRun P l st en) {i : Nat} {id : Nat} {k : Blk} (hk : hget (st i).hp id = some k) : ∀ j, i ≤ j → j ≤ l.length → (∀ m, i ≤ m → m < j → (en m).tg ≠ some id) →
  ∃ k', hget (st j).hp id = some k' ∧ k'.ty = k.ty ∧ k'.cs = k.cs ∧ (k'.fz = false → k.fz = false)
 | 0, hij, _, _ => by have : i = 0 := by omega
                      subst this; exact ⟨k, hk, rfl, rfl, fun h => h⟩
 | j + 1, hij, hj, hm => by
  by_cases e : i = j + 1
  ·subst e; exact ⟨k, hk, rfl, rfl, fun h => h⟩
  ·obtain ⟨o, ho⟩ := getL (l := l) (i := j) (by omega)
   obtain ⟨k1, a1, a2, a3, a4⟩ := h.chain hk j (by omega) (by omega) (fun m h1 h2 => hm m h1 (by omega))
   obtain ⟨k2, b1, ⟨c1, c2⟩, b3⟩ := ((h.step j o ho).heap (h.klAt j (by omega))).1 id k1 a1 (hm j (by omega) (by omega))
   exact ⟨k2, b1, c1.trans a2, c2.trans a3, fun h => a4 (b3 h)⟩
theorem DRun.slot0 (h : DRun P l st en) {t : Nat} : ∀ i, i ≤ l.length → (∀ j o, j < i → l[j]? = some o → o.dst ≠ some t) → get (st i).sl t = get (st 0).sl t
 | 0, _, _ => rfl
 | i + 1, hi, hn => by
  obtain ⟨o, ho⟩ := getL (l := l) (i := i) (by omega)
  rw [((h.step i o ho).sl).1]
  have := hn i o (by omega) ho
  have ih := h.slot0 (t := t) i (by omega) (fun j o hj => hn j o (by omega))
  cases hd : o.dst with
  | none => exact ih
  | some d =>
   rw [hd] at this
   simp only [putS, get]
   rw [if_neg (fun e => this (by rw [e]))]
   exact ih
theorem DRun.slotx (h : DRun P l st en) {t j : Nat} {oj : Oper} (hj : l[j]? = some oj) (hd : oj.dst = some t) : ∀ i, j < i → i ≤ l.length → get (st i).sl t = (en j).x
 | 0, hji, _ => by omega
 | i + 1, hji, hi => by
  obtain ⟨o, ho⟩ := getL (l := l) (i := i) (by omega)
  rw [((h.step i o ho).sl).1]
  by_cases e : j = i
  ·subst e
   rw [ho] at hj; cases hj
   rw [hd]; simp [putS, get]
  ·have hne := (h.slot i j o oj t (fun e' => e e'.symm) ho hj hd).1
   have ih := h.slotx hj hd i (by omega) (by omega)
   cases hd' : o.dst with
   | none => exact ih
   | some d =>
    rw [hd'] at hne
    simp only [putS, get]
    rw [if_neg (fun e => hne (by rw [e]))]
    exact ih
theorem depB_lt (h : DRun P l st en) {i j : Nat} (hd : depB l.toArray i j = true) : j < i := by
 unfold depB at hd
 split at hd
 ·rename_i o ho
  rw [List.getElem?_toArray] at ho
  rw [Array.any_eq_true'] at hd
  obtain ⟨e, he, hb⟩ := hd
  rw [Bool.and_eq_true] at hb
  have := h.ord i o ho e (by simpa using he) hb.1
  rw [beq_iff_eq] at hb
  omega
 ·cases hd
theorem reach_lt (h : DRun P l st en) : ∀ (f i j : Nat), reachB l.toArray f i j = true → j < i
 | 0, _, _, hr => by cases hr
 | f + 1, i, j, hr => by
  simp only [reachB, Bool.or_eq_true, List.any_eq_true, Bool.and_eq_true] at hr
  rcases hr with hr | ⟨m, _, h1, h2⟩
  ·exact depB_lt h hr
  ·have := reach_lt h f m j h2
   have := depB_lt h h1
   omega
theorem cmp_done (h : DRun P l st en) {L : Nat → Bool} (hc : ∀ i j, L i = true → depB l.toArray i j = true → L j = true) {i j : Nat} (hi : L i = false) (hd : ∀ m, depB l.toArray i m = true → L m = true) (hij : cmpB l.toArray i j = true) :
  L j = true ↔ j < i := by
 unfold cmpB at hij
 rw [Bool.or_eq_true] at hij
 rcases hij with hr | hr
 ·exact ⟨fun _ => reach_lt h 7 i j hr, fun _ => reachB_spec hc 7 i j hr hd⟩
 ·have hlt := reach_lt h 7 j i hr
  refine ⟨fun hj => ?_, fun hlt' => by omega⟩
  have := reachB_spec hc 7 j i hr (fun m hm => hc j m hj hm)
  rw [hi] at this; cases this
def nextC (n : Nat) (en : Nat → En) (L : Nat → Bool) (id : Nat) : Nat := ((List.range n).find? fun i => (en i).tg == some id && !L i).getD n
theorem nextC_le (n : Nat) (L : Nat → Bool) (id : Nat) : nextC n en L id ≤ n := by
 unfold nextC
 cases h : (List.range n).find? fun i => (en i).tg == some id && !L i with
 | none => exact znb _
 | some i => have := List.mem_of_find?_eq_some h; have := List.mem_range.1 this; simp; omega
theorem nextC_lt {n : Nat} {L : Nat → Bool} {id : Nat} {m : Nat} (hm : m < nextC n en L id) (ht : (en m).tg = some id) : L m = true := by
 unfold nextC at hm
 cases h : (List.range n).find? fun i => (en i).tg == some id && !L i with
 | none =>
  rw [h] at hm
  have := List.find?_eq_none.1 h m (List.mem_range.2 hm)
  simpa [ht] using this
 | some i =>
  rw [h] at hm
  simp only [Option.getD_some] at hm
  rw [List.find?_eq_some_iff_append] at h
  obtain ⟨_, az, bs, he, ha⟩ := h
  have hlen : m < az.length := by
   have hi : (List.range n)[az.length]? = some i := by rw [he]; simp
   have := (List.getElem?_eq_some_iff.1 hi)
   obtain ⟨h1, h2⟩ := this
   simp at h2; omega
  have hmem : m ∈ az := by
   have h1 : (List.range n)[m]? = az[m]? := by rw [he]; simp [List.getElem?_append, hlen]
   have hn : m < n := by
    have : az.length ≤ n := by have := congrArg List.length he; simp at this; omega
    omega
   rw [List.getElem?_range hn] at h1
   exact List.mem_of_getElem? h1.symm
  have := ha m hmem
  simpa [ht] using this
theorem nextC_at {n : Nat} {L : Nat → Bool} {id : Nat} (hq : nextC n en L id < n) : (en (nextC n en L id)).tg = some id ∧ L (nextC n en L id) = false := by
 unfold nextC at hq ⊢
 cases h : (List.range n).find? fun i => (en i).tg == some id && !L i with
 | none => rw [h] at hq; simp at hq
 | some i =>
  have := List.find?_some h
  simpa using this
theorem nextC_eq {n : Nat} {L : Nat → Bool} {id q : Nat} (hq : q ≤ n) (h1 : ∀ m, m < q → (en m).tg = some id → L m = true) (h2 : q < n → (en q).tg = some id ∧ L q = false) : nextC n en L id = q := by
 rcases Nat.lt_trichotomy (nextC n en L id) q with h | h | h
 ·have := nextC_at (Nat.lt_of_lt_of_le h hq)
  have := h1 _ h this.1
  simp_all
 ·exact h
 ·have hn := nextC_le (en := en) n L id
  obtain ⟨a, b⟩ := h2 (by omega)
  rw [nextC_lt h a] at b; cases b
def keysD (n : Nat) (st : Nat → SS) : List Nat := (List.range (n + 1)).flatMap fun i => (st i).hp.map (·.1)
def hpD (n : Nat) (st : Nat → SS) (en : Nat → En) (L : Nat → Bool) : List (Nat × Blk) := (keysD n st).filterMap fun id => (hget (st (nextC n en L id)).hp id).map fun k => (id, k)
theorem hget_fm (f : Nat → Option Blk) (ks : List Nat) (id : Nat) : hget (ks.filterMap fun i => (f i).map fun k => (i, k)) id = if id ∈ ks then f id else none := by
 induction ks with
 | nil => rfl
 | cons a r ih =>
  rw [List.filterMap_cons]
  cases ha : f a with
  | none =>
   simp only [Option.map_none, ih, List.mem_cons]
   by_cases e : id = a
   ·subst e; simp [ha]
   ·simp [e]
  | some k =>
   simp only [Option.map_some, hget, ih, List.mem_cons]
   by_cases e : id = a
   ·subst e; simp [ha]
   ·simp [e]
theorem mem_keys {hp : List (Nat × Blk)} {id : Nat} {k : Blk} (h : hget hp id = some k) : id ∈ hp.map (·.1) := by
 induction hp with
 | nil => cases h
 | cons p r ih =>
  obtain ⟨i, q⟩ := p
  simp only [hget] at h
  by_cases e : id = i
  ·simp [e]
  ·rw [if_neg e] at h; exact List.mem_cons_of_mem _ (ih h)
theorem hget_hpD (_ : DRun P l st en) (L : Nat → Bool) (id : Nat) : hget (hpD l.length st en L) id = hget (st (nextC l.length en L id)).hp id := by
 unfold hpD
 rw [hget_fm fun id => hget (st (nextC l.length en L id)).hp id]
 split
 ·rfl
 ·rename_i hm
  cases hk : hget (st (nextC l.length en L id)).hp id with
  | none => rfl
  | some k =>
   exact absurd (List.mem_flatMap.2 ⟨_, List.mem_range.2 (Nat.lt_succ_of_le (nextC_le l.length L id)), mem_keys hk⟩) hm
theorem Mem.turn {B : Base} {S : Nat → Prop} {rho : Nat → Nat} {A : Nat → Prop} {hp hp' : List (Nat × Blk)} {w : World} (h : Mem B S rho A hp w)
  (ht : ∀ id k', hget hp' id = some k' → A id → ∃ k, hget hp id = some k ∧ k'.ty = k.ty ∧ k'.cs = k.cs ∧ (k'.fz = false → k.fz = false)) : Mem B S rho A hp' w where
 cells id k' hk ha := by
  obtain ⟨k, h1, h2, h3, _⟩ := ht id k' hk ha
  obtain ⟨cells, c1, c2⟩ := h.cells id k h1 ha
  exact ⟨cells, by rw [h2]; exact c1, by rw [h3]; exact c2⟩
 fz id k' hk ha h0 := by
  obtain ⟨k, h1, _, _, h4⟩ := ht id k' hk ha
  exact h.fz id k h1 ha (h4 h0)
 own id k' hk ha := by obtain ⟨k, h1, _⟩ := ht id k' hk ha; exact h.own id k h1 ha
 inj id id' k k' hk hk' ha ha' := by
  obtain ⟨q, h1, _⟩ := ht id k hk ha
  obtain ⟨q', h1', _⟩ := ht id' k' hk' ha'
  exact h.inj id id' q q' h1 h1' ha ha'
 slt := h.slt
 sub := h.sub
 base := h.base
 frame := h.frame
 keep := h.keep
def restr (sl : List (Nat × V)) (ts : List Nat) : List (Nat × V) := ts.map fun t => (t, get sl t)
theorem get_restr (sl : List (Nat × V)) (ts : List Nat) (t : Nat) : get (restr sl ts) t = if t ∈ ts then get sl t else .junk := by
 induction ts with
 | nil => rfl
 | cons a r ih =>
  simp only [restr, zld, get] at ih ⊢
  by_cases e : t = a
  ·subst e; simp
  ·rw [if_neg e, ih]; simp [e]
def made (f : Option Nat) : Nat → Prop := fun id => f = some id
structure DInv (B : Base) (l : List Oper) (st : Nat → SS) (en : Nat → En) (L : Nat → Bool) (S : Nat → Prop) (rho : Nat → Nat) (A : Nat → Prop) (a : Act) (w : World) : Prop where
 mem : Mem B S rho A (hpD l.length st en L) w
 done : ∀ t j o, l[j]? = some o → o.dst = some t → L j = true → R S rho w A (en j).x (a.eval (.tmp t))
 open' : ∀ t, (∀ j o, l[j]? = some o → o.dst = some t → L j = false) → R S rho w A (get (st 0).sl t) (a.eval (.tmp t))
 num : ∀ id, A id → id < (st 0).nx ∨ ∃ j, j < l.length ∧ L j = true ∧ (st j).nx = id ∧ (st j).nx < (st (j + 1)).nx
 size : a.tmps.size = (st 0).nt
 defs : a.defers = B.D
 closed : ∀ i j, L i = true → depB l.toArray i j = true → L j = true
theorem DInv.slot {B : Base} {L : Nat → Bool} {S : Nat → Prop} {rho : Nat → Nat} {A : Nat → Prop} {a : Act} {w : World} (h : DRun P l st en) (hI : DInv B l st en L S rho A a w) {i : Nat} {o : Oper} (ho : l[i]? = some o) (hi : L i = false)
  (hd : ∀ m, depB l.toArray i m = true → L m = true) {t : Nat} (ht : t ∈ o.looksAt l.toArray) : R S rho w A (get (st i).sl t) (a.eval (.tmp t)) := by
 have hil : i < l.length := (List.getElem?_eq_some_iff.1 ho).1
 by_cases hex : ∃ j oj, j ≠ i ∧ l[j]? = some oj ∧ oj.dst = some t
 ·obtain ⟨j, oj, hji, hj, hdj⟩ := hex
  have hjl : j < l.length := (List.getElem?_eq_some_iff.1 hj).1
  have hcmp := (h.slot i j o oj t (fun e => hji e.symm) ho hj hdj).2 ht
  have hiff := cmp_done h hI.closed hi hd hcmp
  by_cases hlt : j < i
  ·rw [h.slotx hj hdj i hlt (by omega)]
   exact hI.done t j oj hj hdj (hiff.2 hlt)
  ·have hL : L j = false := by
    cases hb : L j with
    | false => rfl
    | true => exact absurd (hiff.1 hb) hlt
   have only : ∀ m om, l[m]? = some om → om.dst = some t → m = j := by
    intro m om hm hdm
    by_cases e : m = j
    ·exact e
    ·exact absurd hdm (h.slot m j om oj t e hm hj hdj).1
   rw [h.slot0 i (by omega) (fun m om hm hom hdm => by have := only m om hom hdm; omega)]
   exact hI.open' t fun m om hm hdm => by rw [only m om hm hdm]; exact hL
 ·have hno : ∀ j oj, l[j]? = some oj → oj.dst = some t → j = i := by
   intro j oj hj hdj
   by_cases e : j = i
   ·exact e
   ·exact absurd ⟨j, oj, e, hj, hdj⟩ hex
  rw [h.slot0 i (by omega) (fun m om hm hom hdm => by have := hno m om hom hdm; omega)]
  exact hI.open' t fun m om hm hdm => by rw [hno m om hm hdm]; exact hi
theorem DInv.blk {B : Base} {L : Nat → Bool} {S : Nat → Prop} {rho : Nat → Nat} {A : Nat → Prop} {a : Act} {w : World} (h : DRun P l st en) (hI : DInv B l st en L S rho A a w) {i : Nat} (hil : i < l.length) (hi : L i = false)
  (hd : ∀ m, depB l.toArray i m = true → L m = true) {id : Nat} (ht : id ∈ (en i).tc ∨ (en i).tg = some id) :
  i ≤ nextC l.length en L id ∧ (∀ m, i < m → m < nextC l.length en L id → (en m).tg ≠ some id) ∧ ((en i).tg = some id → nextC l.length en L id = i) := by
 have hcmp : ∀ j, j ≠ i → j < l.length → (en j).tg = some id → (L j = true ↔ j < i) := fun j hji hjl hj => cmp_done h hI.closed hi hd (h.tgt i j id (fun e => hji e.symm) hil hjl hj ht)
 have hq := nextC_le (en := en) l.length L id
 have h1 : i ≤ nextC l.length en L id := by
  rcases Nat.lt_or_ge (nextC l.length en L id) i with hlt | hge
  ·obtain ⟨a1, a2⟩ := nextC_at (n := l.length) (en := en) (L := L) (id := id) (by omega)
   have := (hcmp _ (by omega) (by omega) a1).2 hlt
   rw [a2] at this; cases this
  ·exact hge
 refine ⟨h1, fun m hm1 hm2 hm => ?_, fun hti => nextC_eq (by omega) (fun m hm hmt => (hcmp m (by omega) (by omega) hmt).2 hm) (fun _ => ⟨hti, hi⟩)⟩
 have := (hcmp m (by omega) (by omega) hm).1 (nextC_lt hm2 hm)
 omega
theorem DInv.agr0 {B : Base} {L : Nat → Bool} {S : Nat → Prop} {rho : Nat → Nat} {A : Nat → Prop} {a : Act} {w : World} (h : DRun P l st en) (hI : DInv B l st en L S rho A a w) {i : Nat} (hil : i < l.length) (hi : L i = false)
  (hd : ∀ m, depB l.toArray i m = true → L m = true) {id : Nat} (ht : id ∈ (en i).tc) : Go.Proofs.Ytdkkgndibagihaa.agr0 (hget (hpD l.length st en L) id) (hget (st i).hp id) := by
 intro k hk
 rw [hget_hpD h]
 obtain ⟨h1, h2, h3⟩ := hI.blk h hil hi hd (.inl ht)
 by_cases hti : (en i).tg = some id
 ·rw [h3 hti]; exact ⟨k, hk, rfl, rfl⟩
 ·obtain ⟨k', a1, a2, a3, _⟩ := h.chain hk _ h1 (nextC_le _ _ _) (fun m hm1 hm2 => by
   by_cases e : m = i
   ·subst e; exact hti
   ·exact h2 m (by omega) hm2)
  exact ⟨k', a1, a2, a3⟩
end
end Go.Proofs.Ytdkkgndibagihaa
namespace Go.Proofs.Ytdkkgndibagihaa
open Go.RowKit
section
variable {P : Program} {l : List Oper} {st : Nat → SS} {en : Nat → En}
theorem DStep.born {ops : Array Oper} {o : Oper} {s s' : SS} {e : En} (h : DStep P ops o s e s') {id : Nat} {k' : Blk} (hk : hget s'.hp id = some k') : (∃ k, hget s.hp id = some k) ∨ id = s.nx := by
 obtain ⟨_, ⟨f, hg, hok, he, rfl, htg, htc, hna⟩ | ⟨_, _, _, _, rfl⟩ | ⟨_, f, _, _, args, ts, ys, fb, _, _, _, _, _, _, rfl, _⟩ | ⟨f, args, ts, ys, ids, k0, X, fl, _, _, _, _, _, _, rfl, _⟩ | ⟨f, args, ts, i, kk, off, len, z, cap, k0, _, _, _, hki, _, _, rfl, htg, _⟩⟩ := h
 ·cases f with
  | none => exact .inl ⟨k', hk⟩
  | new k0 =>
   have hk : hget ((s.nx, k0) :: s.hp) id = some k' := hk
   simp only [hget] at hk
   by_cases e : id = s.nx
   ·exact .inr e
   ·rw [if_neg e] at hk; exact .inl ⟨k', hk⟩
  | set i k0 =>
   have hk : hget (hset s.hp i k0) id = some k' := hk
   rw [hget_hset] at hk
   by_cases e : id = i
   ·subst e
    rw [if_pos rfl] at hk
    obtain ⟨k, h1, _⟩ := Option.map_eq hk
    exact .inl ⟨k, h1⟩
   ·rw [if_neg e] at hk; exact .inl ⟨k', hk⟩
  | app i k0 =>
   have hk : hget ((s.nx, k0) :: hdel s.hp i) id = some k' := hk
   simp only [hget] at hk
   by_cases e : id = s.nx
   ·exact .inr e
   ·rw [if_neg e, hget_hdel] at hk
    split at hk
    ·cases hk
    ·exact .inl ⟨k', hk⟩
 ·exact .inl ⟨k', hk⟩
 ·have hk : hget (if fb = true then s.hp else fzHp s.hp e.tc) id = some k' := hk
  by_cases hf : fb = true
  ·rw [if_pos hf] at hk; exact .inl ⟨k', hk⟩
  ·rw [if_neg hf, hget_fz] at hk
   obtain ⟨k, h1, _⟩ := Option.map_eq hk
   exact .inl ⟨k, h1⟩
 ·have hk : hget ((s.nx, k0) :: s.hp) id = some k' := hk
  simp only [hget] at hk
  by_cases e : id = s.nx
  ·exact .inr e
  ·rw [if_neg e] at hk; exact .inl ⟨k', hk⟩
 ·have hk : hget ((s.nx, k0) :: hdel s.hp i) id = some k' := hk
  simp only [hget] at hk
  by_cases e : id = s.nx
  ·exact .inr e
  ·rw [if_neg e, hget_hdel] at hk
   split at hk
   ·cases hk
   ·exact .inl ⟨k', hk⟩
theorem DRun.born (h : DRun P l st en) {id : Nat} (hid : id < (st 0).nx) : ∀ j, j ≤ l.length → ∀ k', hget (st j).hp id = some k' → ∃ k, hget (st 0).hp id = some k
 | 0, _, k', hk => ⟨k', hk⟩
 | j + 1, hj, k', hk => by
  obtain ⟨o, ho⟩ := getL (l := l) (i := j) (by omega)
  rcases (h.step j o ho).born hk with ⟨k, h1⟩ | h1
  ·exact h.born hid j (by omega) k h1
  ·have := h.nx 0 j (by omega) (by omega); omega
theorem DRun.gone (h : DRun P l st en) {i id : Nat} (hn : hget (st i).hp id = none) (hid : id < (st i).nx) : ∀ j, i ≤ j → j ≤ l.length → hget (st j).hp id = none
 | 0, hij, _ => by have : i = 0 := by omega
                   subst this; exact hn
 | j + 1, hij, hj => by
  by_cases e : i = j + 1
  ·subst e; exact hn
  ·obtain ⟨o, ho⟩ := getL (l := l) (i := j) (by omega)
   have ih := h.gone hn hid j (by omega) (by omega)
   cases hk : hget (st (j + 1)).hp id with
   | none => rfl
   | some k =>
    rcases (h.step j o ho).born hk with ⟨k1, h1⟩ | h1
    ·rw [ih] at h1; cases h1
    ·have := h.nx i j (by omega) (by omega); omega
def addL (L : Nat → Bool) (i : Nat) : Nat → Bool := fun j => if j = i then true else L j
theorem next_same {L : Nat → Bool} {i id : Nat} (hi : L i = false) (ht : (en i).tg ≠ some id) : nextC l.length en (addL L i) id = nextC l.length en L id := by
 refine nextC_eq (nextC_le _ _ _) (fun m hm hmt => ?_) (fun hq => ?_)
 ·have := nextC_lt hm hmt
  unfold addL; split
  ·rfl
  ·exact this
 ·obtain ⟨a, b⟩ := nextC_at hq
  refine ⟨a, ?_⟩
  unfold addL
  rw [if_neg (fun e => ht (by rw [← e]; exact a))]
  exact b
theorem guard_restr {ops : Array Oper} {o : Oper} (sl : List (Nat × V)) : guardV ops (restr sl (o.looksAt ops)) o.guard = guardV ops sl o.guard := by
 cases hg : o.guard with
 | none => rfl
 | some p =>
  obtain ⟨j, want⟩ := p
  simp only [guardV]
  cases hd : (ops[j]?).bind (·.dst) with
  | none => rfl
  | some d =>
   have : d ∈ o.looksAt ops := by
    unfold Oper.looksAt
    rw [List.mem_append]
    refine .inr ?_
    rw [hg]; simp [hd]
   simp only [get_restr, if_pos this]
theorem ev_restr {ops : Array Oper} {o : Oper} (sl : List (Nat × V)) {y : Operand} (hy : y ∈ o.op.operands.toList) : evS (restr sl (o.looksAt ops)) y = evS sl y := by
 cases y with
 | tmp t =>
  have : t ∈ o.looksAt ops := by
   unfold Oper.looksAt
   rw [List.mem_append]
   exact .inl (List.mem_filterMap.2 ⟨.tmp t, hy, rfl⟩)
  simp only [evS, get_restr, if_pos this]
 | _ => rfl
theorem eval_put_same (a : Act) {t : Nat} (v : Value) (h : t < a.tmps.size) : (a.put (some t) v).eval (.tmp t) = v := by simp [Act.eval, Act.put, h]
theorem eval_put_other (a : Act) {d : Option Nat} {t : Nat} (v : Value) (h : d ≠ some t) : (a.put d v).eval (.tmp t) = a.eval (.tmp t) := Act.eval_put (by intro d' hd' e; cases e; exact h hd')
theorem DInv.next {B : Base} {L : Nat → Bool} {S S' : Nat → Prop} {rho rho' : Nat → Nat} {A A' : Nat → Prop} {a : Act} {w w' : World} (h : DRun P l st en) (hI : DInv B l st en L S rho A a w) {i : Nat} {o : Oper} (ho : l[i]? = some o)
  (hd : ∀ m, depB l.toArray i m = true → L m = true) {v : Value} (hdst : dstOk o.dst (st i).nt = true) (hS : ∀ b, S b → S' b ∧ w'.heap[b]? = w.heap[b]?) (hA : ∀ id, A id → A' id ∧ rho' id = rho id ∧ ∀ n, szAt w (rho id) n → szAt w' (rho id) n)
  (hm : Mem B S' rho' A' (hpD l.length st en (addL L i)) w') (hx : R S' rho' w' A' (en i).x v) (hnum : ∀ id, A' id → A id ∨ ((st i).nx = id ∧ (st i).nx < (st (i + 1)).nx)) : DInv B l st en (addL L i) S' rho' A' (a.put o.dst v) w' := by
 have hil : i < l.length := (List.getElem?_eq_some_iff.1 ho).1
 exact {
  mem := hm
  done := fun t j oj hj hdj hL => by
   by_cases e : j = i
   ·subst e
    rw [ho] at hj; cases hj
    rw [hdj]
    rw [eval_put_same a v (by
     rw [hI.size, ← h.nt j (by omega)]
     rw [hdj] at hdst; simpa [dstOk] using hdst)]
    exact hx
   ·unfold addL at hL
    rw [if_neg e] at hL
    rw [eval_put_other a v (fun hd' => (h.slot i j o oj t (fun e' => e e'.symm) ho hj hdj).1 hd')]
    exact (hI.done t j oj hj hdj hL).mono hS hA
  open' := fun t hall => by
   have hne : o.dst ≠ some t := fun hd' => by
    have := hall i o ho hd'
    simp [addL] at this
   rw [eval_put_other a v hne]
   refine (hI.open' t fun j oj hj hdj => ?_).mono hS hA
   have := hall j oj hj hdj
   unfold addL at this
   split at this
   ·cases this
   ·exact this
  num := fun id hid => by
   rcases hnum id hid with h1 | ⟨h1, h2⟩
   ·rcases hI.num id h1 with h2 | ⟨j, hj, hL, h3⟩
    ·exact .inl h2
    ·exact .inr ⟨j, hj, by unfold addL; split; rfl; exact hL, h3⟩
   ·exact .inr ⟨i, hil, by simp [addL], h1, h2⟩
  size := by rw [put_size]; exact hI.size
  defs := by rw [put_defers]; exact hI.defs
  closed := fun c j hcL hcd => by
   unfold addL at hcL ⊢
   split
   ·rfl
   ·by_cases e : c = i
    ·subst e; exact hd j hcd
    ·rw [if_neg e] at hcL; exact hI.closed c j hcL hcd }
theorem DInv.fresh {B : Base} {L : Nat → Bool} {S : Nat → Prop} {rho : Nat → Nat} {A : Nat → Prop} {a : Act} {w : World} (h : DRun P l st en) (hI : DInv B l st en L S rho A a w) : ¬ A (st l.length).nx := by
 intro hA
 rcases hI.num _ hA with h1 | ⟨j, hj, _, h2, h3⟩
 ·have := h.nx 0 l.length (by omega) (znb _); omega
 ·have := h.nx (j + 1) l.length (by omega) (znb _); omega
theorem DInv.fresh' {B : Base} {L : Nat → Bool} {S : Nat → Prop} {rho : Nat → Nat} {A : Nat → Prop} {a : Act} {w : World} (h : DRun P l st en) (hI : DInv B l st en L S rho A a w) {i : Nat} (hil : i < l.length) (hi : L i = false) (hn : (st i).nx < (st (i + 1)).nx) : ¬ A (st i).nx := by
 intro hA
 rcases hI.num _ hA with h1 | ⟨j, hj, hL, h2, h3⟩
 ·have := h.nx 0 i (by omega) (by omega); omega
 ·have hji : j ≠ i := by intro e; subst e; rw [hi] at hL; cases hL
  rcases Nat.lt_or_ge j i with hlt | hge
  ·have := h.nx (j + 1) i (by omega) (by omega); omega
  ·have := h.nx (i + 1) j (by omega) (by omega); omega
end
end Go.Proofs.Ytdkkgndibagihaa
namespace Go.Proofs.Ytdkkgndibagihaa
open Go.RowKit
section
variable {P : Program} {l : List Oper} {st : Nat → SS} {en : Nat → En}
theorem frzAll_live {g : V → Option (V × List Nat)} {p : Nat → Prop} (hg : ∀ x y ids, g x = some (y, ids) → ∀ id ∈ ids, p id) : ∀ {cs ys : List V} {ids : List Nat}, frzAll g cs = some (ys, ids) → ∀ id ∈ ids, p id
 | [], ys, ids, h => by simp only [frzAll, Option.some.injEq, Prod.mk.injEq] at h; obtain ⟨_, rfl⟩ := h; simp
 | c :: r, ys, ids, h => by
  simp only [frzAll] at h
  cases hc : g c with
  | none => simp [hc] at h
  | some q =>
   cases hr : frzAll g r with
   | none => simp [hc, hr] at h
   | some u =>
    obtain ⟨y, i1⟩ := q
    obtain ⟨zs, i2⟩ := u
    simp only [hc, hr, Option.bind_some, Option.map_some, Option.some.injEq, Prod.mk.injEq] at h
    obtain ⟨_, rfl⟩ := h
    intro id hid
    rcases List.mem_append.1 hid with h1 | h1
    ·exact hg c y i1 hc id h1
    ·exact frzAll_live hg hr id h1
theorem frzL_live {g : V → Option (V × List Nat)} {p : Nat → Prop} (hg : ∀ x y ids, g x = some (y, ids) → ∀ id ∈ ids, p id) {cs ys : List V} {ids : List Nat} (h : frzL g cs = some (ys, ids)) : ∀ id ∈ ids, p id := by
 unfold frzL at h
 split at h
 ·simp only [Option.some.injEq, Prod.mk.injEq] at h; obtain ⟨_, rfl⟩ := h; simp
 ·exact frzAll_live hg h
theorem frz_live {hp : List (Nat × Blk)} : ∀ (n : Nat) (x y : V) (ids : List Nat), frz n hp x = some (y, ids) → ∀ id ∈ ids, ∃ k, hget hp id = some k
 | 0, x, y, ids, h => by simp [frz] at h
 | n + 1, x, y, ids, h => by
  have ih := frz_live (hp := hp) n
  cases x with
  | ag cs =>
   rw [frz_ag] at h
   obtain ⟨⟨ys, i1⟩, h1, h2⟩ := Option.map_eq h
   cases h2
   exact frzL_live (p := fun id => ∃ k, hget hp id = some k) ih h1
  | tu cs =>
   rw [frz_tu] at h
   obtain ⟨⟨ys, i1⟩, h1, h2⟩ := Option.map_eq h
   cases h2
   exact frzL_live (p := fun id => ∃ k, hget hp id = some k) ih h1
  | sl id off len z c =>
   rw [frz_sl] at h
   cases hs : srcG off len z (hget hp id) with
   | none => rw [hs] at h; cases h
   | some q =>
    rw [hs] at h
    simp only [fzQ] at h
    obtain ⟨⟨ys, i1⟩, h1, h2⟩ := Option.map_eq h
    cases h2
    intro j hj
    rcases List.mem_cons.1 hj with rfl | hj
    ·cases hk : hget hp j with
     | none => rw [hk] at hs; cases hs
     | some k => exact ⟨k, rfl⟩
    ·exact frzL_live (p := fun id => ∃ k, hget hp id = some k) ih h1 j hj
  | sc v =>
   simp only [frz] at h
   split at h <;> first | (cases h; intro id hid; cases hid; done) | (rename_i e; cases e; done) | contradiction
  | pt id off =>
   rw [frz_pt] at h
   cases hk : hget hp id with
   | none => rw [hk] at h; cases h
   | some k =>
    rw [hk] at h
    obtain ⟨⟨ys, i1⟩, h1, h2⟩ := Option.map_eq h
    cases h2
    intro j hj
    rcases List.mem_cons.1 hj with rfl | hj
    ·exact ⟨k, hk⟩
    ·exact frzL_live (p := fun id => ∃ k, hget hp id = some k) ih h1 j hj
  | im cs len => simp only [frz] at h; cases h; simp
  | pi cs => simp only [frz] at h; cases h; simp
  | fn f p q =>
   rw [frz_fn] at h
   cases hp1 : frzL (frz n hp) p with
   | none => rw [hp1] at h; cases h
   | some a =>
    cases hq1 : frzL (frz n hp) q with
    | none => rw [hp1, hq1] at h; cases h
    | some b =>
     obtain ⟨a1, i1⟩ := a
     obtain ⟨b1, i2⟩ := b
     rw [hp1, hq1] at h
     cases h
     intro j hj
     rcases List.mem_append.1 hj with hj | hj
     ·exact frzL_live (p := fun id => ∃ k, hget hp id = some k) ih hp1 j hj
     ·exact frzL_live (p := fun id => ∃ k, hget hp id = some k) ih hq1 j hj
  | _ => simp only [frz] at h; cases h
theorem addL_false {L : Nat → Bool} {i j : Nat} (h : addL L i j = false) : j ≠ i ∧ L j = false := by
 unfold addL at h
 split at h
 ·cases h
 ·exact ⟨‹_›, h⟩
theorem DInv.slots {B : Base} {L : Nat → Bool} {S : Nat → Prop} {rho : Nat → Nat} {A : Nat → Prop} {a : Act} {w : World} (h : DRun P l st en) (hI : DInv B l st en L S rho A a w) {i : Nat} {o : Oper} (ho : l[i]? = some o) (hi : L i = false)
  (hd : ∀ m, depB l.toArray i m = true → L m = true) (t : Nat) : R S rho w A (get (restr (st i).sl (o.looksAt l.toArray)) t) (a.eval (.tmp t)) := by
 rw [get_restr]
 split
 ·rename_i ht; exact hI.slot h ho hi hd ht
 ·exact .junk _
theorem DInv.same {B : Base} {L : Nat → Bool} {i : Nat} (h : DRun P l st en) (hi : L i = false) (ht : (en i).tg = none) (id : Nat) : hget (hpD l.length st en (addL L i)) id = hget (hpD l.length st en L) id := by
 rw [hget_hpD h, hget_hpD h, next_same hi (by rw [ht]; simp)]
theorem DInv.stepOp {B : Base} {L : Nat → Bool} {S : Nat → Prop} {rho : Nat → Nat} {A : Nat → Prop} {a : Act} {w : World} (h : DRun P l st en) (hI : DInv B l st en L S rho A a w) {i : Nat} {o : Oper} (ho : l[i]? = some o) (hi : L i = false)
  (hd : ∀ m, depB l.toArray i m = true → L m = true) {f : Eff} (hdst : dstOk o.dst (st i).nt = true) (hok : okOp o.op = true) (he : exOp P (st i).sl (st i).hp (st i).nx o.op = some ((en i).x, f)) (hs' : st (i + 1) = (st i).put o.dst (en i).x f)
  (htg : (en i).tg = tgE f) (htc : (en i).tc = rdOf (st i).sl o.op ++ crE f (st i).nx) (hna : noApp f = true) :
  ∃ v w' S' rho' A', ((execOp a.eval o).run P w = .ok (.value v) w' ∨ ((execOp a.eval o).run P w = .ok .skip w' ∧ v = undef)) ∧ DInv B l st en (addL L i) S' rho' A' (a.put o.dst v) w' := by
 have hil : i < l.length := (List.getElem?_eq_some_iff.1 ho).1
 have hsl := hI.slots h ho hi hd
 have hnx : (st (i + 1)).nx = f.next (st i).nx := by rw [hs']; rfl
 obtain ⟨nx', hn1, hn2, hn3⟩ : ∃ nx', (nx' = (st i).nx ∨ isNew f = false) ∧ ¬ A nx' ∧ (isNew f = true → nx' = (st i).nx) := by
  cases f with
  | new k => exact ⟨(st i).nx, .inl rfl, hI.fresh' h hil hi (by rw [hnx]; simp [Eff.next]), fun _ => rfl⟩
  | none => exact ⟨(st l.length).nx, .inr rfl, hI.fresh h, fun e => by cases e⟩
  | set id k => exact ⟨(st l.length).nx, .inr rfl, hI.fresh h, fun e => by cases e⟩
  | app id k => exact ⟨(st i).nx, .inl rfl, hI.fresh' h hil hi (by rw [hnx]; simp [Eff.next]), fun _ => rfl⟩
 have hex : exOp P (restr (st i).sl (o.looksAt l.toArray)) (hpD l.length st en L) nx' o.op = some ((en i).x, f) := by
  refine op_local hok he (fun y hy => ev_restr _ hy) (fun id hid => hI.agr0 h hil hi hd (by rw [htc]; exact List.mem_append.2 (.inl hid))) ?_ hn1
  intro id hid
  have htg1 : (en i).tg = some id := htg.trans hid
  have hq := (hI.blk h hil hi hd (id := id) (.inr htg1)).2.2 htg1
  intro k hk
  rw [hget_hpD h, hq]
  exact ⟨k, hk, rfl, rfl, fun h => h⟩
 obtain ⟨v, w', rho', A', h1, h2, h3, h4, h5, h6⟩ := op_sound (P := P) hI.mem hsl hn2 hex
 refine ⟨v, w', S, rho', A', h1, hI.next h ho hd hdst (fun b hb => ⟨hb, h5 b hb⟩) h3 ?_ h6 ?_⟩
 ·refine h2.turn fun id k' hk' _ => ?_
  cases f with
  | none =>
   rw [DInv.same (B := B) h hi htg] at hk'
   exact ⟨k', hk', rfl, rfl, fun h => h⟩
  | new k0 =>
   have hnx' := hn3 rfl
   subst hnx'
   rw [DInv.same (B := B) h hi htg] at hk'
   show ∃ k, hget (((st i).nx, k0) :: hpD l.length st en L) id = some k ∧ _
   simp only [hget]
   by_cases e : id = (st i).nx
   ·subst e
    rw [if_pos rfl]
    rw [hget_hpD h] at hk'
    obtain ⟨b1, b2, _⟩ := hI.blk h hil hi hd (id := (st i).nx) (.inl (by rw [htc]; simp [crE]))
    have hne : (en i).tg ≠ some (st i).nx := by rw [htg]; simp [tgE]
    have hgt : i < nextC l.length en L (st i).nx := by
     rcases Nat.lt_or_eq_of_le b1 with hlt | heq
     ·exact hlt
     ·have a1 := (nextC_at (n := l.length) (en := en) (L := L) (id := (st i).nx) (by omega)).1
      rw [← heq] at a1
      exact absurd a1 hne
    have hk0 : hget (st (i + 1)).hp (st i).nx = some k0 := by rw [hs']; show hget (((st i).nx, k0) :: (st i).hp) _ = _; simp [hget]
    obtain ⟨k2, c1, c2, c3, c4⟩ := h.chain hk0 _ hgt (nextC_le _ _ _) (fun m hm1 hm2 => b2 m (by omega) hm2)
    rw [hk'] at c1; cases c1
    exact ⟨k0, rfl, c2, c3, c4⟩
   ·rw [if_neg e]; exact ⟨k', hk', rfl, rfl, fun h => h⟩
  | set i0 k0 =>
   obtain ⟨t, b, y, hop, hst⟩ := set_store hok he
   obtain ⟨k, g1, g2, g3, g4⟩ := exStore_tgt hst
   have htg' : (en i).tg = some i0 := htg
   show ∃ k, hget (hset (hpD l.length st en L) i0 k0) id = some k ∧ _
   rw [hget_hset]
   by_cases e : id = i0
   ·subst e
    rw [if_pos rfl]
    obtain ⟨b1, b2, b3⟩ := hI.blk h hil hi hd (id := id) (.inr htg')
    have hk : hget (hpD l.length st en L) id = some k := by rw [hget_hpD h, b3 htg']; exact g1
    rw [hk]
    have hk0 : hget (st (i + 1)).hp id = some k0 := by
     rw [hs']
     show hget (hset (st i).hp id k0) id = _
     rw [hget_hset, if_pos rfl, g1]; rfl
    rw [hget_hpD h] at hk'
    have hcmp : ∀ j, j ≠ i → j < l.length → (en j).tg = some id → (L j = true ↔ j < i) := fun j hji hjl hj => cmp_done h hI.closed hi hd (h.tgt i j id (fun e => hji e.symm) hil hjl hj (.inr htg'))
    have hq1 : i + 1 ≤ nextC l.length en (addL L i) id := by
     rcases Nat.lt_or_ge i (nextC l.length en (addL L i) id) with hlt | hge
     ·exact hlt
     ·obtain ⟨a1, a2⟩ := nextC_at (n := l.length) (en := en) (L := addL L i) (id := id) (by omega)
      obtain ⟨hne, a3⟩ := addL_false a2
      have := (hcmp _ hne (by omega) a1).2 (by omega)
      rw [this] at a3; cases a3
    obtain ⟨k2, c1, c2, c3, c4⟩ := h.chain hk0 _ hq1 (nextC_le _ _ _) (fun m hm1 hm2 hmt => by
     have hL := nextC_lt hm2 hmt
     have hle := nextC_le (en := en) l.length (addL L i) id
     unfold addL at hL
     rw [if_neg (by omega)] at hL
     have := (hcmp m (by omega) (by omega) hmt).1 hL
     omega)
    rw [hk'] at c1; cases c1
    exact ⟨k0, rfl, c2, c3, c4⟩
   ·rw [if_neg e]
    rw [hget_hpD h, next_same hi (by rw [htg']; simp; exact fun e' => e e'.symm), ← hget_hpD h] at hk'
    exact ⟨k', hk', rfl, rfl, fun h => h⟩
  | app i0 k0 =>
   have hnx' := hn3 rfl
   subst hnx'
   obtain ⟨kb, hkb⟩ := app_op hok he
   have hlt0 : i0 < (st i).nx := h.klAt i (by omega) i0 kb hkb
   have htg' : (en i).tg = some i0 := htg
   show ∃ k, hget (((st i).nx, k0) :: hdel (hpD l.length st en L) i0) id = some k ∧ _
   simp only [hget]
   by_cases e : id = (st i).nx
   ·subst e
    rw [if_pos rfl]
    have hne : (en i).tg ≠ some (st i).nx := by rw [htg']; intro e'; cases e'; omega
    rw [hget_hpD h, next_same hi hne] at hk'
    obtain ⟨b1, b2, _⟩ := hI.blk h hil hi hd (id := (st i).nx) (.inl (by rw [htc]; simp [crE]))
    have hgt : i < nextC l.length en L (st i).nx := by
     rcases Nat.lt_or_eq_of_le b1 with hlt | heq
     ·exact hlt
     ·have a1 := (nextC_at (n := l.length) (en := en) (L := L) (id := (st i).nx) (by omega)).1
      rw [← heq] at a1
      exact absurd a1 hne
    have hk0 : hget (st (i + 1)).hp (st i).nx = some k0 := by rw [hs']; show hget (((st i).nx, k0) :: hdel (st i).hp i0) _ = _; simp [hget]
    obtain ⟨k2, c1, c2, c3, c4⟩ := h.chain hk0 _ hgt (nextC_le _ _ _) (fun m hm1 hm2 => b2 m (by omega) hm2)
    rw [hk'] at c1; cases c1
    exact ⟨k0, rfl, c2, c3, c4⟩
   ·rw [if_neg e, hget_hdel]
    by_cases e0 : id = i0
    ·exfalso
     subst e0
     rw [hget_hpD h] at hk'
     have hcmp : ∀ j, j ≠ i → j < l.length → (en j).tg = some id → (L j = true ↔ j < i) := fun j hji hjl hj => cmp_done h hI.closed hi hd (h.tgt i j id (fun e => hji e.symm) hil hjl hj (.inr htg'))
     have hq1 : i + 1 ≤ nextC l.length en (addL L i) id := by
      rcases Nat.lt_or_ge i (nextC l.length en (addL L i) id) with hlt | hge
      ·exact hlt
      ·obtain ⟨a1, a2⟩ := nextC_at (n := l.length) (en := en) (L := addL L i) (id := id) (by omega)
       obtain ⟨hne, a3⟩ := addL_false a2
       have := (hcmp _ hne (by omega) a1).2 (by omega)
       rw [this] at a3; cases a3
     have hk0 : hget (st (i + 1)).hp id = none := by
      rw [hs']
      show hget (((st i).nx, k0) :: hdel (st i).hp id) id = _
      simp only [hget]
      rw [if_neg e, hget_hdel, if_pos rfl]
     rw [h.gone hk0 (by rw [hnx]; simp [Eff.next]; omega) _ hq1 (nextC_le _ _ _)] at hk'
     cases hk'
    ·rw [if_neg e0]
     rw [hget_hpD h, next_same hi (by rw [htg']; simp; exact fun e' => e0 e'.symm), ← hget_hpD h] at hk'
     exact ⟨k', hk', rfl, rfl, fun h => h⟩
 ·intro id hid
  rcases h4 id hid with h7 | ⟨h7, k, h8⟩
  ·exact .inl h7
  ·rcases h8 with h8 | ⟨i0, h8⟩
   ·subst h8
    rw [hn3 rfl] at h7
    exact .inr ⟨h7.symm, by rw [hnx]; simp [Eff.next]⟩
   ·subst h8
    rw [hn3 rfl] at h7
    exact .inr ⟨h7.symm, by rw [hnx]; simp [Eff.next]⟩
theorem region_step {B : Base} (h : DRun P l st en) {Q : Exit → Act → World → Prop} {L : Nat → Bool} {S : Nat → Prop} {rho : Nat → Nat} {A : Nat → Prop} {a : Act} {w : World} (hI : DInv B l st en L S rho A a w) {i : Nat} {o : Oper} (ho : l[i]? = some o) (hi : L i = false)
  (hd : ∀ m, depB l.toArray i m = true → L m = true) :
  wpOp P l.toArray Q i (fun a' w' => ∃ S rho A, DInv B l st en (addL L i) S rho A a' w') a w := by
 have hsl := hI.slots h ho hi hd
 have hil : i < l.length := (List.getElem?_eq_some_iff.1 ho).1
 have ho' : l.toArray[i]? = some o := by rw [List.getElem?_toArray]; exact ho
 have hguard : ∀ b, guardV l.toArray (st i).sl o.guard = some b → Region.wanted o (yielded l.toArray a.tmps) = b := fun b hb => by
  refine guard_sound (s := ⟨restr (st i).sl (o.looksAt l.toArray), [], 0, 0⟩) (S := S) (rho := rho) (w := w) (A := A) hsl ?_
  rw [← hb]; exact guard_restr (st i).sl
 unfold wpOp
 rw [ho']
 obtain ⟨hdst, ⟨f, hg, hok, he, hs', htg, htc, hna⟩ | ⟨hg, hx, htg, htc, hs'⟩ | ⟨g0, f, p0, q0, args, ts, ys, fb, hop, hfn, hg, hgo, hfz, hsp, hs', htg, hfb⟩ | ⟨f, args, ts, ys, ids, k0, X, fl, hop, hg, hgo, hfz, hsp, hx, hs', htg, htc, hfl⟩ | ⟨f, args, ts, i0, kk, off, len, z, cap, k0, hop, hg, hgo, hki, hsp, hx, hs', htg, htc⟩⟩ := h.step i o ho
 ·simp only [hguard _ hg, if_true]
  refine .inl ?_
  obtain ⟨v, w', S', rho', A', h1, h2⟩ := hI.stepOp h ho hi hd hdst hok he hs' htg htc hna
  unfold Oper.wp
  rcases h1 with h1 | ⟨h1, rfl⟩ <;> rw [h1] <;> exact ⟨S', rho', A', h2⟩
 ·simp only [hguard _ hg]
  refine ⟨S, rho, A, hI.next h ho hd hdst (fun b hb => ⟨hb, rfl⟩) (fun _ h => ⟨h, rfl, fun _ h => h⟩) ?_ (by rw [hx]; exact skip_rep) (fun _ h => .inl h)⟩
  refine hI.mem.turn fun id k' hk' _ => ?_
  rw [DInv.same (B := B) h hi htg] at hk'
  exact ⟨k', hk', rfl, rfl, fun h => h⟩
 ·simp only [hguard _ hg, if_true]
  refine .inl ?_
  have hev : args.toList.map (evS (restr (st i).sl (o.looksAt l.toArray))) = args.toList.map (evS (st i).sl) := List.map_congr_left fun y hy => ev_restr _ (by rw [hop]; simp only [Op.operands, Call.operands]; simp; exact .inr (by simpa using hy))
  have heg : evS (restr (st i).sl (o.looksAt l.toArray)) g0 = evS (st i).sl g0 := ev_restr _ (by rw [hop]; simp only [Op.operands, Call.operands]; simp)
  have hfz' : frzAll (frz 8 (hpD l.length st en L)) (p0 ++ args.toList.map (evS (restr (st i).sl (o.looksAt l.toArray))) ++ q0) = some (ys, (en i).tc) ∨ frzN (p0 ++ args.toList.map (evS (restr (st i).sl (o.looksAt l.toArray))) ++ q0) = some (ys, (en i).tc) := by
   rw [hev]
   refine hfz.imp (fun hfz => ?_) (fun hfz => ?_)
   ·exact frzAll_local (p := fun id => agr0 (hget (hpD l.length st en L) id) (hget (st i).hp id)) (fun x y ids hxy hp => frz_local 8 x y ids hxy hp) hfz (fun id hid => hI.agr0 h hil hi hd hid)
   ·exact hfz
  obtain ⟨ps, qs, hge, hps, hqs⟩ := fn_sound (by rw [heg]; exact hfn) (ev_sound hI.mem.tab hsl g0)
  have hall := (hps.append (All.ev hI.mem.tab hsl args.toList)).append hqs
  obtain ⟨h1, h2⟩ := hfz'.elim (fun h => frzAll_sound (frz_sound hI.mem 8) h hall) (fun h => frzN_sound h hall)
  have hmf := hI.mem.freeze (en i).tc h2
  have hrun : (execOp a.eval o).run P w = .ok (.enter f (ps ++ args.map a.eval ++ qs)) w := by
   simp only [execOp, hop, resolve, hge, Deferred.ofValue, Sem.run_bind, Sem.run_pure, Result.andThen_ok, invoke]
   exact callFunc_go hgo _ w
  have hvl : (ps ++ args.map a.eval ++ qs).toList = ps.toList ++ args.toList.map a.eval ++ qs.toList := by simp
  unfold Oper.wp
  rw [hrun]
  refine (hsp (addS S rho A (en i).tc) w (ps ++ args.map a.eval ++ qs) hmf.slt hmf.tab ⟨by rw [hvl]; exact h1.1, fun i y u hy hu => (h1.2 i y u hy (by rw [← hvl]; exact hu)).rho⟩).mono ?_
  rintro e w' ⟨v, rfl, g, hx⟩
  have hA : ∀ id, A id → A id ∧ rho id = rho id ∧ ∀ n, szAt w (rho id) n → szAt w' (rho id) n := fun id h => ⟨h, rfl, fun _ => g.szAt⟩
  by_cases hfl0 : fb = true
  ·have hfl := hfb hfl0
   refine ⟨fun b => S b ∨ (w.heap.size ≤ b ∧ b < w'.heap.size), rho, A, hI.next h ho hd hdst (fun b hb => ⟨.inl hb, g.block b (hI.mem.slt b hb)⟩) hA ?_ (flat_sound hfl hx.rho.open) (fun _ h => .inl h)⟩
   refine (hI.mem.came g).turn fun id k' hk' _ => ?_
   rw [DInv.same (B := B) h hi htg] at hk'
   exact ⟨k', hk', rfl, rfl, fun h => h⟩
  ·refine ⟨fun b => addS S rho A (en i).tc b ∨ (w.heap.size ≤ b ∧ b < w'.heap.size), rho, A, hI.next h ho hd hdst (fun b hb => ⟨.inl (.inl hb), g.block b (hI.mem.slt b hb)⟩) hA ?_ hx.rho.open (fun _ h => .inl h)⟩
   refine (hmf.came g).turn fun id k' hk' _ => ?_
   rw [DInv.same (B := B) h hi htg] at hk'
   rw [hget_fz, hk']
   refine ⟨_, rfl, by split <;> rfl, by split <;> rfl, fun hk0 => ?_⟩
   by_cases hc : (en i).tc.contains id = true
   ·exfalso
    have hmem : id ∈ (en i).tc := by simpa using hc
    obtain ⟨b1, b2, _⟩ := hI.blk h hil hi hd (id := id) (.inl hmem)
    have hgt : i < nextC l.length en L id := by
     rcases Nat.lt_or_eq_of_le b1 with hlt | heq
     ·exact hlt
     ·have := (nextC_at (n := l.length) (en := en) (L := L) (id := id) (by omega)).1
      rw [← heq, htg] at this; cases this
    obtain ⟨k1, hk1⟩ := h2 id hmem
    rw [hget_hpD h] at hk'
    have hst : (st (i + 1)).hp = fzHp (st i).hp (en i).tc := by rw [hs']; simp [calledG, hfl0]
    obtain ⟨k2, hk2⟩ := hfz.elim (fun h => frzAll_live (p := fun id => ∃ k, hget (st i).hp id = some k) (frz_live 8) h id hmem) (fun h => by rw [frzN_none h] at hmem; cases hmem)
    have hk3 : hget (st (i + 1)).hp id = some ⟨k2.ty, k2.cs, true⟩ := by rw [hst, hget_fz, hk2]; simp [hc]; exact fun h => absurd hmem h
    obtain ⟨k4, c1, c2, c3, c4⟩ := h.chain hk3 _ hgt (nextC_le _ _ _) (fun m hm1 hm2 => b2 m (by omega) hm2)
    rw [hk'] at c1; cases c1
    have := c4 hk0
    cases this
   ·show (if (en i).tc.contains id = true then (⟨k'.ty, k'.cs, true⟩ : Blk) else k').fz = false; rw [if_neg hc]; exact hk0
 ·simp only [hguard _ hg, if_true]
  refine .inl ?_
  have hev : args.toList.map (evS (restr (st i).sl (o.looksAt l.toArray))) = args.toList.map (evS (st i).sl) := List.map_congr_left fun y hy => ev_restr _ (by rw [hop]; simp only [Op.operands, Call.operands]; simp; exact .inr (by simpa using hy))
  have hfz' : frzAll (frz 8 (hpD l.length st en L)) (args.toList.map (evS (restr (st i).sl (o.looksAt l.toArray)))) = some (ys, ids) := by
   rw [hev]
   exact frzAll_local (p := fun id => agr0 (hget (hpD l.length st en L) id) (hget (st i).hp id)) (fun x y ids hxy hp => frz_local 8 x y ids hxy hp) hfz (fun id hid => hI.agr0 h hil hi hd (by rw [htc]; exact List.mem_append.2 (.inl hid)))
  have hall := All.ev hI.mem.tab hsl args.toList
  obtain ⟨h1, h2⟩ := frzAll_sound (frz_sound hI.mem 8) hfz' hall
  have hmf := hI.mem.freeze ids h2
  have hrun : (execOp a.eval o).run P w = .ok (.enter f (args.map a.eval)) w := by
   simp only [execOp, hop, resolve, Act.eval, Deferred.ofValue, Sem.run_bind, Sem.run_pure, Result.andThen_ok, invoke]
   have := callFunc_go hgo (args.map a.eval) w
   simpa using this
  unfold Oper.wp
  rw [hrun]
  refine (hsp.2 (addS S rho A ids) w (args.map a.eval) hmf.slt hmf.tab ⟨by have := h1.1; simpa using this, fun i y u hy hu => (h1.2 i y u hy (by simpa using hu)).rho⟩).mono ?_
  have hlt : (st i).nx < (st (i + 1)).nx := by rw [hs']; simp [SS.put, Eff.next]
  have hid : ¬ A (st i).nx := hI.fresh' h hil hi hlt
  have hturn : ∀ id k', hget (hpD l.length st en (addL L i)) id = some k' → ∃ k, hget (((st i).nx, k0) :: hpD l.length st en L) id = some k ∧ k'.ty = k.ty ∧ k'.cs = k.cs ∧ (k'.fz = false → k.fz = false) := by
   intro id k' hk'
   rw [DInv.same (B := B) h hi htg] at hk'
   simp only [hget]
   by_cases e : id = (st i).nx
   ·subst e
    rw [if_pos rfl]
    rw [hget_hpD h] at hk'
    obtain ⟨b1, b2, _⟩ := hI.blk h hil hi hd (id := (st i).nx) (.inl (by rw [htc]; simp))
    have hne : (en i).tg ≠ some (st i).nx := by rw [htg]; simp
    have hgt : i < nextC l.length en L (st i).nx := by
     rcases Nat.lt_or_eq_of_le b1 with hlt | heq
     ·exact hlt
     ·have a1 := (nextC_at (n := l.length) (en := en) (L := L) (id := (st i).nx) (by omega)).1
      rw [← heq] at a1
      exact absurd a1 hne
    have hk0 : hget (st (i + 1)).hp (st i).nx = some k0 := by rw [hs']; show hget (((st i).nx, k0) :: (st i).hp) _ = _; simp [hget]
    obtain ⟨k2, c1, c2, c3, c4⟩ := h.chain hk0 _ hgt (nextC_le _ _ _) (fun m hm1 hm2 => b2 m (by omega) hm2)
    rw [hk'] at c1; cases c1
    exact ⟨k0, rfl, c2, c3, c4⟩
   ·rw [if_neg e]; exact ⟨k', hk', rfl, rfl, fun h => h⟩
  rintro e w' ⟨v, rfl, g, ⟨b, S2, hb, hS2, hnb, hcs, hv⟩ | hv⟩
  ·have hS3 : ∀ c, S2 c → S c ∨ (w.heap.size ≤ c ∧ c < w'.heap.size) := fun c hc => by
    obtain ⟨q1, q2⟩ := hS2 c hc
    rcases hfl with e | e
    ·rw [e] at q1; cases q1
    ·subst e
     rcases q2 with (q2 | ⟨_, q3, _⟩) | q2
     ·exact .inl q2
     ·cases q3
     ·exact .inr q2
   have hbl : b < w'.heap.size := by obtain ⟨cells, q1, _⟩ := hcs; exact (Array.getElem?_eq_some_iff.1 q1).1
   have hm := (hI.mem.came2 g S2 hS3).come (st i).nx hid k0 b (fun i q hq ha e => by have := hI.mem.lt hq ha; omega) (fun e => e.elim (fun e => by have := hI.mem.slt b e; omega) hnb) (.inl (Nat.le_trans hI.mem.frame.size hb)) (hcs.mono rfl (fun c h => ⟨.inr h, rfl⟩) (fun _ h => h.elim))
   refine ⟨fun c => S c ∨ S2 c, (fun j => if j = (st i).nx then b else rho j), (fun j => j = (st i).nx ∨ A j), hI.next h ho hd hdst (fun b hb => ⟨.inl hb, g.block b (hI.mem.slt b hb)⟩) (fun id hid' => ⟨.inr hid', if_neg (fun e : id = (st i).nx => hid (e ▸ hid')), fun _ => g.szAt⟩) ?_ (by rw [hx]; exact hsp.1 _ _ _ _ _ _ _ _ _ _ hv (fun c h => .inr h) (fun i h => h) (.inl rfl) (if_pos rfl)) ?_⟩
   ·exact hm.turn fun id k' hk' _ => hturn id k' hk'
   ·rintro id (rfl | hid')
    ·exact .inr ⟨rfl, hlt⟩
    ·exact .inl hid'
  ·have hm := (hI.mem.grow g).phantom (st i).nx hid k0
   exact ⟨S, rho, A, hI.next h ho hd hdst (fun b hb => ⟨hb, g.block b (hI.mem.slt b hb)⟩) (fun _ h => ⟨h, rfl, fun _ => g.szAt⟩) (hm.turn fun id k' hk' _ => hturn id k' hk') (by rw [hx]; exact hv _ _ _ _ _) (fun _ h => .inl h)⟩
 ·simp only [hguard _ hg, if_true]
  refine .inl ?_
  have hev : args.toList.map (evS (restr (st i).sl (o.looksAt l.toArray))) = args.toList.map (evS (st i).sl) := List.map_congr_left fun y hy => ev_restr _ (by rw [hop]; simp only [Op.operands, Call.operands]; simp; exact .inr (by simpa using hy))
  have hnx : (st (i + 1)).nx = (st i).nx + 1 := by rw [hs']; simp [SS.put, Eff.next]
  have hlt : (st i).nx < (st (i + 1)).nx := by omega
  have hid : ¬ A (st i).nx := hI.fresh' h hil hi hlt
  have hkD : hget (hpD l.length st en L) i0 = some kk := by rw [hget_hpD h, (hI.blk h hil hi hd (id := i0) (.inr htg)).2.2 htg]; exact hki
  have hm1 : Mem B S rho A [(i0, kk)] w := hI.mem.less fun j q hj => by
   simp only [hget] at hj
   split at hj
   ·rename_i e; subst e; cases hj; exact hkD
   ·cases hj
  have hb : ∀ j, A j → j < (st l.length).nx := fun j hj => by
   rcases hI.num j hj with h1 | ⟨m, hm, _, h2, h3⟩
   ·have := h.nx 0 l.length (by omega) (znb _); omega
   ·have := h.nx (m + 1) l.length (by omega) (znb _); omega
  have hall := All.ev hI.mem.tab hsl args.toList
  rw [hev] at hall
  have hrun : (execOp a.eval o).run P w = .ok (.enter f (args.map a.eval)) w := by
   simp only [execOp, hop, resolve, Act.eval, Deferred.ofValue, Sem.run_bind, Sem.run_pure, Result.andThen_ok, invoke]
   have := callFunc_go hgo (args.map a.eval) w
   simpa using this
  unfold Oper.wp
  rw [hrun]
  refine (hsp B S rho A w (args.map a.eval) _ hm1 hb (by simpa using hall)).mono ?_
  rintro e w' ⟨v, b, rfl, g, hS, hbn, hnb, hcs, hv⟩
  have hm2 := hI.mem.moved hkD g hS
  have hm3 := hm2.come (st i).nx hid k0 b (fun j q hq ha e => by
   rw [hget_hdel] at hq
   split at hq
   ·cases hq
   ·rcases hbn with hbn | ⟨hbn, hbr⟩
    ·have := hI.mem.lt hq ha; omega
    ·exact absurd (hI.mem.inj j i0 q kk hq hkD ha hbn (e.trans hbr.symm)) ‹_›) hnb
   (hbn.elim (fun h => .inl (Nat.le_trans hI.mem.frame.size h)) (fun ⟨h1, h2⟩ => h2 ▸ hI.mem.own i0 kk hkD h1)) (hcs.mono rfl (fun _ h => h.elim) (fun _ h => h.elim))
  refine ⟨S, (fun j => if j = (st i).nx then b else rho j), (fun j => j = (st i).nx ∨ A j), hI.next h ho hd hdst (fun b hb => ⟨hb, hS b hb⟩) (fun id hid' => ⟨.inr hid', if_neg (fun e : id = (st i).nx => hid (e ▸ hid')), fun n => g.sz _ n⟩) ?_ (by rw [hx]; exact hv.renum (.inl rfl) (if_pos rfl)) ?_⟩
  ·refine hm3.turn fun id k' hk' _ => ?_
   have hlt0 : i0 < (st i).nx := h.klAt i (by omega) i0 kk hki
   have htg' : (en i).tg = some i0 := htg
   show ∃ k, hget (((st i).nx, k0) :: hdel (hpD l.length st en L) i0) id = some k ∧ _
   simp only [hget]
   by_cases e : id = (st i).nx
   ·subst e
    rw [if_pos rfl]
    have hne : (en i).tg ≠ some (st i).nx := by rw [htg']; intro e'; cases e'; omega
    rw [hget_hpD h, next_same hi hne] at hk'
    obtain ⟨b1, b2, _⟩ := hI.blk h hil hi hd (id := (st i).nx) (.inl (by rw [htc]; simp))
    have hgt : i < nextC l.length en L (st i).nx := by
     rcases Nat.lt_or_eq_of_le b1 with hlt | heq
     ·exact hlt
     ·have a1 := (nextC_at (n := l.length) (en := en) (L := L) (id := (st i).nx) (by omega)).1
      rw [← heq] at a1
      exact absurd a1 hne
    have hk0 : hget (st (i + 1)).hp (st i).nx = some k0 := by rw [hs']; show hget (((st i).nx, k0) :: hdel (st i).hp i0) _ = _; simp [hget]
    obtain ⟨k2, c1, c2, c3, c4⟩ := h.chain hk0 _ hgt (nextC_le _ _ _) (fun m hm1 hm2 => b2 m (by omega) hm2)
    rw [hk'] at c1; cases c1
    exact ⟨k0, rfl, c2, c3, c4⟩
   ·rw [if_neg e, hget_hdel]
    by_cases e0 : id = i0
    ·exfalso
     subst e0
     rw [hget_hpD h] at hk'
     have hcmp : ∀ j, j ≠ i → j < l.length → (en j).tg = some id → (L j = true ↔ j < i) := fun j hji hjl hj => cmp_done h hI.closed hi hd (h.tgt i j id (fun e => hji e.symm) hil hjl hj (.inr htg'))
     have hq1 : i + 1 ≤ nextC l.length en (addL L i) id := by
      rcases Nat.lt_or_ge i (nextC l.length en (addL L i) id) with hlt | hge
      ·exact hlt
      ·obtain ⟨a1, a2⟩ := nextC_at (n := l.length) (en := en) (L := addL L i) (id := id) (by omega)
       obtain ⟨hne, a3⟩ := addL_false a2
       have := (hcmp _ hne (by omega) a1).2 (by omega)
       rw [this] at a3; cases a3
     have hk0 : hget (st (i + 1)).hp id = none := by
      rw [hs']
      show hget (((st i).nx, k0) :: hdel (st i).hp id) id = _
      simp only [hget]
      rw [if_neg e, hget_hdel, if_pos rfl]
     rw [h.gone hk0 (by rw [hnx]; omega) _ hq1 (nextC_le _ _ _)] at hk'
     cases hk'
    ·rw [if_neg e0]
     rw [hget_hpD h, next_same hi (by rw [htg']; simp; exact fun e' => e0 e'.symm), ← hget_hpD h] at hk'
     exact ⟨k', hk', rfl, rfl, fun h => h⟩
  ·rintro id (rfl | hid')
   ·exact .inr ⟨rfl, hlt⟩
   ·exact .inl hid'
theorem region_draw {B : Base} {id : Nat} {Q : Exit → SS → Prop} {s : SS} (h : DRun P l st en) (hs : st 0 = s) (hm : P.follows .mixedOrders = true) (hQ : Q .normal (st l.length)) : SWp P B (.region id l.toArray true) Q s := by
 subst hs
 intro S rho A a w hr
 have dep : ∀ (L : Nat → Bool) (i : Nat) (o : Oper), l.toArray[i]? = some o → (∀ e ∈ o.after.toList, Region.binds .any e = true → L e.on = true) → ∀ m, depB l.toArray i m = true → L m = true := by
  intro L i o ho hd m hm
  unfold depB at hm
  rw [ho] at hm
  simp only [Array.any_eq_true'] at hm
  obtain ⟨e, he, hb⟩ := hm
  rw [Bool.and_eq_true, beq_iff_eq] at hb
  rw [← hb.2]; exact hd e (by simpa using he) hb.1
 refine wp_region_any hm (wpAny_act (fun L a w => ∃ S rho A, DInv B l st en L S rho A a w) ?_ ?_ ?_ _ _ a _ (by simp) ?_ ?_)
 ·intro i o ho e he hb
  rw [List.getElem?_toArray] at ho
  exact h.ord i o ho e he hb
 ·rintro L a w i o ho hi hd ⟨S, rho, A, hI⟩
  have := dep L i o ho hd
  rw [List.getElem?_toArray] at ho
  exact region_step h hI ho hi this
 ·rintro L a w hL ⟨S, rho, A, hI⟩
  have hall : ∀ i, i < l.length → L i = true := fun i hi => hL i (by simpa using hi)
  refine ⟨S, rho, A, st l.length, hQ, ?_, hI.mem.turn fun id k' hk' _ => ?_, fun id hid => ?_, hI.size.trans (h.nt l.length (znb _)).symm, hI.defs⟩
  ·intro t
   by_cases hex : ∃ (j : Nat) (o : Oper), l[j]? = some o ∧ o.dst = some t
   ·obtain ⟨j, o, hj, hd⟩ := hex
    have hjl := (List.getElem?_eq_some_iff.1 hj).1
    rw [h.slotx hj hd l.length hjl (znb _)]
    exact hI.done t j o hj hd (hall j hjl)
   ·have hno : ∀ (j : Nat) (o : Oper), l[j]? = some o → o.dst ≠ some t := fun j o hj hd => hex ⟨j, o, hj, hd⟩
    rw [h.slot0 l.length (znb _) fun j o _ hj => hno j o hj]
    exact hI.open' t fun j o hj hd => absurd hd (hno j o hj)
  ·have hq : nextC l.length en L id = l.length := by
    have hle := nextC_le (en := en) l.length L id
    rcases Nat.lt_or_eq_of_le hle with hlt | heq
    ·obtain ⟨_, a2⟩ := nextC_at hlt
     rw [hall _ hlt] at a2; cases a2
    ·exact heq
   refine ⟨k', ?_, rfl, rfl, fun h => h⟩
   rw [hget_hpD h, hq]; exact hk'
  ·rcases hI.num id hid with h1 | ⟨j, hj, _, rfl, h2⟩
   ·exact Nat.lt_of_lt_of_le h1 (h.nx 0 _ (znc _) (znb _))
   ·exact Nat.lt_of_lt_of_le h2 (h.nx (j + 1) _ (by omega) (znb _))
 ·unfold unl
  refine Nat.le_trans (List.length_filter_le _ _) (by simp)
 ·have hf : ∀ j, (Array.replicate l.toArray.size false).getD j false = false := by
   intro j
   rw [Array.getD_eq_getD_getElem?, Array.getElem?_replicate]
   split <;> rfl
  have g := Grow.drawn w (w.drawn + 1)
  exact ⟨S, rho, A, {
   mem := (hr.mem.grow g).turn fun id k' hk' hA => by
    rw [hget_hpD h] at hk'
    obtain ⟨k, hk⟩ := h.born (hr.alt id hA) _ (nextC_le _ _ _) k' hk'
    obtain ⟨k2, c1, c2, c3, c4⟩ := h.chain hk _ (znc _) (nextC_le _ _ _) (fun m _ hm hmt => by
     have := nextC_lt (L := fun j => (Array.replicate l.toArray.size false).getD j false) hm hmt
     have e := hf m
     rw [show (Array.replicate l.toArray.size false).getD m false = true from this] at e; cases e)
    rw [hk'] at c1; cases c1
    exact ⟨k, hk, c2, c3, c4⟩
   done := fun t j o _ _ hL => by simp only [hf] at hL; cases hL
   open' := fun t _ => (hr.slots t).mono (fun b hb => ⟨hb, rfl⟩) (fun id h => ⟨h, rfl, fun _ => g.szAt⟩)
   num := fun id hA => .inl (hr.alt id hA)
   size := hr.nt
   defs := hr.defs
   closed := fun i j hi => by simp only [hf] at hi; cases hi }⟩
end
end Go.Proofs.Ytdkkgndibagihaa
namespace Go.Proofs.Ytdkkgndibagihaa
open Go.RowKit
section
variable {P : Program}
def DTr (P : Program) (ops : Array Oper) : SS → List Oper → List En → SS → Prop
 | s, [], es, s' => es = [] ∧ s' = s
 | s, o :: l, es, s' => ∃ e es' s1, es = e :: es' ∧ DStep P ops o s e s1 ∧ DTr P ops s1 l es' s'
theorem DTr.fun {ops : Array Oper} : ∀ {l : List Oper} {s s' : SS} {es : List En}, DTr P ops s l es s' → es.length = l.length ∧
  ∃ (st : Nat → SS) (en : Nat → En), st 0 = s ∧ st l.length = s' ∧ (∀ (i : Nat) (o : Oper), l[i]? = some o → DStep P ops o (st i) (en i) (st (i + 1))) ∧ ∀ i, i < l.length → es[i]? = some (en i)
 | [], s, s', es, h => by
  obtain ⟨rfl, rfl⟩ := h
  exact ⟨rfl, fun _ => s', fun _ => ⟨.junk, none, []⟩, rfl, rfl, fun i o ho => by simp at ho, fun i hi => by simp at hi⟩
 | o :: l, s, s', es, h => by
  obtain ⟨e, es', s1, rfl, h1, h2⟩ := h
  obtain ⟨hl, st, en, a1, a2, a3, a4⟩ := h2.fun
  refine ⟨by simp [hl], fun i => match i with | 0 => s | i + 1 => st i, fun i => match i with | 0 => e | i + 1 => en i, rfl, a2, fun i o' ho => ?_, fun i hi => ?_⟩
  ·cases i with
   | zero => simp at ho; subst ho; show DStep P ops o s e (st 0); rw [a1]; exact h1
   | succ i => simp at ho; exact a3 i o' ho
  ·cases i with
   | zero => rfl
   | succ i => simp at hi ⊢; exact a4 i hi
def pr (e : En) : Option Nat × List Nat := (e.tg, e.tc)
theorem chk_run {l : List Oper} {s s' : SS} {es : List En} (hk : KL s) (h : DTr P l.toArray s l es s') (hc : chkD l (es.map pr) = true) : ∃ st en, DRun P l st en ∧ st 0 = s ∧ st l.length = s' := by
 obtain ⟨hlen, st, en, a1, a2, a3, a4⟩ := h.fun
 unfold chkD at hc
 rw [Bool.and_eq_true] at hc
 obtain ⟨c1, c2⟩ := hc
 have idx : ∀ (i : Nat) (o : Oper), l[i]? = some o → (o, i) ∈ l.zipIdx := fun i o ho => by
  rw [List.mem_iff_getElem?]
  exact ⟨i, by simp [ho]⟩
 have pair : ∀ (i j : Nat) (oi oj : Oper), i ≠ j → l[i]? = some oi → l[j]? = some oj → pairOk l.toArray (es.map pr) i j oi oj = true := fun i j oi oj hne hi hj => by
  have := List.all_eq_true.1 (List.all_eq_true.1 c2 _ (idx i oi hi)) _ (idx j oj hj)
  simpa [hne] using this
 have enAt : ∀ i, i < l.length → (es.map pr)[i]? = some (pr (en i)) := fun i hi => by rw [List.getElem?_map, a4 i hi]; rfl
 refine ⟨st, en, ⟨by rw [a1]; exact hk, a3, fun i o ho e he hb => ?_, fun i j oi oj d hne hi hj hd => ?_, fun i j id hne hi hj ht hm => ?_⟩, a1, a2⟩
 ·unfold ordB at c1
  have h2 : (o.after.all fun e => !Region.binds .any e || decide (e.on < i)) = true := List.all_eq_true.1 c1 _ (idx i o ho)
  rw [Array.all_eq_true'] at h2
  have h3 := h2 e (by simpa using he)
  rw [hb] at h3
  simpa using h3
 ·have := pair i j oi oj hne hi hj
  unfold pairOk at this
  rw [Bool.and_eq_true] at this
  have h1 := this.1
  rw [hd] at h1
  simp only [Bool.or_eq_true, Bool.and_eq_true, Bool.not_eq_true', bne_iff_ne, ne_eq] at h1
  rcases h1 with ⟨h1, h2⟩ | ⟨h1, h2⟩
  ·refine ⟨h2, fun hm => ?_⟩
   have : (looks l.toArray oi).contains d = true := by simpa [looks] using hm
   rw [this] at h1; cases h1
  ·exact ⟨h2, fun _ => h1⟩
 ·obtain ⟨oi, hoi⟩ := getL (l := l) hi
  obtain ⟨oj, hoj⟩ := getL (l := l) hj
  have := pair i j oi oj hne hoi hoj
  unfold pairOk at this
  rw [Bool.and_eq_true] at this
  have h1 := this.2
  rw [enAt j hj] at h1
  simp only [pr, Option.bind_some, ht, List.getD_eq_getElem?_getD, enAt i hi, Option.getD_some] at h1
  simp only [Bool.or_eq_true, Bool.and_eq_true, Bool.not_eq_true', bne_iff_ne, ne_eq] at h1
  rcases h1 with ⟨h1, h2⟩ | h1
  ·rcases hm with hm | hm
   ·have : (en i).tc.contains id = true := by simpa using hm
    rw [this] at h1; cases h1
   ·exact absurd hm h2
  ·exact h1
def DO (P : Program) (B : Base) (full l : List Oper) (cs : List Code) (Q : Exit → SS → Prop) (tr : List (Option Nat × List Nat)) (s : SS) : Prop :=
 ∃ es s', DTr P full.toArray s l es s' ∧ chkD full (tr.reverse ++ es.map pr) = true ∧ SC P B cs Q s'
def drun (P : Program) (ops : Array Oper) (s : SS) (o : Oper) : Option (SS × Option Nat × List Nat) :=
 if dstOk o.dst s.nt then
  match guardV ops s.sl o.guard with
  | some true => if okOp o.op then (exOp P s.sl s.hp s.nx o.op).bind fun p => if noApp p.2 then some (s.put o.dst p.1 p.2, tgE p.2, rdOf s.sl o.op ++ crE p.2 s.nx) else none else none
  | some false => some (s.put o.dst (.tu []) .none, none, [])
  | none => none
 else none
variable {B : Base} {full l : List Oper} {cs : List Code} {Q : Exit → SS → Prop} {tr : List (Option Nat × List Nat)} {s : SS} {o : Oper}
theorem DO.nil (hc : chkD full tr.reverse = true) (h : SC P B cs Q s) : DO P B full [] cs Q tr s := ⟨[], s, ⟨rfl, rfl⟩, by simpa using hc, h⟩
theorem DO.step {e : En} {s1 : SS} (h : DStep P full.toArray o s e s1) (k : DO P B full l cs Q (pr e :: tr) s1) : DO P B full (o :: l) cs Q tr s := by
 obtain ⟨es, s', h1, h2, h3⟩ := k
 exact ⟨e :: es, s', ⟨e, es, s1, rfl, h, h1⟩, by simpa using h2, h3⟩
theorem DO.run {s' : SS} {t : Option Nat} {c : List Nat} (h : drun P full.toArray s o = some (s', t, c)) (k : DO P B full l cs Q ((t, c) :: tr) s') : DO P B full (o :: l) cs Q tr s := by
 unfold drun at h
 split at h
 ·rename_i hd
  split at h
  ·rename_i hg
   split at h
   ·rename_i hok
    cases he : exOp P s.sl s.hp s.nx o.op with
    | none => simp [he] at h
    | some p =>
     obtain ⟨x, f⟩ := p
     simp only [he, Option.bind_some] at h
     split at h
     ·rename_i hna
      cases h
      exact DO.step (e := ⟨x, tgE f, rdOf s.sl o.op ++ crE f s.nx⟩) ⟨hd, .inl ⟨f, hg, hok, he, rfl, rfl, rfl, hna⟩⟩ k
     ·cases h
   ·cases h
  ·rename_i hg
   cases h
   exact DO.step (e := ⟨.tu [], none, []⟩) ⟨hd, .inr (.inl ⟨hg, rfl, rfl, rfl, rfl⟩)⟩ k
  ·cases h
 ·cases h
def DCall (P : Program) (B : Base) (full : List Oper) (f : Nat) (ys : List V) (ids : List Nat) (d : Option Nat) (l : List Oper) (cs : List Code) (Q : Exit → SS → Prop) (tr : List (Option Nat × List Nat)) (s : SS) : Prop :=
 ∃ x fb, Spec P f ys x ∧ (fb = true → flat x = true) ∧ DO P B full l cs Q ((none, ids) :: tr) (calledG s d x ids fb)
theorem DO.call {f : Nat} {args : List Operand} {ts : Array TypeId} {d : Option Tmp} {ty : TypeId} {pos : String} {after : Array Edge} {gd : Option (Nat × Bool)} {ys : List V} {ids : List Nat}
  (hgo : isGo P f = true) (hf : frzAll (frz 8 s.hp) (args.map (evS s.sl)) = some (ys, ids)) (hg : guardV full.toArray s.sl gd = some true ∧ dstOk d s.nt = true) (k : DCall P B full f ys ids d l cs Q tr s) : DO P B full (⟨d, .call ⟨.value (.func f), args.toArray, ts⟩, ty, pos, after, gd⟩ :: l) cs Q tr s := by
 obtain ⟨x, fb, hs, hfb, k⟩ := k
 exact DO.step (e := ⟨x, none, ids⟩) ⟨hg.2, .inr (.inr (.inl ⟨.func f, f, [], [], args.toArray, ts, ys, fb, rfl, rfl, hg.1, hgo, .inl (by simpa using hf), hs, rfl, rfl, hfb⟩))⟩ k
theorem DO.callL {f : Nat} {args : List Operand} {ts : Array TypeId} {d : Option Tmp} {ty : TypeId} {pos : String} {after : Array Edge} {gd : Option (Nat × Bool)} {ys : List V} {ids : List Nat}
  (hgo : isGo P f = true) (hf : frzN (args.map (evS s.sl)) = some (ys, ids)) (hg : guardV full.toArray s.sl gd = some true ∧ dstOk d s.nt = true) (k : DCall P B full f ys ids d l cs Q tr s) : DO P B full (⟨d, .call ⟨.value (.func f), args.toArray, ts⟩, ty, pos, after, gd⟩ :: l) cs Q tr s := by
 obtain ⟨x, fb, hs, hfb, k⟩ := k
 exact DO.step (e := ⟨x, none, ids⟩) ⟨hg.2, .inr (.inr (.inl ⟨.func f, f, [], [], args.toArray, ts, ys, fb, rfl, rfl, hg.1, hgo, .inr (by simpa using hf), hs, rfl, rfl, hfb⟩))⟩ k
theorem DO.callV {g : Operand} {f : Nat} {p q : List V} {args : List Operand} {ts : Array TypeId} {d : Option Tmp} {ty : TypeId} {pos : String} {after : Array Edge} {gd : Option (Nat × Bool)} {ys : List V} {ids : List Nat} (hfn : fnOf (evS s.sl g) = some (f, p, q))
  (hgo : isGo P f = true) (hf : frzAll (frz 8 s.hp) (p ++ args.map (evS s.sl) ++ q) = some (ys, ids)) (hg : guardV full.toArray s.sl gd = some true ∧ dstOk d s.nt = true) (k : DCall P B full f ys ids d l cs Q tr s) : DO P B full (⟨d, .call ⟨.value g, args.toArray, ts⟩, ty, pos, after, gd⟩ :: l) cs Q tr s := by
 obtain ⟨x, fb, hs, hfb, k⟩ := k
 exact DO.step (e := ⟨x, none, ids⟩) ⟨hg.2, .inr (.inr (.inl ⟨g, f, p, q, args.toArray, ts, ys, fb, rfl, hfn, hg.1, hgo, .inl (by simpa using hf), hs, rfl, rfl, hfb⟩))⟩ k
theorem DCall.of {f : Nat} {ys : List V} {ids : List Nat} {d : Option Nat} {x : V} {s' : SS} (hs : Spec P f ys x) (hn : s.called d x ids = s') (k : DO P B full l cs Q ((none, ids) :: tr) s') : DCall P B full f ys ids d l cs Q tr s := ⟨x, flat x, hs, fun h => h, by subst hn; exact k⟩
theorem DCall.ofX {f : Nat} {ys : List V} {ids : List Nat} {d : Option Nat} {x : V} {s' : SS} (hs : Spec P f ys x) (hn : s.callE d x ids = s') (k : DO P B full l cs Q ((none, ids) :: tr) s') : DCall P B full f ys ids d l cs Q tr s := ⟨x, fl x, hs, fl_flat, by subst hn; exact k⟩
def DNew (P : Program) (B : Base) (full : List Oper) (f : Nat) (ys : List V) (ids : List Nat) (d : Option Nat) (l : List Oper) (cs : List Code) (Q : Exit → SS → Prop) (tr : List (Option Nat × List Nat)) (s : SS) : Prop :=
 ∃ k X fl, NewX P f ys k X fl ∧ (fl = true ∨ ids = []) ∧ DO P B full l cs Q ((none, ids ++ [s.nx]) :: tr) (s.put d (X s.nx) (.new k))
theorem DO.callN {f : Nat} {args : List Operand} {ts : Array TypeId} {d : Option Tmp} {ty : TypeId} {pos : String} {after : Array Edge} {gd : Option (Nat × Bool)} {ys : List V} {ids : List Nat}
  (hgo : isGo P f = true) (hf : frzAll (frz 8 s.hp) (args.map (evS s.sl)) = some (ys, ids)) (hg : guardV full.toArray s.sl gd = some true ∧ dstOk d s.nt = true) (k : DNew P B full f ys ids d l cs Q tr s) : DO P B full (⟨d, .call ⟨.value (.func f), args.toArray, ts⟩, ty, pos, after, gd⟩ :: l) cs Q tr s := by
 obtain ⟨k0, X, fl, hs, hfl, k⟩ := k
 exact DO.step (e := ⟨X s.nx, none, ids ++ [s.nx]⟩) ⟨hg.2, .inr (.inr (.inr (.inl ⟨f, args.toArray, ts, ys, ids, k0, X, fl, rfl, hg.1, hgo, hf, hs, rfl, rfl, rfl, rfl, hfl⟩)))⟩ k
theorem DNew.of {f : Nat} {ys : List V} {ids : List Nat} {d : Option Nat} {k : Blk} {off len z n : Nat} {c : Option Nat} {s' : SS} (hs : NewP P f ys k off len z c) (hn : s.nx = n) (hp : s.put d (.sl n off len z c) (.new k) = s') (h : DO P B full l cs Q ((none, ids ++ [n]) :: tr) s') : DNew P B full f ys ids d l cs Q tr s := by
 subst hn; subst hp; exact ⟨k, _, true, hs, .inl rfl, h⟩
theorem DNew.ofX {f : Nat} {ys : List V} {d : Option Nat} {k : Blk} {X : Nat → V} {n : Nat} {s' : SS} (hs : NewX P f ys k X false) (hn : s.nx = n) (hp : s.put d (X n) (.new k) = s') (h : DO P B full l cs Q ((none, [n]) :: tr) s') : DNew P B full f ys [] d l cs Q tr s := by
 subst hn; subst hp; exact ⟨k, X, false, hs, .inr rfl, h⟩
def klB (hp : List (Nat × Blk)) (nx : Nat) : Bool := hp.all fun p => decide (p.1 < nx)
theorem klB_sound (h : klB s.hp s.nx = true) : KL s := by
 intro id k hk
 have := mem_keys hk
 obtain ⟨p, hp, rfl⟩ := List.mem_map.1 this
 simpa using List.all_eq_true.1 h p hp
theorem SC.draw {id : Nat} (hm : P.follows .mixedOrders = true) (hk : klB s.hp s.nx = true) (h : DO P B l l cs Q [] s) : SC P B (.region id l.toArray true :: cs) Q s := by
 obtain ⟨es, s', h1, h2, h3⟩ := h
 obtain ⟨st, en, h4, h5, h6⟩ := chk_run (klB_sound hk) h1 (by simpa using h2)
 exact region_draw h4 h5 hm (by rw [h6]; exact h3)
variable {sl : List (Nat × V)} {hp : List (Nat × Blk)} {nx nt : Nat} {ops : Array Oper}
def dfin (g : Option Bool) (ok : Bool) (r : Option (V × Eff)) (rd : List Nat) (d : Option Nat) (s : SS) : Option (SS × Option Nat × List Nat) :=
 match g with
 | some true => if ok then r.bind fun p => if noApp p.2 then some (s.put d p.1 p.2, tgE p.2, rd ++ crE p.2 s.nx) else none else none
 | some false => some (s.put d (.tu []) .none, none, [])
 | none => none
@[go_sem] theorem dfin_none (x : V) (rd : List Nat) (d : Option Nat) (s : SS) : dfin (some true) true (some (x, .none)) rd d s = some (s.put d x .none, none, rd ++ []) := rfl
@[go_sem] theorem dfin_new (x : V) (k : Blk) (rd : List Nat) (d : Option Nat) (s : SS) : dfin (some true) true (some (x, .new k)) rd d s = some (s.put d x (.new k), none, rd ++ [s.nx]) := rfl
@[go_sem] theorem dfin_set (x : V) (id : Nat) (k : Blk) (rd : List Nat) (d : Option Nat) (s : SS) : dfin (some true) true (some (x, .set id k)) rd d s = some (s.put d x (.set id k), some id, rd ++ []) := rfl
@[go_sem] theorem dfin_app (x : V) (id : Nat) (k : Blk) (rd : List Nat) (d : Option Nat) (s : SS) : dfin (some true) true (some (x, .app id k)) rd d s = some (s.put d x (.app id k), some id, rd ++ [s.nx]) := rfl
@[go_sem] theorem dfin_no (ok : Bool) (r : Option (V × Eff)) (rd : List Nat) (d : Option Nat) (s : SS) : dfin (some false) ok r rd d s = some (s.put d (.tu []) .none, none, []) := rfl
@[go_sem] theorem drun_mk (d : Option Tmp) (op : Op) (ty : TypeId) (pos : String) (after : Array Edge) (gd : Option (Nat × Bool)) :
  drun P ops ⟨sl, hp, nx, nt⟩ ⟨d, op, ty, pos, after, gd⟩ = if dstOk d nt = true then dfin (guardV ops sl gd) (okOp op) (exOp P sl hp nx op) (rdOf sl op) d ⟨sl, hp, nx, nt⟩ else none := rfl
@[go_sem] theorem idOf_pt (id off : Nat) : idOf (.pt id off) = [id] := rfl
@[go_sem] theorem idOf_tu (l : List V) : idOf (.tu l) = [] := rfl
@[go_sem] theorem idOf_sl (a b c d : Nat) (e : Option Nat) : idOf (.sl a b c d e) = [] := rfl
@[go_sem] theorem idOf_im (l : List V) (n : Nat) : idOf (.im l n) = [] := rfl
@[go_sem] theorem idOf_pi (l : List V) : idOf (.pi l) = [] := rfl
@[go_sem] theorem nx_mk : SS.nx ⟨sl, hp, nx, nt⟩ = nx := rfl
@[go_sem] theorem rdOf_load (t : Nat) (a : Operand) : rdOf sl (.load t a) = idOf (evS sl a) := rfl
@[go_sem] theorem rdOf_slice (t : Nat) (x : Operand) (a b c : Option Operand) : rdOf sl (.slice t x a b c) = idOf (evS sl x) := rfl
@[go_sem] theorem rdOf_store (t : Nat) (a x : Operand) : rdOf sl (.store t a x) = idOf (evS sl a) := rfl
@[go_sem] theorem rdOf_move (x : Operand) : rdOf sl (.move x) = [] := rfl
@[go_sem] theorem rdOf_assign (x : Operand) : rdOf sl (.assign x) = [] := rfl
@[go_sem] theorem rdOf_pick (a b c : Operand) : rdOf sl (.pick a b c) = [] := rfl
@[go_sem] theorem rdOf_alloc (t : Nat) : rdOf sl (.alloc t) = [] := rfl
@[go_sem] theorem rdOf_build (t : Nat) (l : Array (Nat × Operand)) : rdOf sl (.build t l) = [] := rfl
@[go_sem] theorem rdOf_buildSlice (t n : Nat) (l : Array (Nat × Operand)) : rdOf sl (.buildSlice t n l) = [] := rfl
@[go_sem] theorem rdOf_nilCheck (x : Operand) : rdOf sl (.nilCheck x) = [] := rfl
@[go_sem] theorem rdOf_bin (o : BinOp) (t : Nat) (x y : Operand) (u : Nat) : rdOf sl (.binOp o t x y u) = [] := rfl
@[go_sem] theorem rdOf_un (o : UnOp) (t : Nat) (x : Operand) : rdOf sl (.unOp o t x) = [] := rfl
@[go_sem] theorem rdOf_conv (a b : Nat) (x : Operand) : rdOf sl (.convert a b x) = idOfS (evS sl x) := rfl
@[go_sem] theorem idOfS_sc (v : Value) : idOfS (.sc v) = [] := rfl
@[go_sem] theorem idOfS_sl (a b c d : Nat) (e : Option Nat) : idOfS (.sl a b c d e) = [a] := rfl
@[go_sem] theorem idOfS_im (l : List V) (n : Nat) : idOfS (.im l n) = [] := rfl
@[go_sem] theorem rdOf_fieldAddr (t : Nat) (x : Operand) (f : Nat) : rdOf sl (.fieldAddr t x f) = [] := rfl
@[go_sem] theorem rdOf_indexAddr (t : Nat) (x i : Operand) : rdOf sl (.indexAddr t x i) = [] := rfl
@[go_sem] theorem rdOf_extract (t : Operand) (i : Nat) : rdOf sl (.extract t i) = [] := rfl
@[go_sem] theorem rdOf_len (args : Array Operand) (ts : Array TypeId) : rdOf sl (.call ⟨.builtin .len, args, ts⟩) = [] := rfl
@[go_sem] theorem rdOf_max (args : Array Operand) (ts : Array TypeId) : rdOf sl (.call ⟨.builtin .max, args, ts⟩) = [] := rfl
@[go_sem] theorem rdOf_callV (f : Operand) (args : Array Operand) (ts : Array TypeId) : rdOf sl (.call ⟨.value f, args, ts⟩) = [] := rfl
@[go_sem] theorem okOp_load (t : Nat) (a : Operand) : okOp (.load t a) = true := rfl
@[go_sem] theorem okOp_slice (t : Nat) (x : Operand) (a b c : Option Operand) : okOp (.slice t x a b c) = true := rfl
@[go_sem] theorem okOp_store (t : Nat) (a x : Operand) : okOp (.store t a x) = true := rfl
@[go_sem] theorem okOp_move (x : Operand) : okOp (.move x) = true := rfl
@[go_sem] theorem okOp_assign (x : Operand) : okOp (.assign x) = true := rfl
@[go_sem] theorem okOp_pick (a b c : Operand) : okOp (.pick a b c) = true := rfl
@[go_sem] theorem okOp_alloc (t : Nat) : okOp (.alloc t) = true := rfl
@[go_sem] theorem okOp_build (t : Nat) (l : Array (Nat × Operand)) : okOp (.build t l) = true := rfl
@[go_sem] theorem okOp_buildSlice (t n : Nat) (l : Array (Nat × Operand)) : okOp (.buildSlice t n l) = true := rfl
@[go_sem] theorem okOp_nilCheck (x : Operand) : okOp (.nilCheck x) = true := rfl
@[go_sem] theorem okOp_bin (o : BinOp) (t : Nat) (x y : Operand) (u : Nat) : okOp (.binOp o t x y u) = true := rfl
@[go_sem] theorem okOp_un (o : UnOp) (t : Nat) (x : Operand) : okOp (.unOp o t x) = true := rfl
@[go_sem] theorem okOp_conv (a b : Nat) (x : Operand) : okOp (.convert a b x) = true := rfl
@[go_sem] theorem okOp_fieldAddr (t : Nat) (x : Operand) (f : Nat) : okOp (.fieldAddr t x f) = true := rfl
@[go_sem] theorem okOp_indexAddr (t : Nat) (x i : Operand) : okOp (.indexAddr t x i) = true := rfl
@[go_sem] theorem okOp_lookup (t : Nat) (x k : Operand) (ok : Bool) : okOp (.lookup t x k ok) = true := rfl
@[go_sem] theorem okOp_extract (t : Operand) (i : Nat) : okOp (.extract t i) = true := rfl
@[go_sem] theorem okOp_len (args : Array Operand) (ts : Array TypeId) : okOp (.call ⟨.builtin .len, args, ts⟩) = true := rfl
@[go_sem] theorem okOp_app (args : Array Operand) (ts : Array TypeId) : okOp (.call ⟨.builtin .append, args, ts⟩) = true := rfl
@[go_sem] theorem rdOf_app (x y : Operand) (ts : Array TypeId) : rdOf sl (.call ⟨.builtin .append, #[x, y], ts⟩) = idOfS (evS sl x) ++ (idOfS (evS sl y) ++ []) := rfl
@[go_sem] theorem okOp_max (args : Array Operand) (ts : Array TypeId) : okOp (.call ⟨.builtin .max, args, ts⟩) = true := rfl
attribute [go_sem] List.append_nil
end
end Go.Proofs.Ytdkkgndibagihaa
