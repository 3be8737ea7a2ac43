/- Texts joined: Sh Si. -/
import Derived.Deep.LoopGhost
import Derived.Test.YtdcbmdmlhjemmaaVb
set_option linter.all false
open Nat renaming reduceEqDiff → zn1, reduceLT → zn2, reduceLeDiff → zn3, reduceAdd → zn4, reduceMul → zn5, reduceSub → zn6, reduceBEq → zn7, mul_one → zn8, zero_add → zn9, one_mul → zna, le_refl → znb, zero_le → znc, add_sub_cancel_left → znd, sub_eq_zero_of_le → zne, add_assoc → znf
open Int renaming reduceToNat → zi1, reducePow → zi2
open List renaming length_append → zl1, drop_zero → zl2, take_succ_cons → zl3, take_zero → zl4, getElem?_drop → zl5, append_assoc → zl6, nil_append → zl7, cons_append → zl8, drop_succ_cons → zl9, take_of_length_le → zla, getElem?_eq_getElem → zlb, getElem?_eq_some_iff → zlc, map_cons → zld, map_nil → zle, all_eq_true → zlf
namespace Go.Proofs.Ytdcbmdmlhjemmaa
open Go.RowKit
def dstOk (d : Option Nat) (n : Nat) : Bool :=
 match d with
 | some d => decide (d < n)
 | none => true
def putS (sl : List (Nat × V)) (d : Option Nat) (x : V) : List (Nat × V) :=
 match d with
 | some d => (d, x) :: sl
 | none => sl
def SS.put (s : SS) (d : Option Nat) (x : V) (f : Eff) : SS := ⟨putS s.sl d x, f.heap s.nx s.hp, f.next s.nx, s.nt⟩
def Post (B : Base) (Q : Exit → SS → Prop) : Exit → Act → World → Prop := fun e a w => ∃ S rho A s, Q e s ∧ Rel B S rho A s a w
section
variable {P : Program} {w : World} {B : Base} {S : Nat → Prop} {rho : Nat → Nat} {A : Nat → Prop} {s : SS} {a : Act}
theorem slots_put {S' : Nat → Prop} {rho' : Nat → Nat} {A' : Nat → Prop} {w' : World} {sl : List (Nat × V)} {d : Option Nat} {x : V} {v : Value} (hs : ∀ t, R S rho w A (get sl t) (a.eval (.tmp t))) (hd : dstOk d a.tmps.size = true)
  (hS : ∀ b, S b → S' b ∧ w'.heap[b]? = w.heap[b]?) (hA : ∀ id, A id → A' id ∧ rho' id = rho id ∧ ∀ n, szAt w (rho id) n → szAt w' (rho id) n) (hx : R S' rho' w' A' x v) :
  ∀ t, R S' rho' w' A' (get (putS sl d x) t) ((a.put d v).eval (.tmp t)) := by
 intro t
 cases d with
 | none => exact (hs t).mono hS hA
 | some d =>
  simp only [dstOk, decide_eq_true_eq] at hd
  simp only [putS, get]
  by_cases ht : t = d
  ·subst ht
   rw [if_pos rfl]
   have : (a.put (some t) v).eval (.tmp t) = v := by simp [Act.eval, Act.put, hd]
   rw [this]; exact hx
  ·rw [if_neg ht]
   have : (a.put (some d) v).eval (.tmp t) = a.eval (.tmp t) := Act.eval_put (by intro d' hd' e; cases hd'; cases e; exact ht rfl)
   rw [this]; exact (hs t).mono hS hA
theorem put_size (a : Act) (d : Option Nat) (v : Value) : (a.put d v).tmps.size = a.tmps.size := by cases d <;> simp [Act.put]
theorem put_defers (a : Act) (d : Option Nat) (v : Value) : (a.put d v).defers = a.defers := by cases d <;> rfl
theorem Rel.put (hr : Rel B S rho A s a w) {x : V} {f : Eff} {v : Value} {w' : World} {rho' : Nat → Nat} {A' : Nat → Prop} {d : Option Nat} (hd : dstOk d s.nt = true) (hm : Mem B S rho' A' (f.heap s.nx s.hp) w')
  (hA : ∀ id, A id → A' id ∧ rho' id = rho id ∧ ∀ n, szAt w (rho id) n → szAt w' (rho id) n) (hA' : ∀ id, A' id → A id ∨ id = s.nx ∧ ∃ k, f = .new k ∨ ∃ i, f = .app i k)
  (hS : ∀ b, S b → w'.heap[b]? = w.heap[b]?) (hx : R S rho' w' A' x v) : Rel B S rho' A' (s.put d x f) (a.put d v) w' where
 slots := slots_put hr.slots (by rw [hr.nt]; exact hd) (fun b hb => ⟨hb, hS b hb⟩) hA hx
 mem := hm
 alt id hid := by
  show id < f.next s.nx
  rcases hA' id hid with h | ⟨rfl, k, rfl | ⟨i, rfl⟩⟩
  ·have := hr.alt id h
   cases f <;> simp [Eff.next] <;> omega
  ·simp [Eff.next]
  ·simp [Eff.next]
 nt := by rw [put_size]; exact hr.nt
 defs := by rw [put_defers]; exact hr.defs
def guardV (ops : Array Oper) (sl : List (Nat × V)) : Option (Nat × Bool) → Option Bool
 | none => some true
 | some (j, want) =>
  match (ops[j]?).bind (·.dst) with
  | some d => match get sl d with
   | .sc (.bool b) => some (b == want)
   | .tu [] => some false
   | _ => none
  | none => none
theorem skip_rep : R S rho w A (.tu []) undef := .tu (by simp) fun i x u hx => by simp at hx
theorem guard_sound {ops : Array Oper} {o : Oper} {b : Bool} (hs : ∀ t, R S rho w A (get s.sl t) (a.eval (.tmp t))) (h : guardV ops s.sl o.guard = some b) : Region.wanted o (yielded ops a.tmps) = b := by
 unfold Region.wanted
 cases hg : o.guard with
 | none => rw [hg] at h; simpa [guardV] using h
 | some p =>
  obtain ⟨j, want⟩ := p
  rw [hg] at h
  simp only [guardV] at h
  cases hd : (ops[j]?).bind (·.dst) with
  | none => simp [hd] at h
  | some d =>
   simp only [hd] at h
   split at h
   ·rename_i u hu
    have hv := hs d
    rw [hu] at hv
    simp only [Option.some.injEq] at h
    simp only [yielded, hd, Option.bind_some]
    cases hq : a.tmps[d]? with
    | none => simp [Act.eval, hq, undef] at hv; cases hv
    | some q =>
     have : a.eval (.tmp d) = q := by simp [Act.eval, hq]
     rw [this] at hv
     cases hv
     simpa using h
   ·rename_i hu
    have hv := hs d
    rw [hu] at hv
    simp only [Option.some.injEq] at h
    simp only [yielded, hd, Option.bind_some]
    cases hq : a.tmps[d]? with
    | none => simpa using h
    | some q =>
     have : a.eval (.tmp d) = q := by simp [Act.eval, hq]
     rw [this] at hv
     cases hv
     simpa using h
   ·cases h
def run1 (P : Program) (ops : Array Oper) (s : SS) (o : Oper) : Option SS :=
 if dstOk o.dst s.nt then
  match guardV ops s.sl o.guard with
  | some true => (exOp P s.sl s.hp s.nx o.op).map fun p => s.put o.dst p.1 p.2
  | some false => some (s.put o.dst (.tu []) .none)
  | none => none
 else none
def runL (P : Program) (ops : Array Oper) : SS → List Oper → Option SS
 | s, [] => some s
 | s, o :: l => match run1 P ops s o with
  | some s' => runL P ops s' l
  | none => none
def SOps (P : Program) (B : Base) (ops : Array Oper) (l : List Oper) (Q : Exit → SS → Prop) (s : SS) : Prop :=
 ∀ S rho A a w, Rel B S rho A s a w → wpList P ops (Post B Q) l a w
theorem SOps.nil {ops : Array Oper} {Q : Exit → SS → Prop} (h : Q .normal s) : SOps P B ops [] Q s :=
 fun S rho A _ _ hr => ⟨S, rho, A, s, h, hr⟩
theorem SOps.run1 {ops : Array Oper} {Q : Exit → SS → Prop} {o : Oper} {l : List Oper} {s' : SS} (h : run1 P ops s o = some s') (k : SOps P B ops l Q s') : SOps P B ops (o :: l) Q s := by
 intro S rho A a w hr
 unfold Go.Proofs.Ytdcbmdmlhjemmaa.run1 at h
 split at h
 ·rename_i hd
  split at h
  ·rename_i hg
   obtain ⟨⟨x, f⟩, he, rfl⟩ := Option.map_eq h
   have hw := guard_sound hr.slots hg
   refine wpList_step fun K hK => ?_
   rw [if_pos hw]
   obtain ⟨v, w', rho', A', h1, h2, h3, h4, h5, h6⟩ := op_sound hr.mem hr.slots (fun h => by have := hr.alt _ h; omega) he
   have := hK _ _ (k S rho' A' (a.put o.dst v) w' (hr.put hd h2 h3 h4 h5 h6))
   unfold Oper.wp
   rcases h1 with h1 | ⟨h1, rfl⟩ <;> rw [h1] <;> exact this
  ·rename_i hg
   simp only [Option.some.injEq] at h
   subst h
   have hw := guard_sound hr.slots hg
   refine wpList_step fun K hK => ?_
   rw [hw]
   exact hK _ _ (k S rho A (a.put o.dst undef) w (hr.put (f := .none) hd hr.mem (fun _ h => ⟨h, rfl, fun _ h => h⟩) (fun _ h => .inl h) (fun _ _ => rfl) skip_rep))
  ·cases h
 ·cases h
theorem SOps.runs {ops : Array Oper} {Q : Exit → SS → Prop} : ∀ {l r : List Oper} {s s' : SS}, runL P ops s l = some s' → SOps P B ops r Q s' → SOps P B ops (l ++ r) Q s
 | [], r, s, s', h, k => by simp only [runL, Option.some.injEq] at h; subst h; exact k
 | o :: l, r, s, s', h, k => by
  simp only [runL] at h
  split at h
  ·rename_i s1 h1
   exact SOps.run1 h1 (SOps.runs h k)
  ·cases h
theorem SOps.all {ops : Array Oper} {Q : Exit → SS → Prop} {l : List Oper} {s' : SS} (h : runL P ops s l = some s') (k : Q .normal s') : SOps P B ops l Q s := by
 have := SOps.runs (r := []) h (SOps.nil (P := P) (B := B) (ops := ops) k)
 rwa [List.append_nil] at this
def clo : V → Bool
 | .sc (.slice _ _ _) => false
 | .sc _ | .im _ _ | .pi _ => true
 | _ => false
def frzAll (g : V → Option (V × List Nat)) : List V → Option (List V × List Nat)
 | [] => some ([], [])
 | c :: r => (g c).bind fun p => (frzAll g r).map fun q => (p.1 :: q.1, p.2 ++ q.2)
def frzL (g : V → Option (V × List Nat)) (cs : List V) : Option (List V × List Nat) := if cs.all clo then some (cs, []) else frzAll g cs
def frz : Nat → List (Nat × Blk) → V → Option (V × List Nat)
 | 0, _, _ => none
 | n + 1, hp, x =>
  match x with
  | .sc (.slice none 0 0) => some (.im [] 0, [])
  | .sc v => some (.sc v, [])
  | .im cs len => some (.im cs len, [])
  | .pi cs => some (.pi cs, [])
  | .ag cs => (frzL (frz n hp) cs).map fun p => (.ag p.1, p.2)
  | .tu cs => (frzL (frz n hp) cs).map fun p => (.tu p.1, p.2)
  | .sl id off len z _ => (srcV hp (.sl id off len z none)).bind fun q => (frzL (frz n hp) q.1).map fun p => (.im p.1 q.2, id :: p.2)
  | .fn f p q => (frzL (frz n hp) p).bind fun a => (frzL (frz n hp) q).map fun b => (.fn f a.1 b.1, a.2 ++ b.2)
  | .pt id off => (hget hp id).bind fun k => (frzL (frz n hp) (k.cs.drop off)).map fun p => (.pi p.1, id :: p.2)
  | _ => none
def addS (S : Nat → Prop) (rho : Nat → Nat) (A : Nat → Prop) (ids : List Nat) : Nat → Prop := fun b => S b ∨ ∃ id, id ∈ ids ∧ A id ∧ rho id = b
theorem addS.mono {ids ids' : List Nat} (h : ∀ i, i ∈ ids → i ∈ ids') : ∀ b, addS S rho A ids b → addS S rho A ids' b := by
 rintro b (hb | ⟨id, h1, h2, h3⟩)
 ·exact .inl hb
 ·exact .inr ⟨id, h id h1, h2, h3⟩
structure Frz (hp : List (Nat × Blk)) (S : Nat → Prop) (rho : Nat → Nat) (A : Nat → Prop) (w : World) (x : V) (v : Value) (y : V) (ids : List Nat) : Prop where
 rep : R (addS S rho A ids) rho w (fun _ => False) y v
 live : ∀ id, id ∈ ids → ∃ k, hget hp id = some k
theorem R.wide {S S' : Nat → Prop} {A : Nat → Prop} {x : V} {v : Value} (h : R S rho w A x v) (hS : ∀ b, S b → S' b) : R S' rho w A x v := h.mono (fun b hb => ⟨hS b hb, rfl⟩) (fun _ h => ⟨h, rfl, fun _ h => h⟩)
theorem clo_sound {x : V} {v : Value} (hc : clo x = true) (h : R S rho w A x v) : R S rho w (fun _ => False) x v := by
 cases h <;> simp [clo] at hc
 ·exact .sc _
 ·exact .im0 ‹_› ‹_› ‹_›
 ·exact .im1 _ ‹_› ‹_› ‹_› ‹_› ‹_›
 ·exact .pi _ ‹_› ‹_› ‹_›
theorem frzAll_sound {hp : List (Nat × Blk)} {g : V → Option (V × List Nat)} (hg : ∀ (x : V) (v : Value) (y : V) (ids : List Nat), g x = some (y, ids) → R S rho w A x v → Frz hp S rho A w x v y ids) :
  ∀ {cs ys : List V} {vs : List Value} {ids : List Nat}, frzAll g cs = some (ys, ids) → All S rho A w cs vs → All (addS S rho A ids) rho (fun _ => False) w ys vs ∧ ∀ id, id ∈ ids → ∃ k, hget hp id = some k
 | [], ys, vs, ids, h, ha => by
  simp only [frzAll, Option.some.injEq, Prod.mk.injEq] at h
  obtain ⟨rfl, rfl⟩ := h
  exact ⟨⟨ha.1, fun i x u hx => by simp at hx⟩, fun id h => by simp at h⟩
 | c :: r, ys, [], ids, h, ha => by have := ha.1; simp at this
 | c :: r, ys, v :: vs, ids, h, ha => by
  simp only [frzAll] at h
  cases hc : g c with
  | none => simp [hc] at h
  | some p =>
   cases hr : frzAll g r with
   | none => simp [hc, hr] at h
   | some q =>
    obtain ⟨y, i1⟩ := p
    obtain ⟨zs, i2⟩ := q
    simp only [hc, hr, Option.bind_some, Option.map_some, Option.some.injEq, Prod.mk.injEq] at h
    obtain ⟨rfl, rfl⟩ := h
    have h1 := hg c v y i1 hc (ha.2 0 c v rfl rfl)
    obtain ⟨h2, h3⟩ := frzAll_sound hg hr (vs := vs) ⟨by have := ha.1; simpa using this, fun i x u hx hu => ha.2 (i + 1) x u (by simpa using hx) (by simpa using hu)⟩
    refine ⟨⟨by simp [h2.1], fun i x u hx hu => ?_⟩, fun id hid => (List.mem_append.1 hid).elim (h1.live id) (h3 id)⟩
    cases i with
    | zero => simp at hx hu; subst hx; subst hu; exact h1.rep.wide (addS.mono (fun i hi => List.mem_append.2 (.inl hi)))
    | succ i => simp at hx hu; exact (h2.2 i x u hx hu).wide (addS.mono (fun i hi => List.mem_append.2 (.inr hi)))
theorem frzL_sound {hp : List (Nat × Blk)} {g : V → Option (V × List Nat)} (hg : ∀ (x : V) (v : Value) (y : V) (ids : List Nat), g x = some (y, ids) → R S rho w A x v → Frz hp S rho A w x v y ids)
  {cs ys : List V} {vs : List Value} {ids : List Nat} (h : frzL g cs = some (ys, ids)) (ha : All S rho A w cs vs) : All (addS S rho A ids) rho (fun _ => False) w ys vs ∧ ∀ id, id ∈ ids → ∃ k, hget hp id = some k := by
 unfold frzL at h
 split at h
 ·rename_i hc
  simp only [Option.some.injEq, Prod.mk.injEq] at h
  obtain ⟨rfl, rfl⟩ := h
  refine ⟨⟨ha.1, fun i x u hx hu => ?_⟩, fun id h => by simp at h⟩
  exact (clo_sound (List.all_eq_true.1 hc _ (List.mem_of_getElem? hx)) (ha.2 i x u hx hu)).wide fun b hb => .inl hb
 ·exact frzAll_sound hg h ha
theorem frz_sound {hp : List (Nat × Blk)} (hm : Mem B S rho A hp w) : ∀ (n : Nat) (x : V) (v : Value) (y : V) (ids : List Nat), frz n hp x = some (y, ids) → R S rho w A x v → Frz hp S rho A w x v y ids
 | 0, x, v, y, ids, h, _ => by simp [frz] at h
 | n + 1, x, v, y, ids, h, hx => by
  have ih := frz_sound hm n
  have w0 : ∀ b, S b → addS S rho A [] b := fun b hb => .inl hb
  simp only [frz] at h
  split at h
  ·cases h; cases hx
   exact ⟨.im0 (znb _) (by unfold maxLen; omega) (fun _ => rfl), fun id h => by simp at h⟩
  ·cases h; cases hx
   exact ⟨.sc _, fun id h => by simp at h⟩
  ·cases h
   exact ⟨(clo_sound rfl hx).wide w0, fun id h => by simp at h⟩
  ·cases h
   exact ⟨(clo_sound rfl hx).wide w0, fun id h => by simp at h⟩
  ·obtain ⟨⟨ys, i1⟩, h1, h2⟩ := Option.map_eq h
   cases h2
   cases hx with | ag hl hi =>
   rename_i vs
   obtain ⟨k1, k2⟩ := frzL_sound ih h1 (vs := vs.toList) ⟨by simpa using hl, fun i x u hx hu => hi i x u hx (by simpa using hu)⟩
   exact ⟨.ag (by have := k1.1; simpa using this) (fun i x u hx hu => k1.2 i x u hx (by simpa using hu)), k2⟩
  ·obtain ⟨⟨ys, i1⟩, h1, h2⟩ := Option.map_eq h
   cases h2
   cases hx with | tu hl hi =>
   rename_i vs
   obtain ⟨k1, k2⟩ := frzL_sound ih h1 (vs := vs.toList) ⟨by simpa using hl, fun i x u hx hu => hi i x u hx (by simpa using hu)⟩
   exact ⟨.tu (by have := k1.1; simpa using this) (fun i x u hx hu => k1.2 i x u hx (by simpa using hu)), k2⟩
  ·rename_i id off len z cap
   cases hs : srcV hp (.sl id off len z none) with
   | none => simp [hs] at h
   | some q =>
    obtain ⟨cs, m⟩ := q
    simp only [hs, Option.bind_some] at h
    obtain ⟨⟨ys, i1⟩, h1, h2⟩ := Option.map_eq h
    cases h2
    have hsrc : srcV hp (.sl id off len z cap) = some (cs, m) := hs
    obtain ⟨a', c, us, rfl, k1, k2, k3, k4, k5⟩ := src_sound hm hsrc hx
    obtain ⟨k6, k7⟩ := frzL_sound ih h1 k1
    have hlive : ∃ k, hget hp id = some k := by
     simp only [srcV] at hs
     cases hk : hget hp id with
     | none => simp [hk] at hs
     | some k => exact ⟨k, rfl⟩
    refine ⟨?_, fun j hj => (List.mem_cons.1 hj).elim (fun e => e ▸ hlive) (k7 j)⟩
    by_cases hy : ys = []
    ·subst hy; exact .im0 k3 k4 k5
    ·have hus : us ≠ [] := by intro e; subst e; exact hy (List.eq_nil_of_length_eq_zero k6.1)
     have hcs : cs ≠ [] := by intro e; subst e; have := k1.1; simp at this; exact hus (List.eq_nil_of_length_eq_zero this.symm)
     obtain ⟨ad, rfl, k8⟩ := k2 hcs
     cases hx with
     | sl hid hl hmx hcap hz0 =>
      refine .im1 (fun i => us.getD i undef) k3 k4 (.inr ⟨id, by simp, hid, rfl⟩) (fun i x hx => ?_) (fun i x hx => ?_)
      ·have hlt : i < us.length := by rw [← k6.1]; exact (List.getElem?_eq_some_iff.1 hx).1
       have hu : us[i]? = some us[i] := zlb hlt
       have := k8 i _ hu
       rw [addrAdd] at this
       simpa [hlt] using this
      ·have hlt : i < us.length := by rw [← k6.1]; exact (List.getElem?_eq_some_iff.1 hx).1
       have hu : us[i]? = some us[i] := zlb hlt
       have hr := k6.2 i x _ hx hu
       have e : us.getD i undef = us[i] := by simp [hlt]
       show R _ _ _ _ x (us.getD i undef)
       rw [e]
       exact hr.wide (addS.mono (fun j hj => List.mem_cons.2 (.inr hj)))
  ·rename_i f p q
   cases hp1 : frzL (frz n hp) p with
   | none => simp [hp1] at h
   | some a =>
    obtain ⟨as1, i1⟩ := a
    cases hq1 : frzL (frz n hp) q with
    | none => simp [hp1, hq1] at h
    | some b =>
     obtain ⟨bs1, i2⟩ := b
     simp only [hp1, hq1, Option.bind_some, Option.map_some, Option.some.injEq, Prod.mk.injEq] at h
     obtain ⟨rfl, rfl⟩ := h
     cases hx with | fn hl1 hl2 h1 h2 =>
     rename_i ps qs
     obtain ⟨k1, k2⟩ := frzL_sound ih hp1 (vs := ps.toList) ⟨by simpa using hl1, fun i x u hx hu => h1 i x u hx (by simpa using hu)⟩
     obtain ⟨k3, k4⟩ := frzL_sound ih hq1 (vs := qs.toList) ⟨by simpa using hl2, fun i x u hx hu => h2 i x u hx (by simpa using hu)⟩
     exact ⟨.fn (by have := k1.1; simpa using this) (by have := k3.1; simpa using this)
      (fun i x u hx hu => (k1.2 i x u hx (by simpa using hu)).wide (addS.mono (fun j hj => List.mem_append.2 (.inl hj))))
      (fun i x u hx hu => (k3.2 i x u hx (by simpa using hu)).wide (addS.mono (fun j hj => List.mem_append.2 (.inr hj)))),
      fun id hid => (List.mem_append.1 hid).elim (k2 id) (k4 id)⟩
  ·rename_i id off
   cases hk : hget hp id with
   | none => simp [hk] at h
   | some k =>
    simp only [hk, Option.bind_some] at h
    obtain ⟨⟨ys, i1⟩, h1, h2⟩ := Option.map_eq h
    cases h2
    cases hx with | pt hid =>
    obtain ⟨rd, g1, g2⟩ := (hm.cells id k hk hid).reader
    have hall : All S rho A w (k.cs.drop off) ((List.range (k.cs.drop off).length).map fun i => rd (off + i)) := ⟨by simp, fun i x u hx hu => by
     rw [List.getElem?_map] at hu
     have hlt := (List.getElem?_eq_some_iff.1 hx).1
     rw [List.getElem?_range hlt] at hu
     cases hu
     rw [zl5] at hx
     exact g2 _ x hx⟩
    obtain ⟨k1, k2⟩ := frzL_sound ih h1 hall
    refine ⟨.pi (fun i => rd (off + i)) (.inr ⟨id, by simp, hid, rfl⟩) (fun i x hx => ?_) (fun i x hx => ?_), fun j hj => (List.mem_cons.1 hj).elim (fun e => e ▸ ⟨k, hk⟩) (k2 j)⟩
    ·have hlt : i < (k.cs.drop off).length := by have h8 : i < ys.length := (List.getElem?_eq_some_iff.1 hx).1; have h9 := k1.1; simp at h9 ⊢; omega
     have hc : k.cs[off + i]? = some ((k.cs.drop off)[i]) := by rw [← zl5]; exact zlb hlt
     have := g1 (off + i) _ hc
     rwa [zn9] at this
    ·have hlt : i < (k.cs.drop off).length := by have h8 : i < ys.length := (List.getElem?_eq_some_iff.1 hx).1; have h9 := k1.1; simp at h9 ⊢; omega
     exact (k1.2 i x (rd (off + i)) hx (by rw [List.getElem?_map, List.getElem?_range hlt]; rfl)).wide (addS.mono (fun j hj => List.mem_cons.2 (.inr hj)))
  ·cases h
end
end Go.Proofs.Ytdcbmdmlhjemmaa
namespace Go.Proofs.Ytdcbmdmlhjemmaa
open Go.RowKit
def Rc (S : Nat → Prop) (w : World) (x : V) (v : Value) : Prop := R S (fun _ => 0) w (fun _ => False) x v
def AllC (S : Nat → Prop) (w : World) (xs : List V) (vs : List Value) : Prop := xs.length = vs.length ∧ ∀ (i : Nat) (x : V) (u : Value), xs[i]? = some x → vs[i]? = some u → Rc S w x u
theorem R.rho {S : Nat → Prop} {rho rho' : Nat → Nat} {w : World} {x : V} {v : Value} (h : R S rho w (fun _ => False) x v) : R S rho' w (fun _ => False) x v := h.mono (fun _ h => ⟨h, rfl⟩) (fun _ h => h.elim)
def Spec (P : Program) (f : Nat) (args : List V) (x : V) : Prop :=
 ∀ (S : Nat → Prop) (w : World) (vs : Array Value), (∀ b, S b → b < w.heap.size) → TabOK S w → AllC S w args vs.toList →
  Calls P f vs w (fun e w' => ∃ v, e = .returned v ∧ Grow w w' ∧ Rc (fun b => S b ∨ (w.heap.size ≤ b ∧ b < w'.heap.size)) w' x v)
def isGo (P : Program) (f : Nat) : Bool :=
 match P.funcs[f]? with
 | some fn => fn.body.isSome && !(fn.name == "runtime.NumGoroutine")
 | none => false
theorem callFunc_go {P : Program} {f : Nat} (h : isGo P f = true) (vs : Array Value) (w : World) : (callFunc f vs).run P w = .ok (.enter f vs) w := by
 unfold isGo at h
 split at h
 ·rename_i fn hf
  simp only [Bool.and_eq_true, Bool.not_eq_true'] at h
  obtain ⟨h1, h2⟩ := h
  have h3 : fn.body ≠ none := by intro hb; simp [hb] at h1
  have h4 : fn.name ≠ "runtime.NumGoroutine" := by simpa using h2
  simp [callFunc, hf, h3, h4]
 ·cases h
def flat1 : V → Bool
 | .sc _ | .im [] _ => true
 | _ => false
def flat2 : V → Bool
 | .ag cs => cs.all flat1
 | x => flat1 x
def flat : V → Bool
 | .tu cs => cs.all flat2
 | x => flat2 x
section
variable {P : Program} {w : World} {B : Base} {S : Nat → Prop} {rho : Nat → Nat} {A : Nat → Prop} {s : SS} {a : Act}
theorem flat1_sound {S' : Nat → Prop} {x : V} {v : Value} (hf : flat1 x = true) (h : R S rho w A x v) : R S' rho w A x v := by
 cases h <;> simp [flat1] at hf
 ·exact .sc _
 ·exact .im0 ‹_› ‹_› ‹_›
 ·rename_i cs len c b off f hl hm hS hc hx
  cases cs <;> simp at hf
  exact .im0 hl hm (by simp)
theorem flat2_sound {S' : Nat → Prop} {x : V} {v : Value} (hf : flat2 x = true) (h : R S rho w A x v) : R S' rho w A x v := by
 cases h with
 | ag hl hi => exact .ag hl fun i x u hx hu => flat1_sound (List.all_eq_true.1 hf x (List.mem_of_getElem? hx)) (hi i x u hx hu)
 | sc v => exact .sc _
 | im0 hl hm ha => exact .im0 hl hm ha
 | im1 f hl hm hS hc hx => exact flat1_sound hf (.im1 f hl hm hS hc hx)
 | _ => simp [flat2, flat1] at hf
theorem flat_sound {S' : Nat → Prop} {x : V} {v : Value} (hf : flat x = true) (h : R S rho w A x v) : R S' rho w A x v := by
 cases h with
 | tu hl hi => exact .tu hl fun i x u hx hu => flat2_sound (List.all_eq_true.1 hf x (List.mem_of_getElem? hx)) (hi i x u hx hu)
 | ag hl hi => exact flat2_sound hf (.ag hl hi)
 | sc v => exact .sc _
 | im0 hl hm ha => exact .im0 hl hm ha
 | im1 f hl hm hS hc hx => exact flat1_sound hf (.im1 f hl hm hS hc hx)
 | _ => simp [flat, flat2, flat1] at hf
def fzHp (hp : List (Nat × Blk)) (ids : List Nat) : List (Nat × Blk) := hp.map fun p => (p.1, if ids.contains p.1 then ⟨p.2.ty, p.2.cs, true⟩ else p.2)
theorem hget_fz (hp : List (Nat × Blk)) (ids : List Nat) (i : Nat) : hget (fzHp hp ids) i = (hget hp i).map fun k => if ids.contains i then ⟨k.ty, k.cs, true⟩ else k := by
 induction hp with
 | nil => rfl
 | cons p r ih =>
  obtain ⟨j, k⟩ := p
  simp only [fzHp, zld, hget] at ih ⊢
  by_cases h : i = j
  ·subst h; simp
  ·simp only [if_neg h]; exact ih
theorem Mem.freeze {hp : List (Nat × Blk)} (hm : Mem B S rho A hp w) (ids : List Nat) (hl : ∀ id, id ∈ ids → ∃ k, hget hp id = some k) : Mem B (addS S rho A ids) rho A (fzHp hp ids) w := by
 have hS : ∀ b, S b → addS S rho A ids b ∧ w.heap[b]? = w.heap[b]? := fun b hb => ⟨.inl hb, rfl⟩
 have hA : ∀ id, A id → A id ∧ rho id = rho id ∧ ∀ n, szAt w (rho id) n → szAt w (rho id) n := fun id h => ⟨h, rfl, fun _ h => h⟩
 have hg : ∀ i q, hget (fzHp hp ids) i = some q → ∃ k, hget hp i = some k ∧ q.ty = k.ty ∧ q.cs = k.cs ∧ (ids.contains i = true → q.fz = true) ∧ (ids.contains i = false → q.fz = k.fz) := by
  intro i q hq
  rw [hget_fz] at hq
  obtain ⟨k, hk, rfl⟩ := Option.map_eq hq
  refine ⟨k, hk, ?_, ?_, ?_, ?_⟩
  ·split <;> rfl
  ·split <;> rfl
  ·intro h; rw [if_pos h]
  ·intro h; rw [if_neg (by rw [h]; simp)]
 exact {
  cells := fun i q hq ha => by
   obtain ⟨k, hk, h1, h2, _⟩ := hg i q hq
   obtain ⟨cells, c1, c2⟩ := (hm.cells i k hk ha).mono (S' := addS S rho A ids) rfl hS hA
   exact ⟨cells, by rw [h1]; exact c1, by rw [h2]; exact c2⟩
  fz := fun i q hq ha => by
   obtain ⟨k, hk, _, _, h3, h4⟩ := hg i q hq
   intro hq0
   cases hc : ids.contains i with
   | true => rw [h3 hc] at hq0; cases hq0
   | false =>
    rw [h4 hc] at hq0
    rintro (h | ⟨j, hj, haj, he⟩)
    ·exact hm.fz i k hk ha hq0 h
    ·obtain ⟨kj, hkj⟩ := hl j hj
     have := hm.inj j i kj k hkj hk haj ha he
     subst this
     simp at hc
     exact absurd hj hc
  own := fun i q hq ha => by obtain ⟨k, hk, _⟩ := hg i q hq; exact hm.own i k hk ha
  inj := fun i j q q' hi hj => by obtain ⟨k, hk, _⟩ := hg i q hi; obtain ⟨k', hk', _⟩ := hg j q' hj; exact hm.inj i j k k' hk hk'
  slt := fun b hb => by
   rcases hb with hb | ⟨j, hj, haj, rfl⟩
   ·exact hm.slt b hb
   ·obtain ⟨kj, hkj⟩ := hl j hj; exact hm.lt hkj haj
  sub := fun b hb => .inl (hm.sub b hb)
  base := fun b hb => by
   rcases hb with hb | ⟨j, hj, haj, rfl⟩
   ·exact hm.base b hb
   ·obtain ⟨kj, hkj⟩ := hl j hj; exact .inr (hm.own j kj hkj haj)
  frame := hm.frame
  keep := hm.keep }
theorem Mem.came {hp : List (Nat × Blk)} {w' : World} (hm : Mem B S rho A hp w) (g : Grow w w') : Mem B (fun b => S b ∨ (w.heap.size ≤ b ∧ b < w'.heap.size)) rho A hp w' where
 cells i k hk ha := (hm.cells i k hk ha).mono (g.block _ (hm.lt hk ha)) (fun b hb => ⟨.inl hb, g.block b (hm.slt b hb)⟩) (fun _ h => ⟨h, rfl, fun _ => g.szAt⟩)
 fz i k hk ha := by
  intro h0 h
  rcases h with h | h
  ·exact hm.fz i k hk ha h0 h
  ·have := hm.lt hk ha; omega
 own := hm.own
 inj := hm.inj
 slt b hb := hb.elim (fun h => Nat.lt_of_lt_of_le (hm.slt b h) g.size) (fun h => h.2)
 sub b hb := .inl (hm.sub b hb)
 base b hb := hb.elim (hm.base b) (fun h => .inr (.inl (Nat.le_trans hm.frame.size h.1)))
 frame := hm.frame.grow g
 keep := hm.keep
theorem Mem.came2 {hp : List (Nat × Blk)} {w' : World} (hm : Mem B S rho A hp w) (g : Grow w w') (S2 : Nat → Prop) (h2 : ∀ c, S2 c → S c ∨ (w.heap.size ≤ c ∧ c < w'.heap.size)) : Mem B (fun b => S b ∨ S2 b) rho A hp w' where
 cells i k hk ha := (hm.cells i k hk ha).mono (g.block _ (hm.lt hk ha)) (fun b hb => ⟨.inl hb, g.block b (hm.slt b hb)⟩) (fun _ h => ⟨h, rfl, fun _ => g.szAt⟩)
 fz i k hk ha := by
  intro h0 h
  rcases h with h | h
  ·exact hm.fz i k hk ha h0 h
  ·rcases h2 _ h with h | h
   ·exact hm.fz i k hk ha h0 h
   ·have := hm.lt hk ha; omega
 own := hm.own
 inj := hm.inj
 slt b hb := hb.elim (fun h => Nat.lt_of_lt_of_le (hm.slt b h) g.size) (fun h => (h2 b h).elim (fun h => Nat.lt_of_lt_of_le (hm.slt b h) g.size) (fun h => h.2))
 sub b hb := .inl (hm.sub b hb)
 base b hb := hb.elim (hm.base b) (fun h => (h2 b h).elim (hm.base b) (fun h => .inr (.inl (Nat.le_trans hm.frame.size h.1))))
 frame := hm.frame.grow g
 keep := hm.keep
def SS.called (s : SS) (d : Option Nat) (x : V) (ids : List Nat) : SS := ⟨putS s.sl d x, if flat x then s.hp else fzHp s.hp ids, s.nx, s.nt⟩
theorem SOps.call {ops : Array Oper} {Q : Exit → SS → Prop} {o : Oper} {l : List Oper} {f : Nat} {args : Array Operand} {ts : Array TypeId} {ys : List V} {ids : List Nat} {x : V} (ho : o.op = .call ⟨.value (.func f), args, ts⟩) (hg : guardV ops s.sl o.guard = some true)
  (hd : dstOk o.dst s.nt = true) (hgo : isGo P f = true) (hf : frzAll (frz 8 s.hp) (args.toList.map (evS s.sl)) = some (ys, ids)) (hs : Spec P f ys x) (k : SOps P B ops l Q (s.called o.dst x ids)) : SOps P B ops (o :: l) Q s := by
 intro S rho A a w hr
 have hw := guard_sound hr.slots hg
 refine wpList_step fun K hK => ?_
 rw [if_pos hw]
 have hall := All.ev hr.mem.tab hr.slots args.toList
 obtain ⟨h1, h2⟩ := frzAll_sound (frz_sound hr.mem 8) hf hall
 have hmf := hr.mem.freeze ids h2
 have hrun : (execOp a.eval o).run P w = .ok (.enter f (args.map a.eval)) w := by
  simp only [execOp, ho, resolve, Act.eval, Deferred.ofValue, Sem.run_bind, Sem.run_pure, Result.andThen_ok, invoke]
  have := callFunc_go hgo (args.map a.eval) w
  simpa using this
 unfold Oper.wp
 rw [hrun]
 refine (hs (addS S rho A ids) w (args.map a.eval) hmf.slt hmf.tab ⟨by have := h1.1; simpa using this, fun i y u hy hu => (h1.2 i y u hy (by simpa using hu)).rho⟩).mono ?_
 rintro e w' ⟨v, rfl, g, hx⟩
 refine hK _ _ ?_
 have hA : ∀ id, A id → A id ∧ rho id = rho id ∧ ∀ n, szAt w (rho id) n → szAt w' (rho id) n := fun id h => ⟨h, rfl, fun _ => g.szAt⟩
 by_cases hfl : flat x = true
 ·have hm' := hr.mem.came g
  refine k (fun b => S b ∨ (w.heap.size ≤ b ∧ b < w'.heap.size)) rho A _ _ ⟨slots_put hr.slots (by rw [hr.nt]; exact hd) (fun b hb => ⟨.inl hb, g.block b (hr.mem.slt b hb)⟩) hA (flat_sound hfl hx.rho.open), ?_, hr.alt, by rw [put_size]; exact hr.nt, by rw [put_defers]; exact hr.defs⟩
  show Mem B _ rho A (if flat x then s.hp else fzHp s.hp ids) w'
  rw [if_pos hfl]; exact hm'
 ·have hm' := hmf.came g
  refine k (fun b => addS S rho A ids b ∨ (w.heap.size ≤ b ∧ b < w'.heap.size)) rho A _ _ ⟨slots_put hr.slots (by rw [hr.nt]; exact hd) (fun b hb => ⟨.inl (.inl hb), g.block b (hr.mem.slt b hb)⟩) hA hx.rho.open, ?_, hr.alt, by rw [put_size]; exact hr.nt, by rw [put_defers]; exact hr.defs⟩
  show Mem B _ rho A (if flat x then s.hp else fzHp s.hp ids) w'
  rw [if_neg hfl]; exact hm'
def SS.calledF (s : SS) (d : Option Nat) (x : V) (ids : List Nat) : SS := ⟨putS s.sl d x, fzHp s.hp ids, s.nx, s.nt⟩
theorem SOps.callF {ops : Array Oper} {Q : Exit → SS → Prop} {o : Oper} {l : List Oper} {f : Nat} {args : Array Operand} {ts : Array TypeId} {ys : List V} {ids : List Nat} {x : V} (ho : o.op = .call ⟨.value (.func f), args, ts⟩) (hg : guardV ops s.sl o.guard = some true)
  (hd : dstOk o.dst s.nt = true) (hgo : isGo P f = true) (hf : frzAll (frz 8 s.hp) (args.toList.map (evS s.sl)) = some (ys, ids)) (hs : Spec P f ys x) (k : SOps P B ops l Q (s.calledF o.dst x ids)) : SOps P B ops (o :: l) Q s := by
 intro S rho A a w hr
 have hw := guard_sound hr.slots hg
 refine wpList_step fun K hK => ?_
 rw [if_pos hw]
 have hall := All.ev hr.mem.tab hr.slots args.toList
 obtain ⟨h1, h2⟩ := frzAll_sound (frz_sound hr.mem 8) hf hall
 have hmf := hr.mem.freeze ids h2
 have hrun : (execOp a.eval o).run P w = .ok (.enter f (args.map a.eval)) w := by
  simp only [execOp, ho, resolve, Act.eval, Deferred.ofValue, Sem.run_bind, Sem.run_pure, Result.andThen_ok, invoke]
  have := callFunc_go hgo (args.map a.eval) w
  simpa using this
 unfold Oper.wp
 rw [hrun]
 refine (hs (addS S rho A ids) w (args.map a.eval) hmf.slt hmf.tab ⟨by have := h1.1; simpa using this, fun i y u hy hu => (h1.2 i y u hy (by simpa using hu)).rho⟩).mono ?_
 rintro e w' ⟨v, rfl, g, hx⟩
 refine hK _ _ ?_
 have hA : ∀ id, A id → A id ∧ rho id = rho id ∧ ∀ n, szAt w (rho id) n → szAt w' (rho id) n := fun id h => ⟨h, rfl, fun _ => g.szAt⟩
 have hm' := hmf.came g
 exact k (fun b => addS S rho A ids b ∨ (w.heap.size ≤ b ∧ b < w'.heap.size)) rho A _ _ ⟨slots_put hr.slots (by rw [hr.nt]; exact hd) (fun b hb => ⟨.inl (.inl hb), g.block b (hr.mem.slt b hb)⟩) hA hx.rho.open, hm', hr.alt, by rw [put_size]; exact hr.nt, by rw [put_defers]; exact hr.defs⟩
def SWp (P : Program) (B : Base) (c : Code) (Q : Exit → SS → Prop) (s : SS) : Prop := ∀ S rho A a w, Rel B S rho A s a w → c.wp P (Post B Q) a w
def thenQ (K : SS → Prop) (Q : Exit → SS → Prop) : Exit → SS → Prop
 | .normal, s => K s
 | e, s => Q e s
def blockQ (id : Nat) (Q : Exit → SS → Prop) : Exit → SS → Prop
 | .exit id', s => if id' = id then Q .normal s else Q (.exit id') s
 | e, s => Q e s
theorem SWp.seq {x y : Code} {Q : Exit → SS → Prop} (h : ∀ K : SS → Prop, (∀ s, SWp P B y Q s → K s) → SWp P B x (thenQ K Q) s) : SWp P B (.seq x y) Q s := by
 intro S rho A a w hr
 refine wp_seq (wp_mono (h (SWp P B y Q) (fun _ h => h) S rho A a w hr) ?_)
 rintro e a w ⟨S, rho, A, s, hq, hr⟩
 cases e <;> first | exact hq S rho A a w hr | exact ⟨S, rho, A, s, hq, hr⟩
theorem SWp.mono {c : Code} {Q Q' : Exit → SS → Prop} (h : SWp P B c Q s) (hq : ∀ e s, Q e s → Q' e s) : SWp P B c Q' s :=
 fun S rho A a w hr => wp_mono (h S rho A a w hr) fun _ _ _ ⟨S, rho, A, s, h1, h2⟩ => ⟨S, rho, A, s, hq _ _ h1, h2⟩
theorem SWp.skip {Q : Exit → SS → Prop} (h : Q .normal s) : SWp P B .skip Q s := fun S rho A _ _ hr => wp_skip ⟨S, rho, A, s, h, hr⟩
theorem SWp.exit {id : Nat} {Q : Exit → SS → Prop} (h : Q (.exit id) s) : SWp P B (.exit id) Q s := fun S rho A _ _ hr => wp_exit ⟨S, rho, A, s, h, hr⟩
theorem SWp.ret {Q : Exit → SS → Prop} (h : Q .ret s) : SWp P B .ret Q s := fun S rho A _ _ hr => wp_ret ⟨S, rho, A, s, h, hr⟩
theorem SWp.label {l : Nat} {Q : Exit → SS → Prop} (h : Q .normal s) : SWp P B (.label l) Q s := fun S rho A _ _ hr => wp_label ⟨S, rho, A, s, h, hr⟩
theorem SWp.region {id : Nat} {l : List Oper} {Q : Exit → SS → Prop} (h : SOps P B l.toArray l Q s) : SWp P B (.region id l.toArray false) Q s := fun S rho A a w hr => wp_region_lit (h S rho A a w hr)
theorem SWp.cond {c : Operand} {x y : Code} {Q : Exit → SS → Prop} {t : Bool} (hc : evS s.sl c = .sc (.bool t)) (h1 : t = true → SWp P B x Q s) (h2 : t = false → SWp P B y Q s) : SWp P B (.cond c x y) Q s := by
 intro S rho A a w hr
 have hv := ev_sound hr.mem.tab hr.slots c
 rw [hc] at hv
 have he : a.eval c = .bool t := by generalize a.eval c = u at hv ⊢; cases hv; rfl
 exact wp_cond_split he (fun ht => h1 ht S rho A a w hr) (fun ht => h2 ht S rho A a w hr)
theorem SWp.block {id : Nat} {c : Code} {Q : Exit → SS → Prop} (h : SWp P B c (blockQ id Q) s) : SWp P B (.block id c) Q s := by
 intro S rho A a w hr
 refine wp_block (wp_mono (h S rho A a w hr) ?_)
 rintro e a w ⟨S, rho, A, s, hq, hr⟩
 cases e <;> first | exact ⟨S, rho, A, s, hq, hr⟩ | skip
 rename_i id'
 simp only [blockQ] at hq
 simp only [Exit.inBlock]
 split at hq
 ·rename_i h; rw [if_pos h]; exact ⟨S, rho, A, s, hq, hr⟩
 ·rename_i h; rw [if_neg h]; exact ⟨S, rho, A, s, hq, hr⟩
def scopeQ (Q : Exit → SS → Prop) : Exit → SS → Prop
 | .goto _, _ => False
 | e, s => Q e s
theorem SWp.scope {c : Code} {Q : Exit → SS → Prop} (h : SWp P B c (scopeQ Q) s) : SWp P B (.scope c) Q s := by
 intro S rho A a w hr
 refine wp_scope_straight (wp_mono (h S rho A a w hr) ?_)
 rintro e a w ⟨S, rho, A, s, hq, hr⟩
 cases e <;> first | exact ⟨S, rho, A, s, hq, hr⟩ | exact hq.elim
def Le (B : Base) (s s' : SS) : Prop := ∀ S rho A a w, Rel B S rho A s a w → ∃ S' rho' A', Rel B S' rho' A' s' a w
theorem Le.refl (B : Base) (s : SS) : Le B s s := fun S rho A _ _ h => ⟨S, rho, A, h⟩
theorem Le.trans {s1 s2 s3 : SS} (h : Le B s1 s2) (k : Le B s2 s3) : Le B s1 s3 := fun S rho A a w hr => let ⟨S', rho', A', hr'⟩ := h S rho A a w hr; k S' rho' A' a w hr'
theorem SWp.weak {c : Code} {Q : Exit → SS → Prop} {s' : SS} (h : Le B s s') (k : SWp P B c Q s') : SWp P B c Q s := fun S rho A a w hr => let ⟨S', rho', A', hr'⟩ := h S rho A a w hr; k S' rho' A' a w hr'
theorem SWp.loop {α : Type} {c : Code} {Q : Exit → SS → Prop} (I : α → SS) (Inv : α → Prop) (mu : α → Nat) (x0 : α) (h0 : Le B s (I x0)) (hi : Inv x0)
  (round : ∀ x, Inv x → ∀ K : SS → Prop, (∀ s' x', Le B s' (I x') → Inv x' → mu x' < mu x → K s') → SWp P B c (thenQ K Q) (I x)) : SWp P B (.loop c) Q s := by
 intro S rho A a w hr
 refine wp_loop_ghost (fun n a w => ∃ x S rho A, mu x = n ∧ Inv x ∧ Rel B S rho A (I x) a w) (mu x0) ?_ ?_
 ·obtain ⟨S', rho', A', hr'⟩ := h0 S rho A a w hr
  exact ⟨x0, S', rho', A', rfl, hi, hr'⟩
 ·rintro n a w ⟨x, S, rho, A, rfl, hx, hr⟩
  refine wp_mono (round x hx (fun s' => ∃ x', Le B s' (I x') ∧ Inv x' ∧ mu x' < mu x) (fun s' x' h1 h2 h3 => ⟨x', h1, h2, h3⟩) S rho A a w hr) ?_
  rintro e a w ⟨S, rho, A, s, hq, hr⟩
  cases e with
  | normal =>
   obtain ⟨x', h1, h2, h3⟩ := hq
   obtain ⟨S', rho', A', hr'⟩ := h1 S rho A a w hr
   exact ⟨mu x', h3, x', S', rho', A', rfl, h2, hr'⟩
  | _ => exact ⟨S, rho, A, s, hq, hr⟩
def resV1 (P : Program) (s : SS) : ResultVar → Option V
 | .tmp t => some (get s.sl t)
 | .cell p ty => exLoad P s.hp ty (get s.sl p)
def resV (P : Program) (fn : Func) (s : SS) : Option V :=
 match fn.results.toList with
 | [] => some (.tu [])
 | [r] => resV1 P s r
 | [r, q] => (resV1 P s r).bind fun x => (resV1 P s q).map fun y => .tu [x, y]
 | [r, q, t] => (resV1 P s r).bind fun x => (resV1 P s q).bind fun y => (resV1 P s t).map fun z => .tu [x, y, z]
 | _ => none
def resOne (tmps : Array Value) : ResultVar → Sem Value
 | .tmp t => pure (tmps.getD t undef)
 | .cell p t => do loadVar t (← asAddr (tmps.getD p undef))
theorem results_eq (fn : Func) (tmps : Array Value) : results fn tmps = (do let vs ← fn.results.mapM (resOne tmps); pure (if h : vs.size = 1 then vs[0] else .tuple vs)) := by
 unfold results
 congr 1
theorem res1_sound (hr : Rel B S rho A s a w) {r : ResultVar} {x : V} (h : resV1 P s r = some x) : ∃ v, (resOne a.tmps r).run P w = .ok v w ∧ R S rho w A x v := by
 cases r with
 | tmp t => simp only [resV1, Option.some.injEq] at h; subst h; exact ⟨_, rfl, hr.slots t⟩
 | cell p ty =>
  simp only [resV1] at h
  have hp := hr.slots p
  have he : a.eval (.tmp p) = a.tmps.getD p undef := rfl
  rw [he] at hp
  obtain ⟨v, h1, h2⟩ := load_sound (P := P) hr.mem h hp
  refine ⟨v, ?_, h2⟩
  show Sem.run P (do loadVar ty (← asAddr (a.tmps.getD p undef))) w = _
  generalize a.tmps.getD p undef = u at h1 hp ⊢
  cases u <;> simp only [Instr.loadAt, Instr.sureAddr, Sem.run_bind] at h1 <;> try (cases h1; done)
  rename_i ad
  cases ad with
  | none => cases h1
  | some ad => simpa [asAddr, Sem.run_bind] using h1
theorem res_sound {fn : Func} (hr : Rel B S rho A s a w) {x : V} (h : resV P fn s = some x) : ∃ v, (results fn a.tmps).run P w = .ok v w ∧ R S rho w A x v := by
 rw [results_eq]
 unfold resV at h
 split at h
 ·rename_i hl
  have hl' : fn.results = ([] : List ResultVar).toArray := by rw [← hl]
  rw [hl']
  cases h
  exact ⟨_, by simp; rfl, .tu (by simp) (fun i x u hx => by simp at hx)⟩
 ·rename_i r hl
  have hl' : fn.results = [r].toArray := by rw [← hl]
  rw [hl']
  obtain ⟨v, h1, h2⟩ := res1_sound (P := P) hr h
  refine ⟨v, ?_, h2⟩
  simp [Array.mapM_eq_mapM_toList, h1]
 ·rename_i r q hl
  have hl' : fn.results = [r, q].toArray := by rw [← hl]
  rw [hl']
  cases hx : resV1 P s r with
  | none => simp [hx] at h
  | some x1 =>
   cases hy : resV1 P s q with
   | none => simp [hx, hy] at h
   | some y1 =>
    simp only [hx, hy, Option.bind_some, Option.map_some, Option.some.injEq] at h
    subst h
    obtain ⟨v, h1, h2⟩ := res1_sound (P := P) hr hx
    obtain ⟨u, h3, h4⟩ := res1_sound (P := P) hr hy
    refine ⟨.tuple #[v, u], ?_, .tu (by simp) (fun i x w hx hu => ?_)⟩
    ·simp [Array.mapM_eq_mapM_toList, h1, h3]
    ·match i with
     | 0 => simp at hx hu; subst hx; subst hu; exact h2
     | 1 => simp at hx hu; subst hx; subst hu; exact h4
     | n + 2 => simp at hx
 ·rename_i r q t hl
  have hl' : fn.results = [r, q, t].toArray := by rw [← hl]
  rw [hl']
  cases hx : resV1 P s r with
  | none => simp [hx] at h
  | some x1 =>
   cases hy : resV1 P s q with
   | none => simp [hx, hy] at h
   | some y1 =>
    cases hz : resV1 P s t with
    | none => simp [hx, hy, hz] at h
    | some z1 =>
     simp only [hx, hy, hz, Option.bind_some, Option.map_some, Option.some.injEq] at h
     subst h
     obtain ⟨v, h1, h2⟩ := res1_sound (P := P) hr hx
     obtain ⟨u, h3, h4⟩ := res1_sound (P := P) hr hy
     obtain ⟨m, h5, h6⟩ := res1_sound (P := P) hr hz
     refine ⟨.tuple #[v, u, m], ?_, .tu (by simp) (fun i x w hx hu => ?_)⟩
     ·simp [Array.mapM_eq_mapM_toList, h1, h3, h5]
     ·match i with
      | 0 => simp at hx hu; subst hx; subst hu; exact h2
      | 1 => simp at hx hu; subst hx; subst hu; exact h4
      | 2 => simp at hx hu; subst hx; subst hu; exact h6
      | n + 3 => simp at hx
 ·cases h
def stSl : Nat → List V → List (Nat × V)
 | _, [] => []
 | k, x :: r => (k, x) :: stSl (k + 1) r
def SS.start (args : List V) (n : Nat) : SS := ⟨stSl 0 args, [], 0, n⟩
theorem get_start (xs : List V) (k t : Nat) : get (stSl k xs) t = if k ≤ t then (xs[t - k]?).getD .junk else .junk := by
 induction xs generalizing k with
 | nil => simp [get, stSl]
 | cons x r ih =>
  simp only [get, stSl]
  by_cases h : t = k
  ·subst h; simp
  ·rw [if_neg h, ih]
   by_cases hk : k ≤ t
   ·rw [if_pos (by omega), if_pos hk]
    have : t - k = (t - (k + 1)) + 1 := by omega
    rw [this]; rfl
   ·rw [if_neg (by omega), if_neg hk]
def retQ (P : Program) (fn : Func) (x : V) : Exit → SS → Prop
 | .normal, s | .ret, s => ∃ y ids, resV P fn s = some y ∧ frz 8 s.hp y = some (x, ids)
 | _, _ => False
theorem Spec.of {f : Nat} {fn : Func} {c : Code} {args : List V} {x : V} (hf : P.funcs[f]? = some fn) (hb : fn.body = some c) (hn : args.length ≤ fn.ntmps) (h : ∀ B : Base, B.Old 0 → SWp P B c (retQ P fn x) (SS.start args fn.ntmps)) : Spec P f args x := by
 intro S w vs hS hT hargs
 have hlen : vs.size = args.length := by have := hargs.1; simpa using this.symm
 refine calls_of_wp hf hb ?_
 refine wp_mono (h ⟨w, S, fun _ => False, fun _ => 0, fun _ => False, []⟩ (fun _ h => h.elim) S (fun _ => 0) (fun _ => False) _ w ?_) ?_
 ·refine ⟨fun t => ?_, ?_, fun _ h => h.elim, ?_, rfl⟩
  ·show R S (fun _ => 0) w (fun _ => False) (get (stSl 0 args) t) _
   rw [get_start, if_pos (znc _), Nat.sub_zero]
   cases ht : args[t]? with
   | none => exact .junk _
   | some y =>
    have hlt := (List.getElem?_eq_some_iff.1 ht).1
    have hu : vs.toList[t]? = some (vs[t]'(by omega)) := by simp [hlen, hlt]
    have := hargs.2 t y _ ht hu
    have he : (⟨vs ++ Array.replicate (fn.ntmps - vs.size) undef, []⟩ : Act).eval (.tmp t) = vs[t]'(by omega) := by
     simp [Act.eval, Array.getElem?_append, hlen, hlt]
    rw [he]; exact this
  ·exact {
    cells := fun id k hk => by cases hk
    fz := fun id k hk => by cases hk
    own := fun id k hk => by cases hk
    inj := fun id id' k k' hk => by cases hk
    slt := hS
    sub := fun _ h => h
    base := fun _ h => .inl h
    frame := ⟨rfl, rfl, rfl, znb _, fun _ _ _ => rfl, fun _ _ => rfl, fun _ _ h => h, hS, hT⟩
    keep := fun id h => h.elim }
  ·simp [SS.start]; omega
 ·rintro e a w' ⟨S', rho, A, s, hq, hr⟩
  have fin : (∃ y ids, resV P fn s = some y ∧ frz 8 s.hp y = some (x, ids)) → a.defers = [] ∧ ∃ v, (results fn a.tmps).run P w' = .ok v w' ∧ ∃ v', Ending.returned v = .returned v' ∧ Grow w w' ∧ Rc (fun b => S b ∨ (w.heap.size ≤ b ∧ b < w'.heap.size)) w' x v' := by
   rintro ⟨y, ids, h1, h2⟩
   obtain ⟨v, h3, h4⟩ := res_sound (P := P) hr h1
   have h5 := frz_sound hr.mem 8 y v x ids h2 h4
   have hmf := hr.mem.freeze ids h5.live
   refine ⟨hr.defs, v, h3, v, rfl, ⟨hr.mem.frame.os, hr.mem.frame.tape, hr.mem.frame.output, hr.mem.frame.size, fun b hb => hr.mem.frame.block b hb (fun h => h)⟩, ?_⟩
   refine (h5.rep.wide fun b hb => ?_).rho
   rcases hmf.base b hb with h | h | h
   ·exact .inl h
   ·exact .inr ⟨h, hmf.slt b hb⟩
   ·exact h.elim
  cases e with
  | normal => exact fin hq
  | ret => exact fin hq
  | _ => exact hq.elim
end
end Go.Proofs.Ytdcbmdmlhjemmaa
