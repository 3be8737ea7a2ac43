/- Runs of operations on symbolic states; contracts of functions and calls by value. -/
import Derived.Test.YtbpcgeanpkokkaaDoorSg
namespace Go.Proofs.YtbpcgeanpkokkaaDoor
open Go.RowKit

def dstOk (d : Option Nat) (n : Nat) : Bool :=
  match d with
  | some d => decide (d < n)
  | none => true
def putS (sl : List (Nat × V)) (d : Option Nat) (x : V) : List (Nat × V) :=
  match d with
  | some d => (d, x) :: sl
  | none => sl
def SS.put (s : SS) (d : Option Nat) (x : V) (f : Eff) : SS := ⟨putS s.sl d x, f.heap s.nx s.hp, f.next s.nx, s.nt⟩

/-- the symbolic state holds of the run -/
def Post (B : Base) (Q : Exit → SS → Prop) : Exit → Act → World → Prop := fun e a w => ∃ S rho A s, Q e s ∧ Rel B S rho A s a w

section
variable {P : Program} {w : World} {B : Base} {S : Nat → Prop} {rho : Nat → Nat} {A : Nat → Prop} {s : SS} {a : Act}

theorem slots_put {S' : Nat → Prop} {rho' : Nat → Nat} {A' : Nat → Prop} {w' : World} {sl : List (Nat × V)} {d : Option Nat} {x : V} {v : Value} (hs : ∀ t, R S rho w A (get sl t) (a.eval (.tmp t))) (hd : dstOk d a.tmps.size = true)
    (hS : ∀ b, S b → S' b ∧ w'.heap[b]? = w.heap[b]?) (hA : ∀ id, A id → A' id ∧ rho' id = rho id ∧ ∀ n, szAt w (rho id) n → szAt w' (rho id) n) (hx : R S' rho' w' A' x v) :
    ∀ t, R S' rho' w' A' (get (putS sl d x) t) ((a.put d v).eval (.tmp t)) := by
  intro t
  cases d with
  | none => exact (hs t).mono hS hA
  | some d =>
    simp only [dstOk, decide_eq_true_eq] at hd
    simp only [putS, get]
    by_cases ht : t = d
    · subst ht
      rw [if_pos rfl]
      have : (a.put (some t) v).eval (.tmp t) = v := by simp [Act.eval, Act.put, hd]
      rw [this]; exact hx
    · rw [if_neg ht]
      have : (a.put (some d) v).eval (.tmp t) = a.eval (.tmp t) := Act.eval_put (by intro d' hd' e; cases hd'; cases e; exact ht rfl)
      rw [this]; exact (hs t).mono hS hA

theorem put_size (a : Act) (d : Option Nat) (v : Value) : (a.put d v).tmps.size = a.tmps.size := by cases d <;> simp [Act.put]
theorem put_defers (a : Act) (d : Option Nat) (v : Value) : (a.put d v).defers = a.defers := by cases d <;> rfl

theorem Rel.put (hr : Rel B S rho A s a w) {x : V} {f : Eff} {v : Value} {w' : World} {rho' : Nat → Nat} {A' : Nat → Prop} {d : Option Nat} (hd : dstOk d s.nt = true) (hm : Mem B S rho' A' (f.heap s.nx s.hp) w')
    (hA : ∀ id, A id → A' id ∧ rho' id = rho id ∧ ∀ n, szAt w (rho id) n → szAt w' (rho id) n) (hA' : ∀ id, A' id → A id ∨ id = s.nx ∧ ∃ k, f = .new k ∨ ∃ i, f = .app i k)
    (hS : ∀ b, S b → w'.heap[b]? = w.heap[b]?) (hx : R S rho' w' A' x v) : Rel B S rho' A' (s.put d x f) (a.put d v) w' where
  slots := slots_put hr.slots (by rw [hr.nt]; exact hd) (fun b hb => ⟨hb, hS b hb⟩) hA hx
  mem := hm
  alt id hid := by
    show id < f.next s.nx
    rcases hA' id hid with h | ⟨rfl, k, rfl | ⟨i, rfl⟩⟩
    · have := hr.alt id h
      cases f <;> simp [Eff.next] <;> omega
    · simp [Eff.next]
    · simp [Eff.next]
  nt := by rw [put_size]; exact hr.nt
  defs := by rw [put_defers]; exact hr.defs

/-- is the operation wanted? -/
def guardV (ops : Array Oper) (sl : List (Nat × V)) : Option (Nat × Bool) → Option Bool
  | none => some true
  | some (j, want) =>
    match (ops[j]?).bind (·.dst) with
    | some d => match get sl d with
      | .sc (.bool b) => some (b == want)
      | .tu [] => some false
      | _ => none
    | none => none
theorem skip_rep : R S rho w A (.tu []) undef := .tu (by simp) fun i x u hx => by simp at hx
theorem guard_sound {ops : Array Oper} {o : Oper} {b : Bool} (hs : ∀ t, R S rho w A (get s.sl t) (a.eval (.tmp t))) (h : guardV ops s.sl o.guard = some b) : Region.wanted o (yielded ops a.tmps) = b := by
  unfold Region.wanted
  cases hg : o.guard with
  | none => rw [hg] at h; simpa [guardV] using h
  | some p =>
    obtain ⟨j, want⟩ := p
    rw [hg] at h
    simp only [guardV] at h
    cases hd : (ops[j]?).bind (·.dst) with
    | none => simp [hd] at h
    | some d =>
      simp only [hd] at h
      split at h
      · rename_i u hu
        have hv := hs d
        rw [hu] at hv
        simp only [Option.some.injEq] at h
        simp only [yielded, hd, Option.bind_some]
        cases hq : a.tmps[d]? with
        | none => simp [Act.eval, hq, undef] at hv; cases hv
        | some q =>
          have : a.eval (.tmp d) = q := by simp [Act.eval, hq]
          rw [this] at hv
          cases hv
          simpa using h
      · rename_i hu
        have hv := hs d
        rw [hu] at hv
        simp only [Option.some.injEq] at h
        simp only [yielded, hd, Option.bind_some]
        cases hq : a.tmps[d]? with
        | none => simpa using h
        | some q =>
          have : a.eval (.tmp d) = q := by simp [Act.eval, hq]
          rw [this] at hv
          cases hv
          simpa using h
      · cases h

/-- one operation that is no call of a Go function -/
def run1 (P : Program) (ops : Array Oper) (s : SS) (o : Oper) : Option SS :=
  if dstOk o.dst s.nt then
    match guardV ops s.sl o.guard with
    | some true => (exOp P s.sl s.hp s.nx o.op).map fun p => s.put o.dst p.1 p.2
    | some false => some (s.put o.dst (.tu []) .none)
    | none => none
  else none
def runL (P : Program) (ops : Array Oper) : SS → List Oper → Option SS
  | s, [] => some s
  | s, o :: l => match run1 P ops s o with
    | some s' => runL P ops s' l
    | none => none

/-- the rest of a region from a symbolic state on -/
def SOps (P : Program) (B : Base) (ops : Array Oper) (l : List Oper) (Q : Exit → SS → Prop) (s : SS) : Prop :=
  ∀ S rho A a w, Rel B S rho A s a w → wpList P ops (Post B Q) l a w

theorem SOps.nil {ops : Array Oper} {Q : Exit → SS → Prop} (h : Q .normal s) : SOps P B ops [] Q s :=
  fun S rho A _ _ hr => ⟨S, rho, A, s, h, hr⟩

theorem SOps.run1 {ops : Array Oper} {Q : Exit → SS → Prop} {o : Oper} {l : List Oper} {s' : SS} (h : run1 P ops s o = some s') (k : SOps P B ops l Q s') : SOps P B ops (o :: l) Q s := by
  intro S rho A a w hr
  unfold Go.Proofs.YtbpcgeanpkokkaaDoor.run1 at h
  split at h
  · rename_i hd
    split at h
    · rename_i hg
      obtain ⟨⟨x, f⟩, he, rfl⟩ := Option.map_eq h
      have hw := guard_sound hr.slots hg
      refine wpList_step fun K hK => ?_
      rw [if_pos hw]
      obtain ⟨v, w', rho', A', h1, h2, h3, h4, h5, h6⟩ := op_sound hr.mem hr.slots (fun h => by have := hr.alt _ h; omega) he
      have := hK _ _ (k S rho' A' (a.put o.dst v) w' (hr.put hd h2 h3 h4 h5 h6))
      unfold Oper.wp
      rcases h1 with h1 | ⟨h1, rfl⟩ <;> rw [h1] <;> exact this
    · rename_i hg
      simp only [Option.some.injEq] at h
      subst h
      have hw := guard_sound hr.slots hg
      refine wpList_step fun K hK => ?_
      rw [hw]
      exact hK _ _ (k S rho A (a.put o.dst undef) w (hr.put (f := .none) hd hr.mem (fun _ h => ⟨h, rfl, fun _ h => h⟩) (fun _ h => .inl h) (fun _ _ => rfl) skip_rep))
    · cases h
  · cases h

theorem SOps.runs {ops : Array Oper} {Q : Exit → SS → Prop} : ∀ {l r : List Oper} {s s' : SS}, runL P ops s l = some s' → SOps P B ops r Q s' → SOps P B ops (l ++ r) Q s
  | [], r, s, s', h, k => by simp only [runL, Option.some.injEq] at h; subst h; exact k
  | o :: l, r, s, s', h, k => by
    simp only [runL] at h
    split at h
    · rename_i s1 h1
      exact SOps.run1 h1 (SOps.runs h k)
    · cases h
theorem SOps.all {ops : Array Oper} {Q : Exit → SS → Prop} {l : List Oper} {s' : SS} (h : runL P ops s l = some s') (k : Q .normal s') : SOps P B ops l Q s := by
  have := SOps.runs (r := []) h (SOps.nil (P := P) (B := B) (ops := ops) k)
  rwa [List.append_nil] at this

/-! ### what a call by value hands over -/
def clo : V → Bool
  | .sc (.slice _ _ _) => false
  | .sc _ | .im _ _ | .pi _ => true
  | _ => false
def frzAll (g : V → Option (V × List Nat)) : List V → Option (List V × List Nat)
  | [] => some ([], [])
  | c :: r => (g c).bind fun p => (frzAll g r).map fun q => (p.1 :: q.1, p.2 ++ q.2)
def frzL (g : V → Option (V × List Nat)) (cs : List V) : Option (List V × List Nat) := if cs.all clo then some (cs, []) else frzAll g cs
def frz : Nat → List (Nat × Blk) → V → Option (V × List Nat)
  | 0, _, _ => none
  | n + 1, hp, x =>
    match x with
    | .sc (.slice none 0 0) => some (.im [] 0, [])
    | .sc v => some (.sc v, [])
    | .im cs len => some (.im cs len, [])
    | .pi cs => some (.pi cs, [])
    | .ag cs => (frzL (frz n hp) cs).map fun p => (.ag p.1, p.2)
    | .tu cs => (frzL (frz n hp) cs).map fun p => (.tu p.1, p.2)
    | .sl id off len z _ => (srcV hp (.sl id off len z none)).bind fun q => (frzL (frz n hp) q.1).map fun p => (.im p.1 q.2, id :: p.2)
    | _ => none

def addS (S : Nat → Prop) (rho : Nat → Nat) (A : Nat → Prop) (ids : List Nat) : Nat → Prop := fun b => S b ∨ ∃ id, id ∈ ids ∧ A id ∧ rho id = b

theorem addS.mono {ids ids' : List Nat} (h : ∀ i, i ∈ ids → i ∈ ids') : ∀ b, addS S rho A ids b → addS S rho A ids' b := by
  rintro b (hb | ⟨id, h1, h2, h3⟩)
  · exact .inl hb
  · exact .inr ⟨id, h id h1, h2, h3⟩

/-- what the frozen tree says -/
structure Frz (hp : List (Nat × Blk)) (S : Nat → Prop) (rho : Nat → Nat) (A : Nat → Prop) (w : World) (x : V) (v : Value) (y : V) (ids : List Nat) : Prop where
  rep : R (addS S rho A ids) rho w (fun _ => False) y v
  live : ∀ id, id ∈ ids → ∃ k, hget hp id = some k

theorem R.wide {S S' : Nat → Prop} {A : Nat → Prop} {x : V} {v : Value} (h : R S rho w A x v) (hS : ∀ b, S b → S' b) : R S' rho w A x v := h.mono (fun b hb => ⟨hS b hb, rfl⟩) (fun _ h => ⟨h, rfl, fun _ h => h⟩)

theorem clo_sound {x : V} {v : Value} (hc : clo x = true) (h : R S rho w A x v) : R S rho w (fun _ => False) x v := by
  cases h <;> simp [clo] at hc
  · exact .sc _
  · exact .im0 ‹_› ‹_› ‹_›
  · exact .im1 _ ‹_› ‹_› ‹_› ‹_› ‹_›
  · exact .pi _ ‹_› ‹_› ‹_›

theorem frzAll_sound {hp : List (Nat × Blk)} {g : V → Option (V × List Nat)} (hg : ∀ (x : V) (v : Value) (y : V) (ids : List Nat), g x = some (y, ids) → R S rho w A x v → Frz hp S rho A w x v y ids) :
    ∀ {cs ys : List V} {vs : List Value} {ids : List Nat}, frzAll g cs = some (ys, ids) → All S rho A w cs vs → All (addS S rho A ids) rho (fun _ => False) w ys vs ∧ ∀ id, id ∈ ids → ∃ k, hget hp id = some k
  | [], ys, vs, ids, h, ha => by
    simp only [frzAll, Option.some.injEq, Prod.mk.injEq] at h
    obtain ⟨rfl, rfl⟩ := h
    exact ⟨⟨ha.1, fun i x u hx => by simp at hx⟩, fun id h => by simp at h⟩
  | c :: r, ys, [], ids, h, ha => by have := ha.1; simp at this
  | c :: r, ys, v :: vs, ids, h, ha => by
    simp only [frzAll] at h
    cases hc : g c with
    | none => simp [hc] at h
    | some p =>
      cases hr : frzAll g r with
      | none => simp [hc, hr] at h
      | some q =>
        obtain ⟨y, i1⟩ := p
        obtain ⟨zs, i2⟩ := q
        simp only [hc, hr, Option.bind_some, Option.map_some, Option.some.injEq, Prod.mk.injEq] at h
        obtain ⟨rfl, rfl⟩ := h
        have h1 := hg c v y i1 hc (ha.2 0 c v rfl rfl)
        obtain ⟨h2, h3⟩ := frzAll_sound hg hr (vs := vs) ⟨by have := ha.1; simpa using this, fun i x u hx hu => ha.2 (i + 1) x u (by simpa using hx) (by simpa using hu)⟩
        refine ⟨⟨by simp [h2.1], fun i x u hx hu => ?_⟩, fun id hid => (List.mem_append.1 hid).elim (h1.live id) (h3 id)⟩
        cases i with
        | zero => simp at hx hu; subst hx; subst hu; exact h1.rep.wide (addS.mono (fun i hi => List.mem_append.2 (.inl hi)))
        | succ i => simp at hx hu; exact (h2.2 i x u hx hu).wide (addS.mono (fun i hi => List.mem_append.2 (.inr hi)))

theorem frzL_sound {hp : List (Nat × Blk)} {g : V → Option (V × List Nat)} (hg : ∀ (x : V) (v : Value) (y : V) (ids : List Nat), g x = some (y, ids) → R S rho w A x v → Frz hp S rho A w x v y ids)
    {cs ys : List V} {vs : List Value} {ids : List Nat} (h : frzL g cs = some (ys, ids)) (ha : All S rho A w cs vs) : All (addS S rho A ids) rho (fun _ => False) w ys vs ∧ ∀ id, id ∈ ids → ∃ k, hget hp id = some k := by
  unfold frzL at h
  split at h
  · rename_i hc
    simp only [Option.some.injEq, Prod.mk.injEq] at h
    obtain ⟨rfl, rfl⟩ := h
    refine ⟨⟨ha.1, fun i x u hx hu => ?_⟩, fun id h => by simp at h⟩
    exact (clo_sound (List.all_eq_true.1 hc _ (List.mem_of_getElem? hx)) (ha.2 i x u hx hu)).wide fun b hb => .inl hb
  · exact frzAll_sound hg h ha

theorem frz_sound {hp : List (Nat × Blk)} (hm : Mem B S rho A hp w) : ∀ (n : Nat) (x : V) (v : Value) (y : V) (ids : List Nat), frz n hp x = some (y, ids) → R S rho w A x v → Frz hp S rho A w x v y ids
  | 0, x, v, y, ids, h, _ => by simp [frz] at h
  | n + 1, x, v, y, ids, h, hx => by
    have ih := frz_sound hm n
    have w0 : ∀ b, S b → addS S rho A [] b := fun b hb => .inl hb
    simp only [frz] at h
    split at h
    · cases h; cases hx
      exact ⟨.im0 (Nat.le_refl _) (by unfold maxLen; omega) (fun _ => rfl), fun id h => by simp at h⟩
    · cases h; cases hx
      exact ⟨.sc _, fun id h => by simp at h⟩
    · cases h
      exact ⟨(clo_sound rfl hx).wide w0, fun id h => by simp at h⟩
    · cases h
      exact ⟨(clo_sound rfl hx).wide w0, fun id h => by simp at h⟩
    · obtain ⟨⟨ys, i1⟩, h1, h2⟩ := Option.map_eq h
      cases h2
      cases hx with | ag hl hi =>
      rename_i vs
      obtain ⟨k1, k2⟩ := frzL_sound ih h1 (vs := vs.toList) ⟨by simpa using hl, fun i x u hx hu => hi i x u hx (by simpa using hu)⟩
      exact ⟨.ag (by have := k1.1; simpa using this) (fun i x u hx hu => k1.2 i x u hx (by simpa using hu)), k2⟩
    · obtain ⟨⟨ys, i1⟩, h1, h2⟩ := Option.map_eq h
      cases h2
      cases hx with | tu hl hi =>
      rename_i vs
      obtain ⟨k1, k2⟩ := frzL_sound ih h1 (vs := vs.toList) ⟨by simpa using hl, fun i x u hx hu => hi i x u hx (by simpa using hu)⟩
      exact ⟨.tu (by have := k1.1; simpa using this) (fun i x u hx hu => k1.2 i x u hx (by simpa using hu)), k2⟩
    · rename_i id off len z cap
      cases hs : srcV hp (.sl id off len z none) with
      | none => simp [hs] at h
      | some q =>
        obtain ⟨cs, m⟩ := q
        simp only [hs, Option.bind_some] at h
        obtain ⟨⟨ys, i1⟩, h1, h2⟩ := Option.map_eq h
        cases h2
        have hsrc : srcV hp (.sl id off len z cap) = some (cs, m) := hs
        obtain ⟨a', c, us, rfl, k1, k2, k3, k4, k5⟩ := src_sound hm hsrc hx
        obtain ⟨k6, k7⟩ := frzL_sound ih h1 k1
        have hlive : ∃ k, hget hp id = some k := by
          simp only [srcV] at hs
          cases hk : hget hp id with
          | none => simp [hk] at hs
          | some k => exact ⟨k, rfl⟩
        refine ⟨?_, fun j hj => (List.mem_cons.1 hj).elim (fun e => e ▸ hlive) (k7 j)⟩
        by_cases hy : ys = []
        · subst hy; exact .im0 k3 k4 k5
        · have hus : us ≠ [] := by intro e; subst e; exact hy (List.eq_nil_of_length_eq_zero k6.1)
          have hcs : cs ≠ [] := by intro e; subst e; have := k1.1; simp at this; exact hus (List.eq_nil_of_length_eq_zero this.symm)
          obtain ⟨ad, rfl, k8⟩ := k2 hcs
          cases hx with
          | sl hid hl hmx hcap hz0 =>
            refine .im1 (fun i => us.getD i undef) k3 k4 (.inr ⟨id, by simp, hid, rfl⟩) (fun i x hx => ?_) (fun i x hx => ?_)
            · have hlt : i < us.length := by rw [← k6.1]; exact (List.getElem?_eq_some_iff.1 hx).1
              have hu : us[i]? = some us[i] := List.getElem?_eq_getElem hlt
              have := k8 i _ hu
              rw [addrAdd] at this
              simpa [hlt] using this
            · have hlt : i < us.length := by rw [← k6.1]; exact (List.getElem?_eq_some_iff.1 hx).1
              have hu : us[i]? = some us[i] := List.getElem?_eq_getElem hlt
              have hr := k6.2 i x _ hx hu
              have e : us.getD i undef = us[i] := by simp [hlt]
              show R _ _ _ _ x (us.getD i undef)
              rw [e]
              exact hr.wide (addS.mono (fun j hj => List.mem_cons.2 (.inr hj)))
    · cases h
end
end Go.Proofs.YtbpcgeanpkokkaaDoor
