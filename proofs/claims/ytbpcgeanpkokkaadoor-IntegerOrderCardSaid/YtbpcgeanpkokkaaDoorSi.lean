/- Contracts by value, calls, code on symbolic states. -/
import Derived.Test.YtbpcgeanpkokkaaDoorSh
import Derived.Deep.LoopGhost
namespace Go.Proofs.YtbpcgeanpkokkaaDoor
open Go.RowKit

/-- the value is the tree, which holds no own block; S: blocks that its cells lie in -/
def Rc (S : Nat → Prop) (w : World) (x : V) (v : Value) : Prop := R S (fun _ => 0) w (fun _ => False) x v
def AllC (S : Nat → Prop) (w : World) (xs : List V) (vs : List Value) : Prop := xs.length = vs.length ∧ ∀ (i : Nat) (x : V) (u : Value), xs[i]? = some x → vs[i]? = some u → Rc S w x u

theorem R.rho {S : Nat → Prop} {rho rho' : Nat → Nat} {w : World} {x : V} {v : Value} (h : R S rho w (fun _ => False) x v) : R S rho' w (fun _ => False) x v := h.mono (fun _ h => ⟨h, rfl⟩) (fun _ h => h.elim)

/-- The contract of a function, by value: called with values that are the trees args it returns a value that is the tree x, and of what was there nothing turns. -/
def Spec (P : Program) (f : Nat) (args : List V) (x : V) : Prop :=
  ∀ (S : Nat → Prop) (w : World) (vs : Array Value), (∀ b, S b → b < w.heap.size) → TabOK S w → AllC S w args vs.toList →
    Calls P f vs w (fun e w' => ∃ v, e = .returned v ∧ Grow w w' ∧ Rc (fun b => S b ∨ (w.heap.size ≤ b ∧ b < w'.heap.size)) w' x v)

/-- a function of Go text -/
def isGo (P : Program) (f : Nat) : Bool :=
  match P.funcs[f]? with
  | some fn => fn.body.isSome && !(fn.name == "runtime.NumGoroutine")
  | none => false
theorem callFunc_go {P : Program} {f : Nat} (h : isGo P f = true) (vs : Array Value) (w : World) : (callFunc f vs).run P w = .ok (.enter f vs) w := by
  unfold isGo at h
  split at h
  · rename_i fn hf
    simp only [Bool.and_eq_true, Bool.not_eq_true'] at h
    obtain ⟨h1, h2⟩ := h
    have h3 : fn.body ≠ none := by intro hb; simp [hb] at h1
    have h4 : fn.name ≠ "runtime.NumGoroutine" := by simpa using h2
    simp [callFunc, hf, h3, h4]
  · cases h

/-- no cells are looked at through the tree -/
def flat1 : V → Bool
  | .sc _ | .im [] _ => true
  | _ => false
def flat2 : V → Bool
  | .ag cs => cs.all flat1
  | x => flat1 x
def flat : V → Bool
  | .tu cs => cs.all flat2
  | x => flat2 x

section
variable {P : Program} {w : World} {B : Base} {S : Nat → Prop} {rho : Nat → Nat} {A : Nat → Prop} {s : SS} {a : Act}

theorem flat1_sound {S' : Nat → Prop} {x : V} {v : Value} (hf : flat1 x = true) (h : R S rho w A x v) : R S' rho w A x v := by
  cases h <;> simp [flat1] at hf
  · exact .sc _
  · exact .im0 ‹_› ‹_› ‹_›
  · rename_i cs len c b off f hl hm hS hc hx
    cases cs <;> simp at hf
    exact .im0 hl hm (by simp)
theorem flat2_sound {S' : Nat → Prop} {x : V} {v : Value} (hf : flat2 x = true) (h : R S rho w A x v) : R S' rho w A x v := by
  cases h with
  | ag hl hi => exact .ag hl fun i x u hx hu => flat1_sound (List.all_eq_true.1 hf x (List.mem_of_getElem? hx)) (hi i x u hx hu)
  | sc v => exact .sc _
  | im0 hl hm ha => exact .im0 hl hm ha
  | im1 f hl hm hS hc hx => exact flat1_sound hf (.im1 f hl hm hS hc hx)
  | _ => simp [flat2, flat1] at hf
theorem flat_sound {S' : Nat → Prop} {x : V} {v : Value} (hf : flat x = true) (h : R S rho w A x v) : R S' rho w A x v := by
  cases h with
  | tu hl hi => exact .tu hl fun i x u hx hu => flat2_sound (List.all_eq_true.1 hf x (List.mem_of_getElem? hx)) (hi i x u hx hu)
  | ag hl hi => exact flat2_sound hf (.ag hl hi)
  | sc v => exact .sc _
  | im0 hl hm ha => exact .im0 hl hm ha
  | im1 f hl hm hS hc hx => exact flat1_sound hf (.im1 f hl hm hS hc hx)
  | _ => simp [flat, flat2, flat1] at hf

def fzHp (hp : List (Nat × Blk)) (ids : List Nat) : List (Nat × Blk) := hp.map fun p => (p.1, if ids.contains p.1 then ⟨p.2.ty, p.2.cs, true⟩ else p.2)
theorem hget_fz (hp : List (Nat × Blk)) (ids : List Nat) (i : Nat) : hget (fzHp hp ids) i = (hget hp i).map fun k => if ids.contains i then ⟨k.ty, k.cs, true⟩ else k := by
  induction hp with
  | nil => rfl
  | cons p r ih =>
    obtain ⟨j, k⟩ := p
    simp only [fzHp, List.map_cons, hget] at ih ⊢
    by_cases h : i = j
    · subst h; simp
    · simp only [if_neg h]; exact ih

/-- own blocks that do not change any more from now on -/
theorem Mem.freeze {hp : List (Nat × Blk)} (hm : Mem B S rho A hp w) (ids : List Nat) (hl : ∀ id, id ∈ ids → ∃ k, hget hp id = some k) : Mem B (addS S rho A ids) rho A (fzHp hp ids) w := by
  have hS : ∀ b, S b → addS S rho A ids b ∧ w.heap[b]? = w.heap[b]? := fun b hb => ⟨.inl hb, rfl⟩
  have hA : ∀ id, A id → A id ∧ rho id = rho id ∧ ∀ n, szAt w (rho id) n → szAt w (rho id) n := fun id h => ⟨h, rfl, fun _ h => h⟩
  have hg : ∀ i q, hget (fzHp hp ids) i = some q → ∃ k, hget hp i = some k ∧ q.ty = k.ty ∧ q.cs = k.cs ∧ (ids.contains i = true → q.fz = true) ∧ (ids.contains i = false → q.fz = k.fz) := by
    intro i q hq
    rw [hget_fz] at hq
    obtain ⟨k, hk, rfl⟩ := Option.map_eq hq
    refine ⟨k, hk, ?_, ?_, ?_, ?_⟩
    · split <;> rfl
    · split <;> rfl
    · intro h; rw [if_pos h]
    · intro h; rw [if_neg (by rw [h]; simp)]
  exact {
    cells := fun i q hq ha => by
      obtain ⟨k, hk, h1, h2, _⟩ := hg i q hq
      obtain ⟨cells, c1, c2⟩ := (hm.cells i k hk ha).mono (S' := addS S rho A ids) rfl hS hA
      exact ⟨cells, by rw [h1]; exact c1, by rw [h2]; exact c2⟩
    fz := fun i q hq ha => by
      obtain ⟨k, hk, _, _, h3, h4⟩ := hg i q hq
      intro hq0
      cases hc : ids.contains i with
      | true => rw [h3 hc] at hq0; cases hq0
      | false =>
        rw [h4 hc] at hq0
        rintro (h | ⟨j, hj, haj, he⟩)
        · exact hm.fz i k hk ha hq0 h
        · obtain ⟨kj, hkj⟩ := hl j hj
          have := hm.inj j i kj k hkj hk haj ha he
          subst this
          simp at hc
          exact absurd hj hc
    own := fun i q hq ha => by obtain ⟨k, hk, _⟩ := hg i q hq; exact hm.own i k hk ha
    inj := fun i j q q' hi hj => by obtain ⟨k, hk, _⟩ := hg i q hi; obtain ⟨k', hk', _⟩ := hg j q' hj; exact hm.inj i j k k' hk hk'
    slt := fun b hb => by
      rcases hb with hb | ⟨j, hj, haj, rfl⟩
      · exact hm.slt b hb
      · obtain ⟨kj, hkj⟩ := hl j hj; exact hm.lt hkj haj
    sub := fun b hb => .inl (hm.sub b hb)
    base := fun b hb => by
      rcases hb with hb | ⟨j, hj, haj, rfl⟩
      · exact hm.base b hb
      · obtain ⟨kj, hkj⟩ := hl j hj; exact .inr (hm.own j kj hkj haj)
    frame := hm.frame
    keep := hm.keep }

/-- blocks that came do not change any more -/
theorem Mem.came {hp : List (Nat × Blk)} {w' : World} (hm : Mem B S rho A hp w) (g : Grow w w') : Mem B (fun b => S b ∨ (w.heap.size ≤ b ∧ b < w'.heap.size)) rho A hp w' where
  cells i k hk ha := (hm.cells i k hk ha).mono (g.block _ (hm.lt hk ha)) (fun b hb => ⟨.inl hb, g.block b (hm.slt b hb)⟩) (fun _ h => ⟨h, rfl, fun _ => g.szAt⟩)
  fz i k hk ha := by
    intro h0 h
    rcases h with h | h
    · exact hm.fz i k hk ha h0 h
    · have := hm.lt hk ha; omega
  own := hm.own
  inj := hm.inj
  slt b hb := hb.elim (fun h => Nat.lt_of_lt_of_le (hm.slt b h) g.size) (fun h => h.2)
  sub b hb := .inl (hm.sub b hb)
  base b hb := hb.elim (hm.base b) (fun h => .inr (.inl (Nat.le_trans hm.frame.size h.1)))
  frame := hm.frame.grow g
  keep := hm.keep

/-- the state behind a call by value -/
def SS.called (s : SS) (d : Option Nat) (x : V) (ids : List Nat) : SS := ⟨putS s.sl d x, if flat x then s.hp else fzHp s.hp ids, s.nx, s.nt⟩

theorem SOps.call {ops : Array Oper} {Q : Exit → SS → Prop} {o : Oper} {l : List Oper} {f : Nat} {args : Array Operand} {ts : Array TypeId} {ys : List V} {ids : List Nat} {x : V} (ho : o.op = .call ⟨.value (.func f), args, ts⟩) (hg : guardV ops s.sl o.guard = some true)
    (hd : dstOk o.dst s.nt = true) (hgo : isGo P f = true) (hf : frzAll (frz 8 s.hp) (args.toList.map (evS s.sl)) = some (ys, ids)) (hs : Spec P f ys x) (k : SOps P B ops l Q (s.called o.dst x ids)) : SOps P B ops (o :: l) Q s := by
  intro S rho A a w hr
  have hw := guard_sound hr.slots hg
  refine wpList_step fun K hK => ?_
  rw [if_pos hw]
  have hall := All.ev hr.mem.tab hr.slots args.toList
  obtain ⟨h1, h2⟩ := frzAll_sound (frz_sound hr.mem 8) hf hall
  have hmf := hr.mem.freeze ids h2
  have hrun : (execOp a.eval o).run P w = .ok (.enter f (args.map a.eval)) w := by
    simp only [execOp, ho, resolve, Act.eval, Deferred.ofValue, Sem.run_bind, Sem.run_pure, Result.andThen_ok, invoke]
    have := callFunc_go hgo (args.map a.eval) w
    simpa using this
  unfold Oper.wp
  rw [hrun]
  refine (hs (addS S rho A ids) w (args.map a.eval) hmf.slt hmf.tab ⟨by have := h1.1; simpa using this, fun i y u hy hu => (h1.2 i y u hy (by simpa using hu)).rho⟩).mono ?_
  rintro e w' ⟨v, rfl, g, hx⟩
  refine hK _ _ ?_
  have hA : ∀ id, A id → A id ∧ rho id = rho id ∧ ∀ n, szAt w (rho id) n → szAt w' (rho id) n := fun id h => ⟨h, rfl, fun _ => g.szAt⟩
  by_cases hfl : flat x = true
  · have hm' := hr.mem.came g
    refine k (fun b => S b ∨ (w.heap.size ≤ b ∧ b < w'.heap.size)) rho A _ _ ⟨slots_put hr.slots (by rw [hr.nt]; exact hd) (fun b hb => ⟨.inl hb, g.block b (hr.mem.slt b hb)⟩) hA (flat_sound hfl hx.rho.open), ?_, hr.alt, by rw [put_size]; exact hr.nt, by rw [put_defers]; exact hr.defs⟩
    show Mem B _ rho A (if flat x then s.hp else fzHp s.hp ids) w'
    rw [if_pos hfl]; exact hm'
  · have hm' := hmf.came g
    refine k (fun b => addS S rho A ids b ∨ (w.heap.size ≤ b ∧ b < w'.heap.size)) rho A _ _ ⟨slots_put hr.slots (by rw [hr.nt]; exact hd) (fun b hb => ⟨.inl (.inl hb), g.block b (hr.mem.slt b hb)⟩) hA hx.rho.open, ?_, hr.alt, by rw [put_size]; exact hr.nt, by rw [put_defers]; exact hr.defs⟩
    show Mem B _ rho A (if flat x then s.hp else fzHp s.hp ids) w'
    rw [if_neg hfl]; exact hm'

/-- what was handed over does not change any more, whatever comes back -/
def SS.calledF (s : SS) (d : Option Nat) (x : V) (ids : List Nat) : SS := ⟨putS s.sl d x, fzHp s.hp ids, s.nx, s.nt⟩
theorem SOps.callF {ops : Array Oper} {Q : Exit → SS → Prop} {o : Oper} {l : List Oper} {f : Nat} {args : Array Operand} {ts : Array TypeId} {ys : List V} {ids : List Nat} {x : V} (ho : o.op = .call ⟨.value (.func f), args, ts⟩) (hg : guardV ops s.sl o.guard = some true)
    (hd : dstOk o.dst s.nt = true) (hgo : isGo P f = true) (hf : frzAll (frz 8 s.hp) (args.toList.map (evS s.sl)) = some (ys, ids)) (hs : Spec P f ys x) (k : SOps P B ops l Q (s.calledF o.dst x ids)) : SOps P B ops (o :: l) Q s := by
  intro S rho A a w hr
  have hw := guard_sound hr.slots hg
  refine wpList_step fun K hK => ?_
  rw [if_pos hw]
  have hall := All.ev hr.mem.tab hr.slots args.toList
  obtain ⟨h1, h2⟩ := frzAll_sound (frz_sound hr.mem 8) hf hall
  have hmf := hr.mem.freeze ids h2
  have hrun : (execOp a.eval o).run P w = .ok (.enter f (args.map a.eval)) w := by
    simp only [execOp, ho, resolve, Act.eval, Deferred.ofValue, Sem.run_bind, Sem.run_pure, Result.andThen_ok, invoke]
    have := callFunc_go hgo (args.map a.eval) w
    simpa using this
  unfold Oper.wp
  rw [hrun]
  refine (hs (addS S rho A ids) w (args.map a.eval) hmf.slt hmf.tab ⟨by have := h1.1; simpa using this, fun i y u hy hu => (h1.2 i y u hy (by simpa using hu)).rho⟩).mono ?_
  rintro e w' ⟨v, rfl, g, hx⟩
  refine hK _ _ ?_
  have hA : ∀ id, A id → A id ∧ rho id = rho id ∧ ∀ n, szAt w (rho id) n → szAt w' (rho id) n := fun id h => ⟨h, rfl, fun _ => g.szAt⟩
  have hm' := hmf.came g
  exact k (fun b => addS S rho A ids b ∨ (w.heap.size ≤ b ∧ b < w'.heap.size)) rho A _ _ ⟨slots_put hr.slots (by rw [hr.nt]; exact hd) (fun b hb => ⟨.inl (.inl hb), g.block b (hr.mem.slt b hb)⟩) hA hx.rho.open, hm', hr.alt, by rw [put_size]; exact hr.nt, by rw [put_defers]; exact hr.defs⟩

/-! ### code -/
/-- code from a symbolic state on -/
def SWp (P : Program) (B : Base) (c : Code) (Q : Exit → SS → Prop) (s : SS) : Prop := ∀ S rho A a w, Rel B S rho A s a w → c.wp P (Post B Q) a w

/-- behind the first half -/
def thenQ (K : SS → Prop) (Q : Exit → SS → Prop) : Exit → SS → Prop
  | .normal, s => K s
  | e, s => Q e s
def blockQ (id : Nat) (Q : Exit → SS → Prop) : Exit → SS → Prop
  | .exit id', s => if id' = id then Q .normal s else Q (.exit id') s
  | e, s => Q e s

theorem SWp.seq {x y : Code} {Q : Exit → SS → Prop} (h : ∀ K : SS → Prop, (∀ s, SWp P B y Q s → K s) → SWp P B x (thenQ K Q) s) : SWp P B (.seq x y) Q s := by
  intro S rho A a w hr
  refine wp_seq (wp_mono (h (SWp P B y Q) (fun _ h => h) S rho A a w hr) ?_)
  rintro e a w ⟨S, rho, A, s, hq, hr⟩
  cases e <;> first | exact hq S rho A a w hr | exact ⟨S, rho, A, s, hq, hr⟩
theorem SWp.mono {c : Code} {Q Q' : Exit → SS → Prop} (h : SWp P B c Q s) (hq : ∀ e s, Q e s → Q' e s) : SWp P B c Q' s :=
  fun S rho A a w hr => wp_mono (h S rho A a w hr) fun _ _ _ ⟨S, rho, A, s, h1, h2⟩ => ⟨S, rho, A, s, hq _ _ h1, h2⟩
theorem SWp.skip {Q : Exit → SS → Prop} (h : Q .normal s) : SWp P B .skip Q s := fun S rho A _ _ hr => wp_skip ⟨S, rho, A, s, h, hr⟩
theorem SWp.exit {id : Nat} {Q : Exit → SS → Prop} (h : Q (.exit id) s) : SWp P B (.exit id) Q s := fun S rho A _ _ hr => wp_exit ⟨S, rho, A, s, h, hr⟩
theorem SWp.ret {Q : Exit → SS → Prop} (h : Q .ret s) : SWp P B .ret Q s := fun S rho A _ _ hr => wp_ret ⟨S, rho, A, s, h, hr⟩
theorem SWp.label {l : Nat} {Q : Exit → SS → Prop} (h : Q .normal s) : SWp P B (.label l) Q s := fun S rho A _ _ hr => wp_label ⟨S, rho, A, s, h, hr⟩
theorem SWp.region {id : Nat} {l : List Oper} {Q : Exit → SS → Prop} (h : SOps P B l.toArray l Q s) : SWp P B (.region id l.toArray false) Q s := fun S rho A a w hr => wp_region_lit (h S rho A a w hr)
theorem SWp.cond {c : Operand} {x y : Code} {Q : Exit → SS → Prop} {t : Bool} (hc : evS s.sl c = .sc (.bool t)) (h1 : t = true → SWp P B x Q s) (h2 : t = false → SWp P B y Q s) : SWp P B (.cond c x y) Q s := by
  intro S rho A a w hr
  have hv := ev_sound hr.mem.tab hr.slots c
  rw [hc] at hv
  have he : a.eval c = .bool t := by generalize a.eval c = u at hv ⊢; cases hv; rfl
  exact wp_cond_split he (fun ht => h1 ht S rho A a w hr) (fun ht => h2 ht S rho A a w hr)
theorem SWp.block {id : Nat} {c : Code} {Q : Exit → SS → Prop} (h : SWp P B c (blockQ id Q) s) : SWp P B (.block id c) Q s := by
  intro S rho A a w hr
  refine wp_block (wp_mono (h S rho A a w hr) ?_)
  rintro e a w ⟨S, rho, A, s, hq, hr⟩
  cases e <;> first | exact ⟨S, rho, A, s, hq, hr⟩ | skip
  rename_i id'
  simp only [blockQ] at hq
  simp only [Exit.inBlock]
  split at hq
  · rename_i h; rw [if_pos h]; exact ⟨S, rho, A, s, hq, hr⟩
  · rename_i h; rw [if_neg h]; exact ⟨S, rho, A, s, hq, hr⟩
def scopeQ (Q : Exit → SS → Prop) : Exit → SS → Prop
  | .goto _, _ => False
  | e, s => Q e s
theorem SWp.scope {c : Code} {Q : Exit → SS → Prop} (h : SWp P B c (scopeQ Q) s) : SWp P B (.scope c) Q s := by
  intro S rho A a w hr
  refine wp_scope_straight (wp_mono (h S rho A a w hr) ?_)
  rintro e a w ⟨S, rho, A, s, hq, hr⟩
  cases e <;> first | exact ⟨S, rho, A, s, hq, hr⟩ | exact hq.elim

/-! ### weaker states -/
/-- the symbolic state s' says no more than s -/
def Le (B : Base) (s s' : SS) : Prop := ∀ S rho A a w, Rel B S rho A s a w → ∃ rho' A', Rel B S rho' A' s' a w
theorem Le.refl (B : Base) (s : SS) : Le B s s := fun _ rho A _ _ h => ⟨rho, A, h⟩
theorem SWp.weak {c : Code} {Q : Exit → SS → Prop} {s' : SS} (h : Le B s s') (k : SWp P B c Q s') : SWp P B c Q s := fun S rho A a w hr => let ⟨rho', A', hr'⟩ := h S rho A a w hr; k S rho' A' a w hr'

theorem SWp.loop {α : Type} {c : Code} {Q : Exit → SS → Prop} (I : α → SS) (Inv : α → Prop) (mu : α → Nat) (x0 : α) (h0 : Le B s (I x0)) (hi : Inv x0)
    (round : ∀ x, Inv x → ∀ K : SS → Prop, (∀ s' x', Le B s' (I x') → Inv x' → mu x' < mu x → K s') → SWp P B c (thenQ K Q) (I x)) : SWp P B (.loop c) Q s := by
  intro S rho A a w hr
  refine wp_loop_ghost (fun n a w => ∃ x S rho A, mu x = n ∧ Inv x ∧ Rel B S rho A (I x) a w) (mu x0) ?_ ?_
  · obtain ⟨rho', A', hr'⟩ := h0 S rho A a w hr
    exact ⟨x0, S, rho', A', rfl, hi, hr'⟩
  · rintro n a w ⟨x, S, rho, A, rfl, hx, hr⟩
    refine wp_mono (round x hx (fun s' => ∃ x', Le B s' (I x') ∧ Inv x' ∧ mu x' < mu x) (fun s' x' h1 h2 h3 => ⟨x', h1, h2, h3⟩) S rho A a w hr) ?_
    rintro e a w ⟨S, rho, A, s, hq, hr⟩
    cases e with
    | normal =>
      obtain ⟨x', h1, h2, h3⟩ := hq
      obtain ⟨rho', A', hr'⟩ := h1 S rho A a w hr
      exact ⟨mu x', h3, x', S, rho', A', rfl, h2, hr'⟩
    | _ => exact ⟨S, rho, A, s, hq, hr⟩

/-! ### results -/
def resV1 (P : Program) (s : SS) : ResultVar → Option V
  | .tmp t => some (get s.sl t)
  | .cell p ty => exLoad P s.hp ty (get s.sl p)
def resV (P : Program) (fn : Func) (s : SS) : Option V :=
  match fn.results.toList with
  | [] => some (.tu [])
  | [r] => resV1 P s r
  | [r, q] => (resV1 P s r).bind fun x => (resV1 P s q).map fun y => .tu [x, y]
  | [r, q, t] => (resV1 P s r).bind fun x => (resV1 P s q).bind fun y => (resV1 P s t).map fun z => .tu [x, y, z]
  | _ => none

def resOne (tmps : Array Value) : ResultVar → Sem Value
  | .tmp t => pure (tmps.getD t undef)
  | .cell p t => do loadVar t (← asAddr (tmps.getD p undef))
theorem results_eq (fn : Func) (tmps : Array Value) : results fn tmps = (do let vs ← fn.results.mapM (resOne tmps); pure (if h : vs.size = 1 then vs[0] else .tuple vs)) := by
  unfold results
  congr 1
theorem res1_sound (hr : Rel B S rho A s a w) {r : ResultVar} {x : V} (h : resV1 P s r = some x) : ∃ v, (resOne a.tmps r).run P w = .ok v w ∧ R S rho w A x v := by
  cases r with
  | tmp t => simp only [resV1, Option.some.injEq] at h; subst h; exact ⟨_, rfl, hr.slots t⟩
  | cell p ty =>
    simp only [resV1] at h
    have hp := hr.slots p
    have he : a.eval (.tmp p) = a.tmps.getD p undef := rfl
    rw [he] at hp
    obtain ⟨v, h1, h2⟩ := load_sound (P := P) hr.mem h hp
    refine ⟨v, ?_, h2⟩
    show Sem.run P (do loadVar ty (← asAddr (a.tmps.getD p undef))) w = _
    generalize a.tmps.getD p undef = u at h1 hp ⊢
    cases u <;> simp only [Instr.loadAt, Instr.sureAddr, Sem.run_bind] at h1 <;> try (cases h1; done)
    rename_i ad
    cases ad with
    | none => cases h1
    | some ad => simpa [asAddr, Sem.run_bind] using h1

theorem res_sound {fn : Func} (hr : Rel B S rho A s a w) {x : V} (h : resV P fn s = some x) : ∃ v, (results fn a.tmps).run P w = .ok v w ∧ R S rho w A x v := by
  rw [results_eq]
  unfold resV at h
  split at h
  · rename_i hl
    have hl' : fn.results = ([] : List ResultVar).toArray := by rw [← hl]
    rw [hl']
    cases h
    exact ⟨_, by simp; rfl, .tu (by simp) (fun i x u hx => by simp at hx)⟩
  · rename_i r hl
    have hl' : fn.results = [r].toArray := by rw [← hl]
    rw [hl']
    obtain ⟨v, h1, h2⟩ := res1_sound (P := P) hr h
    refine ⟨v, ?_, h2⟩
    simp [Array.mapM_eq_mapM_toList, h1]
  · rename_i r q hl
    have hl' : fn.results = [r, q].toArray := by rw [← hl]
    rw [hl']
    cases hx : resV1 P s r with
    | none => simp [hx] at h
    | some x1 =>
      cases hy : resV1 P s q with
      | none => simp [hx, hy] at h
      | some y1 =>
        simp only [hx, hy, Option.bind_some, Option.map_some, Option.some.injEq] at h
        subst h
        obtain ⟨v, h1, h2⟩ := res1_sound (P := P) hr hx
        obtain ⟨u, h3, h4⟩ := res1_sound (P := P) hr hy
        refine ⟨.tuple #[v, u], ?_, .tu (by simp) (fun i x w hx hu => ?_)⟩
        · simp [Array.mapM_eq_mapM_toList, h1, h3]
        · match i with
          | 0 => simp at hx hu; subst hx; subst hu; exact h2
          | 1 => simp at hx hu; subst hx; subst hu; exact h4
          | n + 2 => simp at hx
  · rename_i r q t hl
    have hl' : fn.results = [r, q, t].toArray := by rw [← hl]
    rw [hl']
    cases hx : resV1 P s r with
    | none => simp [hx] at h
    | some x1 =>
      cases hy : resV1 P s q with
      | none => simp [hx, hy] at h
      | some y1 =>
        cases hz : resV1 P s t with
        | none => simp [hx, hy, hz] at h
        | some z1 =>
          simp only [hx, hy, hz, Option.bind_some, Option.map_some, Option.some.injEq] at h
          subst h
          obtain ⟨v, h1, h2⟩ := res1_sound (P := P) hr hx
          obtain ⟨u, h3, h4⟩ := res1_sound (P := P) hr hy
          obtain ⟨m, h5, h6⟩ := res1_sound (P := P) hr hz
          refine ⟨.tuple #[v, u, m], ?_, .tu (by simp) (fun i x w hx hu => ?_)⟩
          · simp [Array.mapM_eq_mapM_toList, h1, h3, h5]
          · match i with
            | 0 => simp at hx hu; subst hx; subst hu; exact h2
            | 1 => simp at hx hu; subst hx; subst hu; exact h4
            | 2 => simp at hx hu; subst hx; subst hu; exact h6
            | n + 3 => simp at hx
  · cases h

/-! ### entering a function -/
/-- the slots of the parameters -/
def stSl : Nat → List V → List (Nat × V)
  | _, [] => []
  | k, x :: r => (k, x) :: stSl (k + 1) r
/-- the symbolic state as a call by value begins -/
def SS.start (args : List V) (n : Nat) : SS := ⟨stSl 0 args, [], 0, n⟩

theorem get_start (xs : List V) (k t : Nat) : get (stSl k xs) t = if k ≤ t then (xs[t - k]?).getD .junk else .junk := by
  induction xs generalizing k with
  | nil => simp [get, stSl]
  | cons x r ih =>
    simp only [get, stSl]
    by_cases h : t = k
    · subst h; simp
    · rw [if_neg h, ih]
      by_cases hk : k ≤ t
      · rw [if_pos (by omega), if_pos hk]
        have : t - k = (t - (k + 1)) + 1 := by omega
        rw [this]; rfl
      · rw [if_neg (by omega), if_neg hk]

/-- what a call by value ends in -/
def retQ (P : Program) (fn : Func) (x : V) : Exit → SS → Prop
  | .normal, s | .ret, s => ∃ y ids, resV P fn s = some y ∧ frz 8 s.hp y = some (x, ids)
  | _, _ => False

theorem Spec.of {f : Nat} {fn : Func} {c : Code} {args : List V} {x : V} (hf : P.funcs[f]? = some fn) (hb : fn.body = some c) (hn : args.length ≤ fn.ntmps) (h : ∀ B : Base, B.Old 0 → SWp P B c (retQ P fn x) (SS.start args fn.ntmps)) : Spec P f args x := by
  intro S w vs hS hT hargs
  have hlen : vs.size = args.length := by have := hargs.1; simpa using this.symm
  refine calls_of_wp hf hb ?_
  refine wp_mono (h ⟨w, S, fun _ => False, fun _ => 0, fun _ => False⟩ (fun _ h => h.elim) S (fun _ => 0) (fun _ => False) _ w ?_) ?_
  · refine ⟨fun t => ?_, ?_, fun _ h => h.elim, ?_, rfl⟩
    · show R S (fun _ => 0) w (fun _ => False) (get (stSl 0 args) t) _
      rw [get_start, if_pos (Nat.zero_le _), Nat.sub_zero]
      cases ht : args[t]? with
      | none => exact .junk _
      | some y =>
        have hlt := (List.getElem?_eq_some_iff.1 ht).1
        have hu : vs.toList[t]? = some (vs[t]'(by omega)) := by simp [hlen, hlt]
        have := hargs.2 t y _ ht hu
        have he : (⟨vs ++ Array.replicate (fn.ntmps - vs.size) undef, []⟩ : Act).eval (.tmp t) = vs[t]'(by omega) := by
          simp [Act.eval, Array.getElem?_append, hlen, hlt]
        rw [he]; exact this
    · exact {
        cells := fun id k hk => by cases hk
        fz := fun id k hk => by cases hk
        own := fun id k hk => by cases hk
        inj := fun id id' k k' hk => by cases hk
        slt := hS
        sub := fun _ h => h
        base := fun _ h => .inl h
        frame := ⟨rfl, rfl, rfl, Nat.le_refl _, fun _ _ _ => rfl, fun _ _ => rfl, fun _ _ h => h, hS, hT⟩
        keep := fun id h => h.elim }
    · simp [SS.start]; omega
  · rintro e a w' ⟨S', rho, A, s, hq, hr⟩
    have fin : (∃ y ids, resV P fn s = some y ∧ frz 8 s.hp y = some (x, ids)) → a.defers = [] ∧ ∃ v, (results fn a.tmps).run P w' = .ok v w' ∧ ∃ v', Ending.returned v = .returned v' ∧ Grow w w' ∧ Rc (fun b => S b ∨ (w.heap.size ≤ b ∧ b < w'.heap.size)) w' x v' := by
      rintro ⟨y, ids, h1, h2⟩
      obtain ⟨v, h3, h4⟩ := res_sound (P := P) hr h1
      have h5 := frz_sound hr.mem 8 y v x ids h2 h4
      have hmf := hr.mem.freeze ids h5.live
      refine ⟨hr.defs, v, h3, v, rfl, ⟨hr.mem.frame.os, hr.mem.frame.tape, hr.mem.frame.output, hr.mem.frame.size, fun b hb => hr.mem.frame.block b hb (fun h => h)⟩, ?_⟩
      refine (h5.rep.wide fun b hb => ?_).rho
      rcases hmf.base b hb with h | h | h
      · exact .inl h
      · exact .inr ⟨h, hmf.slt b hb⟩
      · exact h.elim
    cases e with
    | normal => exact fin hq
    | ret => exact fin hq
    | _ => exact hq.elim
end
end Go.Proofs.YtbpcgeanpkokkaaDoor
