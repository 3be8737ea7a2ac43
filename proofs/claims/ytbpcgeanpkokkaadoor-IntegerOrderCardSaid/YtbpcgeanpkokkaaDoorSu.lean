/- Calls that share their caller's own blocks; function values. -/
import Derived.Test.YtbpcgeanpkokkaaDoorSt
import Derived.Test.YtbpcgeanpkokkaaDoorSk
namespace Go.Proofs.YtbpcgeanpkokkaaDoor
open Go.RowKit

section
variable {P : Program} {w : World} {B : Base} {S : Nat → Prop} {rho : Nat → Nat} {A : Nat → Prop} {s : SS} {a : Act}

/-- the base of a call that works on its caller's own blocks -/
def Base.inner (S : Nat → Prop) (rho : Nat → Nat) (A : Nat → Prop) (hp : List (Nat × Blk)) (w : World) : Base := ⟨w, S, A, rho, fun b => ∃ id k, hget hp id = some k ∧ A id ∧ rho id = b⟩

theorem Mem.inner {hp : List (Nat × Blk)} (h : Mem B S rho A hp w) : Mem (Base.inner S rho A hp w) S rho A hp w where
  cells := h.cells
  fz := h.fz
  own id k hk ha := .inr ⟨id, k, hk, ha, rfl⟩
  inj := h.inj
  slt := h.slt
  sub _ hb := hb
  base _ hb := .inl hb
  frame := ⟨rfl, rfl, rfl, Nat.le_refl _, fun _ _ _ => rfl, fun _ _ => rfl, fun _ _ h => h, h.slt, h.tab⟩
  keep _ h := ⟨h, rfl⟩

theorem Mem.back {hp hp' : List (Nat × Blk)} {w' : World} {S' : Nat → Prop} {rho' : Nat → Nat} {A' : Nat → Prop} (h : Mem B S rho A hp w) (k : Mem (Base.inner S rho A hp w) S' rho' A' hp' w') : Mem B S' rho' A' hp' w' := by
  have hL : ∀ b, (Base.inner S rho A hp w).L b → B.n0 ≤ b ∨ B.L b := by
    rintro b ⟨id, q, hq, ha, rfl⟩
    exact h.own id q hq ha
  have hn : ∀ b, w.heap.size ≤ b → B.n0 ≤ b := fun b hb => Nat.le_trans h.frame.size hb
  exact {
    cells := k.cells
    fz := k.fz
    own := fun id q hq ha => (k.own id q hq ha).elim (fun h => .inl (hn _ h)) (hL _)
    inj := k.inj
    slt := k.slt
    sub := fun b hb => k.sub b (h.sub b hb)
    base := fun b hb => by
      rcases k.base b hb with h1 | h1 | h1
      · exact h.base b h1
      · exact .inr (.inl (hn _ h1))
      · exact .inr (hL _ h1)
    frame := {
      os := k.frame.os.trans h.frame.os
      tape := k.frame.tape.trans h.frame.tape
      output := k.frame.output.trans h.frame.output
      size := Nat.le_trans h.frame.size k.frame.size
      block := fun b hb hl => by
        have h1 : ¬ (Base.inner S rho A hp w).L b := fun hh => by
          rcases hL b hh with h2 | h2
          · unfold Base.n0 at h2; omega
          · exact hl h2
        exact (k.frame.block b (Nat.lt_of_lt_of_le hb h.frame.size) h1).trans (h.frame.block b hb hl)
      stay := fun b hb => (k.frame.stay b (h.sub b hb)).trans (h.frame.stay b hb)
      sz := fun b n hk => k.frame.sz b n (h.frame.sz b n hk)
      lt := h.frame.lt
      tab := h.frame.tab }
    keep := fun id hid => by
      obtain ⟨h1, h2⟩ := h.keep id hid
      obtain ⟨h3, h4⟩ := k.keep id h1
      exact ⟨h3, h4.trans h2⟩ }

/-- a value and own blocks behind a call -/
def vst (x : V) (hp : List (Nat × Blk)) (nx : Nat) : SS := ⟨[(0, x)], hp, nx, 1⟩

/-- what such a call ends in -/
def retI (P : Program) (fn : Func) (B : Base) (x : V) (hp : List (Nat × Blk)) (nx : Nat) : Exit → SS → Prop
  | .normal, s | .ret, s => ∃ y, resV P fn s = some y ∧ Le B (vst y s.hp s.nx) (vst x hp nx)
  | _, _ => False

/-- The contract of a function that works on its caller's own blocks: called with args where these are hp it returns x, and they are hp' then. -/
def Inl (P : Program) (f : Nat) (args : List V) (hp : List (Nat × Blk)) (nx : Nat) (x : V) (hp' : List (Nat × Blk)) (nx' : Nat) : Prop :=
  ∃ fn c, P.funcs[f]? = some fn ∧ fn.body = some c ∧ args.length ≤ fn.ntmps ∧ ∀ B : Base, B.Old nx → SWp P B c (retI P fn B x hp' nx') ⟨stSl 0 args, hp, nx, fn.ntmps⟩

/-- the function behind a value, what is bound ahead of the arguments, what behind them -/
def fnOf : V → Option (Nat × List V × List V)
  | .sc (.func (.func f) p q) => some (f, p.toList.map .sc, q.toList.map .sc)
  | .fn (.func f) p q => some (f, p, q)
  | _ => none
theorem All.scs (l : List Value) : All S rho A w (l.map .sc) l := ⟨by simp, fun i x u hx hu => by
  rw [List.getElem?_map, hu] at hx
  cases hx; exact .sc _⟩
theorem fn_sound {x : V} {v : Value} {f : Nat} {p q : List V} (h : fnOf x = some (f, p, q)) (hx : R S rho w A x v) : ∃ ps qs : Array Value, v = .func (.func f) ps qs ∧ All S rho A w p ps.toList ∧ All S rho A w q qs.toList := by
  unfold fnOf at h
  split at h
  · cases h
    cases hx
    exact ⟨_, _, rfl, All.scs _, All.scs _⟩
  · cases h
    cases hx with | fn hp hq h1 h2 =>
    exact ⟨_, _, rfl, ⟨by simpa using hp, fun i x u hx hu => h1 i x u hx (by simpa using hu)⟩, ⟨by simpa using hq, fun i x u hx hu => h2 i x u hx (by simpa using hu)⟩⟩
  · cases h

theorem start_slots {args : List V} {vs : Array Value} {n : Nat} (h : All S rho A w args vs.toList) (t : Nat) : R S rho w A (get (stSl 0 args) t) ((⟨vs ++ Array.replicate (n - vs.size) undef, []⟩ : Act).eval (.tmp t)) := by
  rw [get_start, if_pos (Nat.zero_le _), Nat.sub_zero]
  cases ht : args[t]? with
  | none => exact .junk _
  | some y =>
    have hlt := (List.getElem?_eq_some_iff.1 ht).1
    have hlen : vs.size = args.length := by have := h.1; simpa using this.symm
    have hu : vs.toList[t]? = some (vs[t]'(by omega)) := by simp [hlen, hlt]
    have := h.2 t y _ ht hu
    have he : (⟨vs ++ Array.replicate (n - vs.size) undef, []⟩ : Act).eval (.tmp t) = vs[t]'(by omega) := by
      simp [Act.eval, Array.getElem?_append, hlen, hlt]
    rw [he]; exact this

theorem Inl.calls {f : Nat} {args : List V} {hp hp' : List (Nat × Blk)} {nx nx' : Nat} {x : V} {vs : Array Value} (h : Inl P f args hp nx x hp' nx') (hm : Mem B S rho A hp w) (ha : ∀ id, A id → id < nx) (hv : All S rho A w args vs.toList) :
    Calls P f vs w fun e w' => ∃ v, e = .returned v ∧ ∃ S' rho' A', (∀ b, S b → S' b ∧ w'.heap[b]? = w.heap[b]?) ∧ (∀ id, A id → A' id ∧ rho' id = rho id ∧ ∀ n, szAt w (rho id) n → szAt w' (rho id) n) ∧
      Mem B S' rho' A' hp' w' ∧ (∀ id, A' id → id < nx') ∧ R S' rho' w' A' x v := by
  obtain ⟨fn, c, hf, hb, hn, hI⟩ := h
  have hlen : vs.size = args.length := by have := hv.1; simpa using this.symm
  refine calls_of_wp hf hb (wp_mono (hI (Base.inner S rho A hp w) ha S rho A _ w ⟨start_slots hv, hm.inner, ha, ?_, rfl⟩) ?_)
  · simp; omega
  · rintro e a1 w' ⟨S', rho', A', s', hq, hr⟩
    have fin : (∃ y, resV P fn s' = some y ∧ Le (Base.inner S rho A hp w) (vst y s'.hp s'.nx) (vst x hp' nx')) → a1.defers = [] ∧ ∃ v, (results fn a1.tmps).run P w' = .ok v w' ∧ ∃ v', Ending.returned v = .returned v' ∧
        ∃ S' rho' A', (∀ b, S b → S' b ∧ w'.heap[b]? = w.heap[b]?) ∧ (∀ id, A id → A' id ∧ rho' id = rho id ∧ ∀ n, szAt w (rho id) n → szAt w' (rho id) n) ∧ Mem B S' rho' A' hp' w' ∧ (∀ id, A' id → id < nx') ∧ R S' rho' w' A' x v' := by
      rintro ⟨y, h1, h2⟩
      obtain ⟨v, h3, h4⟩ := res_sound (P := P) hr h1
      obtain ⟨rho2, A2, h5⟩ := h2 S' rho' A' ⟨#[v], []⟩ w' ⟨fun t => by
        simp only [vst, get]
        by_cases e : t = 0
        · subst e; rw [if_pos rfl]; exact h4
        · rw [if_neg e]; exact .junk _, hr.mem, hr.alt, rfl, rfl⟩
      have h6 := h5.slots 0
      refine ⟨hr.defs, v, h3, v, rfl, S', rho2, A2, fun b hb => ⟨h5.mem.sub b hb, h5.mem.frame.stay b hb⟩, fun id hid => ?_, hm.back h5.mem, h5.alt, h6⟩
      obtain ⟨k1, k2⟩ := h5.mem.keep id hid
      exact ⟨k1, k2, fun n hn => h5.mem.frame.sz _ n hn⟩
    cases e with
    | normal => exact fin hq
    | ret => exact fin hq
    | _ => exact hq.elim

theorem SOps.inl {ops : Array Oper} {Q : Exit → SS → Prop} {o : Oper} {l : List Oper} {g : Operand} {f : Nat} {p q : List V} {args : Array Operand} {ts : Array TypeId} {x : V} {hp' : List (Nat × Blk)} {nx' : Nat} (ho : o.op = .call ⟨.value g, args, ts⟩) (hg : guardV ops s.sl o.guard = some true)
    (hd : dstOk o.dst s.nt = true) (hfn : fnOf (evS s.sl g) = some (f, p, q)) (hgo : isGo P f = true) (hI : Inl P f (p ++ args.toList.map (evS s.sl) ++ q) s.hp s.nx x hp' nx') (k : SOps P B ops l Q ⟨putS s.sl o.dst x, hp', nx', s.nt⟩) : SOps P B ops (o :: l) Q s := by
  intro S rho A a w hr
  have hw := guard_sound hr.slots hg
  refine wpList_step fun K hK => ?_
  rw [if_pos hw]
  obtain ⟨ps, qs, he, hps, hqs⟩ := fn_sound hfn (ev_sound hr.mem.tab hr.slots g)
  have hrun : (execOp a.eval o).run P w = .ok (.enter f (ps ++ args.map a.eval ++ qs)) w := by
    simp only [execOp, ho, resolve, he, Deferred.ofValue, Sem.run_bind, Sem.run_pure, Result.andThen_ok, invoke]
    exact callFunc_go hgo _ w
  unfold Oper.wp
  rw [hrun]
  refine (hI.calls hr.mem hr.alt (vs := ps ++ args.map a.eval ++ qs) ?_).mono ?_
  · have := (hps.append (All.ev hr.mem.tab hr.slots args.toList)).append hqs
    simpa using this
  · rintro e w' ⟨v, rfl, S', rho', A', h1, h2, h3, h4, h5⟩
    refine hK _ _ (k S' rho' A' _ _ ⟨slots_put hr.slots (by rw [hr.nt]; exact hd) h1 h2 h5, h3, h4, by rw [put_size]; exact hr.nt, by rw [put_defers]; exact hr.defs⟩)
end
end Go.Proofs.YtbpcgeanpkokkaaDoor
