/- The law on regions that draw their order. -/
import Derived.Test.YtbpcgeanpkokkaaDoorSq
namespace Go.Proofs.YtbpcgeanpkokkaaDoor
open Go.RowKit

section
variable {P : Program} {l : List Oper} {st : Nat → SS} {en : Nat → En}

theorem DStep.born {ops : Array Oper} {o : Oper} {s s' : SS} {e : En} (h : DStep P ops o s e s') {id : Nat} {k' : Blk} (hk : hget s'.hp id = some k') : (∃ k, hget s.hp id = some k) ∨ id = s.nx := by
  obtain ⟨_, ⟨f, hg, hok, he, rfl, htg, htc, hna⟩ | ⟨_, _, _, _, rfl⟩ | ⟨f, args, ts, ys, _, _, _, _, _, rfl, _⟩⟩ := h
  · cases f with
    | none => exact .inl ⟨k', hk⟩
    | new k0 =>
      have hk : hget ((s.nx, k0) :: s.hp) id = some k' := hk
      simp only [hget] at hk
      by_cases e : id = s.nx
      · exact .inr e
      · rw [if_neg e] at hk; exact .inl ⟨k', hk⟩
    | set i k0 =>
      have hk : hget (hset s.hp i k0) id = some k' := hk
      rw [hget_hset] at hk
      by_cases e : id = i
      · subst e
        rw [if_pos rfl] at hk
        obtain ⟨k, h1, _⟩ := Option.map_eq hk
        exact .inl ⟨k, h1⟩
      · rw [if_neg e] at hk; exact .inl ⟨k', hk⟩
    | app i k0 => cases hna
  · exact .inl ⟨k', hk⟩
  · have hk : hget (if flat e.x then s.hp else fzHp s.hp e.tc) id = some k' := hk
    by_cases hf : flat e.x = true
    · rw [if_pos hf] at hk; exact .inl ⟨k', hk⟩
    · rw [if_neg hf, hget_fz] at hk
      obtain ⟨k, h1, _⟩ := Option.map_eq hk
      exact .inl ⟨k, h1⟩
theorem DRun.born (h : DRun P l st en) {id : Nat} (hid : id < (st 0).nx) : ∀ j, j ≤ l.length → ∀ k', hget (st j).hp id = some k' → ∃ k, hget (st 0).hp id = some k
  | 0, _, k', hk => ⟨k', hk⟩
  | j + 1, hj, k', hk => by
    obtain ⟨o, ho⟩ := getL (l := l) (i := j) (by omega)
    rcases (h.step j o ho).born hk with ⟨k, h1⟩ | h1
    · exact h.born hid j (by omega) k h1
    · have := h.nx 0 j (by omega) (by omega); omega

def addL (L : Nat → Bool) (i : Nat) : Nat → Bool := fun j => if j = i then true else L j

/-- where the next operation changes no such block nothing turns in the words for it -/
theorem next_same {L : Nat → Bool} {i id : Nat} (hi : L i = false) (ht : (en i).tg ≠ some id) : nextC l.length en (addL L i) id = nextC l.length en L id := by
  refine nextC_eq (nextC_le _ _ _) (fun m hm hmt => ?_) (fun hq => ?_)
  · have := nextC_lt hm hmt
    unfold addL; split
    · rfl
    · exact this
  · obtain ⟨a, b⟩ := nextC_at hq
    refine ⟨a, ?_⟩
    unfold addL
    rw [if_neg (fun e => ht (by rw [← e]; exact a))]
    exact b

theorem guard_restr {ops : Array Oper} {o : Oper} (sl : List (Nat × V)) : guardV ops (restr sl (o.looksAt ops)) o.guard = guardV ops sl o.guard := by
  cases hg : o.guard with
  | none => rfl
  | some p =>
    obtain ⟨j, want⟩ := p
    simp only [guardV]
    cases hd : (ops[j]?).bind (·.dst) with
    | none => rfl
    | some d =>
      have : d ∈ o.looksAt ops := by
        unfold Oper.looksAt
        rw [List.mem_append]
        refine .inr ?_
        rw [hg]; simp [hd]
      simp only [get_restr, if_pos this]
theorem ev_restr {ops : Array Oper} {o : Oper} (sl : List (Nat × V)) {y : Operand} (hy : y ∈ o.op.operands.toList) : evS (restr sl (o.looksAt ops)) y = evS sl y := by
  cases y with
  | tmp t =>
    have : t ∈ o.looksAt ops := by
      unfold Oper.looksAt
      rw [List.mem_append]
      exact .inl (List.mem_filterMap.2 ⟨.tmp t, hy, rfl⟩)
    simp only [evS, get_restr, if_pos this]
  | _ => rfl

theorem eval_put_same (a : Act) {t : Nat} (v : Value) (h : t < a.tmps.size) : (a.put (some t) v).eval (.tmp t) = v := by simp [Act.eval, Act.put, h]
theorem eval_put_other (a : Act) {d : Option Nat} {t : Nat} (v : Value) (h : d ≠ some t) : (a.put d v).eval (.tmp t) = a.eval (.tmp t) := Act.eval_put (by intro d' hd' e; cases e; exact h hd')

/-- the next operation has run -/
theorem DInv.next {B : Base} {L : Nat → Bool} {S S' : Nat → Prop} {rho rho' : Nat → Nat} {A A' : Nat → Prop} {a : Act} {w w' : World} (h : DRun P l st en) (hI : DInv B l st en L S rho A a w) {i : Nat} {o : Oper} (ho : l[i]? = some o)
    (hd : ∀ m, depB l.toArray i m = true → L m = true) {v : Value} (hdst : dstOk o.dst (st i).nt = true) (hS : ∀ b, S b → S' b ∧ w'.heap[b]? = w.heap[b]?) (hA : ∀ id, A id → A' id ∧ rho' id = rho id ∧ ∀ n, szAt w (rho id) n → szAt w' (rho id) n)
    (hm : Mem B S' rho' A' (hpD l.length st en (addL L i)) w') (hx : R S' rho' w' A' (en i).x v) (hnum : ∀ id, A' id → A id ∨ ((st i).nx = id ∧ (st i).nx < (st (i + 1)).nx)) : DInv B l st en (addL L i) S' rho' A' (a.put o.dst v) w' := by
  have hil : i < l.length := (List.getElem?_eq_some_iff.1 ho).1
  exact {
    mem := hm
    done := fun t j oj hj hdj hL => by
      by_cases e : j = i
      · subst e
        rw [ho] at hj; cases hj
        rw [hdj]
        rw [eval_put_same a v (by
          rw [hI.size, ← h.nt j (by omega)]
          rw [hdj] at hdst; simpa [dstOk] using hdst)]
        exact hx
      · unfold addL at hL
        rw [if_neg e] at hL
        rw [eval_put_other a v (fun hd' => (h.slot i j o oj t (fun e' => e e'.symm) ho hj hdj).1 hd')]
        exact (hI.done t j oj hj hdj hL).mono hS hA
    open' := fun t hall => by
      have hne : o.dst ≠ some t := fun hd' => by
        have := hall i o ho hd'
        simp [addL] at this
      rw [eval_put_other a v hne]
      refine (hI.open' t fun j oj hj hdj => ?_).mono hS hA
      have := hall j oj hj hdj
      unfold addL at this
      split at this
      · cases this
      · exact this
    num := fun id hid => by
      rcases hnum id hid with h1 | ⟨h1, h2⟩
      · rcases hI.num id h1 with h2 | ⟨j, hj, hL, h3⟩
        · exact .inl h2
        · exact .inr ⟨j, hj, by unfold addL; split; rfl; exact hL, h3⟩
      · exact .inr ⟨i, hil, by simp [addL], h1, h2⟩
    size := by rw [put_size]; exact hI.size
    defs := by rw [put_defers]; exact hI.defs
    closed := fun c j hcL hcd => by
      unfold addL at hcL ⊢
      split
      · rfl
      · by_cases e : c = i
        · subst e; exact hd j hcd
        · rw [if_neg e] at hcL; exact hI.closed c j hcL hcd }

theorem DInv.fresh {B : Base} {L : Nat → Bool} {S : Nat → Prop} {rho : Nat → Nat} {A : Nat → Prop} {a : Act} {w : World} (h : DRun P l st en) (hI : DInv B l st en L S rho A a w) : ¬ A (st l.length).nx := by
  intro hA
  rcases hI.num _ hA with h1 | ⟨j, hj, _, h2, h3⟩
  · have := h.nx 0 l.length (by omega) (Nat.le_refl _); omega
  · have := h.nx (j + 1) l.length (by omega) (Nat.le_refl _); omega
theorem DInv.fresh' {B : Base} {L : Nat → Bool} {S : Nat → Prop} {rho : Nat → Nat} {A : Nat → Prop} {a : Act} {w : World} (h : DRun P l st en) (hI : DInv B l st en L S rho A a w) {i : Nat} (hil : i < l.length) (hi : L i = false) (hn : (st i).nx < (st (i + 1)).nx) : ¬ A (st i).nx := by
  intro hA
  rcases hI.num _ hA with h1 | ⟨j, hj, hL, h2, h3⟩
  · have := h.nx 0 i (by omega) (by omega); omega
  · have hji : j ≠ i := by intro e; subst e; rw [hi] at hL; cases hL
    rcases Nat.lt_or_ge j i with hlt | hge
    · have := h.nx (j + 1) i (by omega) (by omega); omega
    · have := h.nx (i + 1) j (by omega) (by omega); omega
end
end Go.Proofs.YtbpcgeanpkokkaaDoor
