/- A region that draws its order, on symbolic states: what it comes to in the order of its text. -/
import Derived.Test.YtbpcgeanpkokkaaDoorSo
namespace Go.Proofs.YtbpcgeanpkokkaaDoor
open Go.RowKit

section
variable {P : Program} {ops : Array Oper} {Q : Exit → Act → World → Prop}
def unl (listed : Array Bool) (n : Nat) : Nat := ((List.range n).filter fun i => !listed.getD i false).length

theorem unl_set {listed : Array Bool} {n i : Nat} (hs : listed.size = n) (hi : i < n) (h : listed.getD i false = false) : unl (listed.setIfInBounds i true) n < unl listed n := by
  unfold unl
  have e : (List.range n).filter (fun j => !(listed.setIfInBounds i true).getD j false) = ((List.range n).filter fun j => !listed.getD j false).filter (fun j => j != i) := by
    rw [List.filter_filter]
    apply List.filter_congr
    intro j hj
    by_cases hji : j = i
    · subst hji
      simp [hs, hi]
    · have hij : i ≠ j := fun e => hji e.symm
      simp [hij, hji]
  rw [e]
  apply List.length_filter_lt_length_iff_exists.2
  exact ⟨i, by simp only [List.mem_filter, List.mem_range]; exact ⟨hi, by rw [h]; rfl⟩, by simp⟩

/-- whatever order the edges allow: an invariant that each operation keeps -/
theorem wpAny_act (Inv : (Nat → Bool) → Act → World → Prop)
    (hord : ∀ (i : Nat) (o : Oper), ops[i]? = some o → ∀ e ∈ o.after.toList, Region.binds .any e = true → e.on < i)
    (hstep : ∀ L a w i o, ops[i]? = some o → L i = false → (∀ e ∈ o.after.toList, Region.binds .any e = true → L e.on = true) → Inv L a w →
      wpOp P ops Q i (fun a' w' => Inv (fun j => if j = i then true else L j) a' w') a w)
    (hend : ∀ L a w, (∀ i, i < ops.size → L i = true) → Inv L a w → Q .normal a w) :
    ∀ (fuel : Nat) (listed : Array Bool) (a : Act) (w : World), listed.size = ops.size → unl listed ops.size ≤ fuel → Inv (fun j => listed.getD j false) a w → wpAny P .any ops Q fuel listed a w := by
  have hall : ∀ (listed : Array Bool), listed.size = ops.size → Region.ready .any ops listed = [] → ∀ i, i < ops.size → listed.getD i false = true := by
    intro listed hs hr i
    induction i using Nat.strongRecOn with
    | _ i ih =>
      intro hi
      cases hb : listed.getD i false with
      | true => rfl
      | false =>
        exfalso
        have hm : i ∈ Region.ready .any ops listed := by
          unfold Region.ready
          rw [List.mem_filter]
          refine ⟨List.mem_range.2 hi, ?_⟩
          have hlt : i < listed.size := by omega
          have ho : ops[i]? = some ops[i] := Array.getElem?_eq_getElem hi
          have h1 : listed.getD i true = false := by
            rw [Array.getD_eq_getD_getElem?, Array.getElem?_eq_getElem hlt] at hb ⊢; exact hb
          rw [h1, ho]
          simp only [Bool.not_false, Bool.true_and, Option.map_some, Option.getD_some]
          rw [Array.all_eq_true']
          intro e he
          cases hbind : Region.binds .any e with
          | false => rfl
          | true =>
            have hlt2 := hord i _ ho e (by simpa using he) hbind
            simp only [Bool.not_true, Bool.false_or]
            exact ih e.on hlt2 (by omega)
        rw [hr] at hm
        cases hm
  intro fuel
  induction fuel with
  | zero =>
    intro listed a w hs hu hI
    have hr : Region.ready .any ops listed = [] := by
      apply List.eq_nil_iff_forall_not_mem.2
      intro i hi
      unfold Region.ready at hi
      rw [List.mem_filter] at hi
      obtain ⟨h1, h2⟩ := hi
      have h1' := List.mem_range.1 h1
      unfold unl at hu
      have : i ∈ (List.range ops.size).filter fun i => !listed.getD i false := by
        rw [List.mem_filter]
        refine ⟨h1, ?_⟩
        rw [Bool.and_eq_true] at h2
        have h3 := h2.1
        rw [Array.getD_eq_getD_getElem?, Array.getElem?_eq_getElem (by omega)] at h3 ⊢
        exact h3
      rw [List.eq_nil_of_length_eq_zero (by omega : ((List.range ops.size).filter fun i => !listed.getD i false).length = 0)] at this
      cases this
    exact ⟨hr, hend _ a w (hall listed hs hr) hI⟩
  | succ fuel ih =>
    intro listed a w hs hu hI
    refine ⟨fun hr => hend _ a w (hall listed hs hr) hI, fun i hi => ?_⟩
    unfold Region.ready at hi
    rw [List.mem_filter] at hi
    obtain ⟨h1, h2⟩ := hi
    have h1' := List.mem_range.1 h1
    rw [Bool.and_eq_true] at h2
    have h3 : listed.getD i false = false := by
      have h3 := h2.1
      rw [Array.getD_eq_getD_getElem?, Array.getElem?_eq_getElem (by omega)] at h3 ⊢
      simpa using h3
    have ho : ops[i]? = some ops[i] := Array.getElem?_eq_getElem h1'
    refine wpOp_mono ?_ (hstep (fun j => listed.getD j false) a w i _ ho h3 ?_ hI)
    · intro a' w' hI'
      refine ih (listed.setIfInBounds i true) a' w' (by simpa using hs) (by have := unl_set hs h1' h3; omega) ?_
      have e : (fun j => (listed.setIfInBounds i true).getD j false) = (fun j => if j = i then true else listed.getD j false) := by
        funext j
        by_cases hji : j = i
        · subst hji; simp [hs, h1']
        · have hij : i ≠ j := fun e => hji e.symm
          simp [hij, hji]
      rw [e]; exact hI'
    · intro e he hb
      have h4 := h2.2
      rw [ho] at h4
      simp only [Option.map_some, Option.getD_some] at h4
      rw [Array.all_eq_true'] at h4
      have h5 := h4 e (by simpa using he)
      rw [hb] at h5
      simpa using h5


end

def depB (ops : Array Oper) (i j : Nat) : Bool := match ops[i]? with | some o => o.after.any fun e => Region.binds .any e && e.on == j | none => false
/-- j comes before i, by one edge or more -/
def reachB (ops : Array Oper) : Nat → Nat → Nat → Bool
  | 0, _, _ => false
  | f + 1, i, j => depB ops i j || (List.range i).any fun m => depB ops i m && reachB ops f m j
theorem reachB_spec {ops : Array Oper} {L : Nat → Bool} (hc : ∀ i j, L i = true → depB ops i j = true → L j = true) : ∀ (f i j : Nat), reachB ops f i j = true → (∀ m, depB ops i m = true → L m = true) → L j = true
  | 0, _, _, h, _ => by cases h
  | f + 1, i, j, h, hi => by
    simp only [reachB, Bool.or_eq_true, List.any_eq_true, Bool.and_eq_true] at h
    rcases h with h | ⟨m, _, h1, h2⟩
    · exact hi j h
    · exact reachB_spec hc f m j h2 (fun k hk => hc m k (hi m h1) hk)


/-! ### the run in the order of the text -/
/-- of a step: what comes out, the own block that it changes, those that it reads or makes -/
structure En where
  x : V
  tg : Option Nat
  tc : List Nat
def tgE : Eff → Option Nat
  | .set id _ => some id
  | _ => none
def crE : Eff → Nat → List Nat
  | .new _, nx => [nx]
  | _, _ => []
def noApp : Eff → Bool
  | .app _ _ => false
  | _ => true
def DStep (P : Program) (ops : Array Oper) (o : Oper) (s : SS) (e : En) (s' : SS) : Prop :=
  dstOk o.dst s.nt = true ∧
  ((∃ f, guardV ops s.sl o.guard = some true ∧ okOp o.op = true ∧ exOp P s.sl s.hp s.nx o.op = some (e.x, f) ∧ s' = s.put o.dst e.x f ∧ e.tg = tgE f ∧ e.tc = rdOf s.sl o.op ++ crE f s.nx ∧ noApp f = true) ∨
   (guardV ops s.sl o.guard = some false ∧ e.x = .tu [] ∧ e.tg = none ∧ e.tc = [] ∧ s' = s.put o.dst (.tu []) .none) ∨
   (∃ f args ts ys, o.op = .call ⟨.value (.func f), args, ts⟩ ∧ guardV ops s.sl o.guard = some true ∧ isGo P f = true ∧ frzAll (frz 8 s.hp) (args.toList.map (evS s.sl)) = some (ys, e.tc) ∧ Spec P f ys e.x ∧ s' = s.called o.dst e.x e.tc ∧ e.tg = none))

/-- the numbers of the own blocks lie below the next one -/
def KL (s : SS) : Prop := ∀ id k, hget s.hp id = some k → id < s.nx

section
variable {P : Program} {ops : Array Oper}

theorem exStore_tgt {hp : List (Nat × Blk)} {t : TypeId} {a x : V} {id : Nat} {k' : Blk} (h : exStore P hp t a x = some (.set id k')) : ∃ k, hget hp id = some k ∧ k.fz = false ∧ k'.fz = false ∧ idOf a = [id] := by
  unfold exStore at h
  split at h
  · rename_i i off
    cases hk : hget hp i with
    | none => simp [hk] at h
    | some k =>
      cases hv : vcells x with
      | none => simp [hk, hv] at h
      | some xs =>
        simp only [hk, hv, Option.bind_some] at h
        split at h
        · rename_i hc
          simp only [Option.some.injEq, Eff.set.injEq] at h
          obtain ⟨rfl, rfl⟩ := h
          exact ⟨k, hk, hc.1, rfl, rfl⟩
        · cases h
  · cases h

/-- a block is changed by a store alone -/
theorem set_store {sl : List (Nat × V)} {hp : List (Nat × Blk)} {nx : Nat} {op : Op} {x : V} {id : Nat} {k' : Blk} (hok : okOp op = true) (h : exOp P sl hp nx op = some (x, .set id k')) :
    ∃ t a y, op = .store t a y ∧ exStore P hp t (evS sl a) (evS sl y) = some (.set id k') := by
  cases op <;> simp only [exOp] at h <;> try (first | (cases h; done) | (obtain ⟨_, _, e⟩ := Option.map_eq h; cases e; done))
  case store t a y =>
    obtain ⟨f, hf, e⟩ := Option.map_eq h
    cases e
    exact ⟨t, a, y, rfl, hf⟩
  case buildSlice t n ps =>
    unfold exBuildSlice at h
    cases hk : mkOf P t with
    | none => simp [hk] at h
    | some p =>
      simp only [hk, Option.bind_some] at h
      split at h
      · obtain ⟨_, _, e⟩ := Option.map_eq h; cases e
      · cases h
  case makeSlice t l c =>
    unfold exMake at h
    split at h
    · cases hk : mkOf P t with
      | none => simp [hk] at h
      | some p =>
        simp only [hk, Option.bind_some] at h
        split at h
        · simp only [Option.some.injEq, Prod.mk.injEq] at h; obtain ⟨_, e⟩ := h; cases e
        · cases h
    · cases h
  case call c =>
    obtain ⟨callee, args, ts⟩ := c
    cases callee <;> try (cases hok; done)
    rename_i b
    have h : exBuiltin P hp nx b ts.toList (args.toList.map (evS sl)) = some (x, .set id k') := h
    generalize args.toList.map (evS sl) = xs at h
    generalize ts.toList = tl at h
    cases b <;> first | (cases hok; done) | (unfold exBuiltin at h; split at h <;> first | (cases h; done) | (obtain ⟨_, _, e⟩ := Option.map_eq h; cases e; done) | contradiction)

theorem DStep.heap {o : Oper} {s s' : SS} {e : En} (h : DStep P ops o s e s') (kl : KL s) :
    (∀ id k, hget s.hp id = some k → ∃ k', hget s'.hp id = some k' ∧ (e.tg ≠ some id → k'.ty = k.ty ∧ k'.cs = k.cs) ∧ (k'.fz = false → k.fz = false)) ∧ s.nx ≤ s'.nx ∧ KL s' := by
  obtain ⟨_, ⟨f, hg, hok, he, rfl, htg, htc, hna⟩ | ⟨_, _, _, _, rfl⟩ | ⟨f, args, ts, ys, _, _, _, _, _, rfl, _⟩⟩ := h
  · cases f with
    | none => exact ⟨fun id k hk => ⟨k, hk, fun _ => ⟨rfl, rfl⟩, fun h => h⟩, Nat.le_refl _, kl⟩
    | new k0 =>
      refine ⟨fun id k hk => ⟨k, ?_, fun _ => ⟨rfl, rfl⟩, fun h => h⟩, Nat.le_succ _, fun id k hk => ?_⟩
      · have := kl id k hk
        show hget ((s.nx, k0) :: s.hp) id = some k
        simp only [hget]; rw [if_neg (by omega)]; exact hk
      · have hk : hget ((s.nx, k0) :: s.hp) id = some k := hk
        show id < s.nx + 1
        simp only [hget] at hk
        by_cases e : id = s.nx
        · omega
        · rw [if_neg e] at hk; have := kl id k hk; omega
    | set i k0 =>
      obtain ⟨t, a, y, _, hst⟩ := set_store hok he
      obtain ⟨k1, h1, h2, h3, _⟩ := exStore_tgt hst
      refine ⟨fun id k hk => ?_, Nat.le_refl _, fun id k hk => ?_⟩
      · show ∃ k', hget (hset s.hp i k0) id = some k' ∧ _
        rw [hget_hset]
        by_cases e : id = i
        · subst e
          rw [if_pos rfl, hk]
          rw [hk] at h1; cases h1
          exact ⟨k0, rfl, fun hne => absurd (htg.trans rfl) hne, fun _ => h2⟩
        · rw [if_neg e]; exact ⟨k, hk, fun _ => ⟨rfl, rfl⟩, fun h => h⟩
      · have hk : hget (hset s.hp i k0) id = some k := hk
        rw [hget_hset] at hk
        by_cases e : id = i
        · subst e; exact kl id k1 h1
        · rw [if_neg e] at hk; exact kl id k hk
    | app i k0 => cases hna
  · exact ⟨fun id k hk => ⟨k, hk, fun _ => ⟨rfl, rfl⟩, fun h => h⟩, Nat.le_refl _, kl⟩
  · by_cases hf : flat e.x = true
    · have e1 : (s.called o.dst e.x e.tc).hp = s.hp := by simp [SS.called, hf]
      refine ⟨fun id k hk => ⟨k, by rw [e1]; exact hk, fun _ => ⟨rfl, rfl⟩, fun h => h⟩, Nat.le_refl _, fun id k hk => ?_⟩
      rw [e1] at hk; exact kl id k hk
    · have e1 : (s.called o.dst e.x e.tc).hp = fzHp s.hp e.tc := by simp [SS.called, hf]
      refine ⟨fun id k hk => ?_, Nat.le_refl _, fun id k hk => ?_⟩
      · rw [e1, hget_fz, hk]
        refine ⟨_, rfl, fun _ => by split <;> exact ⟨rfl, rfl⟩, ?_⟩
        split
        · intro h; cases h
        · exact fun h => h
      · rw [e1, hget_fz] at hk
        obtain ⟨k', hk', _⟩ := Option.map_eq hk
        exact kl id k' hk'
end

/-- what is to hold of the edges: ops in an order, slots written once, what meets in a slot or a block stands in an order -/
def looks (ops : Array Oper) (o : Oper) : List Nat := o.looksAt ops
def cmpB (ops : Array Oper) (i j : Nat) : Bool := reachB ops 4 i j || reachB ops 4 j i
def pairOk (ops : Array Oper) (en : List (Option Nat × List Nat)) (i j : Nat) (oi oj : Oper) : Bool :=
  (match oj.dst with
   | some d => !(looks ops oi).contains d && oi.dst != some d || cmpB ops i j && oi.dst != some d
   | none => true) &&
  (match (en[j]?).bind (·.1) with
   | some id => !((en.getD i (none, [])).2.contains id) && (en.getD i (none, [])).1 != some id || cmpB ops i j
   | none => true)
def ordB (l : List Oper) : Bool := l.zipIdx.all fun p => p.1.after.all fun e => !Region.binds .any e || decide (e.on < p.2)
def chkD (l : List Oper) (en : List (Option Nat × List Nat)) : Bool :=
  ordB l && l.zipIdx.all fun p => l.zipIdx.all fun q => p.2 == q.2 || pairOk l.toArray en p.2 q.2 p.1 q.1
end Go.Proofs.YtbpcgeanpkokkaaDoor
