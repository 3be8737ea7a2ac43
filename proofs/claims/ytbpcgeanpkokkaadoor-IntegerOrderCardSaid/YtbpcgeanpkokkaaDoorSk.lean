/- Weaker symbolic states, for the heads of loops. -/
import Derived.Test.YtbpcgeanpkokkaaDoorSj
namespace Go.Proofs.YtbpcgeanpkokkaaDoor
open Go.RowKit

/-- the tree x says no more than the tree y, where of the own blocks those with ok stay -/
def VLe (ok : Nat → Bool) (y x : V) : Prop := ∀ (S : Nat → Prop) (rho : Nat → Nat) (A : Nat → Prop) (w : World) (v : Value), R S rho w A y v → R S rho w (fun id => A id ∧ ok id = true) x v
def LLe (ok : Nat → Bool) (ys xs : List V) : Prop := xs.length ≤ ys.length ∧ ∀ (i : Nat) (y x : V), ys[i]? = some y → xs[i]? = some x → VLe ok y x

/-- the tree names own blocks with ok alone -/
def okL (ok : Nat → Bool) : V → Bool
  | .sc _ | .junk | .im _ _ | .pi _ => true
  | .pt id _ | .sl id _ _ _ _ => ok id
  | _ => false
def okV (ok : Nat → Bool) : V → Bool
  | .ag cs => cs.all (okL ok)
  | .fn _ p q => p.all (okL ok) && q.all (okL ok)
  | x => okL ok x

section
variable {ok : Nat → Bool}
theorem VLe.okL {x : V} (h : okL ok x = true) : VLe ok x x := by
  intro S rho A w v hx
  cases hx <;> simp [Go.Proofs.YtbpcgeanpkokkaaDoor.okL] at h
  · exact .sc _
  · exact .junk _
  · exact .pt ⟨‹_›, h⟩
  · exact .sl ⟨‹_›, h⟩ ‹_› ‹_› ‹_› ‹_›
  · exact .sln ‹_›
  · exact .im0 ‹_› ‹_› ‹_›
  · exact .im1 _ ‹_› ‹_› ‹_› ‹_› ‹_›
  · exact .pi _ ‹_› ‹_› ‹_›
theorem VLe.refl {x : V} (h : okV ok x = true) : VLe ok x x := by
  intro S rho A w v hx
  cases hx with
  | ag hl hi => exact .ag hl fun i x u h1 h2 => VLe.okL (List.all_eq_true.1 h x (List.mem_of_getElem? h1)) _ _ _ _ _ (hi i x u h1 h2)
  | fn hp hq h1 h2 =>
    simp only [okV, Bool.and_eq_true] at h
    exact .fn hp hq (fun i x u k1 k2 => VLe.okL (List.all_eq_true.1 h.1 x (List.mem_of_getElem? k1)) _ _ _ _ _ (h1 i x u k1 k2)) (fun i x u k1 k2 => VLe.okL (List.all_eq_true.1 h.2 x (List.mem_of_getElem? k1)) _ _ _ _ _ (h2 i x u k1 k2))
  | tu hl hi => simp [okV, Go.Proofs.YtbpcgeanpkokkaaDoor.okL] at h
  | sc v => exact .sc _
  | junk v => exact .junk _
  | pt ha => exact VLe.okL (by simpa [okV] using h) _ _ _ _ _ (.pt ha)
  | sl a b c d e => exact VLe.okL (by simpa [okV] using h) _ _ _ _ _ (.sl a b c d e)
  | sln a => exact .sln a
  | im0 a b c => exact .im0 a b c
  | im1 f a b c d e => exact .im1 f a b c d e
  | pi f a b c => exact .pi f a b c
theorem VLe.junk (x : V) : VLe ok x .junk := fun _ _ _ _ v _ => .junk v
theorem VLe.int {k : IntKind} {a b : Int} (h : a = b) : VLe ok (.sc (.int k a)) (.sc (.int k b)) := h ▸ VLe.refl rfl
theorem VLe.bool {a b : Bool} (h : a = b) : VLe ok (.sc (.bool a)) (.sc (.bool b)) := h ▸ VLe.refl rfl
theorem VLe.im {cs cs' : List V} {n n' : Nat} (h : cs = cs') (hn : n = n') : VLe ok (.im cs n) (.im cs' n') := h ▸ hn ▸ VLe.refl rfl
theorem VLe.nil_sl (id off z : Nat) : VLe ok (.sc (.slice none 0 0)) (.sl id off 0 z none) := fun _ _ _ _ _ h => by cases h; exact .sln (by simp)
theorem VLe.nil_im : VLe ok (.sc (.slice none 0 0)) (.im [] 0) := fun _ _ _ _ _ h => by cases h; exact .im0 (Nat.le_refl _) (by unfold maxLen; omega) (fun _ => rfl)
theorem VLe.sl {id off len len' z : Nat} {cap : Option Nat} (h : ok id = true) (hl : len = len') : VLe ok (.sl id off len z cap) (.sl id off len' z cap) := hl ▸ VLe.refl h
/-- the capacity is forgotten -/
theorem VLe.cap {id off len len' z : Nat} {cap : Option Nat} (h : ok id = true) (hl : len = len') : VLe ok (.sl id off len z cap) (.sl id off len' z none) := by
  subst hl
  intro S rho A w v hx
  cases hx with
  | sl a b c d e => exact .sl ⟨a, h⟩ b c (by simp) e
  | sln a => exact .sln (by simp)
theorem VLe.eq {x y : V} (h : x = y) (k : okV ok x = true) : VLe ok x y := h ▸ VLe.refl k
theorem VLe.ag {cs ds : List V} (h : LLe ok cs ds) (hl : cs.length = ds.length) : VLe ok (.ag cs) (.ag ds) := by
  intro S rho A w v hx
  cases hx with
  | ag hl' hi =>
    refine .ag (by omega) fun i x u h1 h2 => ?_
    have hlt := (List.getElem?_eq_some_iff.1 h1).1
    have hc : cs[i]? = some (cs[i]'(by omega)) := List.getElem?_eq_getElem (by omega)
    exact h.2 i _ x hc h1 _ _ _ _ _ (hi i _ u hc h2)
theorem LLe.refl {cs : List V} (h : cs.all (Go.Proofs.YtbpcgeanpkokkaaDoor.okL ok) = true) : LLe ok cs cs :=
  ⟨Nat.le_refl _, fun i y x h1 h2 => by rw [h1] at h2; cases h2; exact VLe.okL (List.all_eq_true.1 h _ (List.mem_of_getElem? h1))⟩
theorem LLe.eq {cs ds : List V} (e : cs = ds) (h : cs.all (Go.Proofs.YtbpcgeanpkokkaaDoor.okL ok) = true) : LLe ok cs ds := e ▸ LLe.refl h
theorem LLe.nil (cs : List V) : LLe ok cs [] := ⟨Nat.zero_le _, fun i y x _ h => by simp at h⟩
theorem LLe.cons {x y : V} {cs ds : List V} (h : VLe ok x y) (k : LLe ok cs ds) : LLe ok (x :: cs) (y :: ds) :=
  ⟨by have := k.1; simpa using this, fun i a b h1 h2 => by
    cases i with
    | zero => simp at h1 h2; subst h1; subst h2; exact h
    | succ i => simp at h1 h2; exact k.2 i a b h1 h2⟩

def leSl (ok : Nat → Bool) (sl : List (Nat × V)) : List (Nat × V) → Prop
  | [] => True
  | (t, x) :: r => VLe ok (get sl t) x ∧ leSl ok sl r
/-- an own block: as it was, or new without cells -/
def HLe (ok : Nat → Bool) (id : Nat) (o : Option Blk) (k : Blk) : Prop :=
  (∃ k0, o = some k0 ∧ k0.ty = k.ty ∧ k0.fz = k.fz ∧ LLe ok k0.cs k.cs ∧ ok id = true) ∨ (k.cs = [] ∧ ok id = false)
def leHp (ok : Nat → Bool) (hp : List (Nat × Blk)) : List (Nat × Blk) → Prop
  | [] => True
  | (id, k) :: r => HLe ok id (hget hp id) k ∧ leHp ok hp r
theorem HLe.same {id : Nat} {ty : TypeId} {cs ds : List V} {fz : Bool} (hok : ok id = true) (h : LLe ok cs ds) : HLe ok id (some ⟨ty, cs, fz⟩) ⟨ty, ds, fz⟩ := .inl ⟨_, rfl, rfl, rfl, h, hok⟩
theorem HLe.new {id : Nat} {ty : TypeId} {fz : Bool} {o : Option Blk} (h : ok id = false) : HLe ok id o ⟨ty, [], fz⟩ := .inr ⟨rfl, h⟩

theorem leSl_get {sl : List (Nat × V)} : ∀ {sl' : List (Nat × V)}, leSl ok sl sl' → ∀ t, VLe ok (get sl t) (get sl' t)
  | [], _, t => VLe.junk _
  | (t', x) :: r, h, t => by
    simp only [get]
    by_cases e : t = t'
    · subst e; rw [if_pos rfl]; exact h.1
    · rw [if_neg e]; exact leSl_get h.2 t
theorem leHp_get {hp : List (Nat × Blk)} : ∀ {hp' : List (Nat × Blk)}, leHp ok hp hp' → ∀ id k, hget hp' id = some k → HLe ok id (hget hp id) k
  | [], _, id, k, h => by cases h
  | (i, q) :: r, h, id, k, hk => by
    simp only [hget] at hk
    by_cases e : id = i
    · subst e; rw [if_pos rfl] at hk; cases hk; exact h.1
    · rw [if_neg e] at hk; exact leHp_get h.2 id k hk

/-- ph: own blocks that need not be there -/
def okN (n : Nat) (ph : List Nat) : Nat → Bool := fun id => decide (id < n) && !(ph.contains id)

theorem Le.of {B : Base} {sl sl' : List (Nat × V)} {hp hp' : List (Nat × Blk)} {nx nx' nt : Nat} (ph : List Nat) {m : Nat} (hB : B.Old m) (hm : m ≤ nx' ∧ ∀ i, i ∈ ph → m ≤ i) (h1 : leSl (okN nx' ph) sl sl') (h2 : leHp (okN nx' ph) hp hp') : Le B ⟨sl, hp, nx, nt⟩ ⟨sl', hp', nx', nt⟩ := by
  intro S rho A a w hr
  refine ⟨rho, fun id => A id ∧ okN nx' ph id = true, ⟨fun t => leSl_get h1 t _ _ _ _ _ (hr.slots t), ?_, fun id h => ?_, hr.nt, hr.defs⟩⟩
  · have hmo := hm
    have hm := hr.mem
    have g := leHp_get h2
    exact {
      cells := fun id k hk ha => by
        rcases g id k hk with ⟨k0, e1, e2, e3, e4, _⟩ | ⟨e, e'⟩
        · obtain ⟨cells, c1, c2⟩ := hm.cells id k0 e1 ha.1
          refine ⟨cells, by rw [← e2]; exact c1, fun i x hx => ?_⟩
          have hlt := (List.getElem?_eq_some_iff.1 hx).1
          have hc : k0.cs[i]? = some (k0.cs[i]'(Nat.lt_of_lt_of_le hlt e4.1)) := List.getElem?_eq_getElem _
          obtain ⟨u, hu, hr⟩ := c2 i _ hc
          exact ⟨u, hu, e4.2 i _ x hc hx _ _ _ _ _ hr⟩
        · rw [ha.2] at e'; cases e'
      fz := fun id k hk ha => by
        rcases g id k hk with ⟨k0, e1, e2, e3, e4, _⟩ | ⟨e, e'⟩
        · rw [← e3]; exact hm.fz id k0 e1 ha.1
        · rw [ha.2] at e'; cases e'
      own := fun id k hk ha => by
        rcases g id k hk with ⟨k0, e1, e2, e3, e4, _⟩ | ⟨e, e'⟩
        · exact hm.own id k0 e1 ha.1
        · rw [ha.2] at e'; cases e'
      inj := fun id id' k k' hk hk' ha ha' he => by
        rcases g id k hk with ⟨k0, e1, e2, e3, e4, _⟩ | ⟨e, e'⟩
        · rcases g id' k' hk' with ⟨k0', f1, f2, f3, f4, _⟩ | ⟨f, f'⟩
          · exact hm.inj id id' k0 k0' e1 f1 ha.1 ha'.1 he
          · rw [ha'.2] at f'; cases f'
        · rw [ha.2] at e'; cases e'
      slt := hm.slt
      sub := hm.sub
      base := hm.base
      frame := hm.frame
      keep := fun id h => ⟨⟨(hm.keep id h).1, by
        have h1 := hB id h
        simp only [okN, Bool.and_eq_true, decide_eq_true_eq, Bool.not_eq_true']
        refine ⟨by omega, ?_⟩
        cases hc : ph.contains id with
        | false => rfl
        | true => have := hmo.2 id (by simpa using hc); omega⟩, (hm.keep id h).2⟩ }
  · have := h.2
    simp only [okN, Bool.and_eq_true, decide_eq_true_eq] at this
    exact this.1

theorem leSl_nil {sl : List (Nat × V)} : leSl ok sl [] := trivial
theorem leSl_cons {sl r : List (Nat × V)} {t : Nat} {x y : V} (hg : get sl t = y) (h : VLe ok y x) (k : leSl ok sl r) : leSl ok sl ((t, x) :: r) := ⟨hg ▸ h, k⟩
theorem leHp_nil {hp : List (Nat × Blk)} : leHp ok hp [] := trivial
theorem leHp_cons {hp r : List (Nat × Blk)} {id : Nat} {o : Option Blk} {k : Blk} (hg : hget hp id = o) (h : HLe ok id o k) (g : leHp ok hp r) : leHp ok hp ((id, k) :: r) := ⟨hg ▸ h, g⟩
end
end Go.Proofs.YtbpcgeanpkokkaaDoor
