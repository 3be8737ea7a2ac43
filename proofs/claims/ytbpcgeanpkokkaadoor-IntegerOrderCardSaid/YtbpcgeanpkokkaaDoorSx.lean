/- Own blocks renumbered, for the heads of loops. -/
import Derived.Test.YtbpcgeanpkokkaaDoorSk
namespace Go.Proofs.YtbpcgeanpkokkaaDoor
open Go.RowKit

mutual
/-- the numbers of own blocks renamed -/
def V.ren (f : Nat → Nat) : V → V
  | .sc v => .sc v
  | .ag cs => .ag (V.renL f cs)
  | .tu cs => .tu (V.renL f cs)
  | .pt id off => .pt (f id) off
  | .sl id off len z cap => .sl (f id) off len z cap
  | .im cs len => .im cs len
  | .pi cs => .pi cs
  | .fn g p q => .fn g (V.renL f p) (V.renL f q)
  | .junk => .junk
def V.renL (f : Nat → Nat) : List V → List V
  | [] => []
  | x :: r => V.ren f x :: V.renL f r
end
section
variable (f : Nat → Nat)
@[go_sem] theorem ren_sc (v : Value) : V.ren f (.sc v) = .sc v := by simp [V.ren]
@[go_sem] theorem ren_ag (cs : List V) : V.ren f (.ag cs) = .ag (V.renL f cs) := by simp [V.ren]
@[go_sem] theorem ren_tu (cs : List V) : V.ren f (.tu cs) = .tu (V.renL f cs) := by simp [V.ren]
@[go_sem] theorem ren_pt (id off : Nat) : V.ren f (.pt id off) = .pt (f id) off := by simp [V.ren]
@[go_sem] theorem ren_sl (id off len z : Nat) (cap : Option Nat) : V.ren f (.sl id off len z cap) = .sl (f id) off len z cap := by simp [V.ren]
@[go_sem] theorem ren_im (cs : List V) (len : Nat) : V.ren f (.im cs len) = .im cs len := by simp [V.ren]
@[go_sem] theorem ren_pi (cs : List V) : V.ren f (.pi cs) = .pi cs := by simp [V.ren]
@[go_sem] theorem ren_fn (g : Fn) (p q : List V) : V.ren f (.fn g p q) = .fn g (V.renL f p) (V.renL f q) := by simp [V.ren]
@[go_sem] theorem ren_junk : V.ren f .junk = .junk := by simp [V.ren]
@[go_sem] theorem renL_nil : V.renL f [] = [] := by simp [V.renL]
@[go_sem] theorem renL_cons (x : V) (r : List V) : V.renL f (x :: r) = V.ren f x :: V.renL f r := by simp [V.renL]
theorem renL_get : ∀ (cs : List V) (i : Nat), (V.renL f cs)[i]? = cs[i]?.map (V.ren f)
  | [], i => by simp [V.renL]
  | x :: r, 0 => by simp [V.renL]
  | x :: r, i + 1 => by simp [V.renL, renL_get r i]
theorem renL_len (cs : List V) : (V.renL f cs).length = cs.length := by
  induction cs with
  | nil => simp [V.renL]
  | cons x r ih => simp [V.renL, ih]
theorem renL_app (a b : List V) : V.renL f (a ++ b) = V.renL f a ++ V.renL f b := by
  induction a with
  | nil => simp [V.renL]
  | cons x r ih => simp [V.renL, ih]
/-- trees without own blocks stay -/
theorem renL_map_sc (l : List Value) : V.renL f (l.map .sc) = l.map .sc := by
  induction l with
  | nil => simp [V.renL]
  | cons x r ih => simp [V.renL, V.ren, ih]
end

def renS (f : Nat → Nat) (sl : List (Nat × V)) : List (Nat × V) := sl.map fun p => (p.1, p.2.ren f)
def renH (f : Nat → Nat) (hp : List (Nat × Blk)) : List (Nat × Blk) := hp.map fun p => (f p.1, ⟨p.2.ty, V.renL f p.2.cs, p.2.fz⟩)
def bren (f : Nat → Nat) : Option Blk → Option Blk
  | some k => some ⟨k.ty, V.renL f k.cs, k.fz⟩
  | none => none
@[go_sem] theorem bren_some (f : Nat → Nat) (ty : Nat) (cs : List V) (fz : Bool) : bren f (some ⟨ty, cs, fz⟩) = some ⟨ty, V.renL f cs, fz⟩ := rfl
@[go_sem] theorem bren_none (f : Nat → Nat) : bren f none = none := rfl
@[go_sem] theorem get_ren (f : Nat → Nat) (sl : List (Nat × V)) (t : Nat) : get (renS f sl) t = (get sl t).ren f := by
  induction sl with
  | nil => simp [renS, get, V.ren]
  | cons p r ih =>
    obtain ⟨k, x⟩ := p
    simp only [renS, List.map_cons, get] at ih ⊢
    split
    · rfl
    · exact ih
theorem hget_ren {f : Nat → Nat} (hf : ∀ i, f (f i) = i) (hp : List (Nat × Blk)) (id : Nat) : hget (renH f hp) id = bren f (hget hp (f id)) := by
  induction hp with
  | nil => rfl
  | cons p r ih =>
    obtain ⟨k, x⟩ := p
    simp only [renH, List.map_cons, hget] at ih ⊢
    by_cases h : id = f k
    · subst h; rw [if_pos rfl, hf, if_pos rfl]; rfl
    · rw [if_neg h, if_neg (fun e => h (by rw [← e, hf]))]; exact ih

theorem R.ren {S : Nat → Prop} {rho : Nat → Nat} {w : World} {f : Nat → Nat} (hf : ∀ i, f (f i) = i) {A : Nat → Prop} {x : V} {v : Value} (h : R S rho w A x v) : R S (fun i => rho (f i)) w (fun i => A (f i)) (x.ren f) v := by
  have lift : ∀ {cs : List V} {vs : Array Value} {A : Nat → Prop}, (∀ (i : Nat) (x : V) (u : Value), cs[i]? = some x → vs[i]? = some u → R S (fun i => rho (f i)) w (fun i => A (f i)) (x.ren f) u) →
      ∀ (i : Nat) (x : V) (u : Value), (V.renL f cs)[i]? = some x → vs[i]? = some u → R S (fun i => rho (f i)) w (fun i => A (f i)) x u := by
    intro cs vs A h i x u hx hu
    rw [renL_get] at hx
    cases hc : cs[i]? with
    | none => rw [hc] at hx; cases hx
    | some y => rw [hc] at hx; cases hx; exact h i y u hc hu
  have clo : ∀ {cs : List V} {g : Nat → Value} {a : Nat → Option Addr}, (∀ (i : Nat) (x : V), cs[i]? = some x → R S rho w (fun _ => False) x (g i)) → ∀ (i : Nat) (x : V), cs[i]? = some x → R S (fun i => rho (f i)) w (fun _ => False) x (g i) :=
    fun h i x hx => (h i x hx).mono (fun _ h => ⟨h, rfl⟩) (fun _ h => h.elim)
  induction h with
  | sc v => rw [ren_sc]; exact .sc v
  | junk v => rw [ren_junk]; exact .junk v
  | ag h _ ih => rw [ren_ag]; exact .ag (by rw [renL_len, h]) (lift ih)
  | tu h _ ih => rw [ren_tu]; exact .tu (by rw [renL_len, h]) (lift ih)
  | @pt A id off h =>
    rw [ren_pt]
    have := R.pt (S := S) (rho := fun i => rho (f i)) (w := w) (A := fun i => A (f i)) (id := f id) (off := off) (by rw [hf]; exact h)
    simpa only [hf] using this
  | @sl A id off len z c cap h hl hm hc hz =>
    rw [ren_sl]
    have := R.sl (S := S) (rho := fun i => rho (f i)) (w := w) (A := fun i => A (f i)) (id := f id) (off := off) (len := len) (z := z) (c := c) (cap := cap) (by rw [hf]; exact h) hl hm hc (by rw [hf]; exact hz)
    simpa only [hf] using this
  | sln h => rw [ren_sl]; exact .sln h
  | im0 a b c => rw [ren_im]; exact .im0 a b c
  | im1 g a b c d e => rw [ren_im]; exact .im1 g a b c d fun i x hx => (e i x hx).mono (fun _ h => ⟨h, rfl⟩) (fun _ h => h.elim)
  | pi g a c e => rw [ren_pi]; exact .pi g a c fun i x hx => (e i x hx).mono (fun _ h => ⟨h, rfl⟩) (fun _ h => h.elim)
  | fn hp hq _ _ i1 i2 => rw [ren_fn]; exact .fn (by rw [renL_len, hp]) (by rw [renL_len, hq]) (lift i1) (lift i2)

def swp (a b i : Nat) : Nat := if i = a then b else if i = b then a else i
@[go_sem] theorem swp_eq (a b i : Nat) : swp a b i = if i = a then b else if i = b then a else i := rfl
theorem swp_swp (a b i : Nat) : swp a b (swp a b i) = i := by
  unfold swp
  repeat' split
  all_goals omega
@[go_sem] theorem hget_swp (a b : Nat) (hp : List (Nat × Blk)) (id : Nat) : hget (renH (swp a b) hp) id = bren (swp a b) (hget hp (swp a b id)) := hget_ren (swp_swp a b) hp id

/-- two own numbers change places -/
theorem Le.swap {B : Base} {s' : SS} {sl : List (Nat × V)} {hp : List (Nat × Blk)} {nx nt : Nat} (a b : Nat) {m : Nat} (hB : B.Old m) (ha : m ≤ a ∧ a < nx) (hb : m ≤ b ∧ b < nx) (h : Le B ⟨renS (swp a b) sl, renH (swp a b) hp, nx, nt⟩ s') : Le B ⟨sl, hp, nx, nt⟩ s' := by
  intro S rho A c w hr
  refine h S (fun i => rho (swp a b i)) (fun i => A (swp a b i)) c w ⟨fun t => ?_, ?_, fun id hid => ?_, hr.nt, hr.defs⟩
  · show R _ _ _ _ (get (renS (swp a b) sl) t) _
    rw [get_ren]; exact (hr.slots t).ren (swp_swp a b)
  · have hm := hr.mem
    have g : ∀ {id k}, hget (renH (swp a b) hp) id = some k → ∃ k0, hget hp (swp a b id) = some k0 ∧ k = ⟨k0.ty, V.renL (swp a b) k0.cs, k0.fz⟩ := by
      intro id k h
      rw [hget_swp] at h
      cases hk : hget hp (swp a b id) with
      | none => rw [hk] at h; cases h
      | some k0 => rw [hk] at h; cases h; exact ⟨k0, rfl, rfl⟩
    have fixK : ∀ id, B.K id → swp a b id = id := by
      intro id h
      have := hB id h
      unfold swp
      rw [if_neg (by omega), if_neg (by omega)]
    exact {
      cells := fun id k hk ha => by
        obtain ⟨k0, e, rfl⟩ := g hk
        obtain ⟨cells, c1, c2⟩ := hm.cells _ k0 e ha
        refine ⟨cells, c1, fun i x hx => ?_⟩
        have hx' : (V.renL (swp a b) k0.cs)[i]? = some x := hx
        rw [renL_get] at hx'
        cases hc : k0.cs[i]? with
        | none => rw [hc] at hx'; cases hx'
        | some y =>
          rw [hc] at hx'; cases hx'
          obtain ⟨u, hu, hr⟩ := c2 i y hc
          exact ⟨u, hu, hr.ren (swp_swp a b)⟩
      fz := fun id k hk ha hf => by
        obtain ⟨k0, e, rfl⟩ := g hk
        exact hm.fz _ k0 e ha hf
      own := fun id k hk ha => by
        obtain ⟨k0, e, rfl⟩ := g hk
        exact hm.own _ k0 e ha
      inj := fun id id' k k' hk hk' ha ha' he => by
        obtain ⟨k0, e, rfl⟩ := g hk
        obtain ⟨k0', e', rfl⟩ := g hk'
        have := hm.inj _ _ k0 k0' e e' ha ha' he
        rw [← swp_swp a b id, this, swp_swp]
      slt := hm.slt
      sub := hm.sub
      base := hm.base
      frame := hm.frame
      keep := fun id h => by rw [fixK id h]; exact hm.keep id h }
  · have : swp a b id < nx := hr.alt _ hid
    unfold swp at this
    show id < nx
    split at this
    · omega
    · split at this <;> omega

/-- a test whose answer is known -/
def pick2 (t : Bool) (x y : Code) : Code := bif t then x else y
theorem SC.condB {P : Program} {B : Base} {c : Operand} {x y : Code} {cs : List Code} {Q : Exit → SS → Prop} {s : SS} {t : Bool} (hc : evS s.sl c = .sc (.bool t)) (h : SC P B (pick2 t x y :: cs) Q s) : SC P B (.cond c x y :: cs) Q s :=
  SC.cond hc (fun e => by subst e; exact h) (fun e => by subst e; exact h)
theorem pickT {P : Program} {B : Base} {x y : Code} {cs : List Code} {Q : Exit → SS → Prop} {s : SS} (h : SC P B (x :: cs) Q s) : SC P B (pick2 true x y :: cs) Q s := h
theorem pickF {P : Program} {B : Base} {x y : Code} {cs : List Code} {Q : Exit → SS → Prop} {s : SS} (h : SC P B (y :: cs) Q s) : SC P B (pick2 false x y :: cs) Q s := h
@[go_sem] theorem repl0 {α : Type} (x : α) : List.replicate 0 x = [] := rfl
@[go_sem] theorem repl1 {α : Type} (x : α) : List.replicate 1 x = [x] := rfl
@[go_sem] theorem repl2 {α : Type} (x : α) : List.replicate 2 x = [x, x] := rfl
@[go_sem] theorem repl3 {α : Type} (x : α) : List.replicate 3 x = [x, x, x] := rfl
@[go_sem] theorem repl4 {α : Type} (x : α) : List.replicate 4 x = [x, x, x, x] := rfl
@[go_sem] theorem repl5 {α : Type} (x : α) : List.replicate 5 x = [x, x, x, x, x] := rfl
@[go_sem] theorem repl6 {α : Type} (x : α) : List.replicate 6 x = [x, x, x, x, x, x] := rfl
@[go_sem] theorem repl7 {α : Type} (x : α) : List.replicate 7 x = [x, x, x, x, x, x, x] := rfl
@[go_sem] theorem repl8 {α : Type} (x : α) : List.replicate 8 x = [x, x, x, x, x, x, x, x] := rfl
@[go_sem] theorem repl9 {α : Type} (x : α) : List.replicate 9 x = [x, x, x, x, x, x, x, x, x] := rfl
@[go_sem] theorem repl10 {α : Type} (x : α) : List.replicate 10 x = [x, x, x, x, x, x, x, x, x, x] := rfl
@[go_sem] theorem repl11 {α : Type} (x : α) : List.replicate 11 x = [x, x, x, x, x, x, x, x, x, x, x] := rfl
@[go_sem] theorem repl12 {α : Type} (x : α) : List.replicate 12 x = [x, x, x, x, x, x, x, x, x, x, x, x] := rfl
@[go_sem] theorem repl13 {α : Type} (x : α) : List.replicate 13 x = [x, x, x, x, x, x, x, x, x, x, x, x, x] := rfl
@[go_sem] theorem repl14 {α : Type} (x : α) : List.replicate 14 x = [x, x, x, x, x, x, x, x, x, x, x, x, x, x] := rfl
@[go_sem] theorem repl15 {α : Type} (x : α) : List.replicate 15 x = [x, x, x, x, x, x, x, x, x, x, x, x, x, x, x] := rfl
@[go_sem] theorem repl16 {α : Type} (x : α) : List.replicate 16 x = [x, x, x, x, x, x, x, x, x, x, x, x, x, x, x, x] := rfl
@[go_sem] theorem repl17 {α : Type} (x : α) : List.replicate 17 x = [x, x, x, x, x, x, x, x, x, x, x, x, x, x, x, x, x] := rfl
@[go_sem] theorem repl64 {α : Type} (x : α) : List.replicate 64 x = [x, x, x, x, x, x, x, x, x, x, x, x, x, x, x, x, x, x, x, x, x, x, x, x, x, x, x, x, x, x, x, x, x, x, x, x, x, x, x, x, x, x, x, x, x, x, x, x, x, x, x, x, x, x, x, x, x, x, x, x, x, x, x, x] := rfl
@[go_sem] theorem bb_ff : (false == false) = true := rfl
@[go_sem] theorem bb_tt : (true == true) = true := rfl
@[go_sem] theorem bb_ft : (false == true) = false := rfl
@[go_sem] theorem bb_tf : (true == false) = false := rfl
@[go_sem] theorem bb_nt : (!true) = false := rfl
@[go_sem] theorem bb_nf : (!false) = true := rfl

/-- a slice compared with nil where its tree does not say it: either answer -/
theorem SO.nilq {P : Program} {B : Base} {ops : Array Oper} {l : List Oper} {cs' : List Code} {Q : Exit → SS → Prop} {s : SS} {d : Option Tmp} {t ty : TypeId} {x y : Operand} {u : TypeId} {pos : String} {after : Array Edge} {gd : Option (Nat × Bool)} {cs : List V} {n : Nat}
    (hT : isSl P t = true) (hx : evS s.sl x = .im cs n) (hy : evS s.sl y = .sc (.slice none 0 0)) (hg : guardV ops s.sl gd = some true ∧ dstOk d s.nt = true)
    (k : ∀ b, SO P B ops l cs' Q (s.put d (.sc (.bool b)) .none)) : SO P B ops (⟨d, .binOp .eql t x y u, ty, pos, after, gd⟩ :: l) cs' Q s := by
  intro S rho A a w hr
  have hw := guard_sound (o := ⟨d, .binOp .eql t x y u, ty, pos, after, gd⟩) hr.slots hg.1
  refine wpList_step fun K hK => ?_
  rw [if_pos hw]
  have h1 := ev_sound hr.mem.tab hr.slots x
  have h2 := ev_sound hr.mem.tab hr.slots y
  rw [hx] at h1
  rw [hy] at h2
  obtain ⟨ad, m, c, e1⟩ : ∃ ad m c, a.eval x = .slice ad m c := by
    generalize a.eval x = v at h1
    cases h1 with
    | im0 => exact ⟨_, _, _, rfl⟩
    | im1 => exact ⟨_, _, _, rfl⟩
  have e2 : a.eval y = .slice none 0 0 := by
    generalize a.eval y = v at h2
    cases h2; rfl
  have hO : OutN B S rho A s.hp s.nx w ((execOp a.eval ⟨d, .binOp .eql t x y u, ty, pos, after, gd⟩).run P w) (.sc (.bool ad.isNone)) .none := by
    refine OutN.of hr.mem ?_
    rw [e1, e2]
    exact nil_sound hT rfl rfl
  obtain ⟨v, w', rho', A', g1, g2, g3, g4, g5, g6⟩ := hO
  have := hK _ _ (k ad.isNone S rho' A' (a.put d v) w' (hr.put hg.2 g2 g3 g4 g5 g6))
  unfold Oper.wp
  rcases g1 with g1 | ⟨g1, rfl⟩ <;> rw [g1] <;> exact this
end Go.Proofs.YtbpcgeanpkokkaaDoor
