/- Slices on symbolic states: slice expressions, stores, append, copy, len. -/
import Derived.Test.YtbpcgeanpkokkaaDoorSc
namespace Go.Proofs.YtbpcgeanpkokkaaDoor
open Go.RowKit

section
variable {P : Program} {w : World} {B : Base} {S : Nat → Prop} {rho : Nat → Nat} {A : Nat → Prop} {hp : List (Nat × Blk)} {nx : Nat}

/-- the bounds of a slice expression: low, high, and the capacity where it is said -/
def intV : V → Option Int
  | .sc (.int _ n) => some n
  | _ => none
def lowV : Option V → Option Nat
  | none => some 0
  | some x => (intV x).bind fun n => if 0 ≤ n then some n.toNat else none
def highV (len : Nat) : Option V → Option Nat
  | none => some len
  | some x => (intV x).bind fun n => if 0 ≤ n then some n.toNat else none
/-- (low, high, max): max = none: the capacity as it is -/
def boundsV (len ub : Nat) (lo hi mx : Option V) : Option (Nat × Nat × Option Nat) :=
  (lowV lo).bind fun l => (highV len hi).bind fun h =>
    match mx with
    | none => if l ≤ h ∧ h ≤ ub then some (l, h, none) else none
    | some m => (intV m).bind fun m => if 0 ≤ m ∧ l ≤ h ∧ h ≤ m.toNat ∧ m.toNat ≤ ub ∧ hi.isSome then some (l, h, some m.toNat) else none

theorem lowV_run {lo : Option V} {vlo : Option Value} {l : Nat} (h : lowV lo = some l) (hr : ∀ x, lo = some x → ∃ v, vlo = some v ∧ R S rho w A x v) (hn : lo = none → vlo = none) :
    (vlo = none ∧ l = 0) ∨ ∃ k n, vlo = some (.int k n) ∧ 0 ≤ n ∧ n.toNat = l := by
  cases lo with
  | none => simp [lowV] at h; exact .inl ⟨hn rfl, h.symm⟩
  | some x =>
    obtain ⟨v, hv, hxv⟩ := hr x rfl
    cases hxv <;> simp [lowV, intV] at h
    cases v <;> simp at h
    exact .inr ⟨_, _, hv, h.1, h.2⟩
theorem highV_run {len : Nat} {lo : Option V} {vlo : Option Value} {l : Nat} (h : highV len lo = some l) (hr : ∀ x, lo = some x → ∃ v, vlo = some v ∧ R S rho w A x v) (hn : lo = none → vlo = none) :
    (vlo = none ∧ l = len ∧ lo = none) ∨ ∃ k n, vlo = some (.int k n) ∧ 0 ≤ n ∧ n.toNat = l := by
  cases lo with
  | none => simp [highV] at h; exact .inl ⟨hn rfl, h.symm, rfl⟩
  | some x =>
    obtain ⟨v, hv, hxv⟩ := hr x rfl
    cases hxv <;> simp [highV, intV] at h
    cases v <;> simp at h
    exact .inr ⟨_, _, hv, h.1, h.2⟩

def okO (S : Nat → Prop) (rho : Nat → Nat) (A : Nat → Prop) (w : World) (x : Option V) (v : Option Value) : Prop := (x = none ∧ v = none) ∨ ∃ y u, x = some y ∧ v = some u ∧ R S rho w A y u

theorem boundsV_run {len ub : Nat} {lo hi mx : Option V} {vlo vhi vmx : Option Value} {l h : Nat} {m : Option Nat} (hb : boundsV len ub lo hi mx = some (l, h, m)) (isS : Bool) (cap : Nat) (hub : ub ≤ cap) (_hlen : len ≤ cap)
    (h1 : okO S rho A w lo vlo) (h2 : okO S rho A w hi vhi) (h3 : okO S rho A w mx vmx) :
    (Instr.sliceBounds isS len cap vlo vhi vmx).run P w = .ok (l, h, m.getD cap) w ∧ l ≤ h ∧ h ≤ m.getD cap ∧ (∀ k, m = some k → k ≤ ub) ∧ h ≤ ub := by
  unfold boundsV at hb
  cases hl : lowV lo with
  | none => simp [hl] at hb
  | some l' =>
    cases hh : highV len hi with
    | none => simp [hl, hh] at hb
    | some h' =>
      simp only [hl, hh, Option.bind_some] at hb
      have k1 := lowV_run (S := S) (rho := rho) (A := A) (w := w) (vlo := vlo) hl (fun x hx => by
        rcases h1 with ⟨e, _⟩ | ⟨y, u, e1, e2, e3⟩
        · rw [e] at hx; cases hx
        · rw [e1] at hx; cases hx; exact ⟨u, e2, e3⟩) (fun e => by
        rcases h1 with ⟨_, e'⟩ | ⟨y, u, e1, _⟩
        · exact e'
        · rw [e1] at e; cases e)
      have k2 := highV_run (S := S) (rho := rho) (A := A) (w := w) (vlo := vhi) hh (fun x hx => by
        rcases h2 with ⟨e, _⟩ | ⟨y, u, e1, e2, e3⟩
        · rw [e] at hx; cases hx
        · rw [e1] at hx; cases hx; exact ⟨u, e2, e3⟩) (fun e => by
        rcases h2 with ⟨_, e'⟩ | ⟨y, u, e1, _⟩
        · exact e'
        · rw [e1] at e; cases e)
      cases mx with
      | none =>
        have hv : vmx = none := by
          rcases h3 with ⟨_, e⟩ | ⟨y, u, e1, _⟩
          · exact e
          · cases e1
        subst hv
        simp only at hb
        split at hb
        · rename_i hc
          simp only [Option.some.injEq, Prod.mk.injEq] at hb
          obtain ⟨rfl, rfl, rfl⟩ := hb
          refine ⟨?_, hc.1, by simp; omega, (fun k hk => by cases hk), hc.2⟩
          rcases k2 with ⟨rfl, rfl, _⟩ | ⟨kh, nh, rfl, hn0, rfl⟩
          · rcases k1 with ⟨rfl, rfl⟩ | ⟨kl, nl, rfl, hl0, rfl⟩
            · simp [Instr.sliceBounds]
            · have : nl ≤ (h' : Int) := by omega
              simp [Instr.sliceBounds, Instr.sliceBound, asIntOf, hl0, this]
          · have hh' : nh ≤ (cap : Int) := by omega
            rcases k1 with ⟨rfl, rfl⟩ | ⟨kl, nl, rfl, hl0, rfl⟩
            · simp [Instr.sliceBounds, Instr.sliceBound, asIntOf, hn0, hh']
            · have : nl ≤ (nh.toNat : Int) := by omega
              simp [Instr.sliceBounds, Instr.sliceBound, asIntOf, hn0, hh', hl0, this, -Int.ofNat_toNat]
        · cases hb
      | some mv =>
        obtain ⟨um, rfl, hum⟩ : ∃ u, vmx = some u ∧ R S rho w A mv u := by
          rcases h3 with ⟨e, _⟩ | ⟨y, u, e1, e2, e3⟩
          · cases e
          · cases e1; exact ⟨u, e2, e3⟩
        simp only at hb
        cases hi' : intV mv with
        | none => simp [hi'] at hb
        | some mi =>
          simp only [hi', Option.bind_some] at hb
          split at hb
          · rename_i hc
            simp only [Option.some.injEq, Prod.mk.injEq] at hb
            obtain ⟨rfl, rfl, rfl⟩ := hb
            obtain ⟨hm0, hlh, hhm, hmu, hsome⟩ := hc
            obtain ⟨km, rfl⟩ : ∃ km, um = .int km mi := by
              cases hum <;> simp [intV] at hi'
              cases um <;> simp at hi'
              subst hi'; exact ⟨_, rfl⟩
            refine ⟨?_, hlh, by simpa using hhm, (fun k hk => by cases hk; omega), by omega⟩
            rcases k2 with ⟨_, _, rfl⟩ | ⟨kh, nh, rfl, hn0, rfl⟩
            · simp at hsome
            · have e1 : mi ≤ (cap : Int) := by omega
              have e2 : nh ≤ (mi.toNat : Int) := by omega
              rcases k1 with ⟨rfl, rfl⟩ | ⟨kl, nl, rfl, hl0, rfl⟩
              · simp [Instr.sliceBounds, Instr.sliceBound, asIntOf, hm0, e1, hn0, e2, -Int.ofNat_toNat]
              · have e3 : nl ≤ (nh.toNat : Int) := by omega
                simp [Instr.sliceBounds, Instr.sliceBound, asIntOf, hm0, e1, hn0, hl0, e2, e3, -Int.ofNat_toNat]
          · cases hb

def exSlice (P : Program) (hp : List (Nat × Blk)) (t : TypeId) (x : V) (lo hi mx : Option V) : Option V :=
  match x with
  | .sl id off len z cap => (slOf P t).bind fun (_, z') => (boundsV len (cap.getD len) lo hi mx).bind fun (l, h, m) =>
    if z' = z ∧ (l = 0 ∨ l < h) then some (.sl id (off + l * z) (h - l) z (match m with | some m => some (m - l) | none => cap.map (· - l))) else none
  | .im cs len => (slOf P t).bind fun (_, z) => (boundsV len len lo hi mx).bind fun (l, h, _) => some (.im ((cs.drop (l * z)).take ((h - l) * z)) (h - l))
  | .sc (.slice none 0 0) => (slOf P t).bind fun _ => (boundsV 0 0 lo hi mx).bind fun _ => some (.sc (.slice none 0 0))
  | .pt id off => (arOf P t).bind fun (n, _, z) => (hget hp id).bind fun k => (boundsV n n lo hi mx).bind fun (l, h, m) =>
    if off + n * z ≤ k.cs.length ∧ n ≤ maxLen ∧ (l = 0 ∨ l < h) then some (.sl id (off + l * z) (h - l) z (some (m.getD n - l))) else none
  | .pi cs => (arOf P t).bind fun (n, _, z) => (boundsV n n lo hi mx).bind fun (l, h, _) =>
    if n ≤ maxLen ∧ (l = 0 ∨ l < h) then some (.im ((cs.drop (l * z)).take ((h - l) * z)) (h - l)) else none
  | .sc (.string s) => match mx with
    | none => if isStr P t = true then (boundsV s.size s.size lo hi none).map fun q => .sc (.string (s.extract q.1 q.2.1)) else none
    | some _ => none
  | _ => none

theorem arr_size {b : Nat} {k : Blk} {cells : Array Value} {ty : TypeId} {f : Nat × Nat} (h : Cellsat S rho A w b k) (hb : w.heap[b]? = some (.cells cells ty f)) : k.cs.length ≤ cells.size := by
  obtain ⟨cells', h1, h2⟩ := h
  rw [hb] at h1
  simp only [Option.some.injEq, Obj.cells.injEq] at h1
  obtain ⟨rfl, _, _⟩ := h1
  by_cases hl : k.cs.length = 0
  · omega
  · obtain ⟨u, hu, _⟩ := h2 (k.cs.length - 1) _ (List.getElem?_eq_getElem (by omega))
    have := (Array.getElem?_eq_some_iff.1 hu).1
    omega

theorem im_cut {cs : List V} {c b off : Nat} {f : Nat → Value} (o n len : Nat) (hl : len ≤ c) (hm : c ≤ maxLen) (hS : S b)
    (hc : ∀ (i : Nat) (x : V), cs[i]? = some x → w.cell? ⟨b, off + i, none⟩ = some (f i)) (hx : ∀ (i : Nat) (x : V), cs[i]? = some x → R S rho w (fun _ => False) x (f i)) :
    R S rho w A (.im ((cs.drop o).take n) len) (.slice (some ⟨b, off + o, none⟩) len c) := by
  have key : ∀ (i : Nat) (x : V), ((cs.drop o).take n)[i]? = some x → cs[o + i]? = some x := by
    intro i x h
    rw [List.getElem?_take] at h
    split at h
    · rwa [List.getElem?_drop] at h
    · cases h
  exact .im1 (fun i => f (o + i)) hl hm hS (fun i x h => by rw [Nat.add_assoc]; exact hc _ _ (key i x h)) (fun i x h => hx _ _ (key i x h))

theorem slice_sound (hm : Mem B S rho A hp w) {t : TypeId} {x y : V} {lo hi mx : Option V} {vx : Value} {vlo vhi vmx : Option Value} (h : exSlice P hp t x lo hi mx = some y) (hx : R S rho w A x vx)
    (h1 : okO S rho A w lo vlo) (h2 : okO S rho A w hi vhi) (h3 : okO S rho A w mx vmx) : ∃ v, (Instr.sliceAt t vx vlo vhi vmx).run P w = .ok v w ∧ R S rho w A y v := by
  have addr : ∀ (a : Option Addr) (b off l m z : Nat), a = some ⟨b, off, none⟩ → l < m ∨ l = 0 → (if m = l then a else a.map (·.add (l * z))) = some ⟨b, off + l * z, none⟩ := by
    intro a b off l m z ha hlm
    subst ha
    by_cases he : m = l
    · rcases hlm with hlm | hlm
      · omega
      · subst hlm; simp [he]
    · rw [if_neg he]; simp [addrAdd]
  unfold exSlice at h
  split at h
  · rename_i id off len z cap
    cases hs : slOf P t with
    | none => simp [hs] at h
    | some p =>
      obtain ⟨e, z'⟩ := p
      simp only [hs, Option.bind_some] at h
      cases hb : boundsV len (cap.getD len) lo hi mx with
      | none => simp [hb] at h
      | some q =>
        obtain ⟨l, hh, m⟩ := q
        simp only [hb, Option.bind_some] at h
        split at h
        · rename_i hc
          obtain ⟨rfl, hl0⟩ := hc
          simp only [Option.some.injEq] at h
          subst h
          obtain ⟨hu, hz⟩ := slOf_und hs
          cases hx with
          | sln hcap =>
            have hub : cap.getD 0 = 0 := by cases cap with | none => rfl | some k => simp [hcap k rfl]
            obtain ⟨hr, k1, k2, k3, k4⟩ := boundsV_run (P := P) hb true 0 (by omega) (by omega) h1 h2 h3
            have hh0 : hh = 0 := by omega
            have hl00 : l = 0 := by omega
            subst hh0; subst hl00
            have hm0 : m.getD 0 = 0 := by cases m with | none => rfl | some k => have := k3 k rfl; simp; omega
            refine ⟨.slice none 0 0, ?_, ?_⟩
            · rw [hm0] at hr; simp [Instr.sliceAt, Instr.slice, run_underlying hu, hr, Sem.run_bind, run_sizeOf hz]
            · have : ∀ k, (match m with | some m => some (m - 0) | none => cap.map (· - 0)) = some k → k = 0 := by
                intro k hk
                cases m with
                | some m' => simp at hk hm0; omega
                | none => cases cap with
                  | none => simp at hk
                  | some c' => simp at hk; have := hcap c' rfl; omega
              simpa using R.sln (S := S) (rho := rho) (A := A) (w := w) (id := id) (off := off) (z := z') this
          | sl hid hl hmx hcap hz0 =>
            rename_i c
            have hub : cap.getD len ≤ c := by cases cap with | none => exact hl | some k => simp [hcap k rfl]
            obtain ⟨hr, k1, k2, k3, k4⟩ := boundsV_run (P := P) hb true c hub hl h1 h2 h3
            have hmc : m.getD c ≤ c := by cases m with | none => exact Nat.le_refl _ | some k => have := k3 k rfl; simp; omega
            refine ⟨.slice (some ⟨rho id, off + l * z', none⟩) (hh - l) (m.getD c - l), ?_, ?_⟩
            · simp only [Instr.sliceAt, Instr.slice, run_underlying hu, hr, Sem.run_bind, run_sizeOf hz, Result.andThen_ok]
              rw [addr (some ⟨rho id, off, none⟩) (rho id) off l (m.getD c) z' rfl (by omega)]
              rfl
            · refine .sl hid (by omega) (by omega) ?_ ?_
              · intro k hk
                cases m with
                | some m' => simpa using hk
                | none => cases cap with
                  | none => simp at hk
                  | some c' => simp at hk; have := hcap c' rfl; simp; omega
              · obtain ⟨ce, e', f', g1, g2⟩ := hz0
                refine ⟨ce, e', f', g1, Nat.le_trans ?_ g2⟩
                have : l * z' + (m.getD c - l) * z' ≤ c * z' := by rw [← Nat.add_mul]; exact Nat.mul_le_mul_right _ (by omega)
                omega
        · cases h
  · rename_i cs len
    cases hs : slOf P t with
    | none => simp [hs] at h
    | some p =>
      obtain ⟨e, z⟩ := p
      simp only [hs, Option.bind_some] at h
      cases hb : boundsV len len lo hi mx with
      | none => simp [hb] at h
      | some q =>
        obtain ⟨l, hh, m⟩ := q
        simp only [hb, Option.bind_some, Option.some.injEq] at h
        subst h
        obtain ⟨hu, hz⟩ := slOf_und hs
        cases hx with
        | im0 hl hmx ha =>
          rename_i c a
          obtain ⟨hr, k1, k2, k3, k4⟩ := boundsV_run (P := P) hb true c hl hl h1 h2 h3
          have hmc : m.getD c ≤ c := by cases m with | none => exact Nat.le_refl _ | some k => have := k3 k rfl; simp; omega
          refine ⟨_, by simp only [Instr.sliceAt, Instr.slice, run_underlying hu, hr, Sem.run_bind, run_sizeOf hz, Result.andThen_ok, Sem.run_pure]; rfl, ?_⟩
          simp only [List.drop_nil, List.take_nil]
          refine .im0 (by omega) (by omega) ?_
          intro hn
          cases a with
          | none => have := ha rfl; omega
          | some ad => exfalso; revert hn; split <;> simp
        | im1 f hl hmx hS hc hx =>
          rename_i c b off
          obtain ⟨hr, k1, k2, k3, k4⟩ := boundsV_run (P := P) hb true c hl hl h1 h2 h3
          have hmc : m.getD c ≤ c := by cases m with | none => exact Nat.le_refl _ | some k => have := k3 k rfl; simp; omega
          refine ⟨_, by simp only [Instr.sliceAt, Instr.slice, run_underlying hu, hr, Sem.run_bind, run_sizeOf hz, Result.andThen_ok, Sem.run_pure]; rfl, ?_⟩
          by_cases hlm : m.getD c = l
          · rw [if_pos hlm]
            have : hh - l = 0 := by omega
            rw [this]; simp only [Nat.zero_mul, List.take_zero]
            exact .im0 (by omega) (by omega) (by simp)
          · rw [if_neg hlm]
            simp only [Option.map_some, addrAdd]
            exact im_cut _ _ _ (by omega) (by omega) hS hc hx
  · cases hs : slOf P t with
    | none => simp [hs] at h
    | some p =>
      obtain ⟨e, z⟩ := p
      simp only [hs, Option.bind_some] at h
      cases hb : boundsV 0 0 lo hi mx with
      | none => simp [hb] at h
      | some q =>
        obtain ⟨l, hh, m⟩ := q
        simp only [hb, Option.bind_some, Option.some.injEq] at h
        subst h
        cases hx
        obtain ⟨hu, hz⟩ := slOf_und hs
        obtain ⟨hr, k1, k2, k3, k4⟩ := boundsV_run (P := P) hb true 0 (by omega) (by omega) h1 h2 h3
        have hh0 : hh = 0 := by omega
        have hl00 : l = 0 := by omega
        subst hh0; subst hl00
        have hm0 : m.getD 0 = 0 := by cases m with | none => rfl | some k => have := k3 k rfl; simp; omega
        rw [hm0] at hr
        exact ⟨_, by simp [Instr.sliceAt, Instr.slice, run_underlying hu, hr, Sem.run_bind, run_sizeOf hz], .sc _⟩
  · rename_i id off
    cases hs : arOf P t with
    | none => simp [hs] at h
    | some p =>
      obtain ⟨n, e, z⟩ := p
      simp only [hs, Option.bind_some] at h
      cases hk : hget hp id with
      | none => simp [hk] at h
      | some k =>
        simp only [hk, Option.bind_some] at h
        cases hb : boundsV n n lo hi mx with
        | none => simp [hb] at h
        | some q =>
          obtain ⟨l, hh, m⟩ := q
          simp only [hb, Option.bind_some] at h
          split at h
          · rename_i hc
            obtain ⟨hlen, hml, hl0⟩ := hc
            simp only [Option.some.injEq] at h
            subst h
            cases hx
            rename_i hid
            obtain ⟨hu, hz⟩ := arOf_und hs
            obtain ⟨hr, k1, k2, k3, k4⟩ := boundsV_run (P := P) hb false n (Nat.le_refl _) (Nat.le_refl _) h1 h2 h3
            have hmc : m.getD n ≤ n := by cases m with | none => exact Nat.le_refl _ | some k => have := k3 k rfl; simp; omega
            obtain ⟨cells, g1, g2⟩ := hm.cells id k hk hid
            have hsz := arr_size (hm.cells id k hk hid) g1
            refine ⟨.slice (some ⟨rho id, off + l * z, none⟩) (hh - l) (m.getD n - l), ?_, .sl hid (by omega) (by omega) (by simp) ⟨cells, _, _, g1, ?_⟩⟩
            · simp only [Instr.sliceAt, run_underlying hu, Instr.sureAddr, hr, Sem.run_bind, run_sizeOf hz, Result.andThen_ok, Sem.run_pure]
              have := addr (some ⟨rho id, off, none⟩) (rho id) off l (m.getD n) z rfl (by omega)
              by_cases he : m.getD n = l
              · rw [if_pos he] at this ⊢; rw [← this]
              · rw [if_neg he] at this ⊢; rw [← this]; rfl
            · have : l * z + (m.getD n - l) * z ≤ n * z := by rw [← Nat.add_mul]; exact Nat.mul_le_mul_right _ (by omega)
              omega
          · cases h
  · rename_i cs
    cases hs : arOf P t with
    | none => simp [hs] at h
    | some p =>
      obtain ⟨n, e, z⟩ := p
      simp only [hs, Option.bind_some] at h
      cases hb : boundsV n n lo hi mx with
      | none => simp [hb] at h
      | some q =>
        obtain ⟨l, hh, m⟩ := q
        simp only [hb, Option.bind_some] at h
        split at h
        · rename_i hc
          obtain ⟨hml, hl0⟩ := hc
          simp only [Option.some.injEq] at h
          subst h
          cases hx with | pi f hS hc hx =>
          rename_i b off
          obtain ⟨hu, hz⟩ := arOf_und hs
          obtain ⟨hr, k1, k2, k3, k4⟩ := boundsV_run (P := P) hb false n (Nat.le_refl _) (Nat.le_refl _) h1 h2 h3
          have hmc : m.getD n ≤ n := by cases m with | none => exact Nat.le_refl _ | some k => have := k3 k rfl; simp; omega
          refine ⟨.slice (some ⟨b, off + l * z, none⟩) (hh - l) (m.getD n - l), ?_, im_cut _ _ _ (by omega) (by omega) hS hc hx⟩
          simp only [Instr.sliceAt, run_underlying hu, Instr.sureAddr, hr, Sem.run_bind, run_sizeOf hz, Result.andThen_ok, Sem.run_pure]
          have := addr (some ⟨b, off, none⟩) b off l (m.getD n) z rfl (by omega)
          by_cases he : m.getD n = l
          · rw [if_pos he] at this ⊢; rw [← this]
          · rw [if_neg he] at this ⊢; rw [← this]; rfl
        · cases h
  · rename_i s
    split at h
    · split at h
      · rename_i hu
        cases hb : boundsV s.size s.size lo hi none with
        | none => simp [hb] at h
        | some q =>
          obtain ⟨l, hh, m⟩ := q
          simp only [hb, Option.map_some, Option.some.injEq] at h
          subst h
          cases hx
          have hmx : vmx = none := by
            rcases h3 with ⟨_, e⟩ | ⟨y, u, e1, _⟩
            · exact e
            · cases e1
          subst hmx
          obtain ⟨hr, _⟩ := boundsV_run (P := P) hb false s.size (Nat.le_refl _) (Nat.le_refl _) h1 h2 h3
          exact ⟨_, by simp [Instr.sliceAt, Instr.slice, run_underlying (isStr_und hu), hr, Sem.run_bind], .sc _⟩
      · cases h
    · cases h
  · cases h
end
end Go.Proofs.YtbpcgeanpkokkaaDoor
