/- Texts joined: Sd Se Sf Sg. -/
import Derived.Lib.AppendZeros
import Derived.Test.YtdcbmdmlhjemmaaVa
set_option linter.all false
open Nat renaming reduceEqDiff → zn1, reduceLT → zn2, reduceLeDiff → zn3, reduceAdd → zn4, reduceMul → zn5, reduceSub → zn6, reduceBEq → zn7, mul_one → zn8, zero_add → zn9, one_mul → zna, le_refl → znb, zero_le → znc, add_sub_cancel_left → znd, sub_eq_zero_of_le → zne, add_assoc → znf
open Int renaming reduceToNat → zi1, reducePow → zi2
open List renaming length_append → zl1, drop_zero → zl2, take_succ_cons → zl3, take_zero → zl4, getElem?_drop → zl5, append_assoc → zl6, nil_append → zl7, cons_append → zl8, drop_succ_cons → zl9, take_of_length_le → zla, getElem?_eq_getElem → zlb, getElem?_eq_some_iff → zlc, map_cons → zld, map_nil → zle, all_eq_true → zlf
namespace Go.Proofs.Ytdcbmdmlhjemmaa
open Go.RowKit
section
variable {P : Program} {w : World} {B : Base} {S : Nat → Prop} {rho : Nat → Nat} {A : Nat → Prop} {hp : List (Nat × Blk)} {nx : Nat}
def intV : V → Option Int
 | .sc (.int _ n) => some n
 | _ => none
def lowV : Option V → Option Nat
 | none => some 0
 | some x => (intV x).bind fun n => if 0 ≤ n then some n.toNat else none
def highV (len : Nat) : Option V → Option Nat
 | none => some len
 | some x => (intV x).bind fun n => if 0 ≤ n then some n.toNat else none
def boundsV (len ub : Nat) (lo hi mx : Option V) : Option (Nat × Nat × Option Nat) :=
 (lowV lo).bind fun l => (highV len hi).bind fun h =>
  match mx with
  | none => if l ≤ h ∧ h ≤ ub then some (l, h, none) else none
  | some m => (intV m).bind fun m => if 0 ≤ m ∧ l ≤ h ∧ h ≤ m.toNat ∧ m.toNat ≤ ub ∧ hi.isSome then some (l, h, some m.toNat) else none
theorem lowV_run {lo : Option V} {vlo : Option Value} {l : Nat} (h : lowV lo = some l) (hr : ∀ x, lo = some x → ∃ v, vlo = some v ∧ R S rho w A x v) (hn : lo = none → vlo = none) :
  (vlo = none ∧ l = 0) ∨ ∃ k n, vlo = some (.int k n) ∧ 0 ≤ n ∧ n.toNat = l := by
 cases lo with
 | none => simp [lowV] at h; exact .inl ⟨hn rfl, h.symm⟩
 | some x =>
  obtain ⟨v, hv, hxv⟩ := hr x rfl
  cases hxv <;> simp [lowV, intV] at h
  cases v <;> simp at h
  exact .inr ⟨_, _, hv, h.1, h.2⟩
theorem highV_run {len : Nat} {lo : Option V} {vlo : Option Value} {l : Nat} (h : highV len lo = some l) (hr : ∀ x, lo = some x → ∃ v, vlo = some v ∧ R S rho w A x v) (hn : lo = none → vlo = none) :
  (vlo = none ∧ l = len ∧ lo = none) ∨ ∃ k n, vlo = some (.int k n) ∧ 0 ≤ n ∧ n.toNat = l := by
 cases lo with
 | none => simp [highV] at h; exact .inl ⟨hn rfl, h.symm, rfl⟩
 | some x =>
  obtain ⟨v, hv, hxv⟩ := hr x rfl
  cases hxv <;> simp [highV, intV] at h
  cases v <;> simp at h
  exact .inr ⟨_, _, hv, h.1, h.2⟩
def okO (S : Nat → Prop) (rho : Nat → Nat) (A : Nat → Prop) (w : World) (x : Option V) (v : Option Value) : Prop := (x = none ∧ v = none) ∨ ∃ y u, x = some y ∧ v = some u ∧ R S rho w A y u
theorem boundsV_run {len ub : Nat} {lo hi mx : Option V} {vlo vhi vmx : Option Value} {l h : Nat} {m : Option Nat} (hb : boundsV len ub lo hi mx = some (l, h, m)) (isS : Bool) (cap : Nat) (hub : ub ≤ cap) (_hlen : len ≤ cap)
  (h1 : okO S rho A w lo vlo) (h2 : okO S rho A w hi vhi) (h3 : okO S rho A w mx vmx) :
  (Instr.sliceBounds isS len cap vlo vhi vmx).run P w = .ok (l, h, m.getD cap) w ∧ l ≤ h ∧ h ≤ m.getD cap ∧ (∀ k, m = some k → k ≤ ub) ∧ h ≤ ub := by
 unfold boundsV at hb
 cases hl : lowV lo with
 | none => simp [hl] at hb
 | some l' =>
  cases hh : highV len hi with
  | none => simp [hl, hh] at hb
  | some h' =>
   simp only [hl, hh, Option.bind_some] at hb
   have k1 := lowV_run (S := S) (rho := rho) (A := A) (w := w) (vlo := vlo) hl (fun x hx => by
    rcases h1 with ⟨e, _⟩ | ⟨y, u, e1, e2, e3⟩
    ·rw [e] at hx; cases hx
    ·rw [e1] at hx; cases hx; exact ⟨u, e2, e3⟩) (fun e => by
    rcases h1 with ⟨_, e'⟩ | ⟨y, u, e1, _⟩
    ·exact e'
    ·rw [e1] at e; cases e)
   have k2 := highV_run (S := S) (rho := rho) (A := A) (w := w) (vlo := vhi) hh (fun x hx => by
    rcases h2 with ⟨e, _⟩ | ⟨y, u, e1, e2, e3⟩
    ·rw [e] at hx; cases hx
    ·rw [e1] at hx; cases hx; exact ⟨u, e2, e3⟩) (fun e => by
    rcases h2 with ⟨_, e'⟩ | ⟨y, u, e1, _⟩
    ·exact e'
    ·rw [e1] at e; cases e)
   cases mx with
   | none =>
    have hv : vmx = none := by
     rcases h3 with ⟨_, e⟩ | ⟨y, u, e1, _⟩
     ·exact e
     ·cases e1
    subst hv
    simp only at hb
    split at hb
    ·rename_i hc
     simp only [Option.some.injEq, Prod.mk.injEq] at hb
     obtain ⟨rfl, rfl, rfl⟩ := hb
     refine ⟨?_, hc.1, by simp; omega, (fun k hk => by cases hk), hc.2⟩
     rcases k2 with ⟨rfl, rfl, _⟩ | ⟨kh, nh, rfl, hn0, rfl⟩
     ·rcases k1 with ⟨rfl, rfl⟩ | ⟨kl, nl, rfl, hl0, rfl⟩
      ·simp [Instr.sliceBounds]
      ·have : nl ≤ (h' : Int) := by omega
       simp [Instr.sliceBounds, Instr.sliceBound, asIntOf, hl0, this]
     ·have hh' : nh ≤ (cap : Int) := by omega
      rcases k1 with ⟨rfl, rfl⟩ | ⟨kl, nl, rfl, hl0, rfl⟩
      ·simp [Instr.sliceBounds, Instr.sliceBound, asIntOf, hn0, hh']
      ·have : nl ≤ (nh.toNat : Int) := by omega
       simp [Instr.sliceBounds, Instr.sliceBound, asIntOf, hn0, hh', hl0, this, -Int.ofNat_toNat]
    ·cases hb
   | some mv =>
    obtain ⟨um, rfl, hum⟩ : ∃ u, vmx = some u ∧ R S rho w A mv u := by
     rcases h3 with ⟨e, _⟩ | ⟨y, u, e1, e2, e3⟩
     ·cases e
     ·cases e1; exact ⟨u, e2, e3⟩
    simp only at hb
    cases hi' : intV mv with
    | none => simp [hi'] at hb
    | some mi =>
     simp only [hi', Option.bind_some] at hb
     split at hb
     ·rename_i hc
      simp only [Option.some.injEq, Prod.mk.injEq] at hb
      obtain ⟨rfl, rfl, rfl⟩ := hb
      obtain ⟨hm0, hlh, hhm, hmu, hsome⟩ := hc
      obtain ⟨km, rfl⟩ : ∃ km, um = .int km mi := by
       cases hum <;> simp [intV] at hi'
       cases um <;> simp at hi'
       subst hi'; exact ⟨_, rfl⟩
      refine ⟨?_, hlh, by simpa using hhm, (fun k hk => by cases hk; omega), by omega⟩
      rcases k2 with ⟨_, _, rfl⟩ | ⟨kh, nh, rfl, hn0, rfl⟩
      ·simp at hsome
      ·have e1 : mi ≤ (cap : Int) := by omega
       have e2 : nh ≤ (mi.toNat : Int) := by omega
       rcases k1 with ⟨rfl, rfl⟩ | ⟨kl, nl, rfl, hl0, rfl⟩
       ·simp [Instr.sliceBounds, Instr.sliceBound, asIntOf, hm0, e1, hn0, e2, -Int.ofNat_toNat]
       ·have e3 : nl ≤ (nh.toNat : Int) := by omega
        simp [Instr.sliceBounds, Instr.sliceBound, asIntOf, hm0, e1, hn0, hl0, e2, e3, -Int.ofNat_toNat]
     ·cases hb
def exSlice (P : Program) (hp : List (Nat × Blk)) (t : TypeId) (x : V) (lo hi mx : Option V) : Option V :=
 match x with
 | .sl id off len z cap => (slOf P t).bind fun (_, z') => (boundsV len (cap.getD len) lo hi mx).bind fun (l, h, m) =>
  if z' = z then (if l = 0 ∨ l < h then some (.sl id (off + l * z) (h - l) z (match m with | some m => some (m - l) | none => cap.map (· - l))) else some (.im [] (h - l))) else none
 | .im cs len => (slOf P t).bind fun (_, z) => (boundsV len len lo hi mx).bind fun (l, h, _) => some (.im ((cs.drop (l * z)).take ((h - l) * z)) (h - l))
 | .sc (.slice none 0 0) => (slOf P t).bind fun _ => (boundsV 0 0 lo hi mx).bind fun _ => some (.sc (.slice none 0 0))
 | .pt id off => (arOf P t).bind fun (n, _, z) => (hget hp id).bind fun k => (boundsV n n lo hi mx).bind fun (l, h, m) =>
  if off + n * z ≤ k.cs.length ∧ n ≤ maxLen ∧ (l = 0 ∨ l < h) then some (.sl id (off + l * z) (h - l) z (some (m.getD n - l))) else none
 | .pi cs => (arOf P t).bind fun (n, _, z) => (boundsV n n lo hi mx).bind fun (l, h, _) =>
  if n ≤ maxLen ∧ (l = 0 ∨ l < h) then some (.im ((cs.drop (l * z)).take ((h - l) * z)) (h - l)) else none
 | .sc (.string s) => match mx with
  | none => if isStr P t = true then (boundsV s.size s.size lo hi none).map fun q => .sc (.string (s.extract q.1 q.2.1)) else none
  | some _ => none
 | _ => none
theorem arr_size {b : Nat} {k : Blk} {cells : Array Value} {ty : TypeId} {f : Nat × Nat} (h : Cellsat S rho A w b k) (hb : w.heap[b]? = some (.cells cells ty f)) : k.cs.length ≤ cells.size := by
 obtain ⟨cells', h1, h2⟩ := h
 rw [hb] at h1
 simp only [Option.some.injEq, Obj.cells.injEq] at h1
 obtain ⟨rfl, _, _⟩ := h1
 by_cases hl : k.cs.length = 0
 ·omega
 ·obtain ⟨u, hu, _⟩ := h2 (k.cs.length - 1) _ (zlb (by omega))
  have := (Array.getElem?_eq_some_iff.1 hu).1
  omega
theorem im_cut {cs : List V} {c b off : Nat} {f : Nat → Value} (o n len : Nat) (hl : len ≤ c) (hm : c ≤ maxLen) (hS : S b)
  (hc : ∀ (i : Nat) (x : V), cs[i]? = some x → w.cell? ⟨b, off + i, none⟩ = some (f i)) (hx : ∀ (i : Nat) (x : V), cs[i]? = some x → R S rho w (fun _ => False) x (f i)) :
  R S rho w A (.im ((cs.drop o).take n) len) (.slice (some ⟨b, off + o, none⟩) len c) := by
 have key : ∀ (i : Nat) (x : V), ((cs.drop o).take n)[i]? = some x → cs[o + i]? = some x := by
  intro i x h
  rw [List.getElem?_take] at h
  split at h
  ·rwa [zl5] at h
  ·cases h
 exact .im1 (fun i => f (o + i)) hl hm hS (fun i x h => by rw [znf]; exact hc _ _ (key i x h)) (fun i x h => hx _ _ (key i x h))
theorem slice_sound (hm : Mem B S rho A hp w) {t : TypeId} {x y : V} {lo hi mx : Option V} {vx : Value} {vlo vhi vmx : Option Value} (h : exSlice P hp t x lo hi mx = some y) (hx : R S rho w A x vx)
  (h1 : okO S rho A w lo vlo) (h2 : okO S rho A w hi vhi) (h3 : okO S rho A w mx vmx) : ∃ v, (Instr.sliceAt t vx vlo vhi vmx).run P w = .ok v w ∧ R S rho w A y v := by
 have addr : ∀ (a : Option Addr) (b off l m z : Nat), a = some ⟨b, off, none⟩ → l < m ∨ l = 0 → (if m = l then a else a.map (·.add (l * z))) = some ⟨b, off + l * z, none⟩ := by
  intro a b off l m z ha hlm
  subst ha
  by_cases he : m = l
  ·rcases hlm with hlm | hlm
   ·omega
   ·subst hlm; simp [he]
  ·rw [if_neg he]; simp [addrAdd]
 unfold exSlice at h
 split at h
 ·rename_i id off len z cap
  cases hs : slOf P t with
  | none => simp [hs] at h
  | some p =>
   obtain ⟨e, z'⟩ := p
   simp only [hs, Option.bind_some] at h
   cases hb : boundsV len (cap.getD len) lo hi mx with
   | none => simp [hb] at h
   | some q =>
    obtain ⟨l, hh, m⟩ := q
    simp only [hb, Option.bind_some] at h
    split at h
    ·rename_i hc
     subst hc
     split at h
     ·rename_i hl0
      simp only [Option.some.injEq] at h
      subst h
      obtain ⟨hu, hz⟩ := slOf_und hs
      cases hx with
      | sln hcap =>
       have hub : cap.getD 0 = 0 := by cases cap with | none => rfl | some k => simp [hcap k rfl]
       obtain ⟨hr, k1, k2, k3, k4⟩ := boundsV_run (P := P) hb true 0 (by omega) (by omega) h1 h2 h3
       have hh0 : hh = 0 := by omega
       have hl00 : l = 0 := by omega
       subst hh0; subst hl00
       have hm0 : m.getD 0 = 0 := by cases m with | none => rfl | some k => have := k3 k rfl; simp; omega
       refine ⟨.slice none 0 0, ?_, ?_⟩
       ·rw [hm0] at hr; simp [Instr.sliceAt, Instr.slice, run_underlying hu, hr, Sem.run_bind, run_sizeOf hz]
       ·have : ∀ k, (match m with | some m => some (m - 0) | none => cap.map (· - 0)) = some k → k = 0 := by
         intro k hk
         cases m with
         | some m' => simp at hk hm0; omega
         | none => cases cap with
          | none => simp at hk
          | some c' => simp at hk; have := hcap c' rfl; omega
        simpa using R.sln (S := S) (rho := rho) (A := A) (w := w) (id := id) (off := off) (z := z') this
      | sl hid hl hmx hcap hz0 =>
       rename_i c
       have hub : cap.getD len ≤ c := by cases cap with | none => exact hl | some k => simp [hcap k rfl]
       obtain ⟨hr, k1, k2, k3, k4⟩ := boundsV_run (P := P) hb true c hub hl h1 h2 h3
       have hmc : m.getD c ≤ c := by cases m with | none => exact znb _ | some k => have := k3 k rfl; simp; omega
       refine ⟨.slice (some ⟨rho id, off + l * z', none⟩) (hh - l) (m.getD c - l), ?_, ?_⟩
       ·simp only [Instr.sliceAt, Instr.slice, run_underlying hu, hr, Sem.run_bind, run_sizeOf hz, Result.andThen_ok]
        rw [addr (some ⟨rho id, off, none⟩) (rho id) off l (m.getD c) z' rfl (by omega)]
        rfl
       ·refine .sl hid (by omega) (by omega) ?_ ?_
        ·intro k hk
         cases m with
         | some m' => simpa using hk
         | none => cases cap with
          | none => simp at hk
          | some c' => simp at hk; have := hcap c' rfl; simp; omega
        ·obtain ⟨ce, e', f', g1, g2⟩ := hz0
         refine ⟨ce, e', f', g1, Nat.le_trans ?_ g2⟩
         have : l * z' + (m.getD c - l) * z' ≤ c * z' := by rw [← Nat.add_mul]; exact Nat.mul_le_mul_right _ (by omega)
         omega
     ·rename_i hl0
      simp only [Option.some.injEq] at h
      subst h
      obtain ⟨hu, hz⟩ := slOf_und hs
      cases hx with
      | sln hcap =>
       have hub : cap.getD 0 = 0 := by cases cap with | none => rfl | some k => simp [hcap k rfl]
       obtain ⟨hr, k1, k2, k3, k4⟩ := boundsV_run (P := P) hb true 0 (by omega) (by omega) h1 h2 h3
       omega
      | sl hid hl hmx hcap hz0 =>
       rename_i c
       have hub : cap.getD len ≤ c := by cases cap with | none => exact hl | some k => simp [hcap k rfl]
       obtain ⟨hr, k1, k2, k3, k4⟩ := boundsV_run (P := P) hb true c hub hl h1 h2 h3
       have hmc : m.getD c ≤ c := by cases m with | none => exact znb _ | some k => have := k3 k rfl; simp; omega
       refine ⟨_, by simp only [Instr.sliceAt, Instr.slice, run_underlying hu, hr, Sem.run_bind, run_sizeOf hz, Result.andThen_ok, Sem.run_pure]; rfl, ?_⟩
       refine .im0 (by omega) (by omega) ?_
       intro hn
       exfalso; revert hn; split <;> simp
    ·cases h
 ·rename_i cs len
  cases hs : slOf P t with
  | none => simp [hs] at h
  | some p =>
   obtain ⟨e, z⟩ := p
   simp only [hs, Option.bind_some] at h
   cases hb : boundsV len len lo hi mx with
   | none => simp [hb] at h
   | some q =>
    obtain ⟨l, hh, m⟩ := q
    simp only [hb, Option.bind_some, Option.some.injEq] at h
    subst h
    obtain ⟨hu, hz⟩ := slOf_und hs
    cases hx with
    | im0 hl hmx ha =>
     rename_i c a
     obtain ⟨hr, k1, k2, k3, k4⟩ := boundsV_run (P := P) hb true c hl hl h1 h2 h3
     have hmc : m.getD c ≤ c := by cases m with | none => exact znb _ | some k => have := k3 k rfl; simp; omega
     refine ⟨_, by simp only [Instr.sliceAt, Instr.slice, run_underlying hu, hr, Sem.run_bind, run_sizeOf hz, Result.andThen_ok, Sem.run_pure]; rfl, ?_⟩
     simp only [List.drop_nil, List.take_nil]
     refine .im0 (by omega) (by omega) ?_
     intro hn
     cases a with
     | none => have := ha rfl; omega
     | some ad => exfalso; revert hn; split <;> simp
    | im1 f hl hmx hS hc hx =>
     rename_i c b off
     obtain ⟨hr, k1, k2, k3, k4⟩ := boundsV_run (P := P) hb true c hl hl h1 h2 h3
     have hmc : m.getD c ≤ c := by cases m with | none => exact znb _ | some k => have := k3 k rfl; simp; omega
     refine ⟨_, by simp only [Instr.sliceAt, Instr.slice, run_underlying hu, hr, Sem.run_bind, run_sizeOf hz, Result.andThen_ok, Sem.run_pure]; rfl, ?_⟩
     by_cases hlm : m.getD c = l
     ·rw [if_pos hlm]
      have : hh - l = 0 := by omega
      rw [this]; simp only [Nat.zero_mul, zl4]
      exact .im0 (by omega) (by omega) (by simp)
     ·rw [if_neg hlm]
      simp only [Option.map_some, addrAdd]
      exact im_cut _ _ _ (by omega) (by omega) hS hc hx
 ·cases hs : slOf P t with
  | none => simp [hs] at h
  | some p =>
   obtain ⟨e, z⟩ := p
   simp only [hs, Option.bind_some] at h
   cases hb : boundsV 0 0 lo hi mx with
   | none => simp [hb] at h
   | some q =>
    obtain ⟨l, hh, m⟩ := q
    simp only [hb, Option.bind_some, Option.some.injEq] at h
    subst h
    cases hx
    obtain ⟨hu, hz⟩ := slOf_und hs
    obtain ⟨hr, k1, k2, k3, k4⟩ := boundsV_run (P := P) hb true 0 (by omega) (by omega) h1 h2 h3
    have hh0 : hh = 0 := by omega
    have hl00 : l = 0 := by omega
    subst hh0; subst hl00
    have hm0 : m.getD 0 = 0 := by cases m with | none => rfl | some k => have := k3 k rfl; simp; omega
    rw [hm0] at hr
    exact ⟨_, by simp [Instr.sliceAt, Instr.slice, run_underlying hu, hr, Sem.run_bind, run_sizeOf hz], .sc _⟩
 ·rename_i id off
  cases hs : arOf P t with
  | none => simp [hs] at h
  | some p =>
   obtain ⟨n, e, z⟩ := p
   simp only [hs, Option.bind_some] at h
   cases hk : hget hp id with
   | none => simp [hk] at h
   | some k =>
    simp only [hk, Option.bind_some] at h
    cases hb : boundsV n n lo hi mx with
    | none => simp [hb] at h
    | some q =>
     obtain ⟨l, hh, m⟩ := q
     simp only [hb, Option.bind_some] at h
     split at h
     ·rename_i hc
      obtain ⟨hlen, hml, hl0⟩ := hc
      simp only [Option.some.injEq] at h
      subst h
      cases hx
      rename_i hid
      obtain ⟨hu, hz⟩ := arOf_und hs
      obtain ⟨hr, k1, k2, k3, k4⟩ := boundsV_run (P := P) hb false n (znb _) (znb _) h1 h2 h3
      have hmc : m.getD n ≤ n := by cases m with | none => exact znb _ | some k => have := k3 k rfl; simp; omega
      obtain ⟨cells, g1, g2⟩ := hm.cells id k hk hid
      have hsz := arr_size (hm.cells id k hk hid) g1
      refine ⟨.slice (some ⟨rho id, off + l * z, none⟩) (hh - l) (m.getD n - l), ?_, .sl hid (by omega) (by omega) (by simp) ⟨cells, _, _, g1, ?_⟩⟩
      ·simp only [Instr.sliceAt, run_underlying hu, Instr.sureAddr, hr, Sem.run_bind, run_sizeOf hz, Result.andThen_ok, Sem.run_pure]
       have := addr (some ⟨rho id, off, none⟩) (rho id) off l (m.getD n) z rfl (by omega)
       by_cases he : m.getD n = l
       ·rw [if_pos he] at this ⊢; rw [← this]
       ·rw [if_neg he] at this ⊢; rw [← this]; rfl
      ·have : l * z + (m.getD n - l) * z ≤ n * z := by rw [← Nat.add_mul]; exact Nat.mul_le_mul_right _ (by omega)
       omega
     ·cases h
 ·rename_i cs
  cases hs : arOf P t with
  | none => simp [hs] at h
  | some p =>
   obtain ⟨n, e, z⟩ := p
   simp only [hs, Option.bind_some] at h
   cases hb : boundsV n n lo hi mx with
   | none => simp [hb] at h
   | some q =>
    obtain ⟨l, hh, m⟩ := q
    simp only [hb, Option.bind_some] at h
    split at h
    ·rename_i hc
     obtain ⟨hml, hl0⟩ := hc
     simp only [Option.some.injEq] at h
     subst h
     cases hx with | pi f hS hc hx =>
     rename_i b off
     obtain ⟨hu, hz⟩ := arOf_und hs
     obtain ⟨hr, k1, k2, k3, k4⟩ := boundsV_run (P := P) hb false n (znb _) (znb _) h1 h2 h3
     have hmc : m.getD n ≤ n := by cases m with | none => exact znb _ | some k => have := k3 k rfl; simp; omega
     refine ⟨.slice (some ⟨b, off + l * z, none⟩) (hh - l) (m.getD n - l), ?_, im_cut _ _ _ (by omega) (by omega) hS hc hx⟩
     simp only [Instr.sliceAt, run_underlying hu, Instr.sureAddr, hr, Sem.run_bind, run_sizeOf hz, Result.andThen_ok, Sem.run_pure]
     have := addr (some ⟨b, off, none⟩) b off l (m.getD n) z rfl (by omega)
     by_cases he : m.getD n = l
     ·rw [if_pos he] at this ⊢; rw [← this]
     ·rw [if_neg he] at this ⊢; rw [← this]; rfl
    ·cases h
 ·rename_i s
  split at h
  ·split at h
   ·rename_i hu
    cases hb : boundsV s.size s.size lo hi none with
    | none => simp [hb] at h
    | some q =>
     obtain ⟨l, hh, m⟩ := q
     simp only [hb, Option.map_some, Option.some.injEq] at h
     subst h
     cases hx
     have hmx : vmx = none := by
      rcases h3 with ⟨_, e⟩ | ⟨y, u, e1, _⟩
      ·exact e
      ·cases e1
     subst hmx
     obtain ⟨hr, _⟩ := boundsV_run (P := P) hb false s.size (znb _) (znb _) h1 h2 h3
     exact ⟨_, by simp [Instr.sliceAt, Instr.slice, run_underlying (isStr_und hu), hr, Sem.run_bind], .sc _⟩
   ·cases h
  ·cases h
 ·cases h
end
end Go.Proofs.Ytdcbmdmlhjemmaa
namespace Go.Proofs.Ytdcbmdmlhjemmaa
open Go.RowKit
def V.one : V → Bool
 | .sc u => u.oneCell'
 | .ag _ | .tu _ | .junk => false
 | _ => true
section
variable {P : Program} {w : World} {B : Base} {S : Nat → Prop} {rho : Nat → Nat} {A : Nat → Prop} {hp : List (Nat × Blk)} {nx : Nat}
theorem one_sound {x : V} {v : Value} (h : x.one = true) (hx : R S rho w A x v) : v.oneCell' = true := by
 cases hx <;> first | rfl | (simp [V.one] at h; done) | exact h
theorem setRow_grow (w : World) (g : Nat) (cs : Array Value) : (w.setRow g cs).os = w.os ∧ (w.setRow g cs).tape = w.tape ∧ (w.setRow g cs).output = w.output ∧ (w.setRow g cs).heap.size = w.heap.size := ⟨rfl, rfl, rfl, by simp⟩
theorem Mem.setRow (hm : Mem B S rho A hp w) {id : Nat} {k : Blk} (hk : hget hp id = some k) (ha : A id) (hz : k.fz = false) {cells : Array Value} (hc : w.heap[rho id]? = some (.cells cells k.ty (0, 0))) {cs' : List V} {arr' : List Value}
  (hlen : arr'.length = cells.size) (hcs : ∀ (i : Nat) (x : V), cs'[i]? = some x → ∃ u, arr'[i]? = some u ∧ R S rho w A x u) :
  Mem B S rho A (hset hp id ⟨k.ty, cs', false⟩) (w.setRow (rho id) arr'.toArray) ∧ (∀ b, S b → (w.setRow (rho id) arr'.toArray).heap[b]? = w.heap[b]?) ∧
  (∀ j, A j → A j ∧ rho j = rho j ∧ ∀ n, szAt w (rho j) n → szAt (w.setRow (rho id) arr'.toArray) (rho j) n) := by
 obtain ⟨g1, g2, g3, g4⟩ := setRow_grow w (rho id) arr'.toArray
 have hns : ¬ S (rho id) := hm.fz id k hk ha hz
 have hrow : (w.setRow (rho id) arr'.toArray).heap[rho id]? = some (.cells arr'.toArray k.ty (0, 0)) := setRow_heap w (rho id) cells _ _ _ hc
 have ho : ∀ b, b ≠ rho id → (w.setRow (rho id) arr'.toArray).heap[b]? = w.heap[b]? := fun b hb => setRow_other w (rho id) b _ (fun e => hb e)
 have hS : ∀ b, S b → (w.setRow (rho id) arr'.toArray).heap[b]? = w.heap[b]? := fun b hb => ho b (fun e => hns (e ▸ hb))
 have hsz : ∀ n, szAt w (rho id) n → szAt (w.setRow (rho id) arr'.toArray) (rho id) n := by
  rintro n ⟨c, e, f, h1, h2⟩
  rw [hc] at h1
  simp only [Option.some.injEq, Obj.cells.injEq] at h1
  obtain ⟨rfl, _, _⟩ := h1
  exact ⟨_, _, _, hrow, by simpa [hlen] using h2⟩
 have hA : ∀ j, A j → A j ∧ rho j = rho j ∧ ∀ n, szAt w (rho j) n → szAt (w.setRow (rho id) arr'.toArray) (rho j) n := fun j hj => ⟨hj, rfl, fun n hn => by
  by_cases e : rho j = rho id
  ·rw [e] at hn ⊢; exact hsz n hn
  ·exact hn.of_heap (ho _ e)⟩
 refine ⟨hm.set id k _ hk ha hz g1 g2 g3 g4 ho hsz ⟨_, hrow, fun i x hx => ?_⟩, hS, hA⟩
 obtain ⟨u, hu, hr⟩ := hcs i x hx
 exact ⟨u, by simpa using hu, hr.mono (fun b hb => ⟨hb, hS b hb⟩) hA⟩
theorem Cellsat.all {b : Nat} {k : Blk} (h : Cellsat S rho A w b k) : ∃ cells : Array Value, w.heap[b]? = some (.cells cells k.ty (0, 0)) ∧ k.cs.length ≤ cells.size ∧ All S rho A w k.cs (cells.toList.take k.cs.length) := by
 obtain ⟨cells, h1, h2⟩ := h
 have hl := arr_size ⟨cells, h1, h2⟩ h1
 refine ⟨cells, h1, hl, by simp; omega, fun i x u hx hu => ?_⟩
 obtain ⟨u', hu', hr⟩ := h2 i x hx
 rw [List.getElem?_take] at hu
 split at hu
 ·rw [Array.getElem?_toList, hu'] at hu; cases hu; exact hr
 ·cases hu
def exStore (P : Program) (hp : List (Nat × Blk)) (t : TypeId) (a x : V) : Option Eff :=
 match a with
 | .pt id off => (hget hp id).bind fun k => (vcells x).bind fun xs =>
  if k.fz = false ∧ szOf P t = some xs.length ∧ off + xs.length ≤ k.cs.length ∧ xs.all V.one = true then some (.set id ⟨k.ty, setAll k.cs off xs, false⟩) else none
 | _ => none
theorem store_sound (hm : Mem B S rho A hp w) {t : TypeId} {a x : V} {va vx : Value} {f : Eff} (h : exStore P hp t a x = some f) (ha : R S rho w A a va) (hx : R S rho w A x vx) :
  Out B S rho A hp nx w ((do Instr.storeAt t va vx; pure undef : Sem Value).run P w) .junk f := by
 unfold exStore at h
 split at h
 ·rename_i id off
  cases ha with | pt hid =>
  cases hk : hget hp id with
  | none => simp [hk] at h
  | some k =>
   cases hc : vcells x with
   | none => simp [hk, hc] at h
   | some xs =>
    simp only [hk, hc, Option.bind_some] at h
    split at h
    ·rename_i hb
     obtain ⟨hz, hsz, hle, hone⟩ := hb
     simp only [Option.some.injEq] at h
     subst h
     obtain ⟨h1, h2⟩ := vcells_sound hx hc
     obtain ⟨cells, c1, c2, c3⟩ := (hm.cells id k hk hid).all
     have hAll : All S rho A w xs vx.cells.toList := ⟨by simpa using h1.symm, fun i y u hy hu => h2 i y u hy (by simpa using hu)⟩
     have h1v : ∀ v ∈ vx.cells.toList, v.oneCell' = true := by
      intro v hv
      obtain ⟨i, hi⟩ := List.mem_iff_getElem?.1 hv
      have hlt : i < xs.length := by rw [hAll.1]; exact (List.getElem?_eq_some_iff.1 hi).1
      exact one_sound (List.all_eq_true.1 hone _ (List.getElem_mem hlt)) (hAll.2 i _ v (zlb hlt) hi)
     have hst := run_storeCells_at P (rho id) off k.ty vx.cells.toList 0 cells w c1 (by simp; omega) h1v
     simp only [Nat.add_zero] at hst
     have hl3 := hAll.1
     have hset := c3.setAll hAll (off := off) (by simp at hl3 ⊢; omega)
     have hcs : ∀ (i : Nat) (y : V), (setAll k.cs off xs)[i]? = some y → ∃ u, (cells.toList.take off ++ vx.cells.toList ++ cells.toList.drop (off + vx.cells.toList.length))[i]? = some u ∧ R S rho w A y u := by
      intro i y hy
      have hlt : i < k.cs.length := by rw [← setAll_length xs k.cs off]; exact (List.getElem?_eq_some_iff.1 hy).1
      have hs2 : i < ((cells.toList.take k.cs.length).take off ++ vx.cells.toList ++ (cells.toList.take k.cs.length).drop (off + vx.cells.toList.length)).length := by
       rw [← hset.1, setAll_length]; exact hlt
      refine ⟨_, ?_, hset.2 i y _ hy (zlb hs2)⟩
      rw [← zlb hs2]
      simp only [List.getElem?_append, List.getElem?_take, zl5, zl1, List.length_take, List.take_take]
      simp only [Array.length_toList] at hl3 ⊢
      have e2 : min off cells.size = off := by omega
      have e3 : min off k.cs.length = off := by omega
      simp only [e2, e3]
      by_cases hi : i < off + vx.cells.size
      ·simp only [hi, if_true]
      ·simp only [hi, if_false]
       rw [if_pos (by omega)]
     obtain ⟨m1, m2, m3⟩ := hm.setRow hk hid hz c1 (arr' := cells.toList.take off ++ vx.cells.toList ++ cells.toList.drop (off + vx.cells.toList.length)) (by simp; omega) hcs
     refine ⟨undef, _, rho, A, ?_, m1, m3, fun _ h => .inl h, m2, .junk _⟩
     have hsz' : ¬ (vx.cells.size ≠ xs.length) := by simp [h1]
     simp [Instr.storeAt, Instr.sureAddr, storeVar, Sem.run_bind, run_sizeOf hsz, h1, hst]
    ·cases h
 ·cases h
def srcV (hp : List (Nat × Blk)) : V → Option (List V × Nat)
 | .sl id off len z _ => (hget hp id).bind fun k => if off + len * z ≤ k.cs.length then some ((k.cs.drop off).take (len * z), len) else none
 | .im cs len => some (cs, len)
 | .sc (.slice none 0 0) => some ([], 0)
 | _ => none
theorem src_sound (hm : Mem B S rho A hp w) {x : V} {vx : Value} {ys : List V} {m : Nat} (h : srcV hp x = some (ys, m)) (hx : R S rho w A x vx) :
  ∃ a c us, vx = .slice a m c ∧ All S rho A w ys us ∧ (ys ≠ [] → ∃ ad, a = some ad ∧ ∀ j u, us[j]? = some u → w.cell? (ad.add j) = some u) ∧ m ≤ c ∧ c ≤ maxLen ∧ (a = none → c = 0) := by
 unfold srcV at h
 split at h
 ·rename_i id off len z cap
  cases hk : hget hp id with
  | none => simp [hk] at h
  | some k =>
   simp only [hk, Option.bind_some] at h
   split at h
   ·rename_i hb
    simp only [Option.some.injEq, Prod.mk.injEq] at h
    obtain ⟨rfl, rfl⟩ := h
    cases hx with
    | sln => exact ⟨none, 0, [], rfl, ⟨by simp, fun i x u hx => by simp at hx⟩, fun h => absurd (by simp) h, znb _, by unfold maxLen; omega, fun _ => rfl⟩
    | sl hid hl hmx hcap hz0 =>
     obtain ⟨cells, c1, c2, c3⟩ := (hm.cells id k hk hid).all
     refine ⟨_, _, _, rfl, (c3.drop off).take (len * z), fun _ => ⟨_, rfl, fun j u hu => ?_⟩, hl, hmx, by simp⟩
     rw [addrAdd, cell_of_row w (rho id) (off + j) cells _ _ c1]
     rw [List.getElem?_take] at hu
     split at hu
     ·rw [zl5, List.getElem?_take] at hu
      split at hu
      ·simpa using hu
      ·cases hu
     ·cases hu
   ·cases h
 ·rename_i cs len
  simp only [Option.some.injEq, Prod.mk.injEq] at h
  obtain ⟨rfl, rfl⟩ := h
  cases hx with
  | im0 hl hmx ha => exact ⟨_, _, [], rfl, ⟨by simp, fun i x u hx => by simp at hx⟩, fun h => absurd rfl h, hl, hmx, ha⟩
  | im1 f hl hmx hS hc hx =>
   rename_i c b off
   refine ⟨_, _, (List.range cs.length).map f, rfl, ⟨by simp, fun i y u hy hu => ?_⟩, fun _ => ⟨_, rfl, fun j u hu => ?_⟩, hl, hmx, by simp⟩
   ·have hlt := (List.getElem?_eq_some_iff.1 hy).1
    rw [List.getElem?_map, List.getElem?_range hlt] at hu
    simp at hu; subst hu; exact (hx i y hy).open
   ·have hlt : j < cs.length := by have := (List.getElem?_eq_some_iff.1 hu).1; simpa using this
    rw [List.getElem?_map, List.getElem?_range hlt] at hu
    simp at hu; subst hu
    rw [addrAdd]; exact hc j _ (zlb hlt)
 ·simp only [Option.some.injEq, Prod.mk.injEq] at h
  obtain ⟨rfl, rfl⟩ := h
  cases hx
  exact ⟨none, 0, [], rfl, ⟨by simp, fun i x u hx => by simp at hx⟩, fun h => absurd rfl h, znb _, by unfold maxLen; omega, fun _ => rfl⟩
 ·cases h
def bytesV : List V → Option (List UInt8)
 | [] => some []
 | .sc (.int .u8 n) :: r => (bytesV r).map (UInt8.ofNat n.toNat :: ·)
 | _ => none
def isBytes (P : Program) (t : TypeId) : Bool :=
 match P.underlying t with
 | some (.slice e) => match P.underlying e with
  | some (.int .u8) => true
  | _ => false
 | _ => false
theorem isBytes_und {t : TypeId} (h : isBytes P t = true) : ∃ e, P.underlying t = some (.slice e) ∧ P.underlying e = some (.int .u8) := by
 unfold isBytes at h
 split at h
 ·split at h
  ·exact ⟨_, ‹_›, ‹_›⟩
  ·cases h
 ·cases h
def bytesH (P : Program) (hp : List (Nat × Blk)) (src dst : TypeId) (x : V) : Option V :=
 if isStr P dst = true ∧ isBytes P src = true then (srcV hp x).bind fun (ys, m) => if ys.length = m then (bytesV ys).map fun l => .sc (.string ⟨l.toArray⟩) else none
 else none
def exConvH (P : Program) (hp : List (Nat × Blk)) (src dst : TypeId) (x : V) : Option V :=
 match x with
 | .sc (.string _) => if hasT P src = true ∧ isStr P dst = true then some x else none
 | .sl _ _ _ _ _ | .im _ _ | .sc (.slice none 0 0) => bytesH P hp src dst x
 | _ => exConv P src dst x
def bytesU : List Value → List UInt8
 | .int .u8 n :: r => UInt8.ofNat n.toNat :: bytesU r
 | _ => []
theorem bytesV_all : ∀ {ys : List V} {us : List Value} {l : List UInt8}, bytesV ys = some l → All S rho A w ys us → bytesU us = l ∧ ∀ u ∈ us, ∃ n, u = .int .u8 n
 | [], us, l, h, ha => by
  have : us = [] := List.eq_nil_of_length_eq_zero (by have := ha.1; simpa using this.symm)
  subst this
  simp only [bytesV, Option.some.injEq] at h
  subst h
  exact ⟨rfl, fun u hu => by simp at hu⟩
 | y :: ys, us, l, h, ha => by
  match us, ha with
  | [], ha => have := ha.1; simp at this
  | u :: us, ha =>
   have h0 := ha.2 0 y u rfl rfl
   have hr : All S rho A w ys us := ⟨by have := ha.1; simpa using this, fun i x v hx hv => ha.2 (i + 1) x v (by simpa using hx) (by simpa using hv)⟩
   unfold bytesV at h
   split at h
   ·rename_i e; cases e
   ·rename_i n r e
    simp only [List.cons.injEq] at e
    obtain ⟨rfl, rfl⟩ := e
    cases h0
    cases hb : bytesV ys with
    | none => simp [hb] at h
    | some l' =>
     simp only [hb, Option.map_some, Option.some.injEq] at h
     subst h
     obtain ⟨h1, h2⟩ := bytesV_all hb hr
     refine ⟨by simp only [bytesU, h1], fun v hv => ?_⟩
     rcases List.mem_cons.1 hv with rfl | hv
     ·exact ⟨_, rfl⟩
     ·exact h2 v hv
   ·cases h
theorem push_all {P : Program} (w : World) (f : Value → ByteArray → Sem (ForInStep ByteArray)) (hf : ∀ n r, f (.int .u8 n) r = pure (.yield (r.push (UInt8.ofNat n.toNat)))) :
  ∀ (us : List Value) (s : ByteArray), (∀ u ∈ us, ∃ n, u = .int .u8 n) → (forIn us s f).run P w = .ok ⟨s.data ++ (bytesU us).toArray⟩ w
 | [], s, _ => by simp [bytesU]
 | u :: us, s, h => by
  obtain ⟨n, rfl⟩ := h u (by simp)
  rw [List.forIn_cons, hf]
  simp only [Sem.run_bind, Sem.run_pure, Result.andThen_ok]
  rw [push_all w f hf us _ fun v hv => h v (by simp [hv])]
  simp [bytesU, ByteArray.push]
theorem convH_sound (hm : Mem B S rho A hp w) {src dst : TypeId} {x y : V} {vx : Value} (h : exConvH P hp src dst x = some y) (hx : R S rho w A x vx) : ∃ v, (convert src dst vx).run P w = .ok v w ∧ R S rho w A y v := by
 have key : bytesH P hp src dst x = some y → ∃ v, (convert src dst vx).run P w = .ok v w ∧ R S rho w A y v := by
  intro h
  unfold bytesH at h
  split at h
  ·rename_i hc
   obtain ⟨hs, hb⟩ := hc
   obtain ⟨e, h1, h2⟩ := isBytes_und hb
   have h3 := isStr_und hs
   cases hsrc : srcV hp x with
   | none => simp [hsrc] at h
   | some q =>
    obtain ⟨ys, m⟩ := q
    simp only [hsrc, Option.bind_some] at h
    split at h
    ·rename_i hlen
     cases hbv : bytesV ys with
     | none => simp [hbv] at h
     | some l =>
      simp only [hbv, Option.map_some, Option.some.injEq] at h
      subst h
      obtain ⟨a, c, us, rfl, hAll, hcell, hmc, hcm, hn0⟩ := src_sound hm hsrc hx
      obtain ⟨hu, hall⟩ := bytesV_all hbv hAll
      have hul : us.length = m := by rw [← hAll.1, hlen]
      have hload : ∀ ad, a = some ad → ys ≠ [] ∨ m = 0 → (loadCells ad m).run P w = .ok us.toArray w := by
       intro ad ha hy
       subst ha
       rw [← hul]
       refine run_loadCells_list (P := P) (w := w) ad us fun j v hj => ?_
       have hne : ys ≠ [] := by
        intro e'
        rw [e'] at hAll
        have h0 : us.length = 0 := by simpa using hAll.1.symm
        have := List.eq_nil_of_length_eq_zero h0
        rw [this] at hj; simp at hj
       obtain ⟨ad', e', hc'⟩ := hcell hne
       cases e'
       exact hc' j v hj
      cases a with
      | none =>
       have hc0 := hn0 rfl
       have : us = [] := List.eq_nil_of_length_eq_zero (by omega)
       subst this
       simp only [bytesU] at hu
       subst hu
       exact ⟨.string .empty, by simp [convert, run_underlying h1, run_underlying h2, run_underlying h3, Conv.bytesToString, Sem.run_bind], .sc _⟩
      | some ad =>
       have hl := hload ad rfl (by
        rcases Nat.eq_zero_or_pos m with h0 | h0
        ·exact .inr h0
        ·exact .inl (by intro e'; rw [e'] at hlen; simp at hlen; omega))
       refine ⟨.string ⟨l.toArray⟩, ?_, .sc _⟩
       simp only [convert, Sem.run_bind, run_underlying h1, run_underlying h2, run_underlying h3, Result.andThen_ok, Conv.bytesToString, hl]
       rw [List.forIn_toArray, push_all w _ (fun _ _ => rfl) us _ hall, hu]
       simp
    ·cases h
  ·cases h
 unfold exConvH at h
 split at h
 ·split at h
  ·rename_i hc
   simp only [Option.some.injEq] at h
   subst h
   cases hx
   obtain ⟨ds, hs⟩ := Option.isSome_iff_exists.1 hc.1
   refine ⟨_, ?_, .sc _⟩
   have h3 := isStr_und hc.2
   cases ds <;> simp [convert, run_underlying hs, run_underlying h3]
  ·cases h
 ·exact key h
 ·exact key h
 ·exact key h
 ·exact conv_sound h hx
def exLen (P : Program) (t : TypeId) : V → Option V
 | .sl _ _ len _ _ | .im _ len => (slOf P t).bind fun _ => some (.sc (.int .i64 len))
 | .sc (.slice _ n _) => (slOf P t).bind fun _ => some (.sc (.int .i64 n))
 | .sc (.string s) => if isStr P t then some (.sc (.int .i64 s.size)) else none
 | .ag _ => (arOf P t).bind fun (n, _, _) => some (.sc (.int .i64 n))
 | _ => none
theorem len_sound {t ty : TypeId} {x y : V} {vx : Value} (h : exLen P t x = some y) (hx : R S rho w A x vx) : ∃ v, (Builtin.len_ #[t] ty #[vx]).run P w = .ok v w ∧ R S rho w A y v := by
 have sl : ∀ {p : TypeId × Nat} {a : Option Addr} {n c : Nat}, slOf P t = some p → (Builtin.len_ #[t] ty #[.slice a n c]).run P w = .ok (.int .i64 n) w := by
  intro p a n c hs
  obtain ⟨e, z⟩ := p
  obtain ⟨hu, hz⟩ := slOf_und hs
  simp [Builtin.len_, run_underlying hu, goInt]
 unfold exLen at h
 split at h
 ·cases hs : slOf P t with
  | none => simp [hs] at h
  | some p =>
   simp only [hs, Option.bind_some, Option.some.injEq] at h
   subst h
   cases hx <;> exact ⟨_, sl hs, .sc _⟩
 ·cases hs : slOf P t with
  | none => simp [hs] at h
  | some p =>
   simp only [hs, Option.bind_some, Option.some.injEq] at h
   subst h
   cases hx <;> exact ⟨_, sl hs, .sc _⟩
 ·cases hs : slOf P t with
  | none => simp [hs] at h
  | some p =>
   simp only [hs, Option.bind_some, Option.some.injEq] at h
   subst h
   cases hx
   exact ⟨_, sl hs, .sc _⟩
 ·split at h
  ·rename_i hu
   simp only [Option.some.injEq] at h
   subst h
   cases hx
   exact ⟨_, by simp [Builtin.len_, run_underlying (isStr_und hu), goInt], .sc _⟩
  ·cases h
 ·cases hs : arOf P t with
  | none => simp [hs] at h
  | some p =>
   obtain ⟨n, e, z⟩ := p
   simp only [hs, Option.bind_some, Option.some.injEq] at h
   subst h
   obtain ⟨hu, hz⟩ := arOf_und hs
   exact ⟨_, by simp [Builtin.len_, run_underlying hu, goInt], .sc _⟩
 ·cases h
def exAppend (P : Program) (hp : List (Nat × Blk)) (nx : Nat) (t : TypeId) (s x : V) : Option (V × Eff) :=
 (mkOf P t).bind fun (e, by', zc) => (srcV hp x).bind fun (ys, m) =>
  if ys.length = m * zc.length ∧ ys.all V.one = true then
   match s with
   | .sl id off n z _ => (hget hp id).bind fun k =>
    if off = 0 ∧ z = zc.length ∧ k.fz = false ∧ k.ty = e ∧ n * z ≤ k.cs.length ∧ n + m < 1125899906842624 ∧ (n + m) * by' ≤ 140737488355328 then some (.sl nx 0 (n + m) z none, .app id ⟨e, k.cs.take (n * z) ++ ys, false⟩) else none
   | .sc (.slice none 0 0) => if 0 < m ∧ m < 1125899906842624 ∧ m * by' ≤ 140737488355328 then some (.sl nx 0 m zc.length none, .new ⟨e, ys, false⟩) else none
   | _ => none
  else none
end
end Go.Proofs.Ytdcbmdmlhjemmaa
namespace Go.Proofs.Ytdcbmdmlhjemmaa
open Go.RowKit
section
variable {P : Program} {w : World} {B : Base} {S : Nat → Prop} {rho : Nat → Nat} {A : Nat → Prop} {hp : List (Nat × Blk)} {nx : Nat}
theorem run_append_zero (t ty e : TypeId) {z : Nat} (ht : P.underlying t = some (.slice e)) (hs : szOf P e = some z) (base a : Option Addr) (n c c' : Nat) (hn : n ≤ c) :
  (Builtin.append_ #[t, t] ty #[.slice base n c, .slice a 0 c']).run P w = .ok (.slice base n c) w := by
 have hf : (Builtin.firstCells z 0 (.slice a 0 c')).run P w = .ok #[] w := by
  cases a with
  | none => exact run_firstCells_none (P := P) w z 0 0 c'
  | some ad => exact run_firstCells_some (P := P) w z 0 ad 0 c' [] (by simp) (by simp)
 cases base <;> simp [Builtin.append_, run_underlying ht, Sem.run_bind, run_sizeOf hs, Builtin.lenOf, hn, hf, storeCells]
theorem Mem.phantom (h : Mem B S rho A hp w) (id : Nat) (hid : ¬ A id) (k : Blk) : Mem B S rho A ((id, k) :: hp) w := by
 have hg : ∀ i q, hget ((id, k) :: hp) i = some q → A i → hget hp i = some q := by
  intro i q hq ha
  simp only [hget] at hq
  rw [if_neg (fun e : i = id => hid (e ▸ ha))] at hq
  exact hq
 exact {
  cells := fun i q hq ha => h.cells i q (hg i q hq ha) ha
  fz := fun i q hq ha => h.fz i q (hg i q hq ha) ha
  own := fun i q hq ha => h.own i q (hg i q hq ha) ha
  inj := fun i j q q' hq hq' ha ha' => h.inj i j q q' (hg i q hq ha) (hg j q' hq' ha') ha ha'
  slt := h.slt
  sub := h.sub
  base := h.base
  frame := h.frame
  keep := h.keep }
theorem Out.less {hp' : List (Nat × Blk)} {id : Nat} {k : Blk} {r : Result Value} {x : V} (h : Out B S rho A hp' nx w r x (.new k)) (e : hp' = hdel hp id) : Out B S rho A hp nx w r x (.app id k) := by
 subst e
 obtain ⟨v, w', rho', A', h1, h2, h3, h4, h5, h6⟩ := h
 exact ⟨v, w', rho', A', h1, h2, h3, fun i hi => (h4 i hi).imp (fun h => h) (fun h => ⟨h.1, k, .inr ⟨id, rfl⟩⟩), h5, h6⟩
theorem Mem.del (h : Mem B S rho A hp w) (id : Nat) : Mem B S rho A (hdel hp id) w :=
 h.less fun i k hk => by rw [hget_hdel] at hk; split at hk; cases hk; exact hk
theorem grown_sound (hm : Mem B S rho A hp w) (hnx : ¬ A nx) {e : TypeId} {cs : List V} {arr rest : List Value} (h : All S rho A w cs arr) {r : Result Value} {l c z : Nat} (hr : r = .ok (.slice (some ⟨w.heap.size, 0, none⟩) l c) (w.drew.alloc (.cells (arr ++ rest).toArray e)))
  (hl : l ≤ c) (hc : c ≤ maxLen) (hs : c * z ≤ (arr ++ rest).length) : Out B S rho A hp nx w r (.sl nx 0 l z none) (.new ⟨e, cs, false⟩) := by
 have g : Grow w (w.drew.alloc (.cells (arr ++ rest).toArray e)) := (Grow.drawn w _).trans (Grow.alloc w.drew _)
 refine Out.new (b := w.heap.size) hm hnx hr g (znb _) ((h.mono (fun b hb => ⟨hb, g.block b (hm.slt b hb)⟩) (fun _ h => ⟨h, rfl, fun _ => g.szAt⟩)).cellsat (rest := rest) ?_) ?_
 ·exact heap_alloc_new w.drew _
 ·have := R.sl (S := S) (rho := fun i => if i = nx then w.heap.size else rho i) (A := fun i => i = nx ∨ A i) (w := w.drew.alloc (.cells (arr ++ rest).toArray e)) (id := nx) (off := 0) (z := z) (cap := none) (.inl rfl) hl hc (by simp) (by
   refine ⟨(arr ++ rest).toArray, e, (0, 0), ?_, by simpa using hs⟩
   simp only [if_true]; exact heap_alloc_new w.drew _)
  simpa using this
theorem append_sound (hm : Mem B S rho A hp w) (hnx : ¬ A nx) {t ty : TypeId} {s x y : V} {vs vx : Value} {f : Eff} (h : exAppend P hp nx t s x = some (y, f)) (hs : R S rho w A s vs) (hx : R S rho w A x vx) :
  Out B S rho A hp nx w ((Builtin.append_ #[t, t] ty #[vs, vx]).run P w) y f := by
 unfold exAppend at h
 cases hk : mkOf P t with
 | none => simp [hk] at h
 | some p =>
  obtain ⟨e, by', zc⟩ := p
  cases hsrc : srcV hp x with
  | none => simp [hk, hsrc] at h
  | some q =>
   obtain ⟨ys, m⟩ := q
   simp only [hk, hsrc, Option.bind_some] at h
   obtain ⟨i, zv, h1, h2, h3, rfl, rfl, h6, h7, h8⟩ := mkOf_und hk
   have hszE : szOf P e = some i.size := by simp [szOf, h2]
   obtain ⟨a, c', us, rfl, hAll, hcell, hmc, hcm, hn0⟩ := src_sound hm hsrc hx
   split at h
   ·rename_i hys
    obtain ⟨hyl, hone⟩ := hys
    have hul : us.length = m * i.size := by rw [← hAll.1, hyl, h6]
    have h1v : ∀ v ∈ us, v.oneCell' = true := by
     intro v hv
     obtain ⟨j, hj⟩ := List.mem_iff_getElem?.1 hv
     have hlt : j < ys.length := by rw [hAll.1]; exact (List.getElem?_eq_some_iff.1 hj).1
     exact one_sound (List.all_eq_true.1 hone _ (List.getElem_mem hlt)) (hAll.2 j _ v (zlb hlt) hj)
    have hne : 0 < m → ys ≠ [] := by
     intro hpos e'
     rw [e'] at hyl
     have : 1 * 1 ≤ m * zv.cells.toList.length := Nat.mul_le_mul hpos (by omega)
     simp at hyl this; omega
    have hy0 : m = 0 → ys = [] := by intro h0; subst h0; exact List.eq_nil_of_length_eq_zero (by simpa using hyl)
    have hzc : ∀ n, (Builtin.zeroCells zv.cells n).size = n * i.size := by intro n; rw [size_zeroCells, h7]
    split at h
    ·rename_i id off n z cap
     cases hg : hget hp id with
     | none => simp [hg] at h
     | some k =>
      simp only [hg, Option.bind_some] at h
      split at h
      ·rename_i hc
       obtain ⟨rfl, hz, hfz, hty, hle, hlim, hby⟩ := hc
       simp only [Option.some.injEq, Prod.mk.injEq] at h
       obtain ⟨rfl, rfl⟩ := h
       have hz' : z = i.size := by omega
       cases hs with
       | sln hcap =>
        by_cases hm0 : m = 0
        ·subst hm0
         have hy := hy0 rfl
         subst hy
         refine ⟨.slice none 0 0, w, rho, A, run_append_zero t ty e h1 hszE none a 0 0 c' (znb _), ?_, fun _ h => ⟨h, rfl, fun _ h => h⟩, fun _ h => .inl h, fun _ _ => rfl, .sln (by simp)⟩
         exact (hm.del id).phantom nx hnx _
        ·obtain ⟨ad, rfl, hcd⟩ := hcell (hne (by omega))
         have hr := run_append_nil (P := P) w t ty e i zv h1 h2 h3 ad m c' us hul hcd (by omega) (by omega) (by have := (show m * i.bytes ≤ (0 + m) * i.bytes by simp); omega)
         have hge := grownCap_ge w m 0 e
         rw [show List.take (0 * z) k.cs ++ ys = ys by simp]
         refine Out.less (grown_sound (hm.del id) hnx (rest := (Builtin.zeroCells zv.cells (grownCap w m 0 e - m)).toList) (cs := ys) hAll (c := grownCap w m 0 e) (l := 0 + m) ?_ (by omega) (grownCap_le_maxLen w m 0 e (by unfold maxLen; omega)) ?_) rfl
         ·rw [hr, zn9]; congr 3; apply Array.ext'; simp
         ·have e2 := hzc (grownCap w m 0 e - m)
          simp [hul, e2, hz', ← Nat.add_mul]
          rw [show m + (grownCap w m 0 e - m) = grownCap w m 0 e by omega]; exact znb _
       | sl hid hl hmx hcap hz0 =>
        rename_i c
        obtain ⟨cells, c1, c2, c3⟩ := (hm.cells id k hg hid).all
        have hAllo : All S rho A w (k.cs.take (n * z)) (cells.toList.take (n * z)) := by
         have := c3.take (n * z)
         rwa [List.take_take, Nat.min_eq_left hle] at this
        have hnsz : n * z ≤ cells.size := by omega
        have hns : ¬ S (rho id) := hm.fz id k hg hid hfz
        have hcsz : c * z ≤ cells.size := by
         obtain ⟨ce, e', f', g1, g2⟩ := hz0
         rw [c1] at g1
         simp only [Option.some.injEq, Obj.cells.injEq] at g1
         obtain ⟨rfl, _, _⟩ := g1
         omega
        have hcomes : ∀ {w' : World}, Mem B S rho A (hdel hp id) w' → (∀ j, A j → A j ∧ rho j = rho j ∧ ∀ n, szAt w (rho j) n → szAt w' (rho j) n) → (∀ b, S b → w'.heap[b]? = w.heap[b]?) → (hcs : Cellsat S rho A w' (rho id) ⟨e, k.cs.take (n * z) ++ ys, false⟩) → n + m ≤ c →
          ∀ r : Result Value, r = .ok (.slice (some ⟨rho id, 0, none⟩) (n + m) c) w' → Out B S rho A hp nx w r (.sl nx 0 (n + m) z none) (.app id ⟨e, k.cs.take (n * z) ++ ys, false⟩) := by
         intro w' hm' hA' hS' hcs hroom r hr
         refine ⟨_, w', _, _, hr, hm'.come nx hnx _ (rho id) ?_ hns (hm.own id k hg hid) hcs, fun j hj => ⟨.inr hj, if_neg (fun e : j = nx => hnx (e ▸ hj)), (hA' j hj).2.2⟩, fun j hj => hj.elim (fun e' => .inr ⟨e', _, .inr ⟨id, rfl⟩⟩) .inl, hS', ?_⟩
         ·intro j q hq haj he
          rw [hget_hdel] at hq
          split at hq
          ·cases hq
          ·rename_i hne'; exact hne' (hm.inj j id q k hq hg haj hid he)
         ·have := R.sl (S := S) (rho := fun i => if i = nx then rho id else rho i) (A := fun i => i = nx ∨ A i) (w := w') (id := nx) (off := 0) (z := z) (cap := none) (.inl rfl) hroom hmx (by simp) (by
           simp only [if_true]; exact (hA' id hid).2.2 _ hz0)
          simpa using this
        by_cases hm0 : m = 0
        ·subst hm0
         have hy := hy0 rfl
         subst hy
         refine hcomes (hm.del id) (fun j hj => ⟨hj, rfl, fun _ h => h⟩) (fun _ _ => rfl) ?_ (by omega) _ (run_append_zero t ty e h1 hszE _ a n c c' hl)
         rw [List.append_nil]
         refine All.cellsat (rest := cells.toList.drop (n * z)) hAllo ?_
         rw [List.take_append_drop]; simpa [hty] using c1
        ·obtain ⟨ad, rfl, hcd⟩ := hcell (hne (by omega))
         by_cases hroom : n + m ≤ c
         ·have hfit : n * i.size + us.length ≤ cells.size := by
           rw [hul, ← Nat.add_mul, ← hz']; exact Nat.le_trans (Nat.mul_le_mul_right _ hroom) hcsz
          have hr := run_append_room (P := P) w t ty e i h1 h2 (rho id) n c cells (hty ▸ c1) ad m c' us hul hcd h1v hroom hfit
          have hnew := hAllo.append hAll
          rw [hz'] at hnew hnsz
          obtain ⟨m1, m2, m3⟩ := hm.setRow hg hid hfz c1 (cs' := k.cs.take (n * z) ++ ys) (arr' := cells.toList.take (n * i.size) ++ us ++ cells.toList.drop (n * i.size + us.length)) (by simp; omega) (fun j y hj => by
           rw [hz'] at hj
           have hlt : j < (cells.toList.take (n * i.size) ++ us).length := by rw [← hnew.1]; exact (List.getElem?_eq_some_iff.1 hj).1
           refine ⟨_, ?_, hnew.2 j y _ hj (zlb hlt)⟩
           rw [List.getElem?_append, if_pos hlt, ← zlb hlt])
          refine hcomes (m1.less fun j q hq => ?_) m3 m2 ?_ hroom _ hr
          ·rw [hget_hdel] at hq
           split at hq
           ·cases hq
           ·rename_i hne'; rw [hget_hset, if_neg hne']; exact hq
          ·have hmem : hget (hset hp id ⟨k.ty, k.cs.take (n * z) ++ ys, false⟩) id = some ⟨k.ty, k.cs.take (n * z) ++ ys, false⟩ := by rw [hget_hset, if_pos rfl, hg]; rfl
           have := m1.cells id _ hmem hid
           rwa [hty] at this
         ·have holds : ∀ j v, (cells.toList.take (n * z))[j]? = some v → w.cell? ((⟨rho id, 0, none⟩ : Addr).add j) = some v := by
           intro j v hv
           rw [addrAdd, cell_of_row w (rho id) _ cells _ _ c1]
           rw [List.getElem?_take] at hv
           split at hv
           ·simpa using hv
           ·cases hv
          have hr := run_append_grow (P := P) w t ty e i zv h1 h2 h3 ⟨rho id, 0, none⟩ n c (cells.toList.take (n * z)) (by simp; rw [← hz']; omega) holds ad m c' us hul hcd (by omega) (by omega) (growslice_fits (by omega) hby)
          have hge := grownCap_ge w (n + m) c e
          refine Out.less (grown_sound (hm.del id) hnx (rest := (Builtin.zeroCells zv.cells (grownCap w (n + m) c e - (n + m))).toList) (hAllo.append hAll) (c := grownCap w (n + m) c e) (l := n + m) ?_ (by omega) (grownCap_le_maxLen w (n + m) c e (by unfold maxLen; omega)) ?_) rfl
          ·rw [hr]; congr 3; apply Array.ext'; simp
          ·have e2 := hzc (grownCap w (n + m) c e - (n + m))
           have e3 : min (n * i.size) cells.size = n * i.size := by rw [← hz']; omega
           simp [hul, e2, hz', e3, ← Nat.add_mul]
           rw [← znf, show n + m + (grownCap w (n + m) c e - (n + m)) = grownCap w (n + m) c e by omega]; exact znb _
      ·cases h
    ·split at h
     ·rename_i hb
      simp only [Option.some.injEq, Prod.mk.injEq] at h
      obtain ⟨rfl, rfl⟩ := h
      cases hs
      obtain ⟨ad, rfl, hcd⟩ := hcell (hne hb.1)
      have hr := run_append_nil (P := P) w t ty e i zv h1 h2 h3 ad m c' us hul hcd hb.1 (by omega) (by omega)
      have hge := grownCap_ge w m 0 e
      refine grown_sound hm hnx (rest := (Builtin.zeroCells zv.cells (grownCap w m 0 e - m)).toList) (cs := ys) hAll (c := grownCap w m 0 e) (l := m) ?_ (by omega) (grownCap_le_maxLen w m 0 e (by unfold maxLen; omega)) ?_
      ·rw [hr]; congr 3; apply Array.ext'; simp
      ·have e2 := hzc (grownCap w m 0 e - m)
       simp [hul, e2, h7, ← Nat.add_mul]
       rw [show m + (grownCap w m 0 e - m) = grownCap w m 0 e by omega]; exact znb _
     ·cases h
    ·cases h
   ·cases h
end
end Go.Proofs.Ytdcbmdmlhjemmaa
namespace Go.Proofs.Ytdcbmdmlhjemmaa
open Go.RowKit
def exMin : V → V → Option V
 | .sc (.int k x), .sc (.int _ y) => some (.sc (.int k (if y < x then y else x)))
 | _, _ => none
def exMax : V → V → Option V
 | .sc (.int k x), .sc (.int _ y) => some (.sc (.int k (if y > x then y else x)))
 | _, _ => none
def exCap (P : Program) (t : TypeId) : V → Option V
 | .sl _ _ _ _ (some c) => (slOf P t).map fun _ => .sc (.int .i64 c)
 | .sc (.slice none 0 0) => (slOf P t).map fun _ => .sc (.int .i64 0)
 | _ => none
def isIntT (P : Program) (t : TypeId) : Bool := match P.underlying t with | some (.int _) => true | _ => false
def exAppendZ (P : Program) (nx : Nat) (t t' : TypeId) (s x : V) : Option (V × Eff) :=
 match s, x with
 | .sc (.slice none 0 0), .sc (.int _ n) => (mkOf P t).bind fun (e, b, zc) =>
  if isIntT P t' = true ∧ 0 < n ∧ n < 1125899906842624 ∧ b * n ≤ 140737488355328 then some (.sl nx 0 n.toNat zc.length none, .new ⟨e, reps n.toNat (zc.map .sc), false⟩) else none
 | _, _ => none
theorem exAppendZ_new {P : Program} {nx : Nat} {t t' : TypeId} {s x y : V} {f : Eff} (h : exAppendZ P nx t t' s x = some (y, f)) : ∃ b, f = .new b := by
 unfold exAppendZ at h
 split at h
 ·cases hk : mkOf P t with
  | none => simp [hk] at h
  | some p =>
   simp only [hk, Option.bind_some] at h
   split at h
   ·cases h; exact ⟨_, rfl⟩
   ·cases h
 ·cases h
def exCopy (P : Program) (hp : List (Nat × Blk)) (t : TypeId) (d x : V) : Option (V × Eff) :=
 match d with
 | .sl id off dlen z _ => (slOf P t).bind fun (_, z') => (srcV hp x).bind fun (ys, m) => (hget hp id).bind fun k =>
  if z' = 1 ∧ z = 1 ∧ ys.length = m ∧ k.fz = false ∧ off + dlen ≤ k.cs.length ∧ ys.all V.one = true then some (.sc (.int .i64 (min m dlen : Nat)), .set id ⟨k.ty, setAll k.cs off (ys.take (min m dlen)), false⟩) else none
 | _ => none
def bytesT (s : ByteArray) : List Value := s.data.toList.map fun b => .int .u8 b.toNat
def exCopyS (P : Program) (hp : List (Nat × Blk)) (t : TypeId) (d : V) (s : ByteArray) : Option (V × Eff) :=
 match d with
 | .sl id off dlen z _ => (slOf P t).bind fun (_, z') => (hget hp id).bind fun k =>
  if z' = 1 ∧ z = 1 ∧ k.fz = false ∧ 0 < s.size ∧ s.size ≤ dlen ∧ off + dlen ≤ k.cs.length then some (.sc (.int .i64 s.size), .set id ⟨k.ty, setAll k.cs off ((bytesT s).map .sc), false⟩) else none
 | _ => none
def exCopyA (P : Program) (hp : List (Nat × Blk)) (t : TypeId) (d x : V) : Option (V × Eff) :=
 match x with
 | .sc (.string s) => exCopyS P hp t d s
 | _ => exCopy P hp t d x
def exClear (P : Program) (hp : List (Nat × Blk)) (t : TypeId) : V → Option (V × Eff)
 | .sl id off dlen 1 _ => (mkOf P t).bind fun (_, _, zc) => (hget hp id).bind fun k =>
  if zc.length = 1 ∧ k.fz = false ∧ off + dlen ≤ k.cs.length ∧ (zc.map V.sc).all V.one = true then some (.tu [], .set id ⟨k.ty, setAll k.cs off (List.replicate dlen (.sc (zc.headD undef))), false⟩) else none
 | .im _ 0 => if hasT P t = true then some (.tu [], .none) else none
 | .sc (.slice none 0 0) => if hasT P t = true then some (.tu [], .none) else none
 | _ => none
def exBuiltin (P : Program) (hp : List (Nat × Blk)) (nx : Nat) (b : Builtin) (ts : List TypeId) (xs : List V) : Option (V × Eff) :=
 match b, ts, xs with
 | .len, [t], [x] => (exLen P t x).map (·, .none)
 | .append, [t, t'], [s, x] => if t = t' then exAppend P hp nx t s x else exAppendZ P nx t t' s x
 | .cap, [t], [x] => (exCap P t x).map (·, .none)
 | .copy, [t, _], [d, x] => exCopyA P hp t d x
 | .clear, [t], [x] => exClear P hp t x
 | .min, _, [x, y] => (exMin x y).map (·, .none)
 | .max, _, [x, y] => (exMax x y).map (·, .none)
 | _, _, _ => none
def exNil : V → Option V
 | .pt id off => some (.pt id off)
 | .pi cs => some (.pi cs)
 | .fn (.func f) p q => some (.fn (.func f) p q)
 | _ => none
def exPick (c a b : V) : Option V :=
 match c with
 | .sc (.bool t) => some (if t then a else b)
 | _ => none
def exOp (P : Program) (sl : List (Nat × V)) (hp : List (Nat × Blk)) (nx : Nat) (op : Op) : Option (V × Eff) :=
 match op with
 | .move x | .assign x => some (evS sl x, .none)
 | .pick c a b => (exPick (evS sl c) (evS sl a) (evS sl b)).map (·, .none)
 | .alloc t => (exAlloc P t).map (.pt nx 0, .new ·)
 | .box t x => (exBox t (evS sl x)).map (.pt nx 0, .new ·)
 | .build t parts => (exBuild P t (parts.toList.map fun p => (p.1, evS sl p.2))).map (·, .none)
 | .buildSlice t len parts => exBuildSlice P t nx len (parts.toList.map fun p => (p.1, evS sl p.2))
 | .load t a => (exLoad P hp t (evS sl a)).map (·, .none)
 | .store t a x => (exStore P hp t (evS sl a) (evS sl x)).map (.junk, ·)
 | .nilCheck x => (exNil (evS sl x)).map (·, .none)
 | .binOp o t x y _ => (exBin P o t (evS sl x) (evS sl y)).map (·, .none)
 | .unOp o _ x => (exUn o (evS sl x)).map (·, .none)
 | .convert s d x => (exConvH P hp s d (evS sl x)).map (·, .none)
 | .makeFunc f p q => some (.fn f (p.toList.map (evS sl)) (q.toList.map (evS sl)), .none)
 | .makeSlice t l c => exMake P t nx (evS sl l) (evS sl c)
 | .slice t x lo hi mx => (exSlice P hp t (evS sl x) (lo.map (evS sl)) (hi.map (evS sl)) (mx.map (evS sl))).map (·, .none)
 | .fieldAddr t x f => (exFieldAddr P t f (evS sl x)).map (·, .none)
 | .field t x f => (exField P t f (evS sl x)).map (·, .none)
 | .indexAddr t x i => (exIndexAddr P t (evS sl x) (evS sl i)).map (·, .none)
 | .index t x i => (exIndex P t (evS sl x) (evS sl i)).map (·, .none)
 | .extract t i => (exExtract i (evS sl t)).map (·, .none)
 | .call ⟨.builtin b, args, ts⟩ => exBuiltin P hp nx b ts.toList (args.toList.map (evS sl))
 | _ => none
section
variable {P : Program} {w : World} {B : Base} {S : Nat → Prop} {rho : Nat → Nat} {A : Nat → Prop} {hp : List (Nat × Blk)} {nx : Nat}
def OutN (B : Base) (S : Nat → Prop) (rho : Nat → Nat) (A : Nat → Prop) (hp : List (Nat × Blk)) (nx : Nat) (w : World) (r : Result Next) (x : V) (e : Eff) : Prop :=
 ∃ v w' rho' A', (r = .ok (.value v) w' ∨ (r = .ok .skip w' ∧ v = undef)) ∧ Mem B S rho' A' (e.heap nx hp) w' ∧ (∀ id, A id → A' id ∧ rho' id = rho id ∧ ∀ n, szAt w (rho id) n → szAt w' (rho id) n) ∧ (∀ id, A' id → A id ∨ id = nx ∧ ∃ k, e = .new k ∨ ∃ i, e = .app i k) ∧
  (∀ b, S b → w'.heap[b]? = w.heap[b]?) ∧ R S rho' w' A' x v
theorem Out.toN {s : Sem Value} {x : V} {e : Eff} (h : Out B S rho A hp nx w (s.run P w) x e) : OutN B S rho A hp nx w ((do pure (.value (← s)) : Sem Next).run P w) x e := by
 obtain ⟨v, w', rho', A', h1, h2⟩ := h
 exact ⟨v, w', rho', A', .inl (by simp [h1]), h2⟩
theorem Out.skip {s : Sem Unit} {x : V} {e : Eff} (h : Out B S rho A hp nx w ((do s; pure undef : Sem Value).run P w) x e) : OutN B S rho A hp nx w ((do s; pure .skip : Sem Next).run P w) x e := by
 obtain ⟨v, w', rho', A', h1, h2⟩ := h
 refine ⟨v, w', rho', A', .inr ?_, h2⟩
 rw [Sem.run_bind] at h1 ⊢
 cases hs : s.run P w with
 | ok u w2 => rw [hs] at h1; simp at h1; simp [h1]
 | halt g w2 => rw [hs] at h1; simp at h1
theorem OutN.val (hm : Mem B S rho A hp w) {r : Result Next} {v : Value} {x : V} (hr : r = .ok (.value v) w) (hx : R S rho w A x v) : OutN B S rho A hp nx w r x .none :=
 ⟨v, w, rho, A, .inl hr, hm, fun _ h => ⟨h, rfl, fun _ h => h⟩, fun _ h => .inl h, fun _ _ => rfl, hx⟩
theorem OutN.of (hm : Mem B S rho A hp w) {s : Sem Value} {x : V} (h : ∃ v, s.run P w = .ok v w ∧ R S rho w A x v) : OutN B S rho A hp nx w ((do pure (.value (← s)) : Sem Next).run P w) x .none := by
 obtain ⟨v, h1, h2⟩ := h
 exact (Out.val hm h1 h2).toN
theorem Option.map_eq {α β : Type} {o : Option α} {f : α → β} {y : β} (h : o.map f = some y) : ∃ x, o = some x ∧ f x = y := by
 cases o with
 | none => cases h
 | some x => exact ⟨x, rfl, by simpa using h⟩
theorem hset_self {l : List (Nat × Blk)} {id : Nat} {k : Blk} (h : hget l id = some k) (i : Nat) (q : Blk) (hq : hget (hset l id k) i = some q) : hget l i = some q := by
 rw [hget_hset] at hq
 split at hq
 ·rename_i e; subst e; rw [h] at hq ⊢; simpa using hq
 ·exact hq
theorem copy_sound (hm : Mem B S rho A hp w) {t t' ty : TypeId} {d x y : V} {vd vx : Value} {f : Eff} (h : exCopy P hp t d x = some (y, f)) (hd : R S rho w A d vd) (hx : R S rho w A x vx) :
  Out B S rho A hp nx w ((Builtin.copy_ #[t, t'] ty #[vd, vx]).run P w) y f := by
 unfold exCopy at h
 split at h
 ·rename_i id off dlen z cap
  cases hs : slOf P t with
  | none => simp [hs] at h
  | some p =>
   obtain ⟨e, z'⟩ := p
   cases hsrc : srcV hp x with
   | none => simp [hs, hsrc] at h
   | some q =>
    obtain ⟨ys, m⟩ := q
    cases hk : hget hp id with
    | none => simp [hs, hsrc, hk] at h
    | some k =>
     simp only [hs, hsrc, hk, Option.bind_some] at h
     split at h
     ·rename_i hc
      obtain ⟨rfl, rfl, hyl, hfz, hle, hone⟩ := hc
      simp only [Option.some.injEq, Prod.mk.injEq] at h
      obtain ⟨rfl, rfl⟩ := h
      obtain ⟨hu, hz⟩ := slOf_und hs
      obtain ⟨a, c', us, rfl, hAll, hcell, hmc, hcm, hn0⟩ := src_sound hm hsrc hx
      have hul : us.length = m := by rw [← hAll.1, hyl]
      have same : ∀ (r : Result Value), min m dlen = 0 → r = .ok (.int .i64 0) w → Out B S rho A hp nx w r (.sc (.int .i64 (min m dlen : Nat))) (.set id ⟨k.ty, setAll k.cs off (ys.take (min m dlen)), false⟩) := by
       intro r h0 hr
       rw [h0]
       simp only [zl4, setAll]
       have hk' : (⟨k.ty, k.cs, false⟩ : Blk) = k := by rw [← hfz]
       rw [hk']
       exact ⟨_, w, rho, A, hr, hm.less (hset_self hk), fun _ h => ⟨h, rfl, fun _ h => h⟩, fun _ h => .inl h, fun _ _ => rfl, .sc _⟩
      have zero : ∀ (dst : Option Addr) (dc : Nat), min m dlen = 0 → (Builtin.copy_ #[t, t'] ty #[.slice dst dlen dc, .slice a m c']).run P w = .ok (.int .i64 0) w := by
       intro dst dc h0
       have hf : (Builtin.firstCells 1 0 (.slice a m c')).run P w = .ok #[] w := by
        cases a with
        | none => exact run_firstCells_none (P := P) w 1 0 m c'
        | some ad => exact run_firstCells_some (P := P) w 1 0 ad m c' [] (by simp) (by simp)
       have h0' : m.min dlen = 0 := h0
       cases dst <;> simp [Builtin.copy_, run_underlying hu, Builtin.lenOf, Sem.run_bind, run_sizeOf hz, h0', hf, storeCells, goInt]
      cases hd with
      | sln hcap => exact same _ (by simp) (zero none 0 (by simp))
      | sl hid hl hmx hcap hz0 =>
       rename_i c
       by_cases h0 : min m dlen = 0
       ·exact same _ h0 (zero _ _ h0)
       ·have hyne : ys ≠ [] := by intro e'; rw [e'] at hyl; simp at hyl; omega
        obtain ⟨ad, rfl, hcd⟩ := hcell hyne
        obtain ⟨cells, c1, c2, c3⟩ := (hm.cells id k hk hid).all
        have h1v : ∀ v ∈ us.take (min m dlen), v.oneCell' = true := by
         intro v hv
         obtain ⟨j, hj⟩ := List.mem_iff_getElem?.1 (List.mem_of_mem_take hv)
         have hlt : j < ys.length := by rw [hAll.1]; exact (List.getElem?_eq_some_iff.1 hj).1
         exact one_sound (List.all_eq_true.1 hone _ (List.getElem_mem hlt)) (hAll.2 j _ v (zlb hlt) hj)
        have hlen : (us.take (min m dlen)).length = min m dlen := by simp; omega
        have hr := run_copy_row (P := P) w t t' ty e (rho id) off dlen c ad m c' cells k.ty (us.take (min m dlen)) hu hz c1 (by rw [hlen]) (fun j v hj => by
         rw [List.getElem?_take] at hj
         split at hj
         ·exact hcd j v hj
         ·cases hj) (by rw [hlen]; omega) h1v
        rw [hlen] at hr
        have hset := c3.setAll (hAll.take (min m dlen)) (off := off) (by rw [hlen]; simp; omega)
        rw [hlen] at hset
        obtain ⟨m1, m2, m3⟩ := hm.setRow hk hid hfz c1 (cs' := setAll k.cs off (ys.take (min m dlen))) (arr' := cells.toList.take off ++ us.take (min m dlen) ++ cells.toList.drop (off + min m dlen)) (by simp; omega) (fun j y hj => by
         have hlt : j < k.cs.length := by rw [← setAll_length (ys.take (min m dlen)) k.cs off]; exact (List.getElem?_eq_some_iff.1 hj).1
         have hs2 : j < ((cells.toList.take k.cs.length).take off ++ us.take (min m dlen) ++ (cells.toList.take k.cs.length).drop (off + min m dlen)).length := by
          rw [← hset.1, setAll_length]; exact hlt
         refine ⟨_, ?_, hset.2 j y _ hj (zlb hs2)⟩
         rw [← zlb hs2]
         simp only [List.getElem?_append, List.getElem?_take, zl5, zl1, List.length_take, List.take_take]
         simp only [Array.length_toList]
         have e2 : min off cells.size = off := by omega
         have e3 : min off k.cs.length = off := by omega
         have e4 : min (min m dlen) us.length = min m dlen := by omega
         simp only [e2, e3, e4]
         by_cases hi : j < off + min m dlen
         ·simp only [hi, if_true]
         ·simp only [hi, if_false]
          rw [if_pos (by omega)])
        exact ⟨_, _, rho, A, hr, m1, m3, fun _ h => .inl h, m2, .sc _⟩
     ·cases h
 ·cases h
theorem bytesT_len (s : ByteArray) : (bytesT s).length = s.size := by simp only [bytesT, List.length_map, Array.length_toList]; rfl
theorem run_copyS (w : World) (dT sT ty elem : TypeId) (g o dLen dCap : Nat) (s : ByteArray) (cur : Array Value) (t : TypeId) (hu : P.underlying dT = some (.slice elem)) (hz : szOf P elem = some 1) (hg : w.heap[g]? = some (.cells cur t (0, 0))) (hle : s.size ≤ dLen) (hfit : o + s.size ≤ cur.size) :
  (Builtin.copy_ #[dT, sT] ty #[.slice (some ⟨g, o, none⟩) dLen dCap, .string s]).run P w = .ok (goInt s.size) (w.setRow g (cur.toList.take o ++ bytesT s ++ cur.toList.drop (o + s.size)).toArray) := by
 have hst := run_storeCells_at P g o t (bytesT s) 0 cur w hg (by rw [bytesT_len]; simpa using hfit) (fun v hv => by obtain ⟨b, _, rfl⟩ := List.mem_map.1 hv; rfl)
 rw [bytesT_len] at hst
 simp only [Nat.add_zero] at hst
 have hmin : Nat.min s.size dLen = s.size := Nat.min_eq_left hle
 have hcells : ((s.extract 0 s.size).data.map fun b : UInt8 => Value.int .u8 (b.toNat : Int)).toList = bytesT s := by
  simp [bytesT]
 simp only [Builtin.copy_, List.getElem?_toArray, List.getElem?_cons_zero, List.getElem?_cons_succ, Sem.run_bind, run_underlying hu, Builtin.lenOf, Sem.run_pure, Result.andThen_ok, run_sizeOf hz, Builtin.firstCells, zn8, hmin, hcells, hst]
theorem copyS_sound (hm : Mem B S rho A hp w) {t t' ty : TypeId} {d y : V} {vd : Value} {s : ByteArray} {f : Eff} (h : exCopyS P hp t d s = some (y, f)) (hd : R S rho w A d vd) :
  Out B S rho A hp nx w ((Builtin.copy_ #[t, t'] ty #[vd, .string s]).run P w) y f := by
 unfold exCopyS at h
 split at h
 ·rename_i id off dlen z cap
  cases hs : slOf P t with
  | none => simp [hs] at h
  | some p =>
   obtain ⟨e, z'⟩ := p
   cases hk : hget hp id with
   | none => simp [hs, hk] at h
   | some k =>
    simp only [hs, hk, Option.bind_some] at h
    split at h
    ·rename_i hc
     obtain ⟨rfl, rfl, hfz, hpos, hsd, hle⟩ := hc
     simp only [Option.some.injEq, Prod.mk.injEq] at h
     obtain ⟨rfl, rfl⟩ := h
     obtain ⟨hu, hz⟩ := slOf_und hs
     cases hd with
     | sln hcap => omega
     | sl hid hl hmx hcap hz0 =>
      rename_i c
      obtain ⟨cells, c1, c2, c3⟩ := (hm.cells id k hk hid).all
      have hlen := bytesT_len s
      have hr := run_copyS (P := P) w t t' ty e (rho id) off dlen c s cells k.ty hu hz c1 hsd (by omega)
      have hAll : All S rho A w ((bytesT s).map .sc) (bytesT s) := ⟨by simp, fun i x u hx hu => by
       rw [List.getElem?_map, hu] at hx
       cases hx; exact .sc _⟩
      have hset := c3.setAll hAll (off := off) (by rw [hlen]; simp; omega)
      rw [hlen] at hset
      obtain ⟨m1, m2, m3⟩ := hm.setRow hk hid hfz c1 (cs' := setAll k.cs off ((bytesT s).map .sc)) (arr' := cells.toList.take off ++ bytesT s ++ cells.toList.drop (off + s.size)) (by simp [hlen]; omega) (fun j y hj => by
       have hlt : j < k.cs.length := by rw [← setAll_length ((bytesT s).map .sc) k.cs off]; exact (List.getElem?_eq_some_iff.1 hj).1
       have hs2 : j < ((cells.toList.take k.cs.length).take off ++ bytesT s ++ (cells.toList.take k.cs.length).drop (off + s.size)).length := by
        rw [← hset.1, setAll_length]; exact hlt
       refine ⟨_, ?_, hset.2 j y _ hj (zlb hs2)⟩
       rw [← zlb hs2]
       simp only [List.getElem?_append, List.getElem?_take, zl5, zl1, List.length_take, hlen]
       simp only [Array.length_toList]
       have e2 : min off cells.size = off := by omega
       have e3 : min off (min k.cs.length cells.size) = off := by omega
       simp only [e2, e3]
       by_cases hi : j < off + s.size
       ·simp only [hi, if_true]
        by_cases hj2 : j < off
        ·simp only [hj2, if_true]; rw [if_pos hlt]
        ·simp only [hj2, if_false]
       ·simp only [hi, if_false]
        rw [if_pos (by omega)])
      exact ⟨_, _, rho, A, hr, m1, m3, fun _ h => .inl h, m2, .sc _⟩
    ·cases h
 ·cases h
theorem run_clear (w : World) (t ty elem ct : TypeId) (g o n c : Nat) (zv z0 : Value) (cur : Array Value) (hu : P.underlying t = some (.slice elem)) (hz : zeroOf P elem = some zv) (hzc : zv.cells = #[z0]) (hn : 0 < n) (hg : w.heap[g]? = some (.cells cur ct (0, 0))) (hfit : o + n ≤ cur.size) (h1 : z0.oneCell' = true) :
  (Builtin.clear_ #[t] ty #[.slice (some ⟨g, o, none⟩) n c]).run P w = .ok (.tuple #[]) (w.setRow g (cur.toList.take o ++ List.replicate n z0 ++ cur.toList.drop (o + n)).toArray) := by
 obtain ⟨m, rfl⟩ : ∃ m, n = m + 1 := ⟨n - 1, by omega⟩
 have hst := run_storeCells_at P g o ct (List.replicate (m + 1) z0) 0 cur w hg (by simpa using hfit) (fun v hv => by rw [List.eq_of_mem_replicate hv]; exact h1)
 simp only [Nat.add_zero, List.length_replicate] at hst
 have hcells : (Builtin.zeroCells zv.cells (m + 1)).toList = List.replicate (m + 1) z0 := by
  rw [hzc]
  simp only [Builtin.zeroCells]
  refine List.ext_getElem (by simp) fun i h2 h3 => ?_
  simp [Nat.mod_one]
 simp only [Builtin.clear_, List.getElem?_toArray, List.getElem?_cons_zero, Sem.run_bind, run_underlying hu, Sem.run_pure, Result.andThen_ok, run_zeroValue hz, hcells, hst]
theorem clear_sound (hm : Mem B S rho A hp w) {t ty : TypeId} {d y : V} {vd : Value} {f : Eff} (h : exClear P hp t d = some (y, f)) (hd : R S rho w A d vd) :
  Out B S rho A hp nx w ((Builtin.clear_ #[t] ty #[vd]).run P w) y f := by
 unfold exClear at h
 split at h
 ·rename_i id off dlen cap
  cases hs : mkOf P t with
  | none => simp [hs] at h
  | some p =>
   obtain ⟨e, by', zc⟩ := p
   cases hk : hget hp id with
   | none => simp [hs, hk] at h
   | some k =>
    simp only [hs, hk, Option.bind_some] at h
    split at h
    ·rename_i hc
     obtain ⟨hz1, hfz, hle, hone⟩ := hc
     simp only [Option.some.injEq, Prod.mk.injEq] at h
     obtain ⟨rfl, rfl⟩ := h
     obtain ⟨i, zv, hu, g2, g3, rfl, rfl, g6, g7, g8⟩ := mkOf_und hs
     obtain ⟨z0, hz0⟩ : ∃ z0, zv.cells.toList = [z0] := by
      match hl : zv.cells.toList, hz1 with
      | [z0], _ => exact ⟨z0, rfl⟩
     have hzv : zv.cells = #[z0] := by rw [← Array.toList_inj, hz0]
     have h1v : z0.oneCell' = true := by
      rw [hz0] at hone
      have : V.one (.sc z0) = true := by simpa using hone
      exact one_sound this (R.sc (S := S) (rho := rho) (A := A) (w := w) z0)
     rw [hz0]
     have hzo : zeroOf P e = some zv := by simp [zeroOf, g2, g3]
     have same : ∀ (r : Result Value), dlen = 0 → r = .ok (.tuple #[]) w → Out B S rho A hp nx w r (.tu []) (.set id ⟨k.ty, setAll k.cs off (List.replicate dlen (.sc ([z0].headD undef))), false⟩) := by
      intro r h0 hr
      subst h0
      simp only [List.replicate_zero, setAll]
      have hk' : (⟨k.ty, k.cs, false⟩ : Blk) = k := by rw [← hfz]
      rw [hk']
      exact ⟨_, w, rho, A, hr, hm.less (hset_self hk), fun _ h => ⟨h, rfl, fun _ h => h⟩, fun _ h => .inl h, fun _ _ => rfl, .tu rfl (fun i x u hx => by simp at hx)⟩
     cases hd with
     | sln hcap => exact same _ rfl (by simp [Builtin.clear_, Sem.run_bind, run_underlying hu])
     | sl hid hl hmx hcap hz0' =>
      rename_i c
      by_cases h0 : dlen = 0
      ·exact same _ h0 (by subst h0; simp [Builtin.clear_, Sem.run_bind, run_underlying hu])
      ·obtain ⟨cells, c1, c2, c3⟩ := (hm.cells id k hk hid).all
       have hr := run_clear (P := P) w t ty e k.ty (rho id) off dlen c zv z0 cells hu hzo hzv (by omega) c1 (by omega) h1v
       have hAll : All S rho A w (List.replicate dlen (V.sc z0)) (List.replicate dlen z0) := ⟨by simp, fun i x u hx hu => by
        have e1 := List.eq_of_mem_replicate (List.mem_of_getElem? hx)
        have e2 := List.eq_of_mem_replicate (List.mem_of_getElem? hu)
        subst e1; subst e2; exact .sc _⟩
       have hset := c3.setAll hAll (off := off) (by simp; omega)
       rw [List.length_replicate] at hset
       obtain ⟨m1, m2, m3⟩ := hm.setRow hk hid hfz c1 (cs' := setAll k.cs off (List.replicate dlen (V.sc z0))) (arr' := cells.toList.take off ++ List.replicate dlen z0 ++ cells.toList.drop (off + dlen)) (by simp; omega) (fun j y hj => by
        have hlt : j < k.cs.length := by rw [← setAll_length (List.replicate dlen (V.sc z0)) k.cs off]; exact (List.getElem?_eq_some_iff.1 hj).1
        have hs2 : j < ((cells.toList.take k.cs.length).take off ++ List.replicate dlen z0 ++ (cells.toList.take k.cs.length).drop (off + dlen)).length := by
         rw [← hset.1, setAll_length]; exact hlt
        refine ⟨_, ?_, hset.2 j y _ hj (zlb hs2)⟩
        rw [← zlb hs2]
        simp only [List.getElem?_append, List.getElem?_take, zl5, zl1, List.length_take, List.length_replicate]
        simp only [Array.length_toList]
        have e2 : min off cells.size = off := by omega
        have e3 : min off (min k.cs.length cells.size) = off := by omega
        simp only [e2, e3]
        by_cases hi : j < off + dlen
        ·simp only [hi, if_true]
         by_cases hj2 : j < off
         ·simp only [hj2, if_true]; rw [if_pos hlt]
         ·simp only [hj2, if_false]
        ·simp only [hi, if_false]
         rw [if_pos (by omega)])
       exact ⟨_, _, rho, A, hr, m1, m3, fun _ h => .inl h, m2, .tu rfl (fun i x u hx => by simp at hx)⟩
    ·cases h
 ·split at h
  ·rename_i ht
   cases h
   obtain ⟨u, hu⟩ : ∃ u, P.underlying t = some u := by
    unfold hasT at ht
    exact Option.isSome_iff_exists.1 ht
   have hr : ∀ a c, (Builtin.clear_ #[t] ty #[.slice a 0 c]).run P w = .ok (.tuple #[]) w := by
    intro a c
    cases a <;> simp [Builtin.clear_, Sem.run_bind, run_underlying hu]
   cases hd with
   | im0 => exact Out.val hm (hr _ _) (.tu rfl (fun i x u hx => by simp at hx))
   | im1 => exact Out.val hm (hr _ _) (.tu rfl (fun i x u hx => by simp at hx))
  ·cases h
 ·split at h
  ·rename_i ht
   cases h
   obtain ⟨u, hu⟩ : ∃ u, P.underlying t = some u := by
    unfold hasT at ht
    exact Option.isSome_iff_exists.1 ht
   cases hd
   exact Out.val (v := .tuple #[]) hm (by simp [Builtin.clear_, Sem.run_bind, run_underlying hu]) (.tu rfl (fun i x u hx => by simp at hx))
  ·cases h
 ·cases h
theorem min_run (ts : Array TypeId) (t : TypeId) (k k' : IntKind) (x y : Int) : (Builtin.min_ ts t #[.int k x, .int k' y]).run P w = .ok (.int k (if y < x then y else x)) w := by
 simp [Builtin.min_, Builtin.min2]
theorem max_run (ts : Array TypeId) (t : TypeId) (k k' : IntKind) (x y : Int) : (Builtin.max_ ts t #[.int k x, .int k' y]).run P w = .ok (.int k (if y > x then y else x)) w := by
 simp [Builtin.max_, Builtin.max2]
theorem glob_sound (ht : TabOK S w) (g : Nat) : R S rho w A (globV g) (.pointer (some ⟨g, 0, none⟩)) := by
 unfold globV
 split
 ·rename_i cs hg
  obtain ⟨h1, h2⟩ := ht g cs hg
  refine .pi (fun i => cs.getD i undef) h1 (fun i x hx => ?_) (fun i x hx => ?_)
  ·rw [List.getElem?_map] at hx
   cases hc : cs[i]? with
   | none => simp [hc] at hx
   | some v => rw [zn9, h2 i v hc]; simp [List.getD_eq_getElem?_getD, hc]
  ·rw [List.getElem?_map] at hx
   cases hc : cs[i]? with
   | none => simp [hc] at hx
   | some v =>
    simp only [hc, Option.map_some, Option.some.injEq] at hx
    subst hx
    have : cs.getD i undef = v := by simp [List.getD_eq_getElem?_getD, hc]
    rw [this]; exact .sc _
 ·exact .sc _
theorem ev_sound {sl : List (Nat × V)} {a : Act} (ht : TabOK S w) (hs : ∀ t, R S rho w A (get sl t) (a.eval (.tmp t))) (x : Operand) : R S rho w A (evS sl x) (a.eval x) := by
 cases x with
 | tmp t => exact hs t
 | const v => exact R.ofV v
 | global g => exact glob_sound ht g
 | func f => exact .sc _
theorem All.ev {sl : List (Nat × V)} {a : Act} (ht : TabOK S w) (hs : ∀ t, R S rho w A (get sl t) (a.eval (.tmp t))) (l : List Operand) : All S rho A w (l.map (evS sl)) (l.map a.eval) := by
 refine ⟨by simp, fun i x u hx hu => ?_⟩
 rw [List.getElem?_map] at hx hu
 cases hl : l[i]? with
 | none => simp [hl] at hx
 | some o => simp [hl] at hx hu; subst hx; subst hu; exact ev_sound ht hs o
theorem okO.ev {sl : List (Nat × V)} {a : Act} (ht : TabOK S w) (hs : ∀ t, R S rho w A (get sl t) (a.eval (.tmp t))) (o : Option Operand) : okO S rho A w (o.map (evS sl)) (o.map a.eval) := by
 cases o with
 | none => exact .inl ⟨rfl, rfl⟩
 | some x => exact .inr ⟨_, _, rfl, rfl, ev_sound ht hs x⟩
theorem appendZ_sound (hm : Mem B S rho A hp w) (hnx : ¬ A nx) {t t' ty : TypeId} {s x y : V} {vs vx : Value} {f : Eff} (h : exAppendZ P nx t t' s x = some (y, f)) (hs : R S rho w A s vs) (hx : R S rho w A x vx) :
  Out B S rho A hp nx w ((Builtin.append_ #[t, t'] ty #[vs, vx]).run P w) y f := by
 unfold exAppendZ at h
 split at h
 ·rename_i kd n
  cases hs
  cases hx
  cases hk : mkOf P t with
  | none => simp [hk] at h
  | some p =>
   obtain ⟨e, b, zc⟩ := p
   simp only [hk, Option.bind_some] at h
   split at h
   ·rename_i hc
    obtain ⟨hi, h0, hlim, hby⟩ := hc
    cases h
    obtain ⟨i, zv, h1, h2, h3, rfl, rfl, h6, h7, h8⟩ := mkOf_und hk
    obtain ⟨m, rfl⟩ := Int.eq_ofNat_of_zero_le (Int.le_of_lt h0)
    have hin : ∃ kn, P.underlying t' = some (.int kn) := by
     unfold isIntT at hi
     split at hi
     ·exact ⟨_, ‹_›⟩
     ·cases hi
    obtain ⟨kn, hkn⟩ := hin
    have hby2 : i.bytes * m ≤ 140737488355328 := by
     have h9 : ((i.bytes * m : Nat) : Int) ≤ 140737488355328 := by rw [Int.natCast_mul]; exact hby
     omega
    have hrun := Lib.run_append_nil_zeros (P := P) w t t' ty e i zv kd kn h1 hkn h2 h3 m (by omega) h8 (by omega) (by rw [Nat.mul_comm]; omega)
    have hr := reps_sound (S := S) (rho := rho) (A := A) (w := w) (zs := zv.cells) (by omega) m
    have hge := grownCap_ge w m 0 e
    have hz : ∀ n, Builtin.zeroCells zv.cells n = madeCells zv.cells (n * zv.cells.size) := fun n => rfl
    have hzc : ∀ n, (Builtin.zeroCells zv.cells n).size = n * i.size := by intro n; rw [size_zeroCells, h7]
    refine grown_sound hm hnx (rest := (Builtin.zeroCells zv.cells (grownCap w m 0 e - m)).toList) hr (c := grownCap w m 0 e) (l := m) ?_ (by omega) (grownCap_le_maxLen w m 0 e (by unfold maxLen; omega)) ?_
    ·rw [← hz]
     show (Builtin.append_ #[t, t'] ty #[.slice none 0 0, .int kd (m : Int)]).run P w = _
     rw [hrun]; congr 3; apply Array.ext'; simp
    ·have e2 := hzc (grownCap w m 0 e - m)
     have e3 := hzc m
     rw [← hz]
     simp [e2, e3, ← h6, ← Nat.add_mul]
     rw [show m + (grownCap w m 0 e - m) = grownCap w m 0 e by omega]; exact znb _
   ·cases h
 ·cases h
theorem cap_sound {t ty : TypeId} {x y : V} {vx : Value} (h : exCap P t x = some y) (hx : R S rho w A x vx) : ∃ v, (Builtin.cap_ #[t] ty #[vx]).run P w = .ok v w ∧ R S rho w A y v := by
 have sl : ∀ {p : TypeId × Nat} {a : Option Addr} {n c : Nat}, slOf P t = some p → (Builtin.cap_ #[t] ty #[.slice a n c]).run P w = .ok (.int .i64 c) w := by
  intro p a n c hs
  obtain ⟨e, z⟩ := p
  obtain ⟨hu, hz⟩ := slOf_und hs
  simp [Builtin.cap_, run_underlying hu, goInt]
 unfold exCap at h
 split at h
 ·obtain ⟨p, hp, rfl⟩ := Option.map_eq h
  cases hx with
  | sl h1 h2 h3 h4 h5 => rw [h4 _ rfl]; exact ⟨_, sl hp, .sc _⟩
  | sln h4 => rw [h4 _ rfl]; exact ⟨_, sl hp, .sc _⟩
 ·obtain ⟨p, hp, rfl⟩ := Option.map_eq h
  cases hx; exact ⟨_, sl hp, .sc _⟩
 ·cases h
theorem builtin_sound (hm : Mem B S rho A hp w) (hnx : ¬ A nx) {b : Builtin} {ts : List TypeId} {ty : TypeId} {cs : Array Bool} {xs : List V} {vs : List Value} {x : V} {f : Eff} (h : exBuiltin P hp nx b ts xs = some (x, f)) (hx : All S rho A w xs vs) :
  OutN B S rho A hp nx w ((builtin b ts.toArray ty cs vs.toArray).run P w) x f := by
 have h1 : ∀ {a : V}, xs = [a] → ∃ u, vs = [u] ∧ R S rho w A a u := by
  intro a e; subst e
  match vs, hx with
  | [u], hx => exact ⟨u, rfl, hx.2 0 a u rfl rfl⟩
  | [], hx => have := hx.1; simp at this
  | _ :: _ :: _, hx => have := hx.1; simp at this
 have h2 : ∀ {a b : V}, xs = [a, b] → ∃ u v, vs = [u, v] ∧ R S rho w A a u ∧ R S rho w A b v := by
  intro a b e; subst e
  match vs, hx with
  | [u, v], hx => exact ⟨u, v, rfl, hx.2 0 a u rfl rfl, hx.2 1 b v rfl rfl⟩
  | [], hx => have := hx.1; simp at this
  | [_], hx => have := hx.1; simp at this
  | _ :: _ :: _ :: _, hx => have := hx.1; simp at this
 unfold exBuiltin at h
 split at h
 ·obtain ⟨u, rfl, hu⟩ := h1 rfl
  obtain ⟨y, hy, e⟩ := Option.map_eq h
  cases e
  exact OutN.of hm (len_sound hy hu)
 ·obtain ⟨u, v, rfl, hu, hv⟩ := h2 rfl
  split at h
  ·rename_i ht; subst ht
   exact (append_sound hm hnx h hu hv).toN
  ·exact (appendZ_sound hm hnx h hu hv).toN
 ·obtain ⟨u, rfl, hu⟩ := h1 rfl
  obtain ⟨y, hy, e⟩ := Option.map_eq h
  cases e
  exact OutN.of hm (cap_sound hy hu)
 ·obtain ⟨u, v, rfl, hu, hv⟩ := h2 rfl
  unfold exCopyA at h
  split at h
  ·cases hv; exact (copyS_sound hm h hu).toN
  ·exact (copy_sound hm h hu hv).toN
 ·obtain ⟨u, rfl, hu⟩ := h1 rfl
  exact (clear_sound hm h hu).toN
 ·obtain ⟨u, v, rfl, hu, hv⟩ := h2 rfl
  obtain ⟨y, hy, e⟩ := Option.map_eq h
  cases e
  unfold exMin at hy
  split at hy
  ·cases hy; cases hu; cases hv
   exact OutN.of hm ⟨_, min_run _ _ _ _ _ _, .sc _⟩
  ·cases hy
 ·obtain ⟨u, v, rfl, hu, hv⟩ := h2 rfl
  obtain ⟨y, hy, e⟩ := Option.map_eq h
  cases e
  unfold exMax at hy
  split at hy
  ·cases hy; cases hu; cases hv
   exact OutN.of hm ⟨_, max_run _ _ _ _ _ _, .sc _⟩
  ·cases hy
 ·cases h
theorem op_sound {sl : List (Nat × V)} {a : Act} {o : Oper} {x : V} {f : Eff} (hm : Mem B S rho A hp w) (hs : ∀ t, R S rho w A (get sl t) (a.eval (.tmp t))) (hnx : ¬ A nx) (h : exOp P sl hp nx o.op = some (x, f)) :
  OutN B S rho A hp nx w ((execOp a.eval o).run P w) x f := by
 have ev := ev_sound hm.tab hs
 obtain ⟨dst, op, ty, pos, after, guard⟩ := o
 have parts : ∀ (ps : Array (Nat × Operand)), (ps.toList.map fun p => (p.1, evS sl p.2)).map (·.1) = (ps.map fun (i, x) => (i, a.eval x)).toList.map (·.1) ∧ All S rho A w ((ps.toList.map fun p => (p.1, evS sl p.2)).map (·.2)) ((ps.map fun (i, x) => (i, a.eval x)).toList.map (·.2)) := by
  intro ps
  have e1 : (ps.toList.map fun p => (p.1, evS sl p.2)).map (·.2) = (ps.toList.map (·.2)).map (evS sl) := by simp
  have e2 : (ps.map fun (i, x) => (i, a.eval x)).toList.map (·.2) = (ps.toList.map (·.2)).map a.eval := by simp
  refine ⟨by simp, ?_⟩
  rw [e1, e2]
  exact All.ev hm.tab hs _
 cases op <;> simp only [exOp] at h <;> try (cases h; done)
 case move y => cases h; exact OutN.val hm rfl (ev y)
 case assign y => cases h; exact OutN.val hm rfl (ev y)
 case pick c p q =>
  obtain ⟨y, hy, e⟩ := Option.map_eq h
  cases e
  unfold exPick at hy
  split at hy
  ·rename_i t hc
   cases hy
   have hcv := ev c
   rw [hc] at hcv
   cases t
   ·refine OutN.val hm ?_ (ev q)
    simp only [execOp]
    generalize a.eval c = u at hcv ⊢
    cases hcv; rfl
   ·refine OutN.val hm ?_ (ev p)
    simp only [execOp]
    generalize a.eval c = u at hcv ⊢
    cases hcv; rfl
  ·cases hy
 case alloc t =>
  obtain ⟨k, hk, e⟩ := Option.map_eq h
  cases e
  exact (alloc_sound hm hnx hk).toN
 case box t y =>
  obtain ⟨k, hk, e⟩ := Option.map_eq h
  cases e
  exact (box_sound hm hnx hk (ev y)).toN
 case build t ps =>
  obtain ⟨y, hy, e⟩ := Option.map_eq h
  cases e
  exact OutN.of hm (build_sound hy (parts ps).1 (parts ps).2)
 case buildSlice t len ps => exact (buildSlice_sound hm hnx h (parts ps).1 (parts ps).2).toN
 case load t y =>
  obtain ⟨z, hz, e⟩ := Option.map_eq h
  cases e
  exact OutN.of hm (load_sound hm hz (ev y))
 case store t y z =>
  obtain ⟨k, hk, e⟩ := Option.map_eq h
  cases e
  exact (store_sound hm hk (ev y) (ev z)).skip
 case nilCheck y =>
  obtain ⟨z, hz, e⟩ := Option.map_eq h
  cases e
  have hy := ev y
  unfold exNil at hz
  split at hz
  ·rename_i hc; cases hz
   rw [hc] at hy
   refine OutN.val hm (v := a.eval y) ?_ hy
   simp only [execOp]
   generalize a.eval y = u at hy ⊢
   cases hy; rfl
  ·rename_i hc; cases hz
   rw [hc] at hy
   refine OutN.val hm (v := a.eval y) ?_ hy
   simp only [execOp]
   generalize a.eval y = u at hy ⊢
   cases hy; rfl
  ·rename_i hc; cases hz
   rw [hc] at hy
   refine OutN.val hm (v := a.eval y) ?_ hy
   simp only [execOp]
   generalize a.eval y = u at hy ⊢
   cases hy; rfl
  ·cases hz
 case binOp o t y z _ =>
  obtain ⟨r, hr, e⟩ := Option.map_eq h
  cases e
  exact OutN.of hm (bin_sound hr (ev y) (ev z))
 case unOp o _ y =>
  obtain ⟨r, hr, e⟩ := Option.map_eq h
  cases e
  exact OutN.of hm (un_sound hr (ev y))
 case convert s d y =>
  obtain ⟨r, hr, e⟩ := Option.map_eq h
  cases e
  exact OutN.of hm (convH_sound hm hr (ev y))
 case makeFunc fn p q =>
  cases h
  have hp' := All.ev (w := w) (S := S) (rho := rho) (A := A) hm.tab hs p.toList
  have hq' := All.ev (w := w) (S := S) (rho := rho) (A := A) hm.tab hs q.toList
  refine OutN.val hm (v := .func fn (p.map a.eval) (q.map a.eval)) rfl (.fn (by simp) (by simp) (fun i x u hx hu => hp'.2 i x u hx ?_) (fun i x u hx hu => hq'.2 i x u hx ?_))
  ·rw [← Array.toList_map, Array.getElem?_toList]; exact hu
  ·rw [← Array.toList_map, Array.getElem?_toList]; exact hu
 case makeSlice t l c => exact (make_sound hm hnx h (ev l) (ev c)).toN
 case slice t y lo hi mx =>
  obtain ⟨r, hr, e⟩ := Option.map_eq h
  cases e
  exact OutN.of hm (slice_sound hm hr (ev y) (okO.ev hm.tab hs lo) (okO.ev hm.tab hs hi) (okO.ev hm.tab hs mx))
 case fieldAddr t y f' =>
  obtain ⟨r, hr, e⟩ := Option.map_eq h
  cases e
  exact OutN.of hm (fieldAddr_sound hr (ev y))
 case field t y f' =>
  obtain ⟨r, hr, e⟩ := Option.map_eq h
  cases e
  exact OutN.of hm (field_sound hr (ev y))
 case indexAddr t y i =>
  obtain ⟨r, hr, e⟩ := Option.map_eq h
  cases e
  exact OutN.of hm (indexAddr_sound hr (ev y) (ev i))
 case index t y i =>
  obtain ⟨r, hr, e⟩ := Option.map_eq h
  cases e
  exact OutN.of hm (index_sound hr (ev y) (ev i))
 case extract t i =>
  obtain ⟨r, hr, e⟩ := Option.map_eq h
  cases e
  exact OutN.of hm (extract_sound hr (ev t))
 case call c =>
  obtain ⟨callee, args, ts⟩ := c
  cases callee <;> simp only at h <;> try (cases h; done)
  rename_i b
  have hb := fun cs => builtin_sound (ty := ty) (cs := cs) hm hnx h (All.ev hm.tab hs args.toList)
  have e : (args.toList.map a.eval).toArray = args.map a.eval := by apply Array.ext'; simp
  rw [e] at hb
  simp only [execOp, resolve, invoke, Sem.run_bind, Sem.run_pure, Result.andThen_ok]
  simpa using hb _
end
end Go.Proofs.Ytdcbmdmlhjemmaa
