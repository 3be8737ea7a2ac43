/- Texts joined: Tp Kf Kg Kh Yf. -/
import Derived.Test.YtdcbmdmlhjemmaaVm
import Derived.Test.YtdcbmdmlhjemmaaVp
import Derived.Test.YtdcbmdmlhjemmaaVq
set_option linter.all false
open Nat renaming reduceEqDiff → zn1, reduceLT → zn2, reduceLeDiff → zn3, reduceAdd → zn4, reduceMul → zn5, reduceSub → zn6, reduceBEq → zn7, mul_one → zn8, zero_add → zn9, one_mul → zna, le_refl → znb, zero_le → znc, add_sub_cancel_left → znd, sub_eq_zero_of_le → zne, add_assoc → znf
open Int renaming reduceToNat → zi1, reducePow → zi2
open List renaming length_append → zl1, drop_zero → zl2, take_succ_cons → zl3, take_zero → zl4, getElem?_drop → zl5, append_assoc → zl6, nil_append → zl7, cons_append → zl8, drop_succ_cons → zl9, take_of_length_le → zla, getElem?_eq_getElem → zlb, getElem?_eq_some_iff → zlc, map_cons → zld, map_nil → zle, all_eq_true → zlf
namespace Go.Proofs.Ytdcbmdmlhjemmaa
open Go.RowKit
section
variable {P : Program} {B : Base} {S : Nat → Prop} {rho : Nat → Nat} {A : Nat → Prop} {w w' : World} {l : Nat}
structure Turn (l : Nat) (w w' : World) : Prop where
 os : w'.os = w.os
 tape : w'.tape = w.tape
 output : w'.output = w.output
 size : w'.heap.size = w.heap.size
 oth : ∀ b, b ≠ l → w'.heap[b]? = w.heap[b]?
 n1 : ∀ c e f, w.heap[l]? ≠ some (.cells c e f)
theorem Turn.put {o o' : Obj} (h : w.heap[l]? = some o) (hn : ∀ c e f, o ≠ .cells c e f) : Turn l w (w.putObj l o') :=
 ⟨rfl, rfl, rfl, World.putObj_size, fun _ hb => World.putObj_heap_other hb, fun c e f hc => by rw [h] at hc; cases hc; exact hn _ _ _ rfl⟩
theorem Turn.cell (t : Turn l w w') {b off : Nat} {v : Value} (h : w.cell? ⟨b, off, none⟩ = some v) : w'.cell? ⟨b, off, none⟩ = some v := by
 have hb : b ≠ l := by
  rintro rfl
  simp only [World.cell?] at h
  split at h
  ·rename_i h2; exact t.n1 _ _ _ h2
  ·cases h
 rw [cell_of_heap (t.oth b hb)]; exact h
theorem Turn.sz (t : Turn l w w') {b n : Nat} (k : szAt w b n) : szAt w' b n := by
 refine k.of_heap (t.oth b ?_)
 rintro rfl
 obtain ⟨c, e, f, h1, _⟩ := k
 exact t.n1 _ _ _ h1
theorem R.turn {x : V} {v : Value} (h : R S rho w A x v) (t : Turn l w w') : R S rho w' A x v := by
 induction h with
 | sc v => exact .sc v
 | junk v => exact .junk v
 | ag h _ ih => exact .ag h fun i x u h1 h2 => ih i x u h1 h2
 | tu h _ ih => exact .tu h fun i x u h1 h2 => ih i x u h1 h2
 | pt h => exact .pt h
 | sl h hl hm hc hz => exact .sl h hl hm hc (t.sz hz)
 | sln h => exact .sln h
 | im0 hl hm ha => exact .im0 hl hm ha
 | im1 f hl hm hs hc _ ih => exact .im1 f hl hm hs (fun i x hx => t.cell (hc i x hx)) fun i x h1 => ih i x h1
 | pi f hs hc _ ih => exact .pi f hs (fun i x hx => t.cell (hc i x hx)) fun i x h1 => ih i x h1
 | fn hp hq _ _ i1 i2 => exact .fn hp hq (fun i x u h1 h2 => i1 i x u h1 h2) (fun i x u h1 h2 => i2 i x u h1 h2)
theorem Cellsat.turn {b : Nat} {k : Blk} (h : Cellsat S rho A w b k) (t : Turn l w w') : Cellsat S rho A w' b k := by
 obtain ⟨cells, h1, h2⟩ := h
 refine ⟨cells, ?_, fun i x hx => let ⟨u, hu, hr⟩ := h2 i x hx; ⟨u, hu, hr.turn t⟩⟩
 rw [t.oth b (by rintro rfl; exact t.n1 _ _ _ h1)]; exact h1
theorem Mem.round {hp hp1 hp2 : List (Nat × Blk)} {w1 w2 w3 w4 : World} {S1 S2 : Nat → Prop} {rho1 rho2 : Nat → Nat} {A1 A2 : Nat → Prop} (m1 : Mem (Base.inner S rho A hp w) S1 rho1 A1 hp1 w1) (t1 : Turn l w1 w2)
  (m2 : Mem (Base.inner S1 rho1 A1 hp1 w2) S2 rho2 A2 hp2 w3) (t2 : Turn l w3 w4) (hl : w4.heap[l]? = w.heap[l]?) : Mem (Base.inner S rho A hp w) S2 rho2 A2 hp2 w4 := by
 have hs1 : w.heap.size ≤ w2.heap.size := by rw [t1.size]; exact m1.frame.size
 have hL : ∀ b, (Base.inner S1 rho1 A1 hp1 w2).L b → w.heap.size ≤ b ∨ (Base.inner S rho A hp w).L b := by
  rintro b ⟨id, q, hq, ha, rfl⟩
  exact m1.own id q hq ha
 have hst : ∀ b, S b → w4.heap[b]? = w.heap[b]? := fun b hb => by
  by_cases e : b = l
  ·rw [e]; exact hl
  ·rw [t2.oth b e, m2.frame.stay b (m1.sub b hb)]
   show w2.heap[b]? = _
   rw [t1.oth b e]; exact m1.frame.stay b hb
 exact {
  cells := fun id k hk ha => (m2.cells id k hk ha).turn t2
  fz := m2.fz
  own := fun id k hk ha => (m2.own id k hk ha).elim (fun h => .inl (Nat.le_trans hs1 h)) (hL _)
  inj := m2.inj
  slt := fun b hb => by rw [t2.size]; exact m2.slt b hb
  sub := fun b hb => m2.sub b (m1.sub b hb)
  base := fun b hb => by
   rcases m2.base b hb with h | h | h
   ·exact m1.base b h
   ·exact .inr (.inl (Nat.le_trans hs1 h))
   ·exact .inr (hL b h)
  frame := {
   os := t2.os.trans (m2.frame.os.trans (t1.os.trans m1.frame.os))
   tape := t2.tape.trans (m2.frame.tape.trans (t1.tape.trans m1.frame.tape))
   output := t2.output.trans (m2.frame.output.trans (t1.output.trans m1.frame.output))
   size := by rw [t2.size]; exact Nat.le_trans hs1 m2.frame.size
   block := fun b hb hn => by
    by_cases e : b = l
    ·rw [e]; exact hl
    ·rw [t2.oth b e, m2.frame.block b (Nat.lt_of_lt_of_le hb hs1) (fun h => (hL b h).elim (fun h => by have : b < w.heap.size := hb; omega) hn)]
     show w2.heap[b]? = _
     rw [t1.oth b e]; exact m1.frame.block b hb hn
   stay := hst
   sz := fun b n h => t2.sz (m2.frame.sz b n (t1.sz (m1.frame.sz b n h)))
   lt := m1.frame.lt
   tab := m1.frame.tab }
  keep := fun id hid => by
   obtain ⟨h1, h2⟩ := m1.keep id hid
   obtain ⟨h3, h4⟩ := m2.keep id h1
   exact ⟨h3, h4.trans h2⟩ }
theorem Mem.turnO {hp : List (Nat × Blk)} (h : Mem B S rho A hp w) (t : Turn l w w') (hl : B.w0.heap.size ≤ l) : Mem B S rho A hp w' where
 cells id k hk ha := (h.cells id k hk ha).turn t
 fz := h.fz
 own := h.own
 inj := h.inj
 slt b hb := by rw [t.size]; exact h.slt b hb
 sub := h.sub
 base := h.base
 frame := {
  os := t.os.trans h.frame.os
  tape := t.tape.trans h.frame.tape
  output := t.output.trans h.frame.output
  size := by rw [t.size]; exact h.frame.size
  block := fun b hb hn => by rw [t.oth b (by omega)]; exact h.frame.block b hb hn
  stay := fun b hb => by rw [t.oth b (by have := h.frame.lt b hb; omega)]; exact h.frame.stay b hb
  sz := fun b n hk => t.sz (h.frame.sz b n hk)
  lt := h.frame.lt
  tab := h.frame.tab }
 keep := h.keep
theorem Mem.turnI {hp : List (Nat × Blk)} (h : Mem B S rho A hp w) (t : Turn l w w') : Mem (Base.inner S rho A hp w') S rho A hp w' where
 cells id k hk ha := (h.cells id k hk ha).turn t
 fz := h.fz
 own id k hk ha := .inr ⟨id, k, hk, ha, rfl⟩
 inj := h.inj
 slt b hb := by rw [t.size]; exact h.slt b hb
 sub _ hb := hb
 base _ hb := .inl hb
 frame := ⟨rfl, rfl, rfl, znb _, fun _ _ _ => rfl, fun _ _ => rfl, fun _ _ h => h, fun b hb => by show b < w'.heap.size; rw [t.size]; exact h.slt b hb, fun g cs hg => by
  obtain ⟨h1, h2⟩ := (h.inner).frame.tab g cs hg
  exact ⟨h1, fun i v hv => t.cell (h2 i v hv)⟩⟩
 keep _ h := ⟨h, rfl⟩
theorem Mem.notL {hp : List (Nat × Blk)} (h : Mem B S rho A hp w) (hl : ∀ c e f, w.heap[l]? ≠ some (.cells c e f)) : ¬ (Base.inner S rho A hp w).L l := by
 rintro ⟨id, k, hk, ha, rfl⟩
 obtain ⟨cells, h1, _⟩ := h.cells id k hk ha
 exact hl _ _ _ h1
structure LoopAt (B : Base) (l : Nat) (sl : List (Nat × V)) (nt : Nat) (p : Nat) (assign body : Code) : Prop where
 ex : ∃ fn tmps D, B.w0.heap[l]? = some (.loop { state := .ready, pending := none, fn, tmps, params := #[p], assign, body, defers := D }) ∧ tmps.size = nt ∧ ∀ t, R B.S0 B.rho0 B.w0 B.K (get sl t) ((⟨tmps, []⟩ : Act).eval (.tmp t))
 nl : ¬ B.L l
def SOY (P : Program) (B : Base) (ops : Array Oper) (l : List Oper) (Q : Exit → SS → Prop) (s : SS) : Prop := ∀ S rho A a w, Rel B S rho A s a w → wpListIn (WF none) 0 P ops (Post B Q) l a w
theorem SOY.nil {ops : Array Oper} {Q : Exit → SS → Prop} {s : SS} (h : Q .normal s) : SOY P B ops [] Q s := fun S rho A _ _ hr => ⟨S, rho, A, s, h, hr⟩
theorem SWp.regionY {id : Nat} {ls : List Oper} {Q : Exit → SS → Prop} {s : SS} (h : SOY P B ls.toArray ls Q s) : SWp P B (.region id ls.toArray false) Q s := fun S rho A a w hr => (wpIn_wide (n := 0)).1 (wpIn_region_lit (h S rho A a w hr))
theorem upon_Q {o : Oper} {a : Act} {next next' : Act → World → Prop} {Q Q' : Exit → Act → World → Prop} {r : Result Next} (hn : ∀ a w, next a w → next' a w) (hQ : ∀ e a w, e ≠ .normal → Q e a w → Q' e a w) (h : o.upon P a next Q r) : o.upon P a next' Q' r := by
 cases r with
 | ok x w' =>
  cases x <;> simp only [Oper.upon] at h ⊢
  all_goals first
   | exact hn _ _ h
   | exact h.mono fun e w'' he => by cases e <;> first | exact hn _ _ he | exact hQ _ _ _ (by simp) he | exact (let ⟨a, w, h⟩ := he; ⟨a, w, hQ _ _ _ (by simp) h⟩)
   | exact h.mono fun v w'' he => hn _ _ he
 | halt x w' => cases x <;> simp only [Oper.upon] at h ⊢ <;> exact hQ _ _ _ (by simp) h
theorem SOY.run {ops : Array Oper} {Q : Exit → SS → Prop} {o : Oper} {ls : List Oper} {s s' : SS} (h : run1 P ops s o = some s') (ho : nodef o = true) (k : SOY P B ops ls Q s') : SOY P B ops (o :: ls) Q s := by
 intro S rho A a w hr
 have h1 := SOps.run1 (B := B) (Q := fun e s1 => e = .normal ∧ s1 = s') (l := []) h (SOps.nil ⟨rfl, rfl⟩) S rho A a w hr
 have hQ : ∀ e a w, Post B (fun e s1 => e = .normal ∧ s1 = s') e a w → e = .normal ∧ wpListIn (WF none) 0 P ops (Post B Q) ls a w := by
  rintro e a w ⟨S, rho, A, s1, ⟨rfl, rfl⟩, hr⟩
  exact ⟨rfl, k S rho A a w hr⟩
 simp only [wpList] at h1
 simp only [wpListIn]
 split
 ·rename_i hw
  rw [if_pos hw] at h1
  rcases h1 with h1 | h1
  ·exact oper_W ho (upon_Q (fun a w h => (hQ _ a w h).2) (fun e a w hne h => absurd (hQ e a w h).1 hne) h1)
  ·exact absurd h1.2 (noLet (fun s h => by cases h.1))
 ·rename_i hw
  rw [if_neg hw] at h1
  exact ⟨fun _ _ => trivial, (hQ _ _ _ h1).2⟩
def halfQ (s1 : SS) : Exit → SS → Prop
 | .normal, s => s = s1
 | _, _ => False
def roundQ (Br : Base) (C : List (Nat × Blk) → Nat → Prop) : Exit → SS → Prop
 | .normal, s => ∃ hp' nx', C hp' nx' ∧ Le Br (vst .junk s.hp s.nx) (vst .junk hp' nx')
 | _, _ => False
theorem Rel.vst {s : SS} {a : Act} (hr : Rel B S rho A s a w) : Rel B S rho A (vst .junk s.hp s.nx) ⟨#[undef], B.D⟩ w :=
 ⟨fun t => by simp only [Go.Proofs.Ytdcbmdmlhjemmaa.vst, get]; split <;> exact .junk _, hr.mem, hr.alt, rfl, rfl⟩
theorem SOY.yield {ops : Array Oper} {ls : List Oper} {Q : Exit → SS → Prop} {s : SS} {g x : Operand} {ts : Array TypeId} {d : Option Nat} {ty : TypeId} {pos : String} {after : Array Edge} {slc : List (Nat × V)} {ntc p : Nat} {assign body : Code} {hpS : List (Nat × Blk)} {s1 : SS} {C : List (Nat × Blk) → Nat → Prop}
  (hL : LoopAt B l slc ntc p assign body) (hg : evS s.sl g = .sc (.func (.yield l) #[] #[])) (hd : dstOk d s.nt = true) (hp : p < ntc) (hsub : ∀ id k, hget hpS id = some k → hget s.hp id = some k)
  (h1 : ∀ Br : Base, Br.Old s.nx → SWpR P (some l) Br assign (halfQ s1) ⟨(p, evS s.sl x) :: slc, hpS, s.nx, ntc⟩)
  (h2 : ∀ Br : Base, Br.Old s1.nx → SWpR P (some l) Br body (roundQ Br C) s1)
  (k : ∀ hp' nx', C hp' nx' → OnlyH (fun id => hasId (restH s.hp hpS) id = false) hp' ∧ SOY P B ops ls Q ⟨putS s.sl d (.sc (.bool true)), hp' ++ restH s.hp hpS, nx', s.nt⟩) :
  SOY P B ops (⟨d, .call ⟨.value g, #[x], ts⟩, ty, pos, after, none⟩ :: ls) Q s := by
 intro S rho A a w hr
 obtain ⟨⟨fn, tmps, D, hrec, hsz, hsl⟩, hnl⟩ := hL
 have hlt : l < B.w0.heap.size := (Array.getElem?_eq_some_iff.1 hrec).1
 have hW : w.heap[l]? = some (.loop { state := .ready, pending := none, fn, tmps, params := #[p], assign, body, defers := D }) := (hr.mem.frame.block l hlt hnl).trans hrec
 have hnc : ∀ c e f, w.heap[l]? ≠ some (.cells c e f) := fun c e f h => by rw [hW] at h; cases h
 have he : a.eval g = .func (.yield l) #[] #[] := by
  have := ev_sound hr.mem.tab hr.slots g
  rw [hg] at this
  generalize a.eval g = u at this ⊢
  cases this; rfl
 have hrun : (execOp a.eval ⟨d, .call ⟨.value g, #[x], ts⟩, ty, pos, after, none⟩).run P w = .ok (.round l fn (tmps.setIfInBounds p (a.eval x)) assign body) w := by
  have hy := run_yield (P := P) (args := #[a.eval x]) hW rfl
  simp only [execOp, resolve, he, Deferred.ofValue, Sem.run_bind, Sem.run_pure, Result.andThen_ok, invoke]
  simpa using hy
 simp only [wpListIn]
 rw [if_pos (by simp [Region.wanted])]
 refine ⟨fun _ _ => trivial, ?_⟩
 rw [Oper.semAt_eq _ _ _ (by simp), hrun, Oper.uponIn_round]
 refine ⟨fun h => by simp [WF, Fence.wide] at h, roundIn_of_wpIn trivial ?_⟩
 have hsz0 : p < tmps.size := by rw [hsz]; exact hp
 have hR0 : Rel (Base.inner S rho A hpS w) S rho A ⟨(p, evS s.sl x) :: slc, hpS, s.nx, ntc⟩ ⟨tmps.setIfInBounds p (a.eval x), []⟩ w := by
  refine ⟨fun t => ?_, (hr.mem.less hsub).inner, hr.alt, by simp [hsz], rfl⟩
  simp only [get]
  by_cases e : t = p
  ·subst e
   rw [if_pos rfl]
   have : (⟨tmps.setIfInBounds t (a.eval x), []⟩ : Act).eval (.tmp t) = a.eval x := by simp [Act.eval, hsz0]
   rw [this]; exact ev_sound hr.mem.tab hr.slots x
  ·rw [if_neg e]
   have : (⟨tmps.setIfInBounds p (a.eval x), []⟩ : Act).eval (.tmp t) = (⟨tmps, []⟩ : Act).eval (.tmp t) := by simp [Act.eval, Array.getElem?_setIfInBounds_ne (Ne.symm e)]
   rw [this]
   exact (hsl t).mono (fun b hb => ⟨hr.mem.sub b hb, hr.mem.frame.stay b hb⟩) (fun id hid => ⟨(hr.mem.keep id hid).1, (hr.mem.keep id hid).2, fun n hn => hr.mem.frame.sz _ n hn⟩)
 refine wpIn_mono (h1 (Base.inner S rho A hpS w) (fun id hid => hr.alt id hid) S rho A _ w hR0) ?_
 rintro e a1 w1 ⟨S1, rho1, A1, s', hq, hr1⟩
 cases e <;> first | exact hq.elim | skip
 cases hq
 have hnL := (hr.mem.less hsub).notL hnc
 have hltw : l < w.heap.size := (Array.getElem?_eq_some_iff.1 hW).1
 have hW1 : w1.heap[l]? = some (.loop { state := .ready, pending := none, fn, tmps, params := #[p], assign, body, defers := D }) := (hr1.mem.frame.block l hltw hnL).trans hW
 have hlt1 : l < w1.heap.size := (Array.getElem?_eq_some_iff.1 hW1).1
 refine ⟨_, run_beginRound hW1 rfl, ?_⟩
 have t1 : Turn l w1 (w1.putObj l (.loop { state := .busy, pending := none, fn, tmps, params := #[p], assign, body, defers := D })) := Turn.put hW1 (fun c e f h => by cases h)
 have hW2 : (w1.putObj l (.loop { state := .busy, pending := none, fn, tmps, params := #[p], assign, body, defers := D })).heap[l]? = some (.loop { state := .busy, pending := none, fn, tmps, params := #[p], assign, body, defers := D }) := World.putObj_heap_same hlt1
 show body.wpIn (WF (some l)) 0 P _ a1 (w1.putObj l (.loop { state := .busy, pending := none, fn, tmps, params := #[p], assign, body, defers := D }))
 generalize w1.putObj l (.loop { state := .busy, pending := none, fn, tmps, params := #[p], assign, body, defers := D }) = w2 at t1 hW2 ⊢
 have m2 := hr1.mem.turnI t1
 refine wpIn_mono (h2 (Base.inner S1 rho1 A1 s1.hp w2) (fun id hid => hr1.alt id hid) S1 rho1 A1 a1 w2 ⟨fun t => (hr1.slots t).turn t1, m2, hr1.alt, hr1.nt, hr1.defs⟩) ?_
 rintro e a2 w3 ⟨S2, rho2, A2, s2, hq, hr2⟩
 cases e <;> first | exact hq.elim | skip
 obtain ⟨hp', nx', hC, hle⟩ := hq
 obtain ⟨S3, rho3, A3, hr3⟩ := hle S2 rho2 A2 _ w3 hr2.vst
 have hnc2 : ∀ c e f, w2.heap[l]? ≠ some (.cells c e f) := fun c e f h => by rw [hW2] at h; cases h
 have hnL2 := m2.notL hnc2
 have hW3 : w3.heap[l]? = some (.loop { state := .busy, pending := none, fn, tmps, params := #[p], assign, body, defers := D }) := (hr3.mem.frame.block l (Array.getElem?_eq_some_iff.1 hW2).1 hnL2).trans hW2
 have hlt3 : l < w3.heap.size := (Array.getElem?_eq_some_iff.1 hW3).1
 refine ⟨_, _, run_endRound none hW3, ?_⟩
 have t2 : Turn l w3 (w3.putObj l (.loop { state := .ready, pending := none, fn, tmps, params := #[p], assign, body, defers := D })) := Turn.put hW3 (fun c e f h => by cases h)
 have hW4 : (w3.putObj l (.loop { state := .ready, pending := none, fn, tmps, params := #[p], assign, body, defers := D })).heap[l]? = w.heap[l]? := (World.putObj_heap_same hlt3).trans hW.symm
 show wpListIn (WF none) 0 P ops (Post B Q) ls (a.put d (.bool true)) (w3.putObj l (.loop { state := .ready, pending := none, fn, tmps, params := #[p], assign, body, defers := D }))
 generalize w3.putObj l (.loop { state := .ready, pending := none, fn, tmps, params := #[p], assign, body, defers := D }) = w4 at t2 hW4 ⊢
 have m4 := Mem.round hr1.mem t1 hr3.mem t2 hW4
 obtain ⟨hc, k⟩ := k hp' nx' hC
 have h6 := hr.mem.backS hsub m4 hc
 have hS4 : ∀ b, S b → S3 b ∧ w4.heap[b]? = w.heap[b]? := fun b hb => ⟨m4.sub b hb, m4.frame.stay b hb⟩
 have hA4 : ∀ id, A id → A3 id ∧ rho3 id = rho id ∧ ∀ n, szAt w (rho id) n → szAt w4 (rho id) n := fun id hid => ⟨(m4.keep id hid).1, (m4.keep id hid).2, fun n hn => m4.frame.sz _ n hn⟩
 exact k S3 rho3 (fun id => A3 id ∧ (hasId (restH s.hp hpS) id = true → A id)) _ _ ⟨slots_put hr.slots (by rw [hr.nt]; exact hd) hS4 (fun id hid => ⟨⟨(hA4 id hid).1, fun _ => hid⟩, (hA4 id hid).2⟩) (.sc _), h6, fun id hid => hr3.alt id hid.1, by rw [put_size]; exact hr.nt, by rw [put_defers]; exact hr.defs⟩
def markD (D : Nat) : Deferred := { target := .collected D, args := #[] }
structure RelM (B : Base) (D : Nat) (S : Nat → Prop) (rho : Nat → Nat) (A : Nat → Prop) (s : SS) (a : Act) (w : World) : Prop where
 slots : ∀ t, R S rho w A (get s.sl t) (a.eval (.tmp t))
 mem : Mem B S rho A s.hp w
 alt : ∀ id, A id → id < s.nx
 nt : a.tmps.size = s.nt
 defs : a.defers = [markD D]
 dh : w.heap[D]? = some (.deferred (some []))
 nw : B.w0.heap.size ≤ D
def PostM (B : Base) (Q : Exit → SS → Prop) (e : Exit) (a : Act) (w : World) : Prop := ∃ D S rho A s, Q e s ∧ RelM B D S rho A s a w
def SWpM (P : Program) (B : Base) (c : Code) (Q : Exit → SS → Prop) (s : SS) : Prop := ∀ S rho A a w, Rel B S rho A s a w → B.D = [] → c.wp P (PostM B Q) a w
def itQ (P : Program) (fn : Func) (B1 : Base) (C : List (Nat × Blk) → Nat → Prop) : Exit → SS → Prop
 | .normal, s | .ret, s => (∃ y, resV P fn s = some y) ∧ ∃ hp' nx', C hp' nx' ∧ Le B1 (vst .junk s.hp s.nx) (vst .junk hp' nx')
 | _, _ => False
theorem All.grow {xs : List V} {vs : List Value} (h : All S rho A w xs vs) (hs : ∀ b, S b → b < w.heap.size) (g : Grow w w') : All S rho A w' xs vs :=
 ⟨h.1, fun i x u hx hu => (h.2 i x u hx hu).mono (fun b hb => ⟨hb, g.block b (hs b hb)⟩) (fun _ h => ⟨h, rfl, fun _ => g.szAt⟩)⟩
theorem SWpM.rangeFunc {g : Operand} {p : Nat} {assign body c : Code} {gf : Nat} {fn : Func} {q : List V} {s : SS} {Q : Exit → SS → Prop} {hpS : List (Nat × Blk)} {C : List (Nat × Blk) → Nat → Prop}
  (hg : evS s.sl g = .fn (.func gf) [] q) (hgo : isGo P gf = true) (hf : P.funcs[gf]? = some fn) (hb : fn.body = some c) (hn : q.length + 1 ≤ fn.ntmps) (hsub : ∀ id k, hget hpS id = some k → hget s.hp id = some k)
  (it : ∀ (B1 : Base) (l : Nat), B1.Old s.nx → LoopAt B1 l s.sl s.nt p assign body → SWp P B1 c (itQ P fn B1 C) ⟨stSl 0 (.sc (.func (.yield l) #[] #[]) :: q), hpS, s.nx, fn.ntmps⟩)
  (k : ∀ hp' nx', C hp' nx' → OnlyH (fun id => hasId (restH s.hp hpS) id = false) hp' ∧ Q .normal ⟨s.sl, hp' ++ restH s.hp hpS, nx', s.nt⟩) :
  SWpM P B (.rangeFunc g #[p] assign body) Q s := by
 intro S rho A a w hr hD
 refine (wpIn_wide (n := 0)).1 (wpIn_rangeFunc fun fn0 _ => ?_)
 obtain ⟨ps, lb, he, hps, hqs⟩ := fn_sound (f := gf) (p := []) (q := q) (by rw [hg]; rfl) (ev_sound hr.mem.tab hr.slots g)
 have hps0 : ps = #[] := by
  have := hps.1
  simp at this
  exact Array.eq_empty_of_size_eq_zero this.symm
 subst hps0
 obtain ⟨rec, hrec⟩ : ∃ rec : LoopState → Loop, rec = fun st => { state := st, pending := none, fn := fn0, tmps := a.tmps, params := #[p], assign, body, defers := w.heap.size } := ⟨_, rfl⟩
 obtain ⟨W1, hW1⟩ : ∃ W1, (w.alloc (.deferred (some []))).alloc (.loop (rec .ready)) = W1 := ⟨_, rfl⟩
 have hL1 : W1.heap[w.heap.size + 1]? = some (.loop (rec .ready)) := by
  rw [← hW1]; have := World.alloc_heap_new (w.alloc (.deferred (some []))) (.loop (rec .ready)); rwa [World.size_alloc] at this
 have hK1 : W1.heap[w.heap.size]? = some (.deferred (some [])) := by
  rw [← hW1]; exact (Below.heap_alloc _ _ _ (by simp)).trans (World.alloc_heap_new w _)
 have hgr : Grow w W1 := by rw [← hW1]; exact (Grow.alloc _ _).trans (Grow.alloc _ _)
 have hgo' := callFunc_go hgo
 refine ⟨w.heap.size + 1, [markD w.heap.size], W1, { target := .fn (.func gf) lb, args := #[.func (.yield (w.heap.size + 1)) #[] #[]] }, W1, gf, #[.func (.yield (w.heap.size + 1)) #[] #[]] ++ lb, W1, ?_, ?_, fun _ _ => trivial, ?_, fun h => by simp [Fence.wide] at h, ?_⟩
 ·rw [← hW1, hrec]; exact run_enterLoop_outer _ _ _ _ _
 ·simp only [resolve, he]
  simp [go_sem]
 ·simp only [invoke]
  have := hgo' (#[.func (.yield (w.heap.size + 1)) #[] #[]] ++ lb) W1
  simpa using this
 ·refine callsIn_W (ro := none) ?_
  have m1 := hr.mem.grow hgr
  have mS := m1.less hsub
  have hnc : ∀ c e f, W1.heap[w.heap.size + 1]? ≠ some (.cells c e f) := fun c e f h => by rw [hL1] at h; cases h
  have hncD : ∀ c e f, W1.heap[w.heap.size]? ≠ some (.cells c e f) := fun c e f h => by rw [hK1] at h; cases h
  have hmono : ∀ t, R S rho W1 A (get s.sl t) (a.eval (.tmp t)) := fun t => (hr.slots t).mono (fun b hb => ⟨hb, hgr.block b (hr.mem.slt b hb)⟩) (fun _ h => ⟨h, rfl, fun _ => hgr.szAt⟩)
  have hLA : LoopAt (Base.inner S rho A hpS W1) (w.heap.size + 1) s.sl s.nt p assign body := ⟨⟨fn0, a.tmps, w.heap.size, by rw [hrec] at hL1; exact hL1, hr.nt, hmono⟩, mS.notL hnc⟩
  have hargs : All S rho A W1 (.sc (.func (.yield (w.heap.size + 1)) #[] #[]) :: q) ((#[Value.func (.yield (w.heap.size + 1)) #[] #[]] : Array Value) ++ lb).toList := by
   have h2 := (All.scs (S := S) (rho := rho) (A := A) (w := W1) [Value.func (.yield (w.heap.size + 1)) #[] #[]]).append (hqs.grow hr.mem.slt hgr)
   simpa using h2
  have hlen : ((#[Value.func (.yield (w.heap.size + 1)) #[] #[]] : Array Value) ++ lb).size = q.length + 1 := by have := hargs.1; simp at this; simp; omega
  refine calls_of_wp hf hb (wp_mono (it (Base.inner S rho A hpS W1) (w.heap.size + 1) (fun id hid => hr.alt id hid) hLA S rho A _ W1 ⟨start_slots hargs, mS.inner, hr.alt, ?_, rfl⟩) ?_)
  ·simp only [Array.size_append, Array.size_replicate]
   simp only [Array.size_append] at hlen
   omega
  rintro e a1 w3 ⟨S2, rho2, A2, s2, hq, hr2⟩
  have fin : ((∃ y, resV P fn s2 = some y) ∧ ∃ hp' nx', C hp' nx' ∧ Le (Base.inner S rho A hpS W1) (vst .junk s2.hp s2.nx) (vst .junk hp' nx')) → a1.defers = [] ∧ ∃ v, (results fn a1.tmps).run P w3 = .ok v w3 ∧ rangePost Fence.wide 0 P (w.heap.size + 1) (PostM B Q) { a with defers := [markD w.heap.size] ++ a.defers } (.returned v) w3 := by
   rintro ⟨⟨y, hy⟩, hp', nx', hC, hle⟩
   obtain ⟨v, hv, _⟩ := res_sound (P := P) hr2 hy
   refine ⟨hr2.defs, v, hv, ?_⟩
   obtain ⟨S3, rho3, A3, hr3⟩ := hle S2 rho2 A2 _ w3 hr2.vst
   have hW3 : w3.heap[w.heap.size + 1]? = some (.loop (rec .ready)) := (hr3.mem.frame.block _ (Array.getElem?_eq_some_iff.1 hL1).1 (mS.notL hnc)).trans hL1
   have hD3 : w3.heap[w.heap.size]? = some (.deferred (some [])) := (hr3.mem.frame.block _ (Array.getElem?_eq_some_iff.1 hK1).1 (mS.notL hncD)).trans hK1
   refine ⟨none, w3.putObj (w.heap.size + 1) (.loop { rec .ready with state := .exhausted }), ?_, ?_⟩
   ·have h0 : (rec .ready).pending = none := by rw [hrec]
    exact (run_endLoop (P := P) hW3 (by rw [hrec]; simp)).trans (congrArg (fun x => Result.ok x _) h0)
   have t3 : Turn (w.heap.size + 1) w3 (w3.putObj (w.heap.size + 1) (.loop { rec .ready with state := .exhausted })) := Turn.put hW3 (fun c e f h => by cases h)
   show PostM B Q .normal { a with defers := [markD w.heap.size] ++ a.defers } (w3.putObj (w.heap.size + 1) (.loop { rec .ready with state := .exhausted }))
   generalize w3.putObj (w.heap.size + 1) (.loop { rec .ready with state := .exhausted }) = w4 at t3 ⊢
   obtain ⟨hc, hQ⟩ := k hp' nx' hC
   have h6 := (m1.backS hsub hr3.mem hc).turnO t3 (by have := hr.mem.frame.size; omega)
   refine ⟨w.heap.size, S3, rho3, _, _, hQ, ⟨fun t => ?_, h6, fun id hid => hr3.alt id hid.1, hr.nt, ?_, ?_, hr.mem.frame.size⟩⟩
   ·show R S3 rho3 w4 _ (get s.sl t) (a.eval (.tmp t))
    refine ((hmono t).mono (fun b hb => ⟨hr3.mem.sub b hb, hr3.mem.frame.stay b hb⟩) (fun id hid => ?_)).turn t3
    exact ⟨⟨(hr3.mem.keep id hid).1, fun _ => hid⟩, (hr3.mem.keep id hid).2, fun n hn => hr3.mem.frame.sz _ n hn⟩
   ·show [markD w.heap.size] ++ a.defers = _
    rw [hr.defs, hD]; rfl
   ·rw [t3.oth _ (by omega)]; exact hD3
  cases e with
  | normal => exact fin hq
  | ret => exact fin hq
  | _ => exact hq.elim
theorem RelM.run {D : Nat} {s : SS} {a : Act} {c : Code} {Q : Exit → SS → Prop} (hr : RelM B D S rho A s a w) (h : ∀ B2 : Base, B2.Old s.nx → SWp P B2 c Q s) : c.wp P (PostM B Q) a w := by
 have m0 := hr.mem.inner
 have hnc : ∀ c e f, w.heap[D]? ≠ some (.cells c e f) := fun c e f h => by rw [hr.dh] at h; cases h
 refine wp_mono (h { Base.inner S rho A s.hp w with D := [markD D] } (fun id hid => hr.alt id hid) S rho A a w ⟨hr.slots, ⟨m0.cells, m0.fz, m0.own, m0.inj, m0.slt, m0.sub, m0.base, ⟨m0.frame.os, m0.frame.tape, m0.frame.output, m0.frame.size, m0.frame.block, m0.frame.stay, m0.frame.sz, m0.frame.lt, m0.frame.tab⟩, m0.keep⟩, hr.alt, hr.nt, hr.defs⟩) ?_
 rintro e a' w' ⟨S', rho', A', s', hq, hr'⟩
 have m1 : Mem (Base.inner S rho A s.hp w) S' rho' A' s'.hp w' := ⟨hr'.mem.cells, hr'.mem.fz, hr'.mem.own, hr'.mem.inj, hr'.mem.slt, hr'.mem.sub, hr'.mem.base, ⟨hr'.mem.frame.os, hr'.mem.frame.tape, hr'.mem.frame.output, hr'.mem.frame.size, hr'.mem.frame.block, hr'.mem.frame.stay, hr'.mem.frame.sz, hr'.mem.frame.lt, hr'.mem.frame.tab⟩, hr'.mem.keep⟩
 refine ⟨D, S', rho', A', s', hq, ⟨hr'.slots, hr.mem.back m1, hr'.alt, hr'.nt, hr'.defs, ?_, hr.nw⟩⟩
 exact (m1.frame.block D (Array.getElem?_eq_some_iff.1 hr.dh).1 (hr.mem.notL hnc)).trans hr.dh
theorem SWpM.seq {x y : Code} {Q : Exit → SS → Prop} {K : SS → Prop} {s : SS} (h : SWpM P B x (thenQ K Q) s) (k : ∀ s, K s → ∀ B2 : Base, B2.Old s.nx → SWp P B2 y Q s) : SWpM P B (.seq x y) Q s := by
 intro S rho A a w hr hD
 refine wp_seq (wp_mono (h S rho A a w hr hD) ?_)
 rintro e a w ⟨D, S, rho, A, s, hq, hr⟩
 cases e <;> first | exact hr.run (k s hq) | exact ⟨D, S, rho, A, s, hq, hr⟩
def onlyQ (K : SS → Prop) : Exit → SS → Prop
 | .normal, s => K s
 | _, _ => False
theorem SWpM.pre {x y : Code} {Q : Exit → SS → Prop} {K : SS → Prop} {s : SS} (h : SWp P B x (onlyQ K) s) (k : ∀ s, K s → SWpM P B y Q s) : SWpM P B (.seq x y) Q s := by
 intro S rho A a w hr hD
 refine wp_seq (wp_mono (h S rho A a w hr) ?_)
 rintro e a w ⟨S, rho, A, s, hq, hr⟩
 cases e <;> first | exact k s hq S rho A a w hr hD | exact hq.elim
theorem SWpM.block {id : Nat} {c : Code} {Q : Exit → SS → Prop} {s : SS} (h : SWpM P B c (blockQ id Q) s) : SWpM P B (.block id c) Q s := by
 intro S rho A a w hr hD
 refine wp_block (wp_mono (h S rho A a w hr hD) ?_)
 rintro e a w ⟨D, S, rho, A, s, hq, hr⟩
 cases e <;> first | exact ⟨D, S, rho, A, s, hq, hr⟩ | skip
 rename_i id'
 simp only [blockQ] at hq
 simp only [Exit.inBlock]
 split at hq
 ·rename_i h; rw [if_pos h]; exact ⟨D, S, rho, A, s, hq, hr⟩
 ·rename_i h; rw [if_neg h]; exact ⟨D, S, rho, A, s, hq, hr⟩
theorem Spec.ofM {f : Nat} {fn : Func} {c : Code} {args : List V} {x : V} (hf : P.funcs[f]? = some fn) (hb : fn.body = some c) (hn : args.length ≤ fn.ntmps) (h : ∀ B : Base, B.Old 0 → SWpM P B c (retQ P fn x) (SS.start args fn.ntmps)) : Spec P f args x := by
 intro S w vs hS hT hargs
 have hlen : vs.size = args.length := by have := hargs.1; simpa using this.symm
 refine (callsIn_wide (n := 0)).1 (callsIn_of_wp_marks hf hb trivial ((wpIn_wide (n := 0)).2 ?_) rfl)
 refine wp_mono (h ⟨w, S, fun _ => False, fun _ => 0, fun _ => False, []⟩ (fun _ h => h.elim) S (fun _ => 0) (fun _ => False) _ w ?_ rfl) ?_
 ·refine ⟨start_slots (rho := fun _ => 0) (A := fun _ => False) hargs, ?_, fun _ h => h.elim, ?_, rfl⟩
  ·exact {
    cells := fun id k hk => by cases hk
    fz := fun id k hk => by cases hk
    own := fun id k hk => by cases hk
    inj := fun id id' k k' hk => by cases hk
    slt := hS
    sub := fun _ h => h
    base := fun _ h => .inl h
    frame := ⟨rfl, rfl, rfl, znb _, fun _ _ _ => rfl, fun _ _ => rfl, fun _ _ h => h, hS, hT⟩
    keep := fun id h => h.elim }
  ·simp [SS.start]; omega
 ·rintro e a w1 ⟨D, S', rho, A, s, hq, hr⟩
  have fin : (∃ y ids, resV P fn s = some y ∧ frz 8 s.hp y = some (x, ids)) → LeavesInM Fence.wide 0 P fn a.tmps (fun e w' => ∃ v', e = .returned v' ∧ Grow w w' ∧ Rc (fun b => S b ∨ (w.heap.size ≤ b ∧ b < w'.heap.size)) w' x v') a.defers .returning w1 := by
   rintro ⟨y, ids, h1, h2⟩
   rw [hr.defs]
   refine ⟨by simp, .inl ⟨D, _, rfl, run_takeDeferred hr.dh, ?_⟩⟩
   have t : Turn D w1 (w1.putObj D (.deferred none)) := Turn.put hr.dh (fun c e f h => by cases h)
   generalize w1.putObj D (.deferred none) = w' at t ⊢
   have hm := hr.mem.turnO t hr.nw
   have hR : Rel (⟨w, S, fun _ => False, fun _ => 0, fun _ => False, a.defers⟩ : Base) S' rho A s a w' := ⟨fun t' => (hr.slots t').turn t, ⟨hm.cells, hm.fz, hm.own, hm.inj, hm.slt, hm.sub, hm.base, ⟨hm.frame.os, hm.frame.tape, hm.frame.output, hm.frame.size, hm.frame.block, hm.frame.stay, hm.frame.sz, hm.frame.lt, hm.frame.tab⟩, hm.keep⟩, hr.alt, hr.nt, rfl⟩
   obtain ⟨v, h3, h4⟩ := res_sound (P := P) hR h1
   have h5 := frz_sound hm 8 y v x ids h2 h4
   have hmf := hm.freeze ids h5.live
   refine ⟨v, h3, v, rfl, ⟨hm.frame.os, hm.frame.tape, hm.frame.output, hm.frame.size, fun b hb => hm.frame.block b hb (fun h => h)⟩, ?_⟩
   refine (h5.rep.wide fun b hb => ?_).rho
   rcases hmf.base b hb with h | h | h
   ·exact .inl h
   ·exact .inr ⟨h, hmf.slt b hb⟩
   ·exact h.elim
  cases e with
  | normal => exact fin hq
  | ret => exact fin hq
  | _ => exact hq.elim
end
def lcF (lid : Nat) : List OpL → V
 | [] => .sc (.slice none 0 0)
 | a :: L => .sl lid 0 (a :: L).length 5 none
def lbF (lid : Nat) : List OpL → List (Nat × Blk)
 | [] => []
 | a :: L => [(lid, ⟨45, opsC (a :: L), false⟩)]
def itP (h w o m : Nat) (lc : V) : List (Nat × Blk) :=
 [(m + 4, ⟨3, [.sc (.int .i64 w)], false⟩), (m + 3, ⟨26, [.sl o 0 h 1 none], false⟩), (m + 2, ⟨30, [lc], false⟩), (m + 1, ⟨59, perfs, false⟩), (m, ⟨26, [.sl o 0 h 1 none], false⟩)]
def itR (w o : Nat) (ids : List Nat) (M : List (List Int)) : List (Nat × Blk) := (o, ⟨73, slR 2 w ids, false⟩) :: rowsH 43 ids (rI M)
def itH (h w o m lid : Nat) (ids : List Nat) (M : List (List Int)) (L : List OpL) : List (Nat × Blk) := itP h w o m (lcF lid L) ++ (lbF lid L ++ itR w o ids M)
def RdC (h w o m : Nat) (ids0 : List Nat) (M' : List (List Int)) (L : List OpL) (op : OpL) (hp' : List (Nat × Blk)) (nx' : Nat) : Prop :=
 ∃ ids', Ids o ids0 ids' h m ∧ hp' = (m + 6, ⟨45, opC op, false⟩) :: itH h w o m (m + 8) ids' M' (L ++ [op]) ∧ nx' = m + 9
def RdS (h w K o m n : Nat) (ids0 : List Nat) (l p : Nat) (slc : List (Nat × V)) (ntc : Nat) (assign body : Code) : Prop :=
 ∀ (ids : List Nat) (M : List (List Int)) (L : List OpL) (op : OpL), MI h w K M → MI h w K (actO M op) → OkOp h op → Ids o ids0 ids h m → L.length ≤ n →
  ∃ s1, (∀ Br : Base, Br.Old (m + 7) → SWpR Try.prog (some l) Br assign (halfQ s1) ⟨(p, .ag (opC op)) :: slc, (m + 6, ⟨45, opC op, false⟩) :: itH h w o m (m + 5) ids M L, m + 7, ntc⟩) ∧
   ∀ Br : Base, Br.Old s1.nx → SWpR Try.prog (some l) Br body (roundQ Br (RdC h w o m ids0 (actO M op) L op)) s1
def ItC (h w o m : Nat) (ids0 : List Nat) (Mf : List (List Int)) (l : List OpL) (hp' : List (Nat × Blk)) (nx' : Nat) : Prop :=
 ∃ ids', Ids o ids0 ids' h m ∧ hp' = itH h w o m (m + 5) ids' Mf l ∧ nx' = m + 6
theorem itRun {P : Program} {f : Nat} {fn : Func} {c : Code} {args : List V} {n nx : Nat} {s0 : SS} {hp : List (Nat × Blk)} {C : List (Nat × Blk) → Nat → Prop} {B1 : Base} (hf : P.funcs[f]? = some fn) (hb : fn.body = some c) (hnt : fn.ntmps = n) (h0 : (⟨stSl 0 args, hp, nx, n⟩ : SS) = s0) (h : SC P B1 [c] (itQ P fn B1 C) s0) :
  ∀ fn' c', P.funcs[f]? = some fn' → fn'.body = some c' → SWp P B1 c' (itQ P fn' B1 C) ⟨stSl 0 args, hp, nx, fn'.ntmps⟩ := by
 intro fn' c' hf' hb'
 rw [hf] at hf'; cases hf'
 rw [hb] at hb'; cases hb'
 subst hnt; subst h0
 exact SC.of h
theorem itQ_normal {P : Program} {fn : Func} {B1 : Base} {C : List (Nat × Blk) → Nat → Prop} {s : SS} {y : V} {rs : List ResultVar} (hp' : List (Nat × Blk)) (nx' : Nat) (hr : fn.results = rs.toArray) (h1 : resG P s rs = some y) (hC : C hp' nx') (hle : Le B1 (vst .junk s.hp s.nx) (vst .junk hp' nx')) : itQ P fn B1 C .normal s :=
 ⟨⟨y, by rw [resV_eq, hr]; exact h1⟩, hp', nx', hC, hle⟩
theorem restH_self : ∀ (hp : List (Nat × Blk)), restH hp hp = [] := by
 have key : ∀ (r l : List (Nat × Blk)), (∀ p ∈ r, hasId l p.1 = true) → restH r l = [] := by
  intro r
  induction r with
  | nil => intro l _; rfl
  | cons p r ih =>
   intro l hl
   rw [restH, if_pos (hl p (List.mem_cons_self ..))]
   exact ih l fun q hq => hl q (List.mem_cons_of_mem _ hq)
 intro hp
 refine key hp hp ?_
 have mem : ∀ (l : List (Nat × Blk)) (p : Nat × Blk), p ∈ l → hasId l p.1 = true := by
  intro l
  induction l with
  | nil => intro p hp; cases hp
  | cons q r ih =>
   intro p hp
   rw [hasId]
   rcases List.mem_cons.1 hp with rfl | h
   ·simp
   ·rw [ih p h]; simp
 exact mem hp
theorem itR_lt {h w o m : Nat} {ids0 ids : List Nat} {M : List (List Int)} (hI : Ids o ids0 ids h m) : ∀ id k, hget (itR w o ids M) id = some k → id < m := rows_lt hI.o1 hI.lt
theorem lbF_inv {lid : Nat} {L : List OpL} {id : Nat} {k : Blk} (h : hget (lbF lid L) id = some k) : id = lid ∧ k = ⟨45, opsC L, false⟩ := by
 cases L with
 | nil => cases h
 | cons a L =>
  simp only [lbF, hget] at h
  split at h
  ·cases h; exact ⟨‹_›, rfl⟩
  ·cases h
theorem itP_lt {h w o m : Nat} {lc : V} : ∀ id k, hget (itP h w o m lc) id = some k → m ≤ id ∧ id < m + 5 := fun id k hk => by
 unfold itP at hk
 simp only [hget] at hk
 repeat' (first | (split at hk; first | omega | skip) | (cases hk; done))
theorem rawLess {h w o m : Nat} {c8 c7 c6 : Blk} {lc : V} {ids0 ids' : List Nat} {M' : List (List Int)} {L L' : List OpL} (hI : Ids o ids0 ids' h m) : ∀ id k, hget ([(m + 6, c6)] ++ (itP h w o m lc ++ (lbF (m + 9) L' ++ itR w o ids' M'))) id = some k →
  hget ((m + 9, (⟨45, opsC L', false⟩ : Blk)) :: (m + 8, c8) :: (m + 7, c7) :: (m + 6, c6) :: (itP h w o m lc ++ (lbF (m + 5) L ++ itR w o ids' M'))) id = some k := by
 intro id k hk
 simp only [zl8, zl7, hget] at hk ⊢
 by_cases e6 : id = m + 6
 ·rw [if_pos e6] at hk
  rw [if_neg (by omega), if_neg (by omega), if_neg (by omega), if_pos e6]; exact hk
 rw [if_neg e6, hget_app] at hk
 cases hp : hget (itP h w o m lc) id with
 | some q =>
  rw [hp] at hk
  have := itP_lt id q hp
  rw [if_neg (by omega), if_neg (by omega), if_neg (by omega), if_neg e6, hget_app, hp]; exact hk
 | none =>
  rw [hp] at hk
  simp only at hk
  rw [hget_app] at hk
  cases hb : hget (lbF (m + 9) L') id with
  | some q =>
   rw [hb] at hk
   obtain ⟨rfl, rfl⟩ := lbF_inv hb
   rw [if_pos rfl]; exact hk
  | none =>
   rw [hb] at hk
   simp only at hk
   have := itR_lt hI id k hk
   rw [if_neg (by omega), if_neg (by omega), if_neg (by omega), if_neg e6, hget_app, hp]
   simp only
   rw [hget_app]
   cases hc : hget (lbF (m + 5) L) id with
   | some q => have := (lbF_inv hc).1; omega
   | none => exact hk
theorem itLe {B : Base} {h w o m lid nx1 nt : Nat} {ids0 ids : List Nat} {M : List (List Int)} {L : List OpL} {sl sl' : List (Nat × V)} {pre pre' : List (Nat × Blk)} {nx' n0 : Nat} (f : Nat → Nat) (hB : B.Old n0) (h5 : m + 5 ≤ n0) (hI : Ids o ids0 ids h m) (hf : ∀ i, i < n0 → f i = i) (hl : f n0 = lid) (hl5 : n0 ≤ lid)
  (hinj : ∀ i j, n0 ≤ i → i < nx' → n0 ≤ j → j < nx' → f i = f j → i = j) (hge : ∀ i, n0 ≤ i → i < nx' → n0 ≤ f i) (hnx : n0 < nx')
  (hpre : ∀ i k, hget pre' i = some k → (m + 5 ≤ i ∧ i ≠ n0) ∧ k.cs.all clo = true ∧ hget pre (f i) = some k) (hp1 : ∀ i k, hget pre i = some k → m + 5 ≤ i ∧ i ≠ lid)
  (h1 : mapSl f (fun i => i < nx') sl sl') :
  Le B ⟨sl, pre ++ itH h w o m lid ids M L, nx1, nt⟩ ⟨sl', pre' ++ itH h w o m n0 ids M L, nx', nt⟩ := by
 have hfi : ∀ i, i < nx' → ∀ j, j < nx' → f i = f j → i = j := fun i hi j hj e => by
  by_cases h1 : i < n0 <;> by_cases h2 : j < n0
  ·rw [hf i h1, hf j h2] at e; exact e
  ·have := hge j (by omega) hj; rw [hf i h1] at e; omega
  ·have := hge i (by omega) hi; rw [hf j h2] at e; omega
  ·exact hinj i j (by omega) hi (by omega) hj e
 refine Le.map f (fun i => i < nx') hB (fun i hi => ⟨by omega, hf i hi⟩) (fun i hi => hi) (fun i j hi hj e => hfi i hi j hj e) h1 (fun i k' hk' hlt => ?_)
 rw [hget_app] at hk'
 cases hp : hget pre' i with
 | some q =>
  rw [hp] at hk'; cases hk'
  obtain ⟨_, p2, p3⟩ := hpre i _ hp
  rw [hget_app, p3]
  exact BMap.clo p2
 | none =>
  rw [hp] at hk'
  simp only at hk'
  have hnp : ∀ j, j < m + 5 ∨ j = lid → hget pre j = none := fun j hj => by
   cases hq : hget pre j with
   | none => rfl
   | some q => have := hp1 j q hq; omega
  have hX : ∀ j, j < m + 5 ∨ j = lid → hget (pre ++ itH h w o m lid ids M L) j = hget (itH h w o m lid ids M L) j := fun j hj => by rw [hget_app, hnp j hj]
  have ho := hI.o1
  by_cases e5 : i = n0
  ·subst e5
   rw [hl, hX lid (.inr rfl)]
   unfold itH itP at hk' ⊢
   simp only [zl8, zl7, hget] at hk' ⊢
   rw [if_neg (by omega), if_neg (by omega), if_neg (by omega), if_neg (by omega), if_neg (by omega)] at hk' ⊢
   cases L with
   | nil => have := itR_lt hI _ _ hk'; omega
   | cons a L =>
    simp only [lbF, zl8, zl7, hget, if_pos] at hk' ⊢
    cases hk'
    exact BMap.clo (opsC_clo _)
  ·have hi5 : i < m + 5 := by
    unfold itH itP at hk'
    simp only [zl8, zl7, hget] at hk'
    by_cases h4 : i < m + 5
    ·exact h4
    ·rw [if_neg (by omega), if_neg (by omega), if_neg (by omega), if_neg (by omega), if_neg (by omega), hget_app] at hk'
     cases hb : hget (lbF n0 L) i with
     | some q => exact absurd (lbF_inv hb).1 e5
     | none => rw [hb] at hk'; have := itR_lt hI _ _ hk'; omega
   have hoV : VMap f (fun i => i < nx') (.sl o 0 h 1 none) (.sl o 0 h 1 none) := VMap.sl (hf o (by omega)) (by omega)
   rw [hf i (by omega), hX i (.inl hi5)]
   unfold itH itP at hk' ⊢
   simp only [zl8, zl7, hget] at hk' ⊢
   by_cases q4 : i = m + 4
   ·rw [if_pos q4] at hk' ⊢; cases hk'; exact BMap.clo rfl
   rw [if_neg q4] at hk' ⊢
   by_cases q3 : i = m + 3
   ·rw [if_pos q3] at hk' ⊢; cases hk'
    exact ⟨_, rfl, rfl, rfl, fun j y hy => by match j, hy with | 0, hy => cases hy; exact ⟨_, rfl, hoV⟩⟩
   rw [if_neg q3] at hk' ⊢
   by_cases q2 : i = m + 2
   ·rw [if_pos q2] at hk' ⊢; cases hk'
    refine ⟨_, rfl, rfl, rfl, fun j y hy => ?_⟩
    match j, hy with
    | 0, hy =>
     cases hy
     refine ⟨_, rfl, ?_⟩
     cases L with
     | nil => exact VMap.sc _
     | cons a L => exact VMap.sl hl (by omega)
   rw [if_neg q2] at hk' ⊢
   by_cases q1 : i = m + 1
   ·rw [if_pos q1] at hk' ⊢; cases hk'; exact BMap.clo rfl
   rw [if_neg q1] at hk' ⊢
   by_cases q0 : i = m
   ·rw [if_pos q0] at hk' ⊢; cases hk'
    exact ⟨_, rfl, rfl, rfl, fun j y hy => by match j, hy with | 0, hy => cases hy; exact ⟨_, rfl, hoV⟩⟩
   rw [if_neg q0] at hk' ⊢
   have hlb : ∀ q : Nat, m + 5 ≤ q → hget (lbF q L ++ itR w o ids M) i = hget (itR w o ids M) i := fun q hq => by
    rw [hget_app]
    cases hb : hget (lbF q L) i with
    | some r => have := (lbF_inv hb).1; omega
    | none => rfl
   rw [hlb _ (by omega)] at hk' ⊢
   rw [hk']
   refine ⟨_, rfl, rfl, rfl, fun j y hy => ⟨y, hy, ?_⟩⟩
   unfold itR at hk'
   simp only [hget] at hk'
   split at hk'
   ·cases hk'
    obtain ⟨i', hi', rfl⟩ := List.mem_map.1 (List.mem_of_getElem? hy)
    have := hI.lt i' hi'
    exact VMap.sl (hf i' (by omega)) (by omega)
   ·obtain ⟨q, q1, q2, q3, rfl⟩ := rows_inv hk'
    exact VMap.clo (List.all_eq_true.1 (rI_clo M _ (getD_mem (d := []) q2)) y (List.mem_of_getElem? hy))
theorem nextCall {B : Base} {ops : Array Oper} {ls : List Oper} {cs : List Code} {Q : Exit → SS → Prop} {d : Option Nat} {h w K o m nx nt r c : Nat} {M : List (List Int)} {ids0 ids : List Nat} {y : OpL × Bool} {sl : List (Nat × V)} {hp : List (Nat × Blk)} (pre : List (Nat × Blk)) (he : hp = pre ++ itR w o ids M) (hpre : ∀ id k, hget pre id = some k → m ≤ id)
  (hI : Ids o ids0 ids h m) (hmn : m ≤ nx) (hM : MI h w K M) (hK : K ≤ 50000000000) (hr : r < h) (hc : c < w) (hn : h ≤ 1000000) (hw : w ≤ 1000000) (hN : NxAll h r c M y) (k : SO Try.prog B ops ls cs Q ⟨putS sl d (nxV y), hp, nx, nt⟩) :
  SInlQ Try.prog B 55 [.sl o 0 h 1 none, .sc (.int .i64 r), .sc (.int .i64 c)] d ops ls cs Q ⟨sl, hp, nx, nt⟩ := by
 subst he
 have ho := hI.o1
 have hlt : ∀ i, inR o ids i → i < m := fun i e => e.elim (fun e => by omega) (hI.lt i)
 refine SInlQ.part pre (inR o ids) (next_q hM hK (hI.more hmn) hr hc hn hw hN) (fun id k hk hp => ?_) (inR_rows fun i hi => hi) (fun x hp' nx' hq => ?_) (fun x hp' nx' hq => ?_)
 ·have := hpre id k hk; have := hlt id hp; omega
 ·obtain ⟨rfl, rfl, rfl⟩ := hq
  refine ⟨.tu (fun x hx => ?_), ⟨fun y hy => ?_, OnlyH.rows (rI_clo M)⟩, inR_rows fun i hi => hi⟩
  ·rcases List.mem_cons.1 hx with rfl | hx
   ·refine .ag fun x hx => ?_
    unfold opC sv at hx
    simp only [List.mem_cons, List.not_mem_nil, or_false] at hx
    rcases hx with rfl | rfl | rfl | rfl | rfl
    ·exact .sc _
    ·exact .sc _
    ·exact .sc _
    ·exact .sc _
    ·exact .im _ _
   ·rcases List.mem_cons.1 hx with rfl | hx
    ·exact .sc _
    ·cases hx
  ·obtain ⟨i, hi, rfl⟩ := List.mem_map.1 hy
   exact .sl (.inr hi)
 ·obtain ⟨rfl, rfl, rfl⟩ := hq
  exact k
theorem Path.next {h r c : Nat} {M M1 : List (List Int)} {l : List OpL} (hp : Path h r c M l M1) (hn : NxNo h r c M1) : ∃ y, NxAll h r c M y := by
 cases hp with
 | nil => exact ⟨_, .inr ⟨hn, rfl⟩⟩
 | cons hx _ => exact ⟨(_, true), .inl ⟨hx, rfl⟩⟩
theorem Path.yes {h r c : Nat} {M M1 : List (List Int)} {l : List OpL} {o : OpL} (hp : Path h r c M l M1) (hn : NxNo h r c M1) (ho : Nx h r c M o) : ∃ l', l = o :: l' ∧ Path h r c (actO M o) l' M1 := by
 cases hp with
 | nil => exact (ho.no hn).elim
 | cons hx hp => cases ho.uniq hx; exact ⟨_, rfl, hp⟩
theorem Path.none {h r c : Nat} {M M1 : List (List Int)} {l : List OpL} (hp : Path h r c M l M1) (ho : NxNo h r c M) : l = [] ∧ M1 = M := by
 cases hp with
 | nil => exact ⟨rfl, rfl⟩
 | cons hx hp => exact (hx.no ho).elim
theorem itRow {h w o m lid : Nat} {ids0 ids : List Nat} {M : List (List Int)} {L : List OpL} (hI : Ids o ids0 ids h m) (hl : m ≤ lid) (hM : M.length = h) : hget (lbF lid L ++ itR w o ids M) o = some ⟨73, slR 2 w ids, false⟩ ∧
  ∀ k, k < h → ∃ idk, idk < m ∧ idk ≠ o ∧ (slR 2 w ids)[k]? = some (.sl idk 0 w 2 none) ∧ hget (lbF lid L ++ itR w o ids M) idk = some ⟨43, ivR (M.getD k []), false⟩ := by
 have ho := hI.o1
 have hidl := hI.len
 have key : ∀ i, i < m → hget (lbF lid L ++ itR w o ids M) i = hget (itR w o ids M) i := fun i hi => by
  rw [hget_app]
  cases hb : hget (lbF lid L) i with
  | some r => have := (lbF_inv hb).1; omega
  | none => rfl
 refine ⟨by rw [key o ho]; unfold itR; simp only [hget, if_pos], fun k hk => ?_⟩
 have hm := getD_mem' (ids := ids) (k := k) (by omega)
 have hne : ids.getD k 0 ≠ o := fun e => hI.o2 (by rw [← e]; exact hm)
 have gR := rows_get (ty := 43) (rs := rI M) (k := k) hI.nod (by omega) (by rw [rI_len]; omega)
 rw [rI_getD] at gR
 refine ⟨_, hI.lt _ hm, hne, slR_get (by omega), ?_⟩
 rw [key _ (hI.lt _ hm)]
 unfold itR
 simp only [hget]
 rw [if_neg hne]; exact gR
theorem kgc {a i : Nat} {b : Blk} {r : List (Nat × Blk)} (h : a ≤ i) (k : ∀ id q, hget r id = some q → a ≤ id) : ∀ id q, hget ((i, b) :: r) id = some q → a ≤ id := fun id q hq => by
 simp only [hget] at hq
 split at hq
 ·omega
 ·exact k id q hq
theorem kgl {a lid : Nat} {L : List OpL} (h : a ≤ lid) : ∀ id q, hget (lbF lid L) id = some q → a ≤ id := fun id q hq => by
 have := (lbF_inv hq).1; omega
theorem kgp {m lid : Nat} {L : List OpL} {b4 b3 b2 b1 b0 : Blk} (h : m ≤ lid) : ∀ id q, hget ([(m + 4, b4), (m + 3, b3), (m + 2, b2), (m + 1, b1), (m, b0)] ++ lbF lid L) id = some q → m ≤ id :=
 kgc (by omega) (kgc (by omega) (kgc (by omega) (kgc (by omega) (kgc (znb _) (kgl h)))))
theorem only_all {p : Nat → Prop} (hp : ∀ i, p i) : (x : V) → Only p x
 | .sc v => .sc v
 | .junk => .junk
 | .ag cs => .ag fun x hx => only_all hp x
 | .tu cs => .tu fun x hx => only_all hp x
 | .pt id off => .pt (hp id)
 | .sl id off len z c => .sl (hp id)
 | .im cs n => .im cs n
 | .pi cs => .pi cs
 | .fn f a b => .fn (fun x hx => only_all hp x) (fun x hx => only_all hp x)
theorem onlyH_all {p : Nat → Prop} (hp : ∀ i, p i) : ∀ r : List (Nat × Blk), OnlyH p r
 | [] => trivial
 | q :: r => ⟨fun y _ => only_all hp y, onlyH_all hp r⟩
theorem kren {m : Nat} (b c : Blk) (hb : b.cs.all clo = true) : ∀ i k, hget [(m + 6, b)] i = some k → (m + 5 ≤ i ∧ i ≠ m + 5) ∧ k.cs.all clo = true ∧ hget [(m + 9, b), (m + 6, c)] (if i = m + 5 then m + 8 else if i = m + 6 then m + 9 else i) = some k := fun i k hk => by
 simp only [hget] at hk
 split at hk
 ·rename_i e
  subst e
  cases hk
  refine ⟨by omega, hb, ?_⟩
  rw [if_neg (by omega), if_pos rfl]
  simp only [hget, if_pos]
 ·cases hk
theorem kgt2 {m : Nat} (b c : Blk) : ∀ i k, hget [(m + 9, b), (m + 6, c)] i = some k → m + 5 ≤ i ∧ i ≠ m + 8 := fun i k hk => by
 simp only [hget] at hk
 split at hk
 ·omega
 ·split at hk
  ·omega
  ·cases hk
theorem restSOY {P : Program} {B : Base} {ops : Array Oper} {ls : List Oper} {Q : Exit → SS → Prop} {sl : List (Nat × V)} {nx nt : Nat} (A X : List (Nat × Blk)) (h : SOY P B ops ls Q ⟨sl, A, nx, nt⟩) : SOY P B ops ls Q ⟨sl, A ++ restH X X, nx, nt⟩ := by rw [restH_self, List.append_nil]; exact h
theorem kone {m : Nat} (b : Blk) (hb : b.cs.all clo = true) : ∀ i k, hget [(m + 6, b)] i = some k → m + 5 < i ∧ k.cs.all clo = true ∧ hget [(m + 6, b)] i = some k := fun i k hk => by
 have h := hk
 simp only [hget] at h
 split at h
 ·cases h; exact ⟨by omega, hb, hk⟩
 ·cases h
theorem kgt {m : Nat} (b : Blk) : ∀ i k, hget [(m + 6, b)] i = some k → m + 5 < i := fun i k hk => by
 simp only [hget] at hk
 split at hk
 ·omega
 ·cases hk
set_option maxHeartbeats 16000000 in
set_option maxRecDepth 8000 in
theorem iter_s {h w K o m l p : Nat} {B1 : Base} {ids0 : List Nat} {M0 Mf : List (List Int)} {lA : List OpL} {slc : List (Nat × V)} {ntc : Nat} {assign body : Code} (hB : B1.Old (m + 5)) (hL : LoopAt B1 l slc ntc p assign body) (hp : p < ntc) (hI0 : Ids o ids0 ids0 h m) (hK : K ≤ 50000000000) (hn : h ≤ 1000000) (hw : w ≤ 1000000)
  (hC : Cols h w 0 0 M0 lA Mf) (hS : ∀ i, MI h w K (actsO M0 (lA.take i))) (hO : ∀ o ∈ lA, OkOp h o) (hR : RdS h w K o m lA.length ids0 l p slc ntc assign body) :
  ∀ fn c, Try.prog.funcs[54]? = some fn → fn.body = some c → SWp Try.prog B1 c (itQ Try.prog fn B1 (ItC h w o m ids0 Mf lA)) ⟨stSl 0 [.sc (.func (.yield l) #[] #[]), .pt (m + 4) 0, .pt (m + 3) 0], itH h w o m (m + 5) ids0 M0 [], m + 5, fn.ntmps⟩ := by
 refine itRun Try.func54 rfl Try.ntmps54 sF ?_
 have hSL : ∀ L R, L ++ R = lA → MI h w K (actsO M0 L) := fun L R e => by
  have := hS L.length
  rwa [← e, List.take_left] at this
 have fid : ∀ (a : Nat), m + 6 ≤ a → a ≤ m + 7 → ∀ (ids : List Nat) (M : List (List Int)) (L : List OpL), Ids o ids0 ids h m → ∀ (sl sl' : List (Nat × V)) (pre pre' : List (Nat × Blk)) (nx1 nt : Nat), (∀ i k, hget pre' i = some k → m + 5 < i ∧ k.cs.all clo = true ∧ hget pre i = some k) → (∀ i k, hget pre i = some k → m + 5 < i) → mapSl (fun i => i) (fun i => i < a) sl sl' →
   Le B1 ⟨sl, pre ++ itH h w o m (m + 5) ids M L, nx1, nt⟩ ⟨sl', pre' ++ itH h w o m (m + 5) ids M L, a, nt⟩ := fun a ha ha7 ids M L hI sl sl' pre pre' nx1 nt h1 h2 h3 =>
  itLe (n0 := m + 5) (fun i => i) hB (znb _) hI (fun i _ => rfl) rfl (znb _) (fun i j _ _ _ _ e => e) (fun i hi _ => hi) (by omega) (fun i k hk => by have := h1 i k hk; exact ⟨by omega, this.2⟩) (fun i k hk => by have := h2 i k hk; omega) h3
 (repeat (first | (with_reducible refine oA ?_) | ((with_reducible apply SC.region); (focus (simp (disch := omega) only [go_sem, ↓reduceIte] <;> rfl)); (fail_if_success with_reducible refine pickA ?_))))
 refine SC.loop (fun x : Nat × Nat × List (List Int) × List Nat × List OpL × List OpL => ⟨[(0, .sc (.func (.yield l) #[] #[])), (1, .pt (m + 4) 0), (2, .pt (m + 3) 0), (4, .sc (.int .i64 x.1)), (5, .sc (.int .i64 x.2.1))], [] ++ itH h w o m (m + 5) x.2.2.2.1 x.2.2.1 x.2.2.2.2.1, m + 6, 50⟩)
  (fun x => x.1 ≤ h ∧ x.2.1 ≤ w ∧ Ids o ids0 x.2.2.2.1 h m ∧ x.2.2.1 = actsO M0 x.2.2.2.2.1 ∧ x.2.2.2.2.1 ++ x.2.2.2.2.2 = lA ∧ Cols h w x.1 x.2.1 x.2.2.1 x.2.2.2.2.2 Mf) (fun x => w - x.2.1) (0, 0, M0, ids0, [], lA) ?_ ?_ ?_
 ·refine fid (m + 6) (by omega) (by omega) ids0 M0 [] hI0 _ _ [] [] _ _ (fun i k hk => by cases hk) (fun i k hk => by cases hk) ?_
  (repeat' (first | exact trivial | refine mapSl_cons sG ?_ ?_ | exact VMap.sc _ | exact VMap.pt rfl (by omega)))
 ·exact ⟨znc _, znc _, hI0, rfl, rfl, hC⟩
 ·rintro ⟨r, c, M, ids, L, R⟩ ⟨hr, hc, hI, hMe, hLR, hCo⟩ K2 hK2
  simp only at hr hc hI hMe hLR hCo ⊢
  have hM := hSL L R hLR
  rw [← hMe] at hM
  have ho := hI.o1
  have hidl := hI.len
  have g1 := slR_len 2 w ids
  rw [hidl] at g1
  by_cases hcw : c < w ∧ r < h
  ·obtain ⟨hcw, hrh⟩ := hcw
   have q1 := decide_eq_true (p := (c : Int) < (w : Int)) (by omega)
   have q2 := decide_eq_true (p := (r : Int) < (h : Int)) (by omega)
   cases hCo with
   | done hd => exact absurd ⟨hcw, hrh⟩ hd
   | @col _ _ _ M1 _ l1 R2 _ _ hP hN1 hC2 =>
    obtain ⟨y, hy⟩ := hP.next hN1
    obtain ⟨⟨kd, a, b, k⟩, by2⟩ := y
    have hrow := itRow (w := w) (lid := m + 5) (L := L) hI (by omega) hM.len
    obtain ⟨gX, _⟩ := hrow
    simp only [itH, itP, zl8, zl7]
    generalize hX : lbF (m + 5) L ++ itR w o ids M = X at *
    generalize hlc : lcF (m + 5) L = lc at *
    (repeat (first | (with_reducible refine oA ?_) | ((with_reducible first | apply SC.condB | apply SC.region | apply SO.run); (focus (simp (disch := omega) only [go_sem, ↓reduceIte, zn1, reduceCtorEq, if_neg, q1, q2] <;> rfl)); (first | refine pickT ?_ | fail_if_success with_reducible refine pickA ?_)) | (with_reducible apply SC.ops)))
    refine SO.inlQ sG Tab.go55 sG sG (nextCall ([(m + 4, _), (m + 3, _), (m + 2, _), (m + 1, _), (m, _)] ++ lbF (m + 5) L) (by rw [← hX]; rfl) (kgp (by omega)) hI (by omega) hM hK hrh hcw hn hw hy ?_)
    have hN0 := hy
    unfold nxV opC sv
    (repeat (first | (with_reducible refine oA ?_) | ((with_reducible apply SO.run); (focus (simp (disch := omega) only [go_sem, ↓reduceIte, zn1, zn3, zn4] <;> rfl)); (fail_if_success with_reducible refine pickA ?_))))
    refine SC.loop (fun x : List (List Int) × List Nat × List OpL × (OpL × Bool) × List OpL => ⟨[(0, .sc (.func (.yield l) #[] #[])), (1, .pt (m + 4) 0), (2, .pt (m + 3) 0), (4, .sc (.int .i64 r)), (5, .sc (.int .i64 c)), (6, .pt (m + 6) 0), (7, .sc (.bool x.2.2.2.1.2))], [(m + 6, ⟨45, opC x.2.2.2.1.1, false⟩)] ++ itH h w o m (m + 5) x.2.1 x.1 x.2.2.1, m + 7, 50⟩)
     (fun x => Ids o ids0 x.2.1 h m ∧ x.1 = actsO M0 x.2.2.1 ∧ x.2.2.1 ++ (x.2.2.2.2 ++ R2) = lA ∧ Path h r c x.1 x.2.2.2.2 M1 ∧ NxAll h r c x.1 x.2.2.2.1) (fun x => x.2.2.2.2.length) (M, ids, L, (⟨kd, a, b, k⟩, by2), l1) ?_ ?_ ?_
    ·rw [← hX, ← hlc]
     refine fid (m + 7) (by omega) (by omega) ids M L hI _ _ [(m + 6, _)] [(m + 6, _)] _ _ (kone _ rfl) (kgt _) ?_
     (repeat' (first | exact trivial | refine mapSl_cons sG ?_ ?_ | exact VMap.sc _ | exact VMap.pt rfl (by omega)))
    ·exact ⟨hI, hMe, by simp only; rw [← hLR], hP, hN0⟩
    ·rintro ⟨M, ids, L, ⟨op, yb⟩, l2⟩ ⟨hI, hMe, hLR, hP, hy⟩ K3 hK3
     simp only at hI hMe hLR hP hy ⊢
     have hM := hSL L _ hLR
     rw [← hMe] at hM
     cases yb with
     | true =>
      rcases hy with ⟨hx, _⟩ | ⟨_, hx⟩
      ·simp only at hx
       obtain ⟨l', rfl, hP'⟩ := hP.yes hN1 hx
       have hM' := hSL (L ++ [op]) (l' ++ R2) (by rw [← hLR]; simp)
       rw [acts_snoc, ← hMe] at hM'
       have hok : OkOp h op := hO op (by rw [← hLR]; simp)
       obtain ⟨s1, a1, a2⟩ := hR ids M L op hM hM' hok hI (by rw [← hLR]; simp)
       simp only [zl8, zl7]
       refine SC.seq (SC.seq (SC.region sG (SC.condB sG (pickT (SC.skip (SC.seq (SC.block (SC.seq ?_))))))))
       refine SWp.regionY (SOY.run sG rfl (SOY.run sG rfl ?_))
       refine SOY.yield (hpS := (m + 6, ⟨45, opC op, false⟩) :: itH h w o m (m + 5) ids M L) (C := RdC h w o m ids0 (actO M op) L op) (s1 := s1) hL sG sG hp (fun id k hk => hk) a1 a2 ?_
       rintro hp' nx' ⟨ids', hI', rfl, rfl⟩
       refine ⟨onlyH_all (fun i => ?_) _, ?_⟩
       ·exact (congrArg (fun q => hasId q i) (restH_self _)).trans rfl
       refine restSOY ((m + 6, (⟨45, opC op, false⟩ : Blk)) :: itH h w o m (m + 8) ids' (actO M op) (L ++ [op])) ((m + 6, (⟨45, opC op, false⟩ : Blk)) :: itH h w o m (m + 5) ids M L) ?_
       refine SOY.run sG rfl (SOY.nil (ozf ?_))
       obtain ⟨y', hy'⟩ := hP'.next hN1
       have hLR' : (L ++ [op]) ++ (l' ++ R2) = lA := by rw [← hLR]; simp
       have hMe' : actO M op = actsO M0 (L ++ [op]) := by rw [acts_snoc, ← hMe]
       generalize hL' : L ++ [op] = L' at *
       generalize actO M op = M' at *
       obtain ⟨⟨kd', a', b', k'⟩, by'⟩ := y'
       simp only [itH, itP, zl8, zl7]
       generalize hX : lbF (m + 8) L' ++ itR w o ids' M' = X at *
       generalize hlc : lcF (m + 8) L' = lc at *
       unfold opC sv
       (repeat (first | (with_reducible refine oA ?_) | ((with_reducible first | apply SC.condB | apply SC.region | apply SO.run); (focus (simp (disch := omega) only [go_sem, ↓reduceIte, zn1, zn3, zn4, reduceCtorEq, if_neg] <;> rfl)); (first | refine pickF ?_ | fail_if_success with_reducible refine pickA ?_)) | (with_reducible apply SC.ops)))
       refine SO.inlQ sG Tab.go55 sG sG (nextCall ([(m + 9, _), (m + 6, _), (m + 4, _), (m + 3, _), (m + 2, _), (m + 1, _), (m, _)] ++ lbF (m + 8) L') (by rw [← hX]; rfl) (kgc (by omega) (kgc (by omega) (kgp (by omega)))) hI' (by omega) hM' hK hrh hcw hn hw hy' ?_)
       have hN' := hy'
       unfold nxV opC sv
       (repeat (first | (with_reducible refine oA ?_) | ((with_reducible apply SO.run); (focus (simp (disch := omega) only [go_sem, ↓reduceIte, zn1, zn3, zn4] <;> rfl)); (fail_if_success with_reducible refine pickA ?_))))
       refine hK3 _ (M', ids', L', (⟨kd', a', b', k'⟩, by'), l') ?_ ⟨hI', hMe', hLR', hP', hN'⟩ (by simp)
       rw [← hX, ← hlc]
       refine itLe (lid := m + 8) (pre := [(m + 9, _), (m + 6, _)]) (pre' := [(m + 6, _)]) (nx' := m + 7) (n0 := m + 5) (fun i => if i = m + 5 then m + 8 else if i = m + 6 then m + 9 else i) hB (znb _) hI' (fun i hi => by rw [if_neg (by omega), if_neg (by omega)]) (if_pos rfl) (by omega) (fun i j h1 h2 h3 h4 e => by
        have e1 : i = m + 5 ∨ i = m + 6 := by omega
        have e2 : j = m + 5 ∨ j = m + 6 := by omega
        rcases e1 with rfl | rfl <;> rcases e2 with rfl | rfl <;> simp at e <;> rfl) (fun i h1 h2 => by split <;> (try split) <;> omega) (by omega) (kren _ _ rfl) (kgt2 _ _) ?_
       (repeat' (first | exact trivial | refine mapSl_cons sG ?_ ?_ | exact VMap.sc _))
       all_goals first
        | exact VMap.pt (by show (if _ then _ else _) = _; rw [if_neg (by omega), if_neg (by omega)]) (by omega)
        | exact VMap.pt (by show (if _ then _ else _) = _; rw [if_neg (by omega), if_pos rfl]) (by omega)
      ·cases hx
     | false =>
      rcases hy with ⟨_, hx⟩ | ⟨hno, hx⟩
      ·cases hx
      ·obtain ⟨rfl, rfl⟩ := hP.none hno
       obtain ⟨gX, hrow⟩ := itRow (w := w) (lid := m + 5) (L := L) hI (by omega) hM.len
       obtain ⟨idr, hidr, hidro, gi, gR⟩ := hrow r hrh
       have gl := ivR_len (M1.getD r [])
       rw [(hM.get hrh).1] at gl
       have gd := ivR_drop (l := M1.getD r []) (i := c) (by rw [(hM.get hrh).1]; exact hcw)
       have hf : Fits K (ent2 M1 r c) := hM.fit hrh hcw
       have hx0 : (M1.getD r []).getD c 0 = ent2 M1 r c := rfl
       rw [hx0] at gd
       have cS := psign_i (ent2 M1 r c) K hf (by omega)
       have g1 := slR_len 2 w ids
       rw [hI.len] at g1
       simp only [itH, itP, zl8, zl7]
       generalize hX : lbF (m + 5) L ++ itR w o ids M1 = X at *
       generalize hlc : lcF (m + 5) L = lc at *
       generalize hp : ent2 M1 r c = z at *
       generalize (ivR (M1.getD r [])).drop ((c + 1) * 2) = Z at *
       unfold ivC sv at gd
       simp only [zl8, zl7] at gd
       generalize ivR (M1.getD r []) = row at *
       have g2 : c * 2 < row.length := by omega
       unfold iv sv at cS
       by_cases h0 : z = 0
       ·have q2 : (z.sign != 0) = false := by rw [h0]; decide
        generalize z.sign = sz at *
        (repeat (first | (with_reducible refine oA ?_) | ((apply SO.call); (iterate 3 (focus (simp (disch := omega) only [go_sem, ↓reduceIte] <;> rfl))); (apply SCall.ofX); (focus (assumption)); (focus (simp (disch := omega) only [go_sem] <;> rfl))) | ((with_reducible first | apply SC.condB | apply SC.region | apply SO.run); (focus (simp (disch := omega) only [go_sem, ↓reduceIte, zn1, reduceCtorEq, if_pos, if_neg, gX, gi, gR, gd, gl, q2] <;> rfl)); (first | refine pickF ?_ | fail_if_success with_reducible refine pickA ?_)) | (with_reducible apply SC.ops)))
        rw [if_neg (fun h => h h0)] at hC2
        refine hK2 _ (r, c + 1, M1, ids, L, R2) ?_ ⟨by simp only; omega, by simp only; omega, hI, hMe, hLR, hC2⟩ (by simp only; omega)
        rw [← hX, ← hlc]
        refine fid (m + 6) (by omega) (by omega) ids M1 L hI _ _ [(m + 6, _)] [] _ _ (fun i k hk => by cases hk) (kgt _) ?_
        (repeat' (first | exact trivial | refine mapSl_cons sG ?_ ?_ | exact VMap.sc _ | exact VMap.pt rfl (by omega)))
       ·have q2 : (z.sign != 0) = true := by rw [bne_iff_ne]; exact fun h => h0 (Int.sign_eq_zero_iff_zero.1 h)
        generalize z.sign = sz at *
        (repeat (first | (with_reducible refine oA ?_) | ((apply SO.call); (iterate 3 (focus (simp (disch := omega) only [go_sem, ↓reduceIte] <;> rfl))); (apply SCall.ofX); (focus (assumption)); (focus (simp (disch := omega) only [go_sem] <;> rfl))) | ((with_reducible first | apply SC.condB | apply SC.region | apply SO.run); (focus (simp (disch := omega) only [go_sem, ↓reduceIte, zn1, zn2, reduceCtorEq, if_pos, if_neg, gX, gi, gR, gd, gl, q2] <;> rfl)); (first | refine pT ?_ | refine pF ?_ | fail_if_success with_reducible refine pA ?_)) | (with_reducible apply SC.ops)))
        rw [if_pos h0] at hC2
        refine hK2 _ (r + 1, c + 1, M1, ids, L, R2) ?_ ⟨by simp only; omega, by simp only; omega, hI, hMe, hLR, hC2⟩ (by simp only; omega)
        rw [← hX, ← hlc]
        refine fid (m + 6) (by omega) (by omega) ids M1 L hI _ _ [(m + 6, _)] [] _ _ (fun i k hk => by cases hk) (kgt _) ?_
        (repeat' (first | exact trivial | refine mapSl_cons sG ?_ ?_ | exact VMap.sc _ | exact VMap.pt rfl (by omega)))
  ·have he : R = [] ∧ Mf = M := by
    cases hCo with
    | done _ => exact ⟨rfl, rfl⟩
    | col h1 h2 _ _ _ => exact absurd ⟨h1, h2⟩ hcw
   obtain ⟨rfl, rfl⟩ := he
   rw [List.append_nil] at hLR
   subst hLR
   have hend : ItC h w o m ids0 Mf L (itH h w o m (m + 5) ids Mf L) (m + 6) := ⟨ids, hI, rfl, rfl⟩
   simp only [zl7]
   have g0 := itRow (w := w) (lid := m + 5) (L := L) hI (by omega) hM.len
   obtain ⟨gX, _⟩ := g0
   by_cases hc2 : c < w
   ·have q1 := decide_eq_true (p := (c : Int) < (w : Int)) (by omega)
    have q2 := decide_eq_false (p := (r : Int) < (h : Int)) (by omega)
    simp only [itH, itP, zl8, zl7]
    generalize hX : lbF (m + 5) L ++ itR w o ids Mf = X at *
    generalize hlc : lcF (m + 5) L = lc at *
    (repeat (first | (with_reducible refine oA ?_) | ((with_reducible first | apply SC.condB | apply SC.region); (focus (simp (disch := omega) only [go_sem, ↓reduceIte, zn1, reduceCtorEq, if_neg, q1, q2] <;> rfl)); (first | refine pickF ?_ | fail_if_success with_reducible refine pickA ?_))))
    subst hX
    subst hlc
    exact itQ_normal _ _ Try.results54 rfl hend (Le.refl _ _)
   ·have q1 := decide_eq_false (p := (c : Int) < (w : Int)) (by omega)
    simp only [itH, itP, zl8, zl7]
    generalize hX : lbF (m + 5) L ++ itR w o ids Mf = X at *
    generalize hlc : lcF (m + 5) L = lc at *
    (repeat (first | (with_reducible refine oA ?_) | ((with_reducible first | apply SC.condB | apply SC.region); (focus (simp (disch := omega) only [go_sem, ↓reduceIte, zn1, reduceCtorEq, if_neg, q1] <;> rfl)); (first | refine pickF ?_ | fail_if_success with_reducible refine pickA ?_))))
    subst hX
    subst hlc
    exact itQ_normal _ _ Try.results54 rfl hend (Le.refl _ _)
def RedQ (h w o : Nat) (ids : List Nat) (M : List (List Int)) (nx : Nat) (x : V) (hp' : List (Nat × Blk)) (nx' : Nat) : Prop :=
 x = .fn (.func 54) [] [.pt (nx + 1) 0, .pt nx 0] ∧ hp' = (nx + 1, ⟨3, [.sc (.int .i64 w)], false⟩) :: (nx, ⟨26, [.sl o 0 h 1 none], false⟩) :: itR w o ids M ∧ nx' = nx + 2
theorem reduction_q {h w o nx : Nat} {ids : List Nat} {M : List (List Int)} :
  InlQ Try.prog 27 [.sl o 0 h 1 none, .sc (.int .i64 w)] (itR w o ids M) nx (RedQ h w o ids M nx) := by
 refine InlQ.run Try.func27 rfl Try.ntmps27 (by simp) sF fun B hB => ?_
 generalize hX : itR w o ids M = X
 (repeat (first | (with_reducible refine oA ?_) | ((with_reducible apply SC.region); (focus (simp (disch := omega) only [go_sem, ↓reduceIte, zn1, zn2, reduceCtorEq] <;> rfl)); (fail_if_success with_reducible refine pickA ?_))))
 subst hX
 exact retIQ_ret _ _ _ Try.results27 sG ⟨rfl, rfl, rfl⟩ (Le.refl _ _)
theorem rawLess0 {h w o m : Nat} {b0 : Blk} {ids : List Nat} {M : List (List Int)} (hpos : ∀ id k, hget (itR w o ids M) id = some k → 1 ≤ id ∧ id < m) : ∀ id k, hget (itH h w o m (m + 5) ids M []) id = some k →
  hget ((m + 2, (⟨30, [.sc (.slice none 0 0)], false⟩ : Blk)) :: (m + 1, ⟨59, perfs, false⟩) :: (m, ⟨26, [.sl o 0 h 1 none], false⟩) :: (0, b0) :: (m + 4, ⟨3, [.sc (.int .i64 w)], false⟩) :: (m + 3, ⟨26, [.sl o 0 h 1 none], false⟩) :: itR w o ids M) id = some k := by
 intro id k hk
 unfold itH itP at hk
 simp only [lcF, lbF, zl8, zl7, hget] at hk ⊢
 by_cases e4 : id = m + 4
 ·rw [if_pos e4] at hk
  rw [if_neg (by omega), if_neg (by omega), if_neg (by omega), if_neg (by omega), if_pos e4]; exact hk
 by_cases e3 : id = m + 3
 ·rw [if_neg (by omega), if_pos e3] at hk
  rw [if_neg (by omega), if_neg (by omega), if_neg (by omega), if_neg (by omega), if_neg (by omega), if_pos e3]; exact hk
 rw [if_neg e4, if_neg e3] at hk
 by_cases e2 : id = m + 2
 ·rw [if_pos e2] at hk ⊢; exact hk
 rw [if_neg e2] at hk ⊢
 by_cases e1 : id = m + 1
 ·rw [if_pos e1] at hk ⊢; exact hk
 rw [if_neg e1] at hk ⊢
 by_cases e0 : id = m
 ·rw [if_pos e0] at hk ⊢; exact hk
 rw [if_neg e0] at hk ⊢
 have := hpos id k hk
 rw [if_neg (by omega), if_neg e4, if_neg e3]; exact hk
theorem perfCall {B : Base} {ops : Array Oper} {ls : List Oper} {cs : List Code} {Q : Exit → SS → Prop} {d : Option Nat} {h w K o m nx nt : Nat} {M : List (List Int)} {ids0 ids : List Nat} {op : OpL} {sl : List (Nat × V)} {hp : List (Nat × Blk)} (pre : List (Nat × Blk)) (he : hp = pre ++ itR w o ids M) (hpre : ∀ id k, hget pre id = some k → m ≤ id)
  (hI : Ids o ids0 ids h m) (hI0 : ∀ i ∈ ids0, i < m) (hmn : m ≤ nx) (hM : MI h w K M) (hK : K ≤ 100000000000) (hok : OkOp h op) (hn : h ≤ 1000000) (hw : w ≤ 1000000) (k : ∀ ids', Ids o ids0 ids' h m → SO Try.prog B ops ls cs Q ⟨putS sl d (.tu []), pre ++ itR w o ids' (actO M op), nx, nt⟩) :
  SInlQ Try.prog B (pfn op.kd) [.sl o 0 h 1 none, .ag (opC op)] d ops ls cs Q ⟨sl, hp, nx, nt⟩ := by
 subst he
 have ho := hI.o1
 have hlt : ∀ i, inR o ids0 i → i < m := fun i e => e.elim (fun e => by omega) (hI0 i)
 refine SInlQ.part pre (inR o ids0) (perf_s hM hK (hI.more hmn) hok hn hw) (fun id k hk hp => ?_) (inR_rows hI.sub) (fun x hp' nx' hq => actQ_part hq) (fun x hp' nx' hq => ?_)
 ·have := hpre id k hk; have := hlt id hp; omega
 ·obtain ⟨ids', hI', rfl, rfl, rfl⟩ := hq
  exact k ids' ⟨hI'.len, hI'.nod, hI'.sub, fun i hi => hI0 i (hI'.sub i hi), ho, hI'.o2⟩
def subSl (sl : List (Nat × V)) : List (Nat × V) → Prop
 | [] => True
 | (t, y) :: r => get sl t = y ∧ subSl sl r
theorem Le.slotsE {B : Base} {sl sl' : List (Nat × V)} {hp : List (Nat × Blk)} {nx nt : Nat} (h : subSl sl sl') : Le B ⟨sl, hp, nx, nt⟩ ⟨sl', hp, nx, nt⟩ := by
 intro S rho A a w hr
 refine ⟨S, rho, A, ⟨fun t => ?_, hr.mem, hr.alt, hr.nt, hr.defs⟩⟩
 show R S rho w A (get sl' t) _
 induction sl' with
 | nil => exact .junk _
 | cons p r ih =>
  obtain ⟨i, y⟩ := p
  simp only [get]
  by_cases e : t = i
  ·subst e; rw [if_pos rfl, ← h.1]; exact hr.slots t
  ·rw [if_neg e]; exact ih h.2
theorem itH_lt {h w o m : Nat} {ids0 ids : List Nat} {M : List (List Int)} {L : List OpL} (hI : Ids o ids0 ids h m) : ∀ id k, hget (itH h w o m (m + 5) ids M L) id = some k → id < m + 6 := fun id k hk => by
 unfold itH at hk
 rw [hget_app] at hk
 cases hp : hget (itP h w o m (lcF (m + 5) L)) id with
 | some q => have := itP_lt id q hp; omega
 | none =>
  rw [hp] at hk
  simp only at hk
  rw [hget_app] at hk
  cases hb : hget (lbF (m + 5) L) id with
  | some q => have := (lbF_inv hb).1; omega
  | none => rw [hb] at hk; have := itR_lt hI id k hk; omega
theorem hdel_no {a : Nat} : ∀ {X : List (Nat × Blk)}, (∀ k, hget X a = some k → False) → hdel X a = X
 | [], _ => rfl
 | (i, b) :: r, h => by
  by_cases e : a = i
  ·exact (h b (by simp only [hget]; rw [if_pos e])).elim
  ·have := hdel_no (a := a) (X := r) fun k hk => h k (by simp only [hget]; rw [if_neg e]; exact hk)
   rw [hdel_cons, if_neg (fun x => e x.symm), this]
theorem rdLe {B : Base} {h w o m nx1 : Nat} {ids0 ids : List Nat} {M : List (List Int)} {L : List OpL} {b : OpL} (hB : B.Old (m + 8)) (hI : Ids o ids0 ids h m) : Le B ⟨[(0, .junk)], [(m + 6, ⟨45, opC b, false⟩)] ++ itH h w o m (m + 9) ids M L, nx1, 1⟩ ⟨[(0, .junk)], [(m + 6, ⟨45, opC b, false⟩)] ++ itH h w o m (m + 8) ids M L, m + 9, 1⟩ := by
 refine itLe (n0 := m + 8) (lid := m + 9) (nx' := m + 9) (fun i => if i = m + 8 then m + 9 else i) hB (by omega) hI (fun i hi => if_neg (by omega)) (if_pos rfl) (by omega) (fun i j h1 h2 h3 h4 _ => by omega) (fun i h1 h2 => by split <;> omega) (by omega) (fun i k hk => ?_) (fun i k hk => ?_) ⟨VMap.junk _, trivial⟩
 ·have h := hk
  simp only [hget] at h
  split at h
  ·rename_i e
   subst e
   cases h
   refine ⟨by omega, rfl, ?_⟩
   rw [if_neg (by omega)]; exact hk
  ·cases h
 ·simp only [hget] at hk
  split at hk
  ·omega
  ·cases hk
theorem Spec.runM {P : Program} {f : Nat} {fn : Func} {c : Code} {args : List V} {x : V} {n : Nat} {s0 : SS} (hf : P.funcs[f]? = some fn) (hb : fn.body = some c) (hnt : fn.ntmps = n) (hn : args.length ≤ n) (h0 : SS.start args n = s0) (h : ∀ B : Base, B.Old 0 → SWpM P B c (retQ P fn x) s0) : Spec P f args x := by
 subst hnt; subst h0
 exact Spec.ofM hf hb hn h
theorem SWpM.preC {P : Program} {B : Base} {x y : Code} {Q : Exit → SS → Prop} {s : SS} (h : SC P B [x] (onlyQ (fun s => SWpM P B y Q s)) s) : SWpM P B (.seq x y) Q s := SWpM.pre (SC.of h) (fun _ h => h)
theorem onlyK {K : SS → Prop} {s : SS} (h : K s) : onlyQ K .normal s := h
theorem SWpM.weak {P : Program} {B : Base} {c : Code} {Q : Exit → SS → Prop} {s s' : SS} (h : Le B s s') (k : SWpM P B c Q s') : SWpM P B c Q s := fun S rho A a w hr hD => let ⟨S', rho', A', hr'⟩ := h S rho A a w hr; k S' rho' A' a w hr' hD
set_option maxHeartbeats 16000000 in
set_option maxRecDepth 8000 in
theorem reduce_s {h w K : Nat} {M Mf : List (List Int)} {lA : List OpL} (hK : K ≤ 50000000000) (hn : h ≤ 1000000) (hw : w ≤ 1000000) (hll : lA.length ≤ 1000000000)
  (hC : Cols h w 0 0 M lA Mf) (hS : ∀ i, MI h w K (actsO M (lA.take i))) (hO : ∀ o ∈ lA, OkOp h o) :
  Spec Try.prog 6 [mat w M] (.im (opsC lA) lA.length) := by
 have hM : MI h w K M := hS 0
 have hml := hM.len
 have c1 := imValid_s hM (by omega) hn hw
 have c3 := icopied_s hM (nx := 1) hn hw
 have c4 := perfs_s
 unfold mat mI at *
 rw [hml] at c1 c3 ⊢
 unfold perfs at c4
 refine Spec.runM Try.func6 rfl Try.ntmps6 (by simp) sF fun B hB => ?_
 refine SWpM.preC ?_
 (repeat (first | (with_reducible refine oA ?_) | ((with_reducible apply SC.region); (focus (simp (disch := omega) only [go_sem, ↓reduceIte] <;> rfl)); (fail_if_success with_reducible refine pickA ?_))))
 refine onlyK (SWpM.preC ?_)
 (repeat (first | (with_reducible refine oA ?_) | ((apply SO.call); (iterate 3 (focus (simp (disch := omega) only [go_sem, ↓reduceIte] <;> rfl))); (apply SCall.ofX); (focus (assumption)); (focus (simp (disch := omega) only [go_sem] <;> rfl))) | ((with_reducible first | apply SC.condB | apply SC.region | apply SO.run); (focus (simp (disch := omega) only [go_sem, ↓reduceIte, zn1, zn3, zn4] <;> rfl)); (first | refine pickF ?_ | fail_if_success with_reducible refine pickA ?_)) | (with_reducible apply SC.ops)))
 refine onlyK (SWpM.preC ?_)
 (repeat (first | ((with_reducible first | apply SC.region | apply SO.run); (focus (simp (disch := omega) only [go_sem, ↓reduceIte, zn1, reduceCtorEq] <;> rfl)); (fail_if_success with_reducible refine pickA ?_)) | (with_reducible apply SC.ops)))
 refine SO.inlQ sG Tab.go25 sG sG (SInlQ.newR c3 ?_ ?_ ?_)
 ·exact klc (by omega) kln
 ·exact fun x hp' nx' h => rowsI_new h
 rintro x hp' m ⟨o, ids0, hR, rfl, rfl⟩
 have ho := hR.o1
 have hI0 : Ids o ids0 ids0 h m := ⟨by rw [hR.len, hml], hR.nod, fun i h => h, fun i h => (hR.lt i h).2, hR.o1.2, hR.o2⟩
 rw [hml]
 (repeat (first | (with_reducible refine oA ?_) | ((with_reducible apply SO.run); (focus (simp (disch := omega) only [go_sem, ↓reduceIte, zn1, zn3] <;> rfl)); (fail_if_success with_reducible refine pickA ?_))))
 refine onlyK (SWpM.preC ?_)
 (repeat (first | (with_reducible refine oA ?_) | ((apply SO.call); (iterate 3 (focus (simp (disch := omega) only [go_sem] <;> rfl))); (apply SCall.ofX); (focus (assumption)); (focus (simp (disch := omega) only [go_sem] <;> rfl))) | ((with_reducible first | apply SC.region | apply SO.run); (focus (simp (disch := omega) only [go_sem, ↓reduceIte, zn1, zn3, zn4] <;> rfl)); (fail_if_success with_reducible refine pickA ?_)) | (with_reducible apply SC.ops)))
 refine onlyK (SWpM.preC ?_)
 (repeat (first | (with_reducible refine oA ?_) | ((with_reducible apply SC.region); (focus (simp (disch := omega) only [go_sem, ↓reduceIte] <;> rfl)); (fail_if_success with_reducible refine pickA ?_))))
 refine onlyK ?_
 refine SWpM.seq (K := fun s => ∃ ids' sl, Ids o ids0 ids' h m ∧ get sl 5 = .pt (m + 2) 0 ∧ s = ⟨sl, itH h w o m (m + 5) ids' Mf lA, m + 6, 31⟩) (SWpM.preC ?_) ?_
 ·(repeat (first | ((with_reducible first | apply SC.region | apply SO.run); (focus (simp (disch := omega) only [go_sem, ↓reduceIte, zn1, reduceCtorEq, if_neg] <;> rfl)); (fail_if_success with_reducible refine pickA ?_)) | (with_reducible apply SC.ops)))
  refine SO.inlQ sG Tab.go27 sG sG (SInlQ.part [(m + 1 + 1, _), (m + 1, _), (m, _), (0, _)] (fun i => inR o ids0 i ∨ m + 3 ≤ i) reduction_q (fun id k hk hp => ?_) (fun id k hk => .inl (inR_rows (fun i hi => hi) id k hk)) (fun x hp' nx' hq => ?_) ?_)
  ·have h1 : 1 ≤ id ∧ id < m ∨ m + 3 ≤ id := hp.imp (fun e => e.elim (fun e => by omega) (fun e => hR.lt id e)) (fun e => e)
   simp only [hget] at hk
   repeat' (first | (split at hk; omega) | (cases hk; done))
  ·obtain ⟨rfl, rfl, rfl⟩ := hq
   refine ⟨.fn (fun x hx => by cases hx) (fun x hx => ?_), ⟨fun y hy => ?_, fun y hy => ?_, fun y hy => ?_, OnlyH.rows (rI_clo M)⟩, fun id k hk => ?_⟩
   ·simp only [List.mem_cons, List.not_mem_nil, or_false] at hx
    rcases hx with rfl | rfl
    ·exact .pt (.inr (by omega))
    ·exact .pt (.inr (by omega))
   ·simp only [List.mem_cons, List.not_mem_nil, or_false] at hy
    subst hy; exact .sc _
   ·simp only [List.mem_cons, List.not_mem_nil, or_false] at hy
    subst hy; exact .sl (.inl (.inl rfl))
   ·obtain ⟨i, hi, rfl⟩ := List.mem_map.1 hy
    exact .sl (.inl (.inr hi))
   ·simp only [hget] at hk
    split at hk
    ·exact .inr (by omega)
    ·split at hk
     ·exact .inr (by omega)
     ·exact .inl (inR_rows (o := o) (ids0 := ids0) (fun i hi => hi) id k hk)
  rintro x hp' nx' ⟨rfl, rfl, rfl⟩
  (repeat ((with_reducible refine oA ?_)))
  refine onlyK (SWpM.block ?_)
  refine SWpM.weak (Le.less (hp' := itH h w o m (m + 5) ids0 M []) (rawLess0 fun id k hk => ?_) (znb _)) ?_
  ·exact (inR_rows (o := o) (ids0 := ids0) (fun i hi => hi) id k hk).elim (fun e => by omega) (fun e => hR.lt id e)
  refine SWpM.weak (Le.slotsE (sl' := [(3, .pt m 0), (4, .pt (m + 1) 0), (5, .pt (m + 2) 0), (17, .fn (.func 54) [] [.pt (m + 4) 0, .pt (m + 3) 0])]) ⟨rfl, rfl, rfl, rfl, trivial⟩) ?_
  refine SWpM.rangeFunc (hpS := itH h w o m (m + 5) ids0 M []) (C := ItC h w o m ids0 Mf lA) sG Tab.go54 Try.func54 rfl (by rw [Try.ntmps54]; simp) (fun id k h => h) (fun B1 l hB1 hL => ?_) ?_
  ·refine iter_s hB1 hL (show 18 < 31 by decide) hI0 hK hn hw hC hS hO ?_ _ _ Try.func54 rfl
   intro ids M1 L op hM1 hM2 hok hI hLl
   refine ⟨⟨(6, .pt (m + 7) 0) :: (18, .ag (opC op)) :: [(3, .pt m 0), (4, .pt (m + 1) 0), (5, .pt (m + 2) 0), (17, .fn (.func 54) [] [.pt (m + 4) 0, .pt (m + 3) 0])], (m + 7, ⟨45, opC op, false⟩) :: (m + 6, ⟨45, opC op, false⟩) :: itH h w o m (m + 5) ids M1 L, m + 8, 31⟩, fun Br hBr => ?_, fun Br hBr => ?_⟩
   ·refine SWpR.region (fun s h => h) rfl ?_
    unfold opC sv
    (repeat (first | (with_reducible refine oA ?_) | ((with_reducible apply SO.run); (focus (simp (disch := omega) only [go_sem, ↓reduceIte, zn1, zn3, zn4] <;> rfl)); (fail_if_success with_reducible refine pickA ?_))))
    exact rfl
   ·refine SWpR.block (SWpR.seq (K := fun s => ∃ ids' sl, Ids o ids0 ids' h m ∧ get sl 5 = .pt (m + 2) 0 ∧ get sl 6 = .pt (m + 7) 0 ∧ s = ⟨sl, (m + 7, ⟨45, opC op, false⟩) :: (m + 6, ⟨45, opC op, false⟩) :: (itP h w o m (lcF (m + 5) L) ++ (lbF (m + 5) L ++ itR w o ids' (actO M1 op))), m + 8, 31⟩) ?_ ?_)
    rotate_left
    ·rintro s ⟨ids', sl, hI', g5, g6, rfl⟩
     refine SWpR.region (fun s h => h) rfl ?_
     have hopc : ∃ C, C = opC op ∧ C.length = 5 := ⟨_, rfl, rfl⟩
     cases L with
     | nil =>
      simp only [itP, lcF, lbF, zl8, zl7]
      generalize hX : itR w o ids' (actO M1 op) = X
      unfold opC sv
      (repeat (first | (with_reducible refine oA ?_) | ((with_reducible apply SO.run); (focus (simp (disch := omega) only [go_sem, ↓reduceIte, zn1, zn2, zn3, zn4, zn5, if_neg, g5, g6] <;> rfl)); (fail_if_success with_reducible refine pickA ?_))))
      refine ⟨_, _, ⟨ids', hI', rfl, rfl⟩, Le.trans (Le.less (hp' := [(m + 6, ⟨45, opC op, false⟩)] ++ itH h w o m (m + 9) ids' (actO M1 op) ([] ++ [op])) (fun id k hk => ?_) (znb _)) (rdLe hBr hI')⟩
      rw [← hX]
      exact rawLess (L := []) hI' id k hk
     | cons x L =>
      simp only [itP, lcF, lbF, zl8, zl7]
      have hclo := opsC_clo (x :: L)
      have gl := opsC_len (x :: L)
      have ht : (opsC (x :: L)).take ((x :: L).length * 5) = opsC (x :: L) := zla (by omega)
      have hone := opsC_one (x :: L)
      rw [Nat.mul_comm] at gl
      have hdl : hdel (itR w o ids' (actO M1 op)) (m + 5) = itR w o ids' (actO M1 op) := hdel_no fun k hk => by have := itR_lt hI' _ k hk; omega
      generalize hX : itR w o ids' (actO M1 op) = X at *
      generalize hZ : opsC (x :: L) = Z at *
      generalize hzl : (x :: L).length = zl at *
      unfold opC sv
      (repeat (first | (with_reducible refine oA ?_) | ((with_reducible apply SO.run); (focus (simp (disch := omega) only [go_sem, ↓reduceIte, zn1, zn3, zn4, zn5, if_pos, if_neg, g5, g6, gl, ht, hdl] <;> rfl)); (fail_if_success with_reducible refine pickA ?_))))
      refine ⟨_, _, ⟨ids', hI', rfl, rfl⟩, Le.trans (Le.less (hp' := [(m + 6, ⟨45, opC op, false⟩)] ++ itH h w o m (m + 9) ids' (actO M1 op) (x :: L ++ [op])) (fun id k hk => ?_) (znb _)) (rdLe hBr hI')⟩
      rw [← hX]
      have elc : lcF (m + 9) (x :: L ++ [op]) = .sl (m + 9) 0 (zl + 1) 5 none := by
       rw [← hzl]; simp [lcF]
      have e5 : opsC (x :: L ++ [op]) = Z ++ opC op := by
       rw [opsC_app, hZ]; show Z ++ (opC op ++ []) = _; rw [List.append_nil]
      have r := rawLess (c8 := ⟨45, opC op, false⟩) (c7 := ⟨45, opC op, false⟩) (L := []) hI' id k hk
      rw [elc, e5] at r
      exact r
    refine SWpR.drawT 6 (by simp only [zl3, zl4]; rfl) (by simp only [zl9, zl2]; rfl) (fun s h => h) rfl Tab.mixed ?_ (by kernel_rfl) ?_
    ·exact klc (show m + 7 < m + 8 by omega) (klc (show m + 6 < m + 8 by omega) (fun id k hk => by have := itH_lt hI id k hk; show id < m + 8; omega))
    obtain ⟨nx, hnx⟩ : ∃ nx, nx = m := ⟨m, rfl⟩
    subst hnx
    have hkd : op.kd = 1 ∨ op.kd = 2 ∨ op.kd = 3 := by
     rcases hok.c with ⟨e, _⟩ | ⟨e, _⟩ | ⟨e, _⟩ <;> omega
    simp only [itH, itP, perfs, zl8, zl7]
    generalize hX : lbF (nx + 5) L ++ itR w o ids M1 = X
    generalize lcF (nx + 5) L = lc
    obtain ⟨kd, a, b, k⟩ := op
    simp only at hkd
    rcases hkd with rfl | rfl | rfl
    ·unfold opC sv
     (repeat (first | refine DO.nilF (fun i => i + 1 - nx) (by simp (disch := omega) only [go_sem, zn4, zld, zle, Option.map_none, znd, znf, zn4] <;> rfl) (by kernel_rfl) ?_ | (with_reducible refine oA ?_) | ((with_reducible apply DO.run); (focus (simp (disch := omega) only [go_sem, ↓reduceIte, zn1, zn3, zn4, reduceCtorEq, if_pos, if_neg] <;> rfl)); (fail_if_success with_reducible refine pickA ?_))))
     show SO _ _ _ _ _ _ _
     refine SO.inlQ sG (by rfl) sG sG (perfCall (op := ⟨1, a, b, k⟩) ([(nx + 7, _), (nx + 6, _), (nx + 4, _), (nx + 3, _), (nx + 2, _), (nx + 1, _), (nx, _)] ++ lbF (nx + 5) L) (by rw [← hX]; rfl) (kgc (by omega) (kgc (by omega) (kgp (by omega)))) hI (fun i hi => (hR.lt i hi).2) (by omega) hM1 (by omega) hok hn hw fun ids' hI' => ?_)
     refine SO.nil ?_
     exact ⟨ids', _, hI', rfl, rfl, rfl⟩
    ·unfold opC sv
     (repeat (first | refine DO.nilF (fun i => i + 1 - nx) (by simp (disch := omega) only [go_sem, zn4, zld, zle, Option.map_none, znd, znf, zn4] <;> rfl) (by kernel_rfl) ?_ | (with_reducible refine oA ?_) | ((with_reducible apply DO.run); (focus (simp (disch := omega) only [go_sem, ↓reduceIte, zn1, zn3, zn4, reduceCtorEq, if_pos, if_neg] <;> rfl)); (fail_if_success with_reducible refine pickA ?_))))
     show SO _ _ _ _ _ _ _
     refine SO.inlQ sG (by rfl) sG sG (perfCall (op := ⟨2, a, b, k⟩) ([(nx + 7, _), (nx + 6, _), (nx + 4, _), (nx + 3, _), (nx + 2, _), (nx + 1, _), (nx, _)] ++ lbF (nx + 5) L) (by rw [← hX]; rfl) (kgc (by omega) (kgc (by omega) (kgp (by omega)))) hI (fun i hi => (hR.lt i hi).2) (by omega) hM1 (by omega) hok hn hw fun ids' hI' => ?_)
     refine SO.nil ?_
     exact ⟨ids', _, hI', rfl, rfl, rfl⟩
    ·unfold opC sv
     (repeat (first | refine DO.nilF (fun i => i + 1 - nx) (by simp (disch := omega) only [go_sem, zn4, zld, zle, Option.map_none, znd, znf, zn4] <;> rfl) (by kernel_rfl) ?_ | (with_reducible refine oA ?_) | ((with_reducible apply DO.run); (focus (simp (disch := omega) only [go_sem, ↓reduceIte, zn1, zn3, zn4, reduceCtorEq, if_pos, if_neg] <;> rfl)); (fail_if_success with_reducible refine pickA ?_))))
     show SO _ _ _ _ _ _ _
     refine SO.inlQ sG (by rfl) sG sG (perfCall (op := ⟨3, a, b, k⟩) ([(nx + 7, _), (nx + 6, _), (nx + 4, _), (nx + 3, _), (nx + 2, _), (nx + 1, _), (nx, _)] ++ lbF (nx + 5) L) (by rw [← hX]; rfl) (kgc (by omega) (kgc (by omega) (kgp (by omega)))) hI (fun i hi => (hR.lt i hi).2) (by omega) hM1 (by omega) hok hn hw fun ids' hI' => ?_)
     refine SO.nil ?_
     exact ⟨ids', _, hI', rfl, rfl, rfl⟩
  ·rintro hp' nx' ⟨ids', hI', rfl, rfl⟩
   refine ⟨onlyH_all (fun i => (congrArg (fun q => hasId q i) (restH_self _)).trans rfl) _, ?_⟩
   refine ⟨ids', _, hI', ?_, congrArg (fun z => SS.mk _ (_ ++ z) _ _) (restH_self _) |>.trans (by rw [List.append_nil])⟩
   rfl
 ·rintro s ⟨ids', sl, hI', hg, rfl⟩ B2 hB2
  refine SC.of ?_
  cases lA with
  | nil =>
   simp only [itH, itP, lcF, lbF, zl8, zl7]
   generalize itR w o ids' Mf = X
   (repeat (first | (with_reducible refine oA ?_) | ((with_reducible apply SC.region); (focus (simp (disch := omega) only [go_sem, ↓reduceIte, zn1, zn2, if_neg, hg] <;> rfl)); (fail_if_success with_reducible refine pickA ?_))))
   exact retQ_ret Try.results6 sG sG rfl
  | cons a L =>
   have hclo := opsC_clo (a :: L)
   have gl := opsC_len (a :: L)
   have ht : (opsC (a :: L)).take ((a :: L).length * 5) = opsC (a :: L) := zla (by omega)
   simp only [itH, itP, lcF, lbF, zl8, zl7]
   generalize itR w o ids' Mf = X
   generalize opsC (a :: L) = Z at *
   generalize (a :: L).length = n at *
   (repeat (first | (with_reducible refine oA ?_) | ((with_reducible apply SC.region); (focus (simp (disch := omega) only [go_sem, ↓reduceIte, zn1, zn2, if_neg, hg] <;> rfl)); (fail_if_success with_reducible refine pickA ?_))))
   exact retQ_ret Try.results6 sG (by simp (disch := omega) only [go_sem, ↓reduceIte, zn1, if_pos, if_neg, hclo, ht, gl] <;> rfl) rfl
end Go.Proofs.Ytdcbmdmlhjemmaa
namespace Go.Proofs.Ytdcbmdmlhjemmaa
section
variable {h w K q t : Nat} {A : List (List Int)}
theorem w0_row1 (hA : MI h w K A) (hq : q < h) : (A ++ idL h ++ idL h).getD q [] = A.getD q [] := by
 have hAl := hA.len
 rw [List.getD_eq_getElem?_getD, zl6, List.getElem?_append_left (by omega), List.getD_eq_getElem?_getD]
theorem w0_row2 (hA : MI h w K A) (hq : q < h) : (A ++ idL h ++ idL h).getD (h + q) [] = (idL h).getD q [] := by
 have hAl := hA.len
 have hil : (idL h).length = h := mkM_len
 rw [List.getD_eq_getElem?_getD, zl6, List.getElem?_append_right (by omega), List.getElem?_append_left (by omega), hAl, znd, List.getD_eq_getElem?_getD]
theorem w0_row3 (hA : MI h w K A) : (A ++ idL h ++ idL h).getD (2 * h + q) [] = (idL h).getD q [] := by
 have hAl := hA.len
 have hil : (idL h).length = h := mkM_len
 rw [List.getD_eq_getElem?_getD, List.getElem?_append_right (by rw [zl1]; omega), zl1, hAl, hil, ← Nat.two_mul, znd, List.getD_eq_getElem?_getD]
theorem idL_row (hq : q < h) : ((idL h).getD q []).length = h := by
 have hI := mk_mi (h := h) (w := h) (K := 1) (f := fun r c => if r = c then (1 : Int) else 0) fun _ _ _ _ => fits01
 exact (hI.get hq).1
theorem idL_ent (hq : q < h) (ht : t < h) : ent2 (idL h) q t = if q = t then 1 else 0 := ent_mk hq ht
theorem idL_abs (hq : q < h) : (ent2 (idL h) q t).natAbs ≤ 1 := by
 by_cases ht : t < h
 ·rw [idL_ent hq ht]; split <;> decide
 ·have := idL_row (h := h) hq
  unfold ent2
  rw [List.getD_eq_getElem?_getD, List.getElem?_eq_none (by omega)]; decide
theorem w0_ws (hA : MI h w K A) : WS h w (A ++ idL h ++ idL h) := by
 have hAl := hA.len
 have hil : (idL h).length = h := mkM_len
 refine ⟨by rw [zl1, zl1]; omega, fun q hq => by rw [w0_row1 hA hq]; exact (hA.get hq).1, fun q h1 h2 => ?_⟩
 by_cases h3 : q < 2 * h
 ·obtain ⟨r, rfl⟩ : ∃ r, q = h + r := ⟨q - h, by omega⟩
  rw [w0_row2 hA (by omega)]; exact idL_row (by omega)
 ·obtain ⟨r, rfl⟩ : ∃ r, q = 2 * h + r := ⟨q - 2 * h, by omega⟩
  rw [w0_row3 hA]; exact idL_row (by omega)
theorem form_start (hA : MI h w K A) : ColI h w 0 0 ((K + 1) * fact (h + 1)) (fun _ => 0) A (A ++ idL h ++ idL h) := by
 have hAl := hA.len
 have e1 : ∀ q t, q < h → ent2 (A ++ idL h ++ idL h) q t = ent2 A q t := fun q t hq => by unfold ent2; rw [w0_row1 hA hq]
 have e2 : ∀ q t, q < h → ent2 (A ++ idL h ++ idL h) (h + q) t = ent2 (idL h) q t := fun q t hq => by unfold ent2; rw [w0_row2 hA hq]
 have e3 : ∀ q t, ent2 (A ++ idL h ++ idL h) (2 * h + q) t = ent2 (idL h) q t := fun q t => by unfold ent2; rw [w0_row3 hA]
 have hg := pow_ge1 K
 refine ⟨w0_ws hA, ⟨znc _, znc _, fun i hi => by omega, fun i hi => by omega, fun i hi => by omega, fun i k _ h2 => by omega, fun i k _ h2 => by omega, fun q _ _ t h3 => by omega⟩, ⟨fun q t hq ht => ?_, fun s t hs ht => ?_⟩, ⟨K, ⟨fun q t hq => ?_, fun q t hq => ?_, fun q t hq _ => ?_⟩, by rw [Nat.sub_zero]; exact znb _⟩⟩
 ·rw [e1 q t hq]
  have := dot_congr (n := h) (f := fun s => ent2 (A ++ idL h ++ idL h) (h + q) s) (f' := fun s => if q = s then 1 else 0) (g := fun s => ent2 A s t) (g' := fun s => ent2 A s t) fun s hs => ⟨by rw [e2 q s hq, idL_ent hq hs], rfl⟩
  rw [this, dot_unit, if_pos hq]
 ·have := dot_congr (n := h) (f := fun q => ent2 (A ++ idL h ++ idL h) (2 * h + s) q) (f' := fun q => if s = q then 1 else 0) (g := fun q => ent2 (A ++ idL h ++ idL h) q t) (g' := fun q => ent2 A q t) fun q hq => ⟨by rw [e3, idL_ent hs hq], e1 q t hq⟩
  rw [this, dot_unit, if_pos hs]
 ·rw [e1 q t hq]
  by_cases ht : t < w
  ·exact Nat.le_of_lt (hA.fit hq ht)
  ·have := (hA.get hq).1
   unfold ent2
   rw [List.getD_eq_getElem?_getD, List.getElem?_eq_none (by omega)]
   exact znc _
 ·rw [e2 q t hq]
  have := idL_abs (h := h) (t := t) hq
  omega
 ·rw [e3 q t]
  have := idL_abs (h := h) (t := t) hq
  omega
theorem Gb.fits {G L : Nat} {W : List (List Int)} {bM bV : Nat → Nat} (hW : WS h w W) (hG : Gb h W bM bV) (h1 : ∀ q, q < h → bM q ≤ 4294967296 ^ L) (h2 : ∀ q, q < h → bV q ≤ 4294967296 ^ L) (hL : L < G) : WI h w G W := by
 have hp : 4294967296 ^ L < 4294967296 ^ G := Nat.pow_lt_pow_right (by omega) hL
 exact hG.wi hW (fun q hq => Nat.lt_of_le_of_lt (h1 q hq) hp) (fun q hq => Nat.lt_of_le_of_lt (h2 q hq) hp)
theorem fact_le {G n : Nat} (hK : (K + 1) * fact n ≤ G) : K < G := by
 have := Nat.le_mul_of_pos_right (K + 1) (fact_pos n)
 omega
end
section
variable {h w c top G : Nat} {p : Nat → Nat} {A W W1 : List (List Int)}
theorem ColI.wi (hI : ColI h w c top G p A W) : WI h w G W := by
 obtain ⟨K, hG, hK⟩ := hI.bd
 exact hG.fits hI.ws (fun _ _ => znb _) (fun _ _ => znb _) (fact_le hK)
theorem ColI.piv_lt {K : Nat} (hK : (K + 1) * fact (h - top + 1) ≤ G) (ht : top < h) : 1 + 2 * K + (K + 1) * (h - (top + 1)) < G := by
 have e1 : 1 + 2 * K + (K + 1) * (h - (top + 1)) + 1 = (K + 1) * (h - top + 1) := by
  obtain ⟨n, hn⟩ : ∃ n, h = top + 1 + n := ⟨h - (top + 1), by omega⟩
  subst hn
  rw [show top + 1 + n - (top + 1) = n by omega, show top + 1 + n - top + 1 = n + 2 by omega, Nat.mul_add (K + 1) n 2]; omega
 have e2 : fact (h - top + 1) = (h - top + 1) * fact (h - top) := rfl
 rw [e2, ← Nat.mul_assoc, ← e1] at hK
 have := Nat.le_mul_of_pos_right (1 + 2 * K + (K + 1) * (h - (top + 1)) + 1) (fact_pos (h - top))
 omega
theorem bd_mid {K i : Nat} (hi : i ≤ h) : 4294967296 ^ K * (12 * 4294967296 ^ K) ^ (i - (top + 1)) ≤ 4294967296 ^ (1 + 2 * K + (K + 1) * (h - (top + 1))) := by
 refine Nat.le_trans (bd_rows K (i - (top + 1))) (Nat.pow_le_pow_right (by omega) ?_)
 have := Nat.mul_le_mul_left (K + 1) (show i - (top + 1) ≤ h - (top + 1) by omega)
 omega
theorem RowI.wi {K i : Nat} (hR : RowI h w c top (4294967296 ^ K) (4294967296 ^ K) (4294967296 ^ K) i W) (hi : i ≤ h) (ht : top < h) (hK : (K + 1) * fact (h - top + 1) ≤ G) : WI h w G W := by
 have h1 : 4294967296 ^ K ≤ 4294967296 ^ (1 + 2 * K + (K + 1) * (h - (top + 1))) := Nat.pow_le_pow_right (by omega) (by omega)
 have hb : ∀ q, q < h → gB top (4294967296 ^ K) (4294967296 ^ K * (12 * 4294967296 ^ K) ^ (i - (top + 1))) q ≤ 4294967296 ^ (1 + 2 * K + (K + 1) * (h - (top + 1))) := fun q hq => by
  unfold gB
  split
  ·exact h1
  ·exact bd_mid hi
 exact hR.bd.fits hR.ws hb hb (ColI.piv_lt hK ht)
theorem PairI.wi {K i : Nat} (hP : PairI h w c top i (4294967296 ^ K) (4294967296 ^ K) (4294967296 ^ K * (12 * 4294967296 ^ K) ^ (i - (top + 1))) (4294967296 ^ K * (12 * 4294967296 ^ K) ^ (i + 1 - (top + 1))) W) (hi : i < h) (ht : top < h) (hK : (K + 1) * fact (h - top + 1) ≤ G) : WI h w G W := by
 obtain ⟨ws, ⟨a, b, hG, ha, hb, _⟩, _⟩ := hP
 have h1 : 4294967296 ^ K ≤ 4294967296 ^ (1 + 2 * K + (K + 1) * (h - (top + 1))) := Nat.pow_le_pow_right (by omega) (by omega)
 have h2 := bd_mid (K := K) (top := top) (h := h) (i := i) (by omega)
 have h3 := bd_mid (K := K) (top := top) (h := h) (i := i + 1) (by omega)
 have hb : ∀ x y, x ≤ 4294967296 ^ K * (12 * 4294967296 ^ K) ^ (i + 1 - (top + 1)) → y ≤ 4294967296 ^ K * (12 * 4294967296 ^ K) ^ (i + 1 - (top + 1)) → ∀ q, q < h → bp top i x y (gB top (4294967296 ^ K) (4294967296 ^ K * (12 * 4294967296 ^ K) ^ (i - (top + 1)))) q ≤ 4294967296 ^ (1 + 2 * K + (K + 1) * (h - (top + 1))) := fun x y hx hy q hq => by
  unfold bp gB
  split
  ·exact Nat.le_trans hx h3
  ·split
   ·exact Nat.le_trans hy h3
   ·split
    ·exact h1
    ·exact h2
 exact hG.fits ws (hb a b ha (by assumption)) (hb b a (by assumption) ha) (ColI.piv_lt hK ht)
theorem RedI.wi {K i : Nat} {Z : List (List Int)} (hR : RedI h w c top (4294967296 ^ K) (4294967296 ^ K * (12 * 4294967296 ^ K) ^ (h - (top + 1))) i Z W) (hi : i ≤ top) (ht : top < h) (hh : h ≤ 1000000) (hK : (K + 1) * fact (h - top + 1) ≤ G) : WI h w G W :=
 (hR.bd1 rfl ht hh hi).fits hR.ws (fun _ _ => znb _) (fun _ _ => znb _) (ColI.piv_lt hK ht)
end
end Go.Proofs.Ytdcbmdmlhjemmaa
