/- The law on regions that draw their order: any order comes to what the order of the text comes to. -/
import Derived.Test.YtbpcgeanpkokkaaDoorSr
namespace Go.Proofs.YtbpcgeanpkokkaaDoor
open Go.RowKit

section
variable {P : Program} {l : List Oper} {st : Nat → SS} {en : Nat → En}

theorem frzAll_live {g : V → Option (V × List Nat)} {p : Nat → Prop} (hg : ∀ x y ids, g x = some (y, ids) → ∀ id ∈ ids, p id) : ∀ {cs ys : List V} {ids : List Nat}, frzAll g cs = some (ys, ids) → ∀ id ∈ ids, p id
  | [], ys, ids, h => by simp only [frzAll, Option.some.injEq, Prod.mk.injEq] at h; obtain ⟨_, rfl⟩ := h; simp
  | c :: r, ys, ids, h => by
    simp only [frzAll] at h
    cases hc : g c with
    | none => simp [hc] at h
    | some q =>
      cases hr : frzAll g r with
      | none => simp [hc, hr] at h
      | some u =>
        obtain ⟨y, i1⟩ := q
        obtain ⟨zs, i2⟩ := u
        simp only [hc, hr, Option.bind_some, Option.map_some, Option.some.injEq, Prod.mk.injEq] at h
        obtain ⟨_, rfl⟩ := h
        intro id hid
        rcases List.mem_append.1 hid with h1 | h1
        · exact hg c y i1 hc id h1
        · exact frzAll_live hg hr id h1
theorem frzL_live {g : V → Option (V × List Nat)} {p : Nat → Prop} (hg : ∀ x y ids, g x = some (y, ids) → ∀ id ∈ ids, p id) {cs ys : List V} {ids : List Nat} (h : frzL g cs = some (ys, ids)) : ∀ id ∈ ids, p id := by
  unfold frzL at h
  split at h
  · simp only [Option.some.injEq, Prod.mk.injEq] at h; obtain ⟨_, rfl⟩ := h; simp
  · exact frzAll_live hg h
theorem frz_live {hp : List (Nat × Blk)} : ∀ (n : Nat) (x y : V) (ids : List Nat), frz n hp x = some (y, ids) → ∀ id ∈ ids, ∃ k, hget hp id = some k
  | 0, x, y, ids, h => by simp [frz] at h
  | n + 1, x, y, ids, h => by
    have ih := frz_live (hp := hp) n
    cases x with
    | ag cs =>
      rw [frz_ag] at h
      obtain ⟨⟨ys, i1⟩, h1, h2⟩ := Option.map_eq h
      cases h2
      exact frzL_live (p := fun id => ∃ k, hget hp id = some k) ih h1
    | tu cs =>
      rw [frz_tu] at h
      obtain ⟨⟨ys, i1⟩, h1, h2⟩ := Option.map_eq h
      cases h2
      exact frzL_live (p := fun id => ∃ k, hget hp id = some k) ih h1
    | sl id off len z c =>
      rw [frz_sl] at h
      cases hs : srcG off len z (hget hp id) with
      | none => rw [hs] at h; cases h
      | some q =>
        rw [hs] at h
        simp only [fzQ] at h
        obtain ⟨⟨ys, i1⟩, h1, h2⟩ := Option.map_eq h
        cases h2
        intro j hj
        rcases List.mem_cons.1 hj with rfl | hj
        · cases hk : hget hp j with
          | none => rw [hk] at hs; cases hs
          | some k => exact ⟨k, rfl⟩
        · exact frzL_live (p := fun id => ∃ k, hget hp id = some k) ih h1 j hj
    | sc v =>
      simp only [frz] at h
      split at h <;> first | (cases h; intro id hid; cases hid; done) | (rename_i e; cases e; done) | contradiction
    | im cs len => simp only [frz] at h; cases h; simp
    | pi cs => simp only [frz] at h; cases h; simp
    | _ => simp only [frz] at h; cases h

theorem addL_false {L : Nat → Bool} {i j : Nat} (h : addL L i j = false) : j ≠ i ∧ L j = false := by
  unfold addL at h
  split at h
  · cases h
  · exact ⟨‹_›, h⟩
theorem DInv.slots {B : Base} {L : Nat → Bool} {S : Nat → Prop} {rho : Nat → Nat} {A : Nat → Prop} {a : Act} {w : World} (h : DRun P l st en) (hI : DInv B l st en L S rho A a w) {i : Nat} {o : Oper} (ho : l[i]? = some o) (hi : L i = false)
    (hd : ∀ m, depB l.toArray i m = true → L m = true) (t : Nat) : R S rho w A (get (restr (st i).sl (o.looksAt l.toArray)) t) (a.eval (.tmp t)) := by
  rw [get_restr]
  split
  · rename_i ht; exact hI.slot h ho hi hd ht
  · exact .junk _

/-- behind an operation that changes no own block -/
theorem DInv.same {B : Base} {L : Nat → Bool} {i : Nat} (h : DRun P l st en) (hi : L i = false) (ht : (en i).tg = none) (id : Nat) : hget (hpD l.length st en (addL L i)) id = hget (hpD l.length st en L) id := by
  rw [hget_hpD h, hget_hpD h, next_same hi (by rw [ht]; simp)]

theorem DInv.stepOp {B : Base} {L : Nat → Bool} {S : Nat → Prop} {rho : Nat → Nat} {A : Nat → Prop} {a : Act} {w : World} (h : DRun P l st en) (hI : DInv B l st en L S rho A a w) {i : Nat} {o : Oper} (ho : l[i]? = some o) (hi : L i = false)
    (hd : ∀ m, depB l.toArray i m = true → L m = true) {f : Eff} (hdst : dstOk o.dst (st i).nt = true) (hok : okOp o.op = true) (he : exOp P (st i).sl (st i).hp (st i).nx o.op = some ((en i).x, f)) (hs' : st (i + 1) = (st i).put o.dst (en i).x f)
    (htg : (en i).tg = tgE f) (htc : (en i).tc = rdOf (st i).sl o.op ++ crE f (st i).nx) (hna : noApp f = true) :
    ∃ v w' S' rho' A', ((execOp a.eval o).run P w = .ok (.value v) w' ∨ ((execOp a.eval o).run P w = .ok .skip w' ∧ v = undef)) ∧ DInv B l st en (addL L i) S' rho' A' (a.put o.dst v) w' := by
  have hil : i < l.length := (List.getElem?_eq_some_iff.1 ho).1
  have hsl := hI.slots h ho hi hd
  have hnx : (st (i + 1)).nx = f.next (st i).nx := by rw [hs']; rfl
  -- the number of a new block
  obtain ⟨nx', hn1, hn2, hn3⟩ : ∃ nx', (nx' = (st i).nx ∨ isNew f = false) ∧ ¬ A nx' ∧ (∀ k, f = .new k → nx' = (st i).nx) := by
    cases f with
    | new k => exact ⟨(st i).nx, .inl rfl, hI.fresh' h hil hi (by rw [hnx]; simp [Eff.next]), fun _ _ => rfl⟩
    | none => exact ⟨(st l.length).nx, .inr rfl, hI.fresh h, fun _ e => by cases e⟩
    | set id k => exact ⟨(st l.length).nx, .inr rfl, hI.fresh h, fun _ e => by cases e⟩
    | app id k => cases hna
  have hex : exOp P (restr (st i).sl (o.looksAt l.toArray)) (hpD l.length st en L) nx' o.op = some ((en i).x, f) := by
    refine op_local hok he (fun y hy => ev_restr _ hy) (fun id hid => hI.agr0 h hil hi hd (by rw [htc]; exact List.mem_append.2 (.inl hid))) ?_ hn1
    intro t b y hop id hid
    rw [hop] at he hid
    have he2 : (exStore P (st i).hp t (evS (st i).sl b) (evS (st i).sl y)).map (V.junk, ·) = some ((en i).x, f) := he
    obtain ⟨f', hf', e⟩ := Option.map_eq he2
    simp only [Prod.mk.injEq] at e
    obtain ⟨_, rfl⟩ := e
    have hset : ∃ i0 k0, f' = .set i0 k0 := by
      unfold exStore at hf'
      split at hf'
      · rename_i i0 off _
        cases hk : hget (st i).hp i0 with
        | none => simp [hk] at hf'
        | some k =>
          cases hv : vcells (evS (st i).sl y) with
          | none => simp [hk, hv] at hf'
          | some xs =>
            simp only [hk, hv, Option.bind_some] at hf'
            split at hf'
            · cases hf'; exact ⟨_, _, rfl⟩
            · cases hf'
      · cases hf'
    obtain ⟨i0, k0, rfl⟩ := hset
    obtain ⟨k, h1, h2, h3, h4⟩ := exStore_tgt hf'
    have hid' : id ∈ idOf (evS (st i).sl b) := hid
    rw [h4] at hid'
    simp at hid'
    subst hid'
    have hq := (hI.blk h hil hi hd (id := id) (.inr htg)).2.2 htg
    intro k hk
    rw [hget_hpD h, hq]
    exact ⟨k, hk, rfl, rfl, fun h => h⟩
  obtain ⟨v, w', rho', A', h1, h2, h3, h4, h5, h6⟩ := op_sound (P := P) hI.mem hsl hn2 hex
  refine ⟨v, w', S, rho', A', h1, hI.next h ho hd hdst (fun b hb => ⟨hb, h5 b hb⟩) h3 ?_ h6 ?_⟩
  · refine h2.turn fun id k' hk' _ => ?_
    cases f with
    | none =>
      rw [DInv.same (B := B) h hi htg] at hk'
      exact ⟨k', hk', rfl, rfl, fun h => h⟩
    | new k0 =>
      have hnx' := hn3 k0 rfl
      subst hnx'
      rw [DInv.same (B := B) h hi htg] at hk'
      show ∃ k, hget (((st i).nx, k0) :: hpD l.length st en L) id = some k ∧ _
      simp only [hget]
      by_cases e : id = (st i).nx
      · subst e
        rw [if_pos rfl]
        rw [hget_hpD h] at hk'
        obtain ⟨b1, b2, _⟩ := hI.blk h hil hi hd (id := (st i).nx) (.inl (by rw [htc]; simp [crE]))
        have hne : (en i).tg ≠ some (st i).nx := by rw [htg]; simp [tgE]
        have hgt : i < nextC l.length en L (st i).nx := by
          rcases Nat.lt_or_eq_of_le b1 with hlt | heq
          · exact hlt
          · have a1 := (nextC_at (n := l.length) (en := en) (L := L) (id := (st i).nx) (by omega)).1
            rw [← heq] at a1
            exact absurd a1 hne
        have hk0 : hget (st (i + 1)).hp (st i).nx = some k0 := by rw [hs']; show hget (((st i).nx, k0) :: (st i).hp) _ = _; simp [hget]
        obtain ⟨k2, c1, c2, c3, c4⟩ := h.chain hk0 _ hgt (nextC_le _ _ _) (fun m hm1 hm2 => b2 m (by omega) hm2)
        rw [hk'] at c1; cases c1
        exact ⟨k0, rfl, c2, c3, c4⟩
      · rw [if_neg e]; exact ⟨k', hk', rfl, rfl, fun h => h⟩
    | set i0 k0 =>
      obtain ⟨t, b, y, hop, hst⟩ := set_store hok he
      obtain ⟨k, g1, g2, g3, g4⟩ := exStore_tgt hst
      have htg' : (en i).tg = some i0 := htg
      show ∃ k, hget (hset (hpD l.length st en L) i0 k0) id = some k ∧ _
      rw [hget_hset]
      by_cases e : id = i0
      · subst e
        rw [if_pos rfl]
        obtain ⟨b1, b2, b3⟩ := hI.blk h hil hi hd (id := id) (.inr htg')
        have hk : hget (hpD l.length st en L) id = some k := by rw [hget_hpD h, b3 htg']; exact g1
        rw [hk]
        have hk0 : hget (st (i + 1)).hp id = some k0 := by
          rw [hs']
          show hget (hset (st i).hp id k0) id = _
          rw [hget_hset, if_pos rfl, g1]; rfl
        rw [hget_hpD h] at hk'
        have hcmp : ∀ j, j ≠ i → j < l.length → (en j).tg = some id → (L j = true ↔ j < i) := fun j hji hjl hj => cmp_done h hI.closed hi hd (h.tgt i j id (fun e => hji e.symm) hil hjl hj (.inr htg'))
        have hq1 : i + 1 ≤ nextC l.length en (addL L i) id := by
          rcases Nat.lt_or_ge i (nextC l.length en (addL L i) id) with hlt | hge
          · exact hlt
          · obtain ⟨a1, a2⟩ := nextC_at (n := l.length) (en := en) (L := addL L i) (id := id) (by omega)
            obtain ⟨hne, a3⟩ := addL_false a2
            have := (hcmp _ hne (by omega) a1).2 (by omega)
            rw [this] at a3; cases a3
        obtain ⟨k2, c1, c2, c3, c4⟩ := h.chain hk0 _ hq1 (nextC_le _ _ _) (fun m hm1 hm2 hmt => by
          have hL := nextC_lt hm2 hmt
          have hle := nextC_le (en := en) l.length (addL L i) id
          unfold addL at hL
          rw [if_neg (by omega)] at hL
          have := (hcmp m (by omega) (by omega) hmt).1 hL
          omega)
        rw [hk'] at c1; cases c1
        exact ⟨k0, rfl, c2, c3, c4⟩
      · rw [if_neg e]
        rw [hget_hpD h, next_same hi (by rw [htg']; simp; exact fun e' => e e'.symm), ← hget_hpD h] at hk'
        exact ⟨k', hk', rfl, rfl, fun h => h⟩
    | app i0 k0 => cases hna
  · intro id hid
    rcases h4 id hid with h7 | ⟨h7, k, h8⟩
    · exact .inl h7
    · rcases h8 with h8 | ⟨i0, h8⟩
      · rw [hn3 k h8] at h7
        subst h8
        exact .inr ⟨h7.symm, by rw [hnx]; simp [Eff.next]⟩
      · subst h8; cases hna

theorem region_step {B : Base} (h : DRun P l st en) {Q : Exit → Act → World → Prop} {L : Nat → Bool} {S : Nat → Prop} {rho : Nat → Nat} {A : Nat → Prop} {a : Act} {w : World} (hI : DInv B l st en L S rho A a w) {i : Nat} {o : Oper} (ho : l[i]? = some o) (hi : L i = false)
    (hd : ∀ m, depB l.toArray i m = true → L m = true) :
    wpOp P l.toArray Q i (fun a' w' => ∃ S rho A, DInv B l st en (addL L i) S rho A a' w') a w := by
  have hsl := hI.slots h ho hi hd
  have hil : i < l.length := (List.getElem?_eq_some_iff.1 ho).1
  have ho' : l.toArray[i]? = some o := by rw [List.getElem?_toArray]; exact ho
  have hguard : ∀ b, guardV l.toArray (st i).sl o.guard = some b → Region.wanted o (yielded l.toArray a.tmps) = b := fun b hb => by
    refine guard_sound (s := ⟨restr (st i).sl (o.looksAt l.toArray), [], 0, 0⟩) (S := S) (rho := rho) (w := w) (A := A) hsl ?_
    rw [← hb]; exact guard_restr (st i).sl
  unfold wpOp
  rw [ho']
  obtain ⟨hdst, ⟨f, hg, hok, he, hs', htg, htc, hna⟩ | ⟨hg, hx, htg, htc, hs'⟩ | ⟨f, args, ts, ys, hop, hg, hgo, hfz, hsp, hs', htg⟩⟩ := h.step i o ho
  · simp only [hguard _ hg, if_true]
    refine .inl ?_
    obtain ⟨v, w', S', rho', A', h1, h2⟩ := hI.stepOp h ho hi hd hdst hok he hs' htg htc hna
    unfold Oper.wp
    rcases h1 with h1 | ⟨h1, rfl⟩ <;> rw [h1] <;> exact ⟨S', rho', A', h2⟩
  · simp only [hguard _ hg]
    refine ⟨S, rho, A, hI.next h ho hd hdst (fun b hb => ⟨hb, rfl⟩) (fun _ h => ⟨h, rfl, fun _ h => h⟩) ?_ (by rw [hx]; exact skip_rep) (fun _ h => .inl h)⟩
    refine hI.mem.turn fun id k' hk' _ => ?_
    rw [DInv.same (B := B) h hi htg] at hk'
    exact ⟨k', hk', rfl, rfl, fun h => h⟩
  · simp only [hguard _ hg, if_true]
    refine .inl ?_
    have hev : args.toList.map (evS (restr (st i).sl (o.looksAt l.toArray))) = args.toList.map (evS (st i).sl) := List.map_congr_left fun y hy => ev_restr _ (by rw [hop]; simp only [Op.operands, Call.operands]; simp; exact .inr (by simpa using hy))
    have hfz' : frzAll (frz 8 (hpD l.length st en L)) (args.toList.map (evS (restr (st i).sl (o.looksAt l.toArray)))) = some (ys, (en i).tc) := by
      rw [hev]
      exact frzAll_local (p := fun id => agr0 (hget (hpD l.length st en L) id) (hget (st i).hp id)) (fun x y ids hxy hp => frz_local 8 x y ids hxy hp) hfz (fun id hid => hI.agr0 h hil hi hd hid)
    have hall := All.ev hI.mem.tab hsl args.toList
    obtain ⟨h1, h2⟩ := frzAll_sound (frz_sound hI.mem 8) hfz' hall
    have hmf := hI.mem.freeze (en i).tc h2
    have hrun : (execOp a.eval o).run P w = .ok (.enter f (args.map a.eval)) w := by
      simp only [execOp, hop, resolve, Act.eval, Deferred.ofValue, Sem.run_bind, Sem.run_pure, Result.andThen_ok, invoke]
      have := callFunc_go hgo (args.map a.eval) w
      simpa using this
    unfold Oper.wp
    rw [hrun]
    refine (hsp (addS S rho A (en i).tc) w (args.map a.eval) hmf.slt hmf.tab ⟨by have := h1.1; simpa using this, fun i y u hy hu => (h1.2 i y u hy (by simpa using hu)).rho⟩).mono ?_
    rintro e w' ⟨v, rfl, g, hx⟩
    have hA : ∀ id, A id → A id ∧ rho id = rho id ∧ ∀ n, szAt w (rho id) n → szAt w' (rho id) n := fun id h => ⟨h, rfl, fun _ => g.szAt⟩
    by_cases hfl : flat (en i).x = true
    · refine ⟨fun b => S b ∨ (w.heap.size ≤ b ∧ b < w'.heap.size), rho, A, hI.next h ho hd hdst (fun b hb => ⟨.inl hb, g.block b (hI.mem.slt b hb)⟩) hA ?_ (flat_sound hfl hx.rho.open) (fun _ h => .inl h)⟩
      refine (hI.mem.came g).turn fun id k' hk' _ => ?_
      rw [DInv.same (B := B) h hi htg] at hk'
      exact ⟨k', hk', rfl, rfl, fun h => h⟩
    · refine ⟨fun b => addS S rho A (en i).tc b ∨ (w.heap.size ≤ b ∧ b < w'.heap.size), rho, A, hI.next h ho hd hdst (fun b hb => ⟨.inl (.inl hb), g.block b (hI.mem.slt b hb)⟩) hA ?_ hx.rho.open (fun _ h => .inl h)⟩
      refine (hmf.came g).turn fun id k' hk' _ => ?_
      rw [DInv.same (B := B) h hi htg] at hk'
      rw [hget_fz, hk']
      refine ⟨_, rfl, by split <;> rfl, by split <;> rfl, fun hk0 => ?_⟩
      by_cases hc : (en i).tc.contains id = true
      · exfalso
        have hmem : id ∈ (en i).tc := by simpa using hc
        obtain ⟨b1, b2, _⟩ := hI.blk h hil hi hd (id := id) (.inl hmem)
        have hgt : i < nextC l.length en L id := by
          rcases Nat.lt_or_eq_of_le b1 with hlt | heq
          · exact hlt
          · have := (nextC_at (n := l.length) (en := en) (L := L) (id := id) (by omega)).1
            rw [← heq, htg] at this; cases this
        obtain ⟨k1, hk1⟩ := h2 id hmem
        -- the block is there in the run, and does not change behind
        rw [hget_hpD h] at hk'
        have hst : (st (i + 1)).hp = fzHp (st i).hp (en i).tc := by rw [hs']; simp [SS.called, hfl]
        obtain ⟨k2, hk2⟩ := frzAll_live (p := fun id => ∃ k, hget (st i).hp id = some k) (frz_live 8) hfz id hmem
        have hk3 : hget (st (i + 1)).hp id = some ⟨k2.ty, k2.cs, true⟩ := by rw [hst, hget_fz, hk2]; simp [hc]; exact fun h => absurd hmem h
        obtain ⟨k4, c1, c2, c3, c4⟩ := h.chain hk3 _ hgt (nextC_le _ _ _) (fun m hm1 hm2 => b2 m (by omega) hm2)
        rw [hk'] at c1; cases c1
        have := c4 hk0
        cases this
      · show (if (en i).tc.contains id = true then (⟨k'.ty, k'.cs, true⟩ : Blk) else k').fz = false; rw [if_neg hc]; exact hk0

theorem region_draw {B : Base} {id : Nat} {Q : Exit → SS → Prop} {s : SS} (h : DRun P l st en) (hs : st 0 = s) (hm : P.follows .mixedOrders = true) (hQ : Q .normal (st l.length)) : SWp P B (.region id l.toArray true) Q s := by
  subst hs
  intro S rho A a w hr
  have dep : ∀ (L : Nat → Bool) (i : Nat) (o : Oper), l.toArray[i]? = some o → (∀ e ∈ o.after.toList, Region.binds .any e = true → L e.on = true) → ∀ m, depB l.toArray i m = true → L m = true := by
    intro L i o ho hd m hm
    unfold depB at hm
    rw [ho] at hm
    simp only [Array.any_eq_true'] at hm
    obtain ⟨e, he, hb⟩ := hm
    rw [Bool.and_eq_true, beq_iff_eq] at hb
    rw [← hb.2]; exact hd e (by simpa using he) hb.1
  refine wp_region_any hm (wpAny_act (fun L a w => ∃ S rho A, DInv B l st en L S rho A a w) ?_ ?_ ?_ _ _ a _ (by simp) ?_ ?_)
  · intro i o ho e he hb
    rw [List.getElem?_toArray] at ho
    exact h.ord i o ho e he hb
  · rintro L a w i o ho hi hd ⟨S, rho, A, hI⟩
    have := dep L i o ho hd
    rw [List.getElem?_toArray] at ho
    exact region_step h hI ho hi this
  · rintro L a w hL ⟨S, rho, A, hI⟩
    have hall : ∀ i, i < l.length → L i = true := fun i hi => hL i (by simpa using hi)
    refine ⟨S, rho, A, st l.length, hQ, ?_, hI.mem.turn fun id k' hk' _ => ?_, fun id hid => ?_, hI.size.trans (h.nt l.length (Nat.le_refl _)).symm, hI.defs⟩
    · intro t
      by_cases hex : ∃ (j : Nat) (o : Oper), l[j]? = some o ∧ o.dst = some t
      · obtain ⟨j, o, hj, hd⟩ := hex
        have hjl := (List.getElem?_eq_some_iff.1 hj).1
        rw [h.slotx hj hd l.length hjl (Nat.le_refl _)]
        exact hI.done t j o hj hd (hall j hjl)
      · have hno : ∀ (j : Nat) (o : Oper), l[j]? = some o → o.dst ≠ some t := fun j o hj hd => hex ⟨j, o, hj, hd⟩
        rw [h.slot0 l.length (Nat.le_refl _) fun j o _ hj => hno j o hj]
        exact hI.open' t fun j o hj hd => absurd hd (hno j o hj)
    · have hq : nextC l.length en L id = l.length := by
        have hle := nextC_le (en := en) l.length L id
        rcases Nat.lt_or_eq_of_le hle with hlt | heq
        · obtain ⟨_, a2⟩ := nextC_at hlt
          rw [hall _ hlt] at a2; cases a2
        · exact heq
      refine ⟨k', ?_, rfl, rfl, fun h => h⟩
      rw [hget_hpD h, hq]; exact hk'
    · rcases hI.num id hid with h1 | ⟨j, hj, _, rfl, h2⟩
      · exact Nat.lt_of_lt_of_le h1 (h.nx 0 _ (Nat.zero_le _) (Nat.le_refl _))
      · exact Nat.lt_of_lt_of_le h2 (h.nx (j + 1) _ (by omega) (Nat.le_refl _))
  · unfold unl
    refine Nat.le_trans (List.length_filter_le _ _) (by simp)
  · have hf : ∀ j, (Array.replicate l.toArray.size false).getD j false = false := by
      intro j
      rw [Array.getD_eq_getD_getElem?, Array.getElem?_replicate]
      split <;> rfl
    have g := Grow.drawn w (w.drawn + 1)
    exact ⟨S, rho, A, {
      mem := (hr.mem.grow g).turn fun id k' hk' hA => by
        rw [hget_hpD h] at hk'
        obtain ⟨k, hk⟩ := h.born (hr.alt id hA) _ (nextC_le _ _ _) k' hk'
        obtain ⟨k2, c1, c2, c3, c4⟩ := h.chain hk _ (Nat.zero_le _) (nextC_le _ _ _) (fun m _ hm hmt => by
          have := nextC_lt (L := fun j => (Array.replicate l.toArray.size false).getD j false) hm hmt
          have e := hf m
          rw [show (Array.replicate l.toArray.size false).getD m false = true from this] at e; cases e)
        rw [hk'] at c1; cases c1
        exact ⟨k, hk, c2, c3, c4⟩
      done := fun t j o _ _ hL => by simp only [hf] at hL; cases hL
      open' := fun t _ => (hr.slots t).mono (fun b hb => ⟨hb, rfl⟩) (fun id h => ⟨h, rfl, fun _ => g.szAt⟩)
      num := fun id hA => .inl (hr.alt id hA)
      size := hr.nt
      defs := hr.defs
      closed := fun i j hi => by simp only [hf] at hi; cases hi }⟩
end
end Go.Proofs.YtbpcgeanpkokkaaDoor
