/- Walks: first, Next, Before. -/
import Derived.Test.YtcbfamgdkmfcgaaMf
namespace Go.Proofs.Ytcbfamgdkmfcgaa
open Go.RowKit Go.Shelf
attribute [local go_sem] Oper.semAt_some

theorem up_stops (F : Fence) (n : Nat) (hf : F.fn 50) (hro : F.round = none) (hn : 1 ≤ n) (Bn n₀ m M : Nat) (hM : Hid (2147483647 - m = M)) (hm : m ≤ 18446744073709551615) (w : World) (hBn : Bn < w.heap.size)
    (hc : w.cell? ⟨Bn, 0, none⟩ = some (.int .u64 m)) :
    SeqStopsK F n Try.prog 50 #[.pointer (some ⟨Bn, 0, none⟩)] (fun x : U64 => #[Value.int .u64 x.1]) (Below n₀) (fun ys => u64s ys = ups m M) (fun pre => u64s pre <+: ups m M) M w := fun l J Jx W hW _ _ hY h0 =>
  up1_in F n hf hro hn l Bn n₀ m M hM hm J Jx hY W ((hW.cell (p := ⟨Bn, 0, none⟩) hBn).trans hc) h0

theorem dn_stops (F : Fence) (n : Nat) (hf : F.fn 51) (hro : F.round = none) (hn : 1 ≤ n) (Bn n₀ m M : Nat) (hM : Hid (min m 2147483648 = M)) (hm : m ≤ 18446744073709551615) (w : World) (hBn : Bn < w.heap.size)
    (hc : w.cell? ⟨Bn, 0, none⟩ = some (.int .u64 m)) :
    SeqStopsK F n Try.prog 51 #[.pointer (some ⟨Bn, 0, none⟩)] (fun x : U64 => #[Value.int .u64 x.1]) (Below n₀) (fun ys => u64s ys = downs M M) (fun pre => u64s pre <+: downs M M) M w := fun l J Jx W hW _ _ hY h0 =>
  dn1_in F n hf hro hn l Bn n₀ m M hM hm J Jx hY W ((hW.cell (p := ⟨Bn, 0, none⟩) hBn).trans hc) h0

/-- the first of the list that the program calls prime -/
def firstB (l : List Nat) : Nat := (l.find? primeB).getD 0

theorem firstB_none {l : List Nat} (h : ∀ x ∈ l, primeB x = false) : firstB l = 0 := by
  have : l.find? primeB = none := by rw [List.find?_eq_none]; intro x hx; simp [h x hx]
  simp [firstB, this]
theorem firstB_some {l pre : List Nat} {x : Nat} (hp : pre ++ [x] <+: l) (h : ∀ y ∈ pre, primeB y = false) (hx : primeB x = true) : firstB l = x := by
  obtain ⟨t, rfl⟩ := hp
  have : pre.find? primeB = none := by rw [List.find?_eq_none]; intro y hy; simp [h y hy]
  simp [firstB, List.find?_append, this, hx]

set_option maxRecDepth 100000 in
set_option maxHeartbeats 2000000 in
theorem first_any (gf B m M : Nat) (L : List Nat) (w : World)
    (he : ∀ args w, (callFunc gf args).run Try.prog w = .ok (.enter gf args) w)
    (hseq : ∀ n₀ w', Ext w w' → SeqStopsK Fence.wide 2 Try.prog gf #[.pointer (some ⟨B, 0, none⟩)] (fun x : U64 => #[Value.int .u64 x.1]) (Below n₀) (fun ys => u64s ys = L) (fun pre => u64s pre <+: L) M w') :
    Calls Try.prog 36 #[.func (.func gf) #[] #[.pointer (some ⟨B, 0, none⟩)]] w (Ret (fun _ v => v = .int .u64 (firstB L)) w) := by
  refine (callsIn_wide (n := 3)).1 ?_
  refine callsIn_of_wp_marks Try.func36 rfl trivial ?_ rfl
  simp only [Try.ntmps36, List.size_toArray, List.length_cons, List.length_nil, Nat.reduceAdd, Nat.reduceSub, Array.replicate_succ, Array.replicate_zero, List.push_toArray, List.append_toArray, List.nil_append, List.cons_append]
  gi_wp2
  have hb : OBlk _ _ _ _ := OBlk.new w [.int .u64 0] 22
  have hB0 : Ext w (w.alloc (.cells #[.int .u64 0] 22)) := (Ext.refl w).alloc _
  refine wpIn_rangeFunc_ownF rfl (by omega) (gf := gf) (lb := #[.pointer (some ⟨B, 0, none⟩)]) rfl trivial he
    (hseq w.heap.size _ hB0) belowK_t (belowK_b (by simp)) (Below.refl _ _) (fun _ => rfl)
    (fun pre W => ((∀ y ∈ u64s pre, primeB y = false) ∧ W.cell? ⟨w.heap.size, 0, none⟩ = some (.int .u64 0) ∧ W.frozen? ⟨w.heap.size, 0, none⟩ = false) ∧ Below w.heap.size w W)
    (fun c pre W => (c = .ret ∧ (∃ pr x, u64s pre = pr ++ [x] ∧ (∀ y ∈ pr, primeB y = false) ∧ primeB x = true ∧ W.cell? ⟨w.heap.size, 0, none⟩ = some (.int .u64 x))) ∧ Below w.heap.size w W)
    (OwnFrom.and (Own.from (fun s A B row hs hg hr => ⟨hs.1, cell_kept hs.2.1 hg hr, (frozen_kept hs.2.1 hg hr).trans hs.2.2⟩) _) (ownFrom_below (Nat.le_refl _) (by simp)))
    (fun c => OwnFrom.and (Own.from (fun s A B row hs hg hr => ⟨hs.1, by obtain ⟨pr, x, h1, h2, h3, h4⟩ := hs.2; exact ⟨pr, x, h1, h2, h3, cell_kept h4 hg hr⟩⟩) _) (ownFrom_below (Nat.le_refl _) (by simp)))
    ⟨⟨by simp [u64s], (hb.cell 0).trans rfl, hb.frozen 0⟩, hB0⟩
    (fun x => { tmps := #[.func (.func gf) #[] #[.pointer (some ⟨B, 0, none⟩)], undef, .pointer (some ⟨w.heap.size, 0, none⟩), .int .u64 x.1, .func (.func gf) #[] #[.pointer (some ⟨B, 0, none⟩)], .int .u64 x.1, undef, undef, undef], defers := [] }) ?assign ?body ?done ?stop
  case assign =>
    intro l x W K hK
    gi_wp2
    exact hK
  case body =>
    rintro l pre x W ⟨⟨hp, hcr, hfr⟩, hB⟩ _
    have hx64 := x.2
    by_cases hpx : primeB x.1 = true
    · gi_wp2_with (refine ⟨trivial, ?_⟩; gi_at_call 9; refine (CallsIn.inRound l (callsIn_wide.2 (Prime_any x.1 _ hx64))).mono ?_; rintro e w' ⟨rfl, rfl⟩; rw [hpx])
      exact ⟨KeepsOthers.setCell _ _ _, ⟨rfl, u64s pre, x.1, u64s_snoc _ _, hp, hpx, World.cell?_setCell_same' _ _ _ (by rw [hcr]; rfl)⟩, hB.setCell (p := ⟨w.heap.size, 0, none⟩) (by simp) _⟩
    · rw [Bool.not_eq_true] at hpx
      gi_wp2_with (refine ⟨trivial, ?_⟩; gi_at_call 9; refine (CallsIn.inRound l (callsIn_wide.2 (Prime_any x.1 _ hx64))).mono ?_; rintro e w' ⟨rfl, rfl⟩; rw [hpx])
      exact ⟨KeepsOthers.refl _, Below.refl _ _, ⟨fun y hy => by
        rw [u64s_snoc, List.mem_append] at hy
        exact hy.elim (hp y) (fun e => by simp at e; rw [e]; exact hpx), hcr, hfr⟩, hB⟩
  case done =>
    rintro D ys W hD hys ⟨⟨hne, hcr, hfr⟩, hB⟩ hK
    rw [hys] at hne
    gi_wp2
    have hK' := (KeepsOthers.setCell W ⟨w.heap.size, 0, none⟩ (.int .u64 0)).same D _ hK rfl
    refine ⟨by simp, .inl ⟨_, _, rfl, run_takeDeferred hK', ?_⟩⟩
    have hc5 := cell_kept (World.cell?_setCell_same' W ⟨w.heap.size, 0, none⟩ (.int .u64 0) (by rw [hcr]; rfl)) (grownBy_putObj' _ D (.deferred none)) (fun r e => by cases e; exact ⟨_, hK', rfl⟩)
    refine ⟨_, ?_, .int .u64 0, rfl, by rw [firstB_none hne]; rfl, (hB.setCell (p := ⟨w.heap.size, 0, none⟩) (by simp) _).trans (belowK_b (w := w) (Nat.le_refl _) _ D _ _ (by simp at hD; omega) hK' rfl rfl)⟩
    simp [results, Try.f36, go_sem, hc5]
  case stop =>
    rintro D c pre W hD hpre ⟨⟨rfl, pr, x, hpe, hne, hx, hcr⟩, hB⟩ hK
    rw [hpe] at hpre
    gi_wp2
    refine ⟨by simp, .inl ⟨_, _, rfl, run_takeDeferred hK, ?_⟩⟩
    have hc5 := cell_kept hcr (grownBy_putObj' _ D (.deferred none)) (fun r e => by cases e; exact ⟨_, hK, rfl⟩)
    refine ⟨_, ?_, .int .u64 x, rfl, by rw [firstB_some hpre hne hx], hB.trans (belowK_b (w := w) (Nat.le_refl _) W D _ _ (by simp at hD; omega) hK rfl rfl)⟩
    simp [results, Try.f36, go_sem, hc5]
end Go.Proofs.Ytcbfamgdkmfcgaa
