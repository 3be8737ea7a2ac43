/- Texts joined: Fh Fi Fp Fq Fr. -/
import Derived.Test.YtphilljhfdlfdaaZc
import Derived.Test.YtphilljhfdlfdaaZe
import Derived.Test.YtphilljhfdlfdaaZf
import Derived.Test.YtphilljhfdlfdaaZh
import Derived.Test.YtphilljhfdlfdaaZi
import Derived.Test.YtphilljhfdlfdaaZj
import Derived.Test.YtphilljhfdlfdaaZk
set_option linter.all false
open Nat renaming reduceEqDiff → zn1, reduceLT → zn2, reduceLeDiff → zn3, reduceAdd → zn4, reduceMul → zn5, reduceSub → zn6, reduceBEq → zn7, mul_one → zn8, zero_add → zn9, one_mul → zna, le_refl → znb, zero_le → znc, add_sub_cancel_left → znd, sub_eq_zero_of_le → zne, add_assoc → znf
open Int renaming reduceToNat → zi1, reducePow → zi2
open List renaming length_append → zl1, drop_zero → zl2, take_succ_cons → zl3, take_zero → zl4, getElem?_drop → zl5, append_assoc → zl6, nil_append → zl7, cons_append → zl8, drop_succ_cons → zl9, take_of_length_le → zla, getElem?_eq_getElem → zlb, getElem?_eq_some_iff → zlc, map_cons → zld, map_nil → zle, all_eq_true → zlf
namespace Go.Proofs.Ytphilljhfdlfdaa
def sg2 (b : List Int) (p q : Nat) : List Int := (b.drop p).take (q - p)
theorem sg2_app {b : List Int} {p q r : Nat} (h1 : p ≤ q) (h2 : q ≤ r) : sg2 b p r = sg2 b p q ++ sg2 b q r := by
  unfold sg2
  have e : b.drop q = (b.drop p).drop (q - p) := by rw [List.drop_drop]; congr 1; omega
  rw [e, show r - p = (q - p) + (r - q) by omega, List.take_add]
theorem sg2_nil (b : List Int) (p : Nat) : sg2 b p p = [] := by unfold sg2; rw [Nat.sub_self]; rfl
theorem sg2_one {b : List Int} {p : Nat} (h : p < b.length) : sg2 b p (p + 1) = [b.getD p 0] := by
  unfold sg2
  rw [show p + 1 - p = 1 by omega, List.drop_eq_getElem_cons h, zl3, zl4, List.getD_eq_getElem?_getD, zlb h, Option.getD_some]
def Unq {α : Type} (b : List Int) (n : Nat) (one : Rd → α × Rd) (E : α → List Int) (P : α → Prop) : Prop :=
  ∀ s : Rd, s.e = 0 → s.at_ ≤ n → (one s).2.e = 0 → s.at_ ≤ (one s).2.at_ ∧ (one s).2.at_ ≤ n ∧ sg2 b s.at_ (one s).2.at_ = E (one s).1 ∧ P (one s).1
theorem Unq.seq {α β γ : Type} {b : List Int} {n : Nat} {mk : α → β → γ} {f : Rd → α × Rd} {g : Rd → β × Rd} {E : α → List Int} {F : β → List Int} {P : α → Prop} {Q : β → Prop} {G : γ → List Int} {R : γ → Prop} (h1 : Unq b n f E P) (h2 : Unq b n g F Q) (hg : Stk g) (hG : ∀ x y, P x → Q y → G (mk x y) = E x ++ F y ∧ R (mk x y)) : Unq b n (seqR mk f g) G R := by
  intro s hs ha he
  have he1 : (f s).2.e = 0 := by
    by_cases h : (f s).2.e = 0
    · exact h
    · exact absurd ((hg _ h).symm.trans he) h
  obtain ⟨a1, a2, a3, a4⟩ := h1 s hs ha he1
  obtain ⟨b1, b2, b3, b4⟩ := h2 _ he1 a2 he
  obtain ⟨g1, g2⟩ := hG _ _ a4 b4
  refine ⟨Nat.le_trans a1 b1, b2, ?_, g2⟩
  show sg2 b s.at_ (g (f s).2).2.at_ = G (mk (f s).1 (g (f s).2).1)
  rw [sg2_app a1 b1, a3, b3, g1]
theorem next_unq {b : List Int} {n : Nat} (hn : n ≤ b.length) {s : Rd} (hs : s.e = 0) (he : (s.next b n).2.e = 0) : s.at_ < n ∧ s.next b n = (b.getD s.at_ 0, ⟨s.at_ + 1, 0⟩) ∧ sg2 b s.at_ (s.at_ + 1) = [b.getD s.at_ 0] := by
  unfold Rd.next at *
  rw [if_pos hs] at he ⊢
  by_cases h : s.at_ < n
  · rw [if_pos h]; exact ⟨h, rfl, sg2_one (by omega)⟩
  · rw [if_neg h] at he; cases he
theorem numR_unq {b : List Int} {n : Nat} (hu : U8s b) (hn : n ≤ b.length) : ∀ (f i acc : Nat) (s : Rd), i + f = 10 → 0 < f → s.e = 0 → (Rd.numR b n f i acc s).2.e = 0 →
    ∃ u, (Rd.numR b n f i acc s).1 = acc + u * 128 ^ i ∧ s.at_ ≤ (Rd.numR b n f i acc s).2.at_ ∧ (Rd.numR b n f i acc s).2.at_ ≤ n ∧ sg2 b s.at_ (Rd.numR b n f i acc s).2.at_ = num u ∧ (0 < i → 0 < u)
  | 0, _, _, _, _, h0, _, _ => by omega
  | f + 1, i, acc, s, hi, _, hs, he => by
    obtain ⟨x, s2, hx⟩ : ∃ x s2, s.next b n = (x, s2) := ⟨_, _, rfl⟩
    have h8 := next_u8 n s hu hn
    rw [numR_step _ _ _ hx] at he ⊢
    have hres : (if badN i x then s2.fail 4 else s2).e = 0 := by
      by_cases hx128 : x < 128
      · rw [if_pos hx128] at he; exact he
      · rw [if_neg hx128] at he
        by_cases h : (if badN i x then s2.fail 4 else s2).e = 0
        · exact h
        · rw [if_neg h] at he; exact absurd he h
    have hbad : ¬ badN i x := fun hb => by rw [if_pos hb] at hres; exact fail_ne _ hres
    have hs2 : s2.e = 0 := by rw [if_neg hbad] at hres; exact hres
    obtain ⟨h1, h2, h3⟩ := next_unq hn hs (by rw [hx]; exact hs2)
    rw [hx] at h2 h8
    injection h2 with h4 h5
    simp only at h8
    rw [if_neg hbad] at he ⊢
    rw [← h4] at h3
    by_cases hlt : x < 128
    · rw [if_pos hlt] at he ⊢
      have hxm : x.toNat % 128 = x.toNat := by omega
      refine ⟨x.toNat, by rw [hxm], ?_, ?_, ?_, fun hi0 => ?_⟩
      · show s.at_ ≤ s2.at_; rw [h5]; exact Nat.le_succ _
      · show s2.at_ ≤ n; rw [h5]; exact h1
      · show sg2 b s.at_ s2.at_ = _
        rw [h5, h3, num_lt (by omega), Int.toNat_of_nonneg h8.1]
      · have : x ≠ 0 := fun h => hbad (.inr ⟨hi0, h⟩)
        omega
    · rw [if_neg hlt, if_pos hs2] at he ⊢
      have hi9 : i ≠ 9 := fun h => hbad (.inl ⟨h, by omega⟩)
      obtain ⟨u, e1, e2, e3, e4, e5⟩ := numR_unq hu hn f (i + 1) _ s2 (by omega) (by omega) hs2 he
      have hu0 := e5 (by omega)
      have hq : s.at_ + 1 = s2.at_ := by rw [h5]
      refine ⟨x.toNat % 128 + u * 128, ?_, by omega, e3, ?_, fun _ => by omega⟩
      · rw [e1, Nat.pow_succ, Nat.add_mul, znf]
        congr 1
        rw [Nat.mul_comm (128 ^ i) 128, ← Nat.mul_assoc]
      · rw [sg2_app (show s.at_ ≤ s2.at_ by omega) e2, e4, ← hq, h3, num_ge (n := x.toNat % 128 + u * 128) (by omega)]
        have g1 : (x.toNat % 128 + u * 128) % 128 = x.toNat % 128 := by omega
        have g2 : (x.toNat % 128 + u * 128) / 128 = u := by omega
        rw [g1, g2]
        have g3 : ((x.toNat % 128 + 128 : Nat) : Int) = x := by omega
        rw [g3]; rfl
theorem number_unq {b : List Int} {n : Nat} (hu : U8s b) (hn : n ≤ b.length) : Unq b n (Rd.number b n) num (fun u => u < 18446744073709551616) := by
  intro s hs ha he
  have hl := number_lt b n s
  unfold Rd.number outR at *
  rw [if_pos hs] at he hl ⊢
  by_cases h : (Rd.numR b n 10 0 0 s).2.e = 0
  · rw [if_pos h] at hl ⊢
    obtain ⟨u, e1, e2, e3, e4, _⟩ := numR_unq hu hn 10 0 0 s rfl (by omega) hs h
    have e5 : (Rd.numR b n 10 0 0 s).1 = u := by rw [e1]; simp
    rw [e5] at hl ⊢
    exact ⟨e2, e3, e4, hl⟩
  · rw [if_neg h] at he
    exact absurd he h
theorem zig_zag {u : Nat} (h : u < 18446744073709551616) : zig (zag u) = u ∧ I64 (zag u) := by
  unfold zig zag I64
  by_cases h1 : u % 2 = 1
  · rw [if_pos h1, if_pos (by omega)]; omega
  · rw [if_neg h1, if_neg (by omega)]; omega
theorem whole_unq {b : List Int} {n : Nat} (hu : U8s b) (hn : n ≤ b.length) : Unq b n (Rd.whole b n) whl I64 := by
  intro s hs ha he
  obtain ⟨a1, a2, a3, a4⟩ := number_unq hu hn s hs ha he
  have hz := zig_zag a4
  refine ⟨a1, a2, ?_, hz.2⟩
  show sg2 b s.at_ (s.number b n).2.at_ = num (zig (zag (s.number b n).1))
  rw [hz.1]; exact a3
theorem size_unq {b : List Int} {n lim : Nat} (hu : U8s b) (hn : n ≤ b.length) : Unq b n (Rd.size b n lim) num (fun u => u ≤ lim) := by
  intro s hs ha he
  unfold Rd.size at *
  by_cases h : (s.number b n).1 > lim
  · rw [if_pos h] at he
    exfalso
    have : ((s.number b n).2.fail 2).e ≠ 0 := fail_ne2 _ (by omega)
    exact this he
  · rw [if_neg h] at he ⊢
    obtain ⟨a1, a2, a3, _⟩ := number_unq hu hn s hs ha he
    exact ⟨a1, a2, a3, by omega⟩
theorem flag_unq {b : List Int} {n : Nat} (hu : U8s b) (hn : n ≤ b.length) : Unq b n (Rd.flag b n) flg (fun _ => True) := by
  intro s hs ha he
  have h8 := next_u8 n s hu hn
  unfold Rd.flag at *
  by_cases h : (s.next b n).1 > 1
  · rw [if_pos h] at he
    exact absurd he (fail_ne _)
  · rw [if_neg h] at he ⊢
    obtain ⟨h1, h2, h3⟩ := next_unq hn hs he
    rw [h2] at h h8 ⊢
    simp only at h h8 ⊢
    refine ⟨Nat.le_succ _, h1, ?_, trivial⟩
    rw [h3]
    by_cases hx : b.getD s.at_ 0 = 1
    · rw [decide_eq_true hx, hx]; rfl
    · rw [decide_eq_false hx, show b.getD s.at_ 0 = 0 by omega]; rfl
theorem le4_b4 {b : List Int} (hu : U8s b) {p : Nat} (h : p + 4 ≤ b.length) : sg2 b p (p + 4) = b4 (le4 b p) := by
  have u0 := u8_getD hu p
  have u1 := u8_getD hu (p + 1)
  have u2 := u8_getD hu (p + 2)
  have u3 := u8_getD hu (p + 3)
  rw [sg2_app (q := p + 1) (by omega) (by omega), sg2_app (p := p + 1) (q := p + 2) (by omega) (by omega), sg2_app (p := p + 2) (q := p + 3) (by omega) (by omega), sg2_one (by omega), sg2_one (by omega), sg2_one (by omega), sg2_one (by omega)]
  unfold b4 le4
  generalize b.getD p 0 = x0 at *
  generalize b.getD (p + 1) 0 = x1 at *
  generalize b.getD (p + 2) 0 = x2 at *
  generalize b.getD (p + 3) 0 = x3 at *
  show [x0, x1, x2, x3] = _
  congr 1
  · omega
  · congr 1
    · omega
    · congr 1
      · omega
      · congr 1; omega
theorem lims_lbs {b : List Int} (hu : U8s b) : ∀ (m p : Nat), p + 4 * m ≤ b.length → sg2 b p (p + 4 * m) = lbs (lims b p m)
  | 0, p, _ => by rw [Nat.mul_zero, Nat.add_zero, sg2_nil]; rfl
  | m + 1, p, h => by
    rw [lims_succ]
    have e : lbs (lims b p m ++ [le4 b (p + 4 * m)]) = lbs (lims b p m) ++ b4 (le4 b (p + 4 * m)) := by unfold lbs; simp [List.flatMap_append]
    rw [e, ← lims_lbs hu m p (by omega), ← le4_b4 hu (by omega), ← sg2_app (by omega) (by omega)]
    congr 1
theorem vlim_parts {neg : Bool} {l : List Nat} (hl : limbs l) (h : vLim neg l = true) : limbsOf (sgn neg (val l)).natAbs = l ∧ decide (sgn neg (val l) < 0) = neg := by
  refine ⟨by rw [sgn_natAbs]; exact limbsOf_eq hl (vlim_canon h), ?_⟩
  have h1 := vlim_iv hl h
  unfold iv at h1
  injection h1 with h2
  injection h2 with h3 _
  injection h3 with h4
  injection h4
theorem int_unq {b : List Int} {n : Nat} (hu : U8s b) (hn : n ≤ b.length) : Unq b n (Rd.int b n) int_ (fun z => (limbsOf z.natAbs).length ≤ 4000) := by
  intro s hs ha he
  unfold Rd.int at *
  have hN := number_unq hu hn s hs ha
  generalize s.number b n = r at *
  obtain ⟨u, s1⟩ := r
  simp only at he hN ⊢
  by_cases h4 : u / 2 > 4000
  · exfalso
    have f2 := fail_ne2 s1 (e := 2) (by omega)
    simp only [if_pos h4, f2, false_and, if_false] at he
  · simp only [if_neg h4] at he ⊢
    by_cases hc : s1.e = 0 ∧ (n - s1.at_) / 4 < u / 2
    · exfalso
      have f5 := fail_ne2 s1 (e := 5) (by omega)
      simp only [if_pos hc, f5, if_false] at he
    · simp only [if_neg hc] at he ⊢
      by_cases h0 : s1.e = 0
      · rw [if_pos h0] at he ⊢
        obtain ⟨a1, a2, a3, a4⟩ := hN h0
        have hm : 4 * (u / 2) ≤ n - s1.at_ := by
          have : ¬ (n - s1.at_) / 4 < u / 2 := fun h => hc ⟨h0, h⟩
          omega
        by_cases hv : vLim (u % 2 == 1) (lims b s1.at_ (u / 2)) = true
        · rw [if_pos hv] at he ⊢
          obtain ⟨p1, p2⟩ := vlim_parts (lims_limbs hu s1.at_ (u / 2)) hv
          simp only
          refine ⟨by omega, by omega, ?_, ?_⟩
          · rw [sg2_app a1 (Nat.le_add_right _ _), a3, lims_lbs hu _ _ (by omega)]
            unfold int_ hdI
            rw [p1, lims_len]
            congr 2
            by_cases h1 : u % 2 = 1
            · rw [show (u % 2 == 1) = true by simp [h1]] at p2
              rw [show (u % 2 == 1) = true by simp [h1], if_pos (of_decide_eq_true p2)]
              omega
            · rw [show (u % 2 == 1) = false by simp; omega] at p2
              rw [show (u % 2 == 1) = false by simp; omega, if_neg (of_decide_eq_false p2)]
              omega
          · rw [p1, lims_len]; omega
        · rw [if_neg hv] at he; cases he
      · rw [if_neg h0] at he; exact absurd he h0
theorem listR_unq {α : Type} {b : List Int} {n : Nat} {one : Rd → α × Rd} {E : α → List Int} {P : α → Prop} (h1 : Unq b n one E P) : ∀ (f : Nat) (s : Rd) (acc : List α), s.e = 0 → s.at_ ≤ n → (listR one f s acc).2.e = 0 →
    ∃ l, (listR one f s acc).1 = acc ++ l ∧ l.length = f ∧ s.at_ ≤ (listR one f s acc).2.at_ ∧ (listR one f s acc).2.at_ ≤ n ∧ sg2 b s.at_ (listR one f s acc).2.at_ = l.flatMap E ∧ ∀ x ∈ l, P x
  | 0, s, acc, _, ha, _ => ⟨[], by simp [listR], rfl, znb _, ha, by show sg2 b s.at_ s.at_ = _; rw [sg2_nil]; rfl, fun _ h => by cases h⟩
  | f + 1, s, acc, hs, ha, he => by
    unfold listR at he ⊢
    rw [if_pos hs] at he ⊢
    have he1 : (one s).2.e = 0 := by
      by_cases h : (one s).2.e = 0
      · exact h
      · rw [listR_stk _ _ _ _ h] at he
        exact absurd he h
    obtain ⟨a1, a2, a3, a4⟩ := h1 s hs ha he1
    obtain ⟨l, e1, e2, e3, e4, e5, e6⟩ := listR_unq h1 f (one s).2 (acc ++ [(one s).1]) he1 a2 he
    refine ⟨(one s).1 :: l, by rw [e1]; simp, by simp [e2], by omega, e4, ?_, fun x hx => ?_⟩
    · rw [sg2_app a1 e3, a3, e5]; rfl
    · rcases List.mem_cons.1 hx with rfl | hx
      · exact a4
      · exact e6 x hx
theorem list_unq {α : Type} {b : List Int} {n : Nat} (hu : U8s b) (hn : n ≤ b.length) {one : Rd → α × Rd} {E : α → List Int} {P : α → Prop} (h1 : Unq b n one E P) : Unq b n (Rd.list b n one) (lst E) (fun l => l.length ≤ 4000 ∧ ∀ x ∈ l, P x) := by
  intro s hs ha he
  unfold Rd.list at *
  have he1 : (s.size b n 4000).2.e = 0 := by
    by_cases h : (s.size b n 4000).2.e = 0
    · exact h
    · rw [listR_stk _ _ _ _ h] at he
      exact absurd he h
  obtain ⟨a1, a2, a3, a4⟩ := size_unq hu hn s hs ha he1
  obtain ⟨l, e1, e2, e3, e4, e5, e6⟩ := listR_unq h1 _ _ [] he1 a2 he
  rw [zl7] at e1
  rw [e1]
  refine ⟨Nat.le_trans a1 e3, e4, ?_, by omega, e6⟩
  rw [sg2_app a1 e3, a3, e5, ← e2]; rfl
def FcP (x : Int × Int) : Prop := I64 x.1 ∧ (limbsOf x.2.natAbs).length ≤ 4000
section
variable {b : List Int} {n : Nat} (hu : U8s b) (hn : n ≤ b.length)
include hu hn
theorem face_unq : Unq b n (Rd.face b n) fc_ FcP := (whole_unq hu hn).seq (mk := Prod.mk) (int_unq hu hn) (int_stk b n) (fun x y h1 h2 => ⟨rfl, h1, h2⟩)
theorem cell_unq : Unq b n (Rd.cell b n) cel_ CelFit :=
  (whole_unq hu hn).seq (mk := fun a (y : Int × List (Int × Int)) => (⟨a, y.1, y.2⟩ : Cel)) ((whole_unq hu hn).seq (mk := Prod.mk) (G := fun y => whl y.1 ++ lst fc_ y.2) (R := fun y => I64 y.1 ∧ y.2.length ≤ 4000 ∧ ∀ x ∈ y.2, FcP x) (list_unq hu hn (face_unq hu hn)) (list_stk b n _) (fun x y h1 h2 => ⟨rfl, h1, h2⟩)) ((whole_stk b n).seq (mk := Prod.mk) (list_stk b n _)) (fun x y h1 h2 => ⟨by unfold cel_; rw [zl6], h1, h2.1, h2.2.1, h2.2.2⟩)
theorem chg_unq : Unq b n (Rd.chg b n) chg_ ChgFit := by
  have s := whole_stk b n
  have k2 := (s.seq (mk := Prod.mk) s)
  have k3 := (s.seq (mk := Prod.mk) k2)
  have k4 := (s.seq (mk := Prod.mk) k3)
  have W := whole_unq (b := b) (n := n) hu hn
  have r2 := W.seq (mk := Prod.mk) (G := fun y => whl y.1 ++ whl y.2) (R := fun y => I64 y.1 ∧ I64 y.2) W s (fun x y h1 h2 => ⟨rfl, h1, h2⟩)
  have r3 := W.seq (mk := Prod.mk) (G := fun y => whl y.1 ++ (whl y.2.1 ++ whl y.2.2)) (R := fun y => I64 y.1 ∧ I64 y.2.1 ∧ I64 y.2.2) r2 k2 (fun x y h1 h2 => ⟨rfl, h1, h2⟩)
  have r4 := W.seq (mk := Prod.mk) (G := fun y => whl y.1 ++ (whl y.2.1 ++ (whl y.2.2.1 ++ whl y.2.2.2))) (R := fun y => I64 y.1 ∧ I64 y.2.1 ∧ I64 y.2.2.1 ∧ I64 y.2.2.2) r3 k3 (fun x y h1 h2 => ⟨rfl, h1, h2⟩)
  have r5 := (cell_unq hu hn).seq (mk := Prod.mk) (G := fun y => cel_ y.1 ++ (whl y.2.1 ++ (whl y.2.2.1 ++ (whl y.2.2.2.1 ++ whl y.2.2.2.2)))) (R := fun y => CelFit y.1 ∧ I64 y.2.1 ∧ I64 y.2.2.1 ∧ I64 y.2.2.2.1 ∧ I64 y.2.2.2.2) r4 k4 (fun x y h1 h2 => ⟨rfl, h1, h2⟩)
  rw [chg_seq]
  exact W.seq (mk := mkCh) r5 ((cell_stk b n).seq (mk := Prod.mk) k4) (fun x y h1 h2 => ⟨by unfold chg_ mkCh; simp only [zl6], h1, h2.1, h2.2.1, h2.2.2.1, h2.2.2.2.1, h2.2.2.2.2⟩)
end
end Go.Proofs.Ytphilljhfdlfdaa
namespace Go.Proofs.Ytphilljhfdlfdaa
section
variable {b : List Int} {n : Nat} (hu : U8s b) (hn : n ≤ b.length)
include hu hn
theorem begin_unq : Unq b n (Rd.begin b n) (fun y => whl y.1 ++ lst cel_ y.2) (fun y => I64 y.1 ∧ y.2.length ≤ 4000 ∧ ∀ x ∈ y.2, CelFit x) :=
  (whole_unq hu hn).seq (mk := Prod.mk) (list_unq hu hn (cell_unq hu hn)) (list_stk b n _) (fun x y h1 h2 => ⟨rfl, h1, h2⟩)
theorem step_true {s : Rd} {log : List Chg} (hs : s.e = 0) (ha : s.at_ ≤ n) (ht : (s.step b n log).1 = true) :
    ∃ x, (s.step b n log).2.2 = log ++ [x] ∧ (s.step b n log).2.1.e = 0 ∧ s.at_ ≤ (s.step b n log).2.1.at_ ∧ (s.step b n log).2.1.at_ ≤ n ∧ sg2 b s.at_ (s.step b n log).2.1.at_ = logE x ∧ ChgFit x := by
  have hF := flag_unq hu hn s hs ha
  have hC := chg_unq hu hn (s.flag b n).2
  unfold Rd.step at *
  generalize (s.flag b n).2.chg b n = rc at *
  generalize s.flag b n = rf at *
  obtain ⟨f, s1⟩ := rf
  obtain ⟨x, s2⟩ := rc
  simp only at ht hF hC ⊢
  by_cases h1 : f = true ∧ s1.e = 0
  · rw [if_pos h1] at ht ⊢
    by_cases h2 : log.length = 4000
    · rw [if_pos h2] at ht; cases ht
    · rw [if_neg h2] at ht ⊢
      by_cases h3 : s2.e = 0
      · rw [if_pos h3]
        obtain ⟨a1, a2, a3, _⟩ := hF h1.2
        obtain ⟨b1, b2, b3, b4⟩ := hC h1.2 a2 h3
        refine ⟨x, rfl, h3, Nat.le_trans a1 b1, b2, ?_, b4⟩
        show sg2 b s.at_ s2.at_ = _
        rw [sg2_app a1 b1, a3, b3, h1.1]; rfl
      · rw [if_neg h3] at ht; cases ht
  · rw [if_neg h1] at ht; cases ht
theorem step_false {s : Rd} {log : List Chg} (hs : s.e = 0) (ha : s.at_ ≤ n) (ht : (s.step b n log).1 = false) (he : (s.step b n log).2.1.e = 0) :
    s.at_ ≤ (s.step b n log).2.1.at_ ∧ (s.step b n log).2.1.at_ ≤ n ∧ sg2 b s.at_ (s.step b n log).2.1.at_ = flg false := by
  have hF := flag_unq hu hn s hs ha
  unfold Rd.step at *
  generalize (s.flag b n).2.chg b n = rc at *
  generalize s.flag b n = rf at *
  obtain ⟨f, s1⟩ := rf
  obtain ⟨x, s2⟩ := rc
  simp only at ht he hF ⊢
  by_cases h1 : f = true ∧ s1.e = 0
  · rw [if_pos h1] at ht he ⊢
    by_cases h2 : log.length = 4000
    · rw [if_pos h2] at he
      exact absurd he (fail_ne2 _ (by omega))
    · rw [if_neg h2] at ht he
      by_cases h3 : s2.e = 0
      · rw [if_pos h3] at ht; cases ht
      · rw [if_neg h3] at he; exact absurd he h3
  · rw [if_neg h1] at he ⊢
    obtain ⟨a1, a2, a3, _⟩ := hF he
    have hf : f = false := by
      cases f with
      | true => exact absurd ⟨rfl, he⟩ h1
      | false => rfl
    rw [hf] at a3
    exact ⟨a1, a2, a3⟩
theorem histR_unq : ∀ (f : Nat) (s : Rd) (log : List Chg), s.e = 0 → s.at_ ≤ n → log.length + f = 4001 → 0 < f → (histR b n f s log).2.e = 0 →
    ∃ l, (histR b n f s log).1 = log ++ l ∧ (log ++ l).length ≤ 4000 ∧ s.at_ ≤ (histR b n f s log).2.at_ ∧ (histR b n f s log).2.at_ ≤ n ∧ sg2 b s.at_ (histR b n f s log).2.at_ = l.flatMap logE ++ flg false ∧ ∀ x ∈ l, ChgFit x
  | 0, _, _, _, _, _, h, _ => by omega
  | f + 1, s, log, hs, ha, hl, _, he => by
    unfold histR at he ⊢
    by_cases ht : (s.step b n log).1 = true
    · rw [if_pos ht] at he ⊢
      obtain ⟨x, e1, e2, e3, e4, e5, e6⟩ := step_true hu hn hs ha ht
      obtain ⟨s1, s2⟩ := step_len ht
      have hf : 0 < f := by omega
      obtain ⟨l, g1, g2, g3, g4, g5, g6⟩ := histR_unq f _ _ e2 e4 (by rw [s1]; omega) hf he
      rw [e1] at g1 g2
      rw [e1] at g3 g4 g5
      rw [e1]
      refine ⟨x :: l, by rw [g1]; simp, by simpa using g2, Nat.le_trans e3 g3, g4, ?_, fun y hy => ?_⟩
      · rw [sg2_app e3 g3, e5, g5, List.flatMap_cons, zl6]
      · rcases List.mem_cons.1 hy with rfl | hy
        · exact e6
        · exact g6 y hy
    · have ht2 : (s.step b n log).1 = false := by simpa using ht
      rw [if_neg ht] at he ⊢
      obtain ⟨a1, a2, a3⟩ := step_false hu hn hs ha ht2 he
      exact ⟨[], by simp, by simp; omega, a1, a2, by rw [a3]; rfl, fun _ h => by cases h⟩
theorem hist_unq : Unq b n (Rd.hist b n) hst_ HstFit := by
  intro s hs ha he
  unfold Rd.hist at *
  simp only at he ⊢
  have he1 : (s.begin b n).2.e = 0 := by
    by_cases h : (s.begin b n).2.e = 0
    · exact h
    · rw [histR_stk b n 4001 h (by omega)] at he
      exact absurd he h
  obtain ⟨a1, a2, a3, a4, a5, a6⟩ := begin_unq hu hn s hs ha he1
  obtain ⟨l, g1, g2, g3, g4, g5, g6⟩ := histR_unq hu hn 4001 _ [] he1 a2 rfl (by omega) he
  rw [zl7] at g1 g2
  refine ⟨Nat.le_trans a1 g3, g4, ?_, a4, a6, a5, ?_, ?_⟩
  · rw [sg2_app a1 g3, a3, g5]
    unfold hst_ hed_
    simp only [g1, zl6]
  · show ∀ y ∈ (histR b n 4001 (s.begin b n).2 []).1, ChgFit y
    rw [g1]; exact g6
  · show (histR b n 4001 (s.begin b n).2 []).1.length ≤ 4000
    rw [g1]; exact g2
theorem rowR_unq : ∀ (f : Nat) (s : Rd) (acc : List Int), s.e = 0 → s.at_ ≤ n → (rowR b n f s acc).2.e = 0 →
    ∃ l, (rowR b n f s acc).1 = acc ++ l ∧ l.length = f ∧ s.at_ ≤ (rowR b n f s acc).2.at_ ∧ (rowR b n f s acc).2.at_ ≤ n ∧ sg2 b s.at_ (rowR b n f s acc).2.at_ = l.flatMap int_ ∧ ∀ x ∈ l, (limbsOf x.natAbs).length ≤ 4000
  | 0, s, acc, _, ha, _ => ⟨[], by simp [rowR], rfl, znb _, ha, by show sg2 b s.at_ s.at_ = _; rw [sg2_nil]; rfl, fun _ h => by cases h⟩
  | f + 1, s, acc, hs, ha, he => by
    rw [rowR] at he ⊢
    have he1 : (s.int b n).2.e = 0 := by
      by_cases h : (s.int b n).2.e = 0
      · exact h
      · rw [rowR_stk _ _ _ _ _ h] at he
        exact absurd he h
    obtain ⟨a1, a2, a3, a4⟩ := int_unq hu hn s hs ha he1
    obtain ⟨l, e1, e2, e3, e4, e5, e6⟩ := rowR_unq f (s.int b n).2 (acc ++ [(s.int b n).1]) he1 a2 he
    refine ⟨(s.int b n).1 :: l, by rw [e1]; simp, by simp [e2], by omega, e4, ?_, fun x hx => ?_⟩
    · rw [sg2_app a1 e3, a3, e5]; rfl
    · rcases List.mem_cons.1 hx with rfl | hx
      · exact a4
      · exact e6 x hx
theorem rowsR_unq {w : Nat} : ∀ (f : Nat) (s : Rd) (acc : List (List Int)), s.e = 0 → s.at_ ≤ n → (rowsR b n w f s acc).2.e = 0 →
    ∃ M, (rowsR b n w f s acc).1 = (w, acc ++ M) ∧ M.length = f ∧ s.at_ ≤ (rowsR b n w f s acc).2.at_ ∧ (rowsR b n w f s acc).2.at_ ≤ n ∧ sg2 b s.at_ (rowsR b n w f s acc).2.at_ = M.flatMap row_ ∧ ∀ r ∈ M, r.length = w ∧ ∀ x ∈ r, (limbsOf x.natAbs).length ≤ 4000
  | 0, s, acc, _, ha, _ => ⟨[], by simp [rowsR], rfl, znb _, ha, by show sg2 b s.at_ s.at_ = _; rw [sg2_nil]; rfl, fun _ h => by cases h⟩
  | f + 1, s, acc, hs, ha, he => by
    rw [rowsR] at he ⊢
    by_cases he1 : (s.row b n w).2.e = 0
    · rw [if_pos he1] at he ⊢
      obtain ⟨r, e1, e2, e3, e4, e5, e6⟩ := rowR_unq hu hn w s [] hs ha he1
      have er : (s.row b n w).1 = r := by unfold Rd.row; rw [e1]; rfl
      obtain ⟨M, g1, g2, g3, g4, g5, g6⟩ := rowsR_unq f (s.row b n w).2 (acc ++ [(s.row b n w).1]) he1 e4 he
      have e3' : s.at_ ≤ (s.row b n w).2.at_ := e3
      refine ⟨(s.row b n w).1 :: M, by rw [g1]; simp, by simp [g2], Nat.le_trans e3' g3, g4, ?_, fun x hx => ?_⟩
      · rw [sg2_app e3' g3, g5, List.flatMap_cons, er]
        have e5' : sg2 b s.at_ (s.row b n w).2.at_ = row_ r := e5
        rw [e5']
      · rcases List.mem_cons.1 hx with rfl | hx
        · rw [er]; exact ⟨e2, e6⟩
        · exact g6 x hx
    · rw [if_neg he1] at he
      exact absurd he he1
theorem mat_unq : Unq b n (Rd.mat b n) (fun y => mat_ y.1 y.2) (fun y => MatFit y.1 y.2) := by
  intro s hs ha he
  have k1 : (s.size b n 64).2.e = 0 ∧ ((s.size b n 64).2.size b n 64).2.e = 0 := by
    unfold Rd.mat at he
    by_cases h2 : ((s.size b n 64).2.size b n 64).2.e = 0
    · by_cases h1 : (s.size b n 64).2.e = 0
      · exact ⟨h1, h2⟩
      · have := size_stk b n 64 _ h1
        rw [this] at h2; exact absurd h2 h1
    · rw [rowsR_stk _ _ _ _ _ h2] at he
      exact absurd he h2
  obtain ⟨a1, a2, a3, a4⟩ := size_unq hu hn s hs ha k1.1
  obtain ⟨b1, b2, b3, b4⟩ := size_unq hu hn _ k1.1 a2 k1.2
  unfold Rd.mat at *
  obtain ⟨M, g1, g2, g3, g4, g5, g6⟩ := rowsR_unq hu hn _ _ [] k1.2 b2 he
  rw [zl7] at g1
  rw [g1]
  refine ⟨by omega, g4, ?_, ⟨by simp only; omega, b4, g6⟩⟩
  rw [sg2_app (Nat.le_trans a1 b1) g3, sg2_app a1 b1, a3, b3, g5]
  simp only
  unfold mat_
  rw [g2]
theorem rat_unq : Unq b n (Rd.rat b n) rat_ (fun x => (limbsOf x.1.natAbs).length ≤ 4000 ∧ (limbsOf x.2.natAbs).length ≤ 4000) := by
  intro s hs ha he
  unfold Rd.rat at *
  by_cases h2 : ((s.int b n).2.int b n).2.e = 0
  · have h1 : (s.int b n).2.e = 0 := by
      by_cases h : (s.int b n).2.e = 0
      · exact h
      · have := int_stk b n _ h
        rw [this] at h2; exact absurd h2 h
    obtain ⟨a1, a2, a3, a4⟩ := int_unq hu hn s hs ha h1
    obtain ⟨b1, b2, b3, b4⟩ := int_unq hu hn _ h1 a2 h2
    rw [if_pos h2] at he ⊢
    by_cases hv : ratV ((s.int b n).1, ((s.int b n).2.int b n).1) = true
    · rw [if_pos hv]
      refine ⟨Nat.le_trans a1 b1, b2, ?_, a4, b4⟩
      show sg2 b s.at_ ((s.int b n).2.int b n).2.at_ = _
      rw [sg2_app a1 b1, a3, b3]; rfl
    · rw [if_neg hv] at he
      exact absurd he (fail_ne _)
  · rw [if_neg h2] at he
    exact absurd he h2
end
def crt_ (x : Crt) : List Int := whl x.kind ++ int_ x.n ++ num x.p ++ lst whl x.rows ++ lst whl x.cols ++ lst (fun y => mat_ y.1 y.2) x.M ++ lst int_ x.X ++ lst rat_ x.Y ++ flg x.found
def CrtFit (x : Crt) : Prop := I64 x.kind ∧ (limbsOf x.n.natAbs).length ≤ 4000 ∧ x.p < 18446744073709551616 ∧ (x.rows.length ≤ 4000 ∧ ∀ y ∈ x.rows, I64 y) ∧ (x.cols.length ≤ 4000 ∧ ∀ y ∈ x.cols, I64 y) ∧ (x.M.length ≤ 4000 ∧ ∀ y ∈ x.M, MatFit y.1 y.2) ∧ (x.X.length ≤ 4000 ∧ ∀ y ∈ x.X, (limbsOf y.natAbs).length ≤ 4000) ∧ (x.Y.length ≤ 4000 ∧ ∀ y ∈ x.Y, (limbsOf y.1.natAbs).length ≤ 4000 ∧ (limbsOf y.2.natAbs).length ≤ 4000)
def mkCt (k : Int) (y : Int × Nat × List Int × List Int × List (Nat × List (List Int)) × List Int × List (Int × Int) × Bool) : Crt := ⟨k, y.1, y.2.1, y.2.2.1, y.2.2.2.1, y.2.2.2.2.1, y.2.2.2.2.2.1, y.2.2.2.2.2.2.1, y.2.2.2.2.2.2.2⟩
def cI (l : List Int) : Prop := l.length ≤ 4000 ∧ ∀ z ∈ l, I64 z
def cM (l : List (Nat × List (List Int))) : Prop := l.length ≤ 4000 ∧ ∀ z ∈ l, MatFit z.1 z.2
def cX (l : List Int) : Prop := l.length ≤ 4000 ∧ ∀ z ∈ l, (limbsOf z.natAbs).length ≤ 4000
def cY (l : List (Int × Int)) : Prop := l.length ≤ 4000 ∧ ∀ z ∈ l, (limbsOf z.1.natAbs).length ≤ 4000 ∧ (limbsOf z.2.natAbs).length ≤ 4000
theorem cert_seq (b : List Int) (n : Nat) : Rd.cert b n = seqR mkCt (Rd.whole b n) (seqR Prod.mk (Rd.int b n) (seqR Prod.mk (Rd.number b n) (seqR Prod.mk (Rd.ints b n) (seqR Prod.mk (Rd.ints b n) (seqR Prod.mk (Rd.mats b n) (seqR Prod.mk (Rd.intl b n) (seqR Prod.mk (Rd.rats b n) (Rd.flag b n)))))))) := by
  funext s
  simp only [Rd.cert, seqR, mkCt]
set_option maxHeartbeats 8000000 in
theorem cert_unq {b : List Int} {n : Nat} (hu : U8s b) (hn : n ≤ b.length) : Unq b n (Rd.cert b n) crt_ CrtFit := by
  have i1 : Unq b n (Rd.ints b n) (lst whl) (fun l => l.length ≤ 4000 ∧ ∀ x ∈ l, I64 x) := list_unq hu hn (whole_unq hu hn)
  have m1 : Unq b n (Rd.mats b n) (lst fun y => mat_ y.1 y.2) (fun l => l.length ≤ 4000 ∧ ∀ x ∈ l, MatFit x.1 x.2) := list_unq hu hn (mat_unq hu hn)
  have x1 : Unq b n (Rd.intl b n) (lst int_) (fun l => l.length ≤ 4000 ∧ ∀ x ∈ l, (limbsOf x.natAbs).length ≤ 4000) := list_unq hu hn (int_unq hu hn)
  have y1 : Unq b n (Rd.rats b n) (lst rat_) (fun l => l.length ≤ 4000 ∧ ∀ x ∈ l, (limbsOf x.1.natAbs).length ≤ 4000 ∧ (limbsOf x.2.natAbs).length ≤ 4000) := list_unq hu hn (rat_unq hu hn)
  have si : Stk (Rd.ints b n) := list_stk b n _
  have sm : Stk (Rd.mats b n) := list_stk b n _
  have sx : Stk (Rd.intl b n) := list_stk b n _
  have sy : Stk (Rd.rats b n) := list_stk b n _
  have k8 := flag_stk b n
  have k7 := sy.seq (mk := Prod.mk) k8
  have k6 := sx.seq (mk := Prod.mk) k7
  have k5 := sm.seq (mk := Prod.mk) k6
  have k4 := si.seq (mk := Prod.mk) k5
  have k3 := si.seq (mk := Prod.mk) k4
  have k2 := (number_stk b n).seq (mk := Prod.mk) k3
  have k1 := (int_stk b n).seq (mk := Prod.mk) k2
  have r7 := y1.seq (mk := Prod.mk) (G := fun y => lst rat_ y.1 ++ flg y.2) (R := fun y => (cY y.1)) (flag_unq hu hn) k8 (fun x y h1 h2 => ⟨rfl, h1⟩)
  have r6 := x1.seq (mk := Prod.mk) (G := fun y => lst int_ y.1 ++ (lst rat_ y.2.1 ++ flg y.2.2)) (R := fun y => (cX y.1) ∧ (cY y.2.1)) r7 k7 (fun x y h1 h2 => ⟨rfl, h1, h2⟩)
  have r5 := m1.seq (mk := Prod.mk) (G := fun y => lst (fun y => mat_ y.1 y.2) y.1 ++ (lst int_ y.2.1 ++ (lst rat_ y.2.2.1 ++ flg y.2.2.2))) (R := fun y => (cM y.1) ∧ (cX y.2.1) ∧ (cY y.2.2.1)) r6 k6 (fun x y h1 h2 => ⟨rfl, h1, h2⟩)
  have r4 := i1.seq (mk := Prod.mk) (G := fun y => lst whl y.1 ++ (lst (fun y => mat_ y.1 y.2) y.2.1 ++ (lst int_ y.2.2.1 ++ (lst rat_ y.2.2.2.1 ++ flg y.2.2.2.2)))) (R := fun y => (cI y.1) ∧ (cM y.2.1) ∧ (cX y.2.2.1) ∧ (cY y.2.2.2.1)) r5 k5 (fun x y h1 h2 => ⟨rfl, h1, h2⟩)
  have r3 := i1.seq (mk := Prod.mk) (G := fun y => lst whl y.1 ++ (lst whl y.2.1 ++ (lst (fun y => mat_ y.1 y.2) y.2.2.1 ++ (lst int_ y.2.2.2.1 ++ (lst rat_ y.2.2.2.2.1 ++ flg y.2.2.2.2.2))))) (R := fun y => (cI y.1) ∧ (cI y.2.1) ∧ (cM y.2.2.1) ∧ (cX y.2.2.2.1) ∧ (cY y.2.2.2.2.1)) r4 k4 (fun x y h1 h2 => ⟨rfl, h1, h2⟩)
  have r2 := (number_unq hu hn).seq (mk := Prod.mk) (G := fun y => num y.1 ++ (lst whl y.2.1 ++ (lst whl y.2.2.1 ++ (lst (fun y => mat_ y.1 y.2) y.2.2.2.1 ++ (lst int_ y.2.2.2.2.1 ++ (lst rat_ y.2.2.2.2.2.1 ++ flg y.2.2.2.2.2.2)))))) (R := fun y => y.1 < 18446744073709551616 ∧ (cI y.2.1) ∧ (cI y.2.2.1) ∧ (cM y.2.2.2.1) ∧ (cX y.2.2.2.2.1) ∧ (cY y.2.2.2.2.2.1)) r3 k3 (fun x y h1 h2 => ⟨rfl, h1, h2⟩)
  have r1 := (int_unq hu hn).seq (mk := Prod.mk) (G := fun y => int_ y.1 ++ (num y.2.1 ++ (lst whl y.2.2.1 ++ (lst whl y.2.2.2.1 ++ (lst (fun y => mat_ y.1 y.2) y.2.2.2.2.1 ++ (lst int_ y.2.2.2.2.2.1 ++ (lst rat_ y.2.2.2.2.2.2.1 ++ flg y.2.2.2.2.2.2.2))))))) (R := fun y => (limbsOf y.1.natAbs).length ≤ 4000 ∧ y.2.1 < 18446744073709551616 ∧ (cI y.2.2.1) ∧ (cI y.2.2.2.1) ∧ (cM y.2.2.2.2.1) ∧ (cX y.2.2.2.2.2.1) ∧ (cY y.2.2.2.2.2.2.1)) r2 k2 (fun x y h1 h2 => ⟨rfl, h1, h2⟩)
  rw [cert_seq]
  exact (whole_unq hu hn).seq (mk := mkCt) r1 k1 (fun x y h1 h2 => ⟨by unfold crt_ mkCt; simp only [zl6], by unfold CrtFit mkCt; exact ⟨h1, h2⟩⟩)
theorem idlePC : Idle Try.prog 67 := Idle.of Tab.go67 Try.func67 rfl rfl rfl rfl Try.ntmps67 Try.results67
theorem matfit_ok {w : Nat} {M : List (List Int)} (h : MatFit w M) : MatOk w M := ⟨by have := h.len; omega, by have := h.wid; omega, fun r hr => ⟨(h.row r hr).1, fun x hx => by have := (h.row r hr).2 x hx; omega⟩⟩
set_option maxHeartbeats 8000000 in
set_option maxRecDepth 4000 in
theorem PutCert_s {b : List Int} {x : Crt} (hx : CrtFit x) (hb : b.length + (crt_ x).length ≤ 1000000000) : Spec Try.prog 30 [.im (bw b) b.length, crtC x] (.im (bw (b ++ crt_ x)) (b ++ crt_ x).length) := by
  obtain ⟨h1, h2, h3, ⟨h4, h4'⟩, ⟨h5, h5'⟩, ⟨h6, h6'⟩, ⟨h7, h7'⟩, ⟨h8, h8'⟩⟩ := hx
  have hlen : (crt_ x).length = (whl x.kind).length + (int_ x.n).length + (num x.p).length + (lst whl x.rows).length + (lst whl x.cols).length + (lst (fun y => mat_ y.1 y.2) x.M).length + (lst int_ x.X).length + (lst rat_ x.Y).length + 1 := by unfold crt_; simp only [zl1]; rfl
  have a0 := cloneB_s (b := b) (by omega)
  have a1 := whole_s h1 1 b none (by omega)
  have a2 := putint_s x.n (by omega) 2 (b ++ whl x.kind) none (by simp only [zl1]; omega)
  have a3 := number_s x.p h3 3 (b ++ whl x.kind ++ int_ x.n) none (by simp only [zl1]; omega)
  have a4 := pits_s x.rows h4' (by omega) 4 (b ++ whl x.kind ++ int_ x.n ++ num x.p) none (by simp only [zl1]; omega)
  have a5 := pits_s x.cols h5' (by omega) 5 (b ++ whl x.kind ++ int_ x.n ++ num x.p ++ lst whl x.rows) none (by simp only [zl1]; omega)
  have a6 := pmats_s x.M (fun y hy => matfit_ok (h6' y hy)) (by omega) 6 (b ++ whl x.kind ++ int_ x.n ++ num x.p ++ lst whl x.rows ++ lst whl x.cols) none (by simp only [zl1]; show _ + (lst (fun y => mat_ y.1 y.2) x.M).length ≤ _; omega)
  have a7 := pints_s x.X (fun y hy => by have := h7' y hy; unfold IntFit; omega) (by omega) 7 (b ++ whl x.kind ++ int_ x.n ++ num x.p ++ lst whl x.rows ++ lst whl x.cols ++ lst (fun y => mat_ y.1 y.2) x.M) none (by simp only [zl1]; omega)
  have a8 := prats_s x.Y (fun y hy => by have := h8' y hy; unfold RatFit; omega) (by omega) 8 (b ++ whl x.kind ++ int_ x.n ++ num x.p ++ lst whl x.rows ++ lst whl x.cols ++ lst (fun y => mat_ y.1 y.2) x.M ++ lst int_ x.X) none (by simp only [zl1]; omega)
  have a9 := flag_s x.found 9 (b ++ whl x.kind ++ int_ x.n ++ num x.p ++ lst whl x.rows ++ lst whl x.cols ++ lst (fun y => mat_ y.1 y.2) x.M ++ lst int_ x.X ++ lst rat_ x.Y) none (by simp only [zl1]; show _ + 1 ≤ _; omega)
  have eM : lst matE x.M = lst (fun y => mat_ y.1 y.2) x.M := rfl
  rw [eM] at a6
  have e0 : b ++ crt_ x = b ++ whl x.kind ++ int_ x.n ++ num x.p ++ lst whl x.rows ++ lst whl x.cols ++ lst (fun y => mat_ y.1 y.2) x.M ++ lst int_ x.X ++ lst rat_ x.Y ++ flg x.found := by unfold crt_; simp only [zl6]
  have fl : (flg x.found).length = 1 := rfl
  have gle : (b ++ crt_ x).length = b.length + (whl x.kind).length + (int_ x.n).length + (num x.p).length + (lst whl x.rows).length + (lst whl x.cols).length + (lst (fun y => mat_ y.1 y.2) x.M).length + (lst int_ x.X).length + (lst rat_ x.Y).length + 1 := by rw [zl1]; omega
  have gl := bw_len (b ++ crt_ x)
  have gcl := bw_clo (b ++ crt_ x)
  have gt : (bw (b ++ crt_ x)).take (b ++ crt_ x).length = bw (b ++ crt_ x) := zla (by omega)
  rw [gle] at gl gt ⊢
  rw [e0] at gl gcl gt ⊢
  simp only [zl1, fl] at a1 a2 a3 a4 a5 a6 a7 a8 a9
  unfold iv at a2
  unfold sv at a2
  unfold crtC
  clear h1 h2 h3 h4 h4' h5 h5' h6 h6' h7 h7' h8 h8' hlen gle hb e0 eM
  generalize (whl x.kind).length = n1 at *
  generalize (int_ x.n).length = n2 at *
  generalize (num x.p).length = n3 at *
  generalize (lst whl x.rows).length = n4 at *
  generalize (lst whl x.cols).length = n5 at *
  generalize (lst (fun y => mat_ y.1 y.2) x.M).length = n6 at *
  generalize (lst int_ x.X).length = n7 at *
  generalize (lst rat_ x.Y).length = n8 at *
  refine Spec.runD Try.func30 rfl rfl rfl rfl idlePC Try.ntmps30 (by simp) rfl (by simp (disch := omega) only [go_sem, ↓reduceIte, zn4, reduceCtorEq]; rfl) fun B hB => ?_
  (repeat (first | (with_reducible refine SC.condB (by simp (disch := omega) only [go_sem, ↓reduceIte, zn1, zn2, zn3, zn4, zn5, zn6, reduceCtorEq, zn7, zi1, zi2, if_pos, if_neg]; rfl) ?_; first | with_reducible refine pickT ?_ | with_reducible refine pickF ?_) | (with_reducible refine oz (by constructor <;> decide) ?_) | ((with_reducible apply SC.region); (focus (simp (disch := omega) only [go_sem, ↓reduceIte, zn1, zn2, zn3, zn4, zn5, zn6, reduceCtorEq, zn7, zi1, zi2, if_pos, if_neg]; rfl))) | (with_reducible refine SC.draw Tab.mixed rfl ?_; (repeat (refine DO.run (by simp (disch := omega) only [go_sem, ↓reduceIte, reduceCtorEq]; rfl) ?_)); refine DO.nil (by kernel_rfl) ?_)))
  (refine SC.draw Tab.mixed rfl ?_)
  (repeat (refine DO.run (by simp (disch := omega) only [go_sem, ↓reduceIte, reduceCtorEq]; rfl) ?_))
  (refine DO.callN Tab.go36 (by simp (disch := omega) only [go_sem, ↓reduceIte]; rfl) (by simp (disch := omega) only [go_sem] <;> rfl) ?_; refine DNew.of (a0) rfl (by simp (disch := omega) only [go_sem, zn4]; rfl) ?_)
  (repeat (refine DO.run (by simp (disch := omega) only [go_sem, ↓reduceIte, zn1, reduceCtorEq]; rfl) ?_))
  (first | refine SO.callA Tab.go50 (by simp (disch := omega) only [go_sem, ↓reduceIte, zn1, zn2, zn3, zn4, zn5, zn6, reduceCtorEq, zn7, zi1, zi2, if_pos, if_neg] <;> rfl) (by simp (disch := omega) only [go_sem, ↓reduceIte, zn1, zn2, zn3, zn4, zn5, zn6, reduceCtorEq, zn7, zi1, zi2, if_pos, if_neg] <;> rfl) (SApp.of (a1) (by simp (disch := omega) only [go_sem, ↓reduceIte, zn1, zn2, zn3, zn4, zn5, zn6, reduceCtorEq, zn7, zi1, zi2, if_pos, if_neg] <;> rfl) rfl (by simp (disch := omega) only [go_sem, ↓reduceIte, zn1, zn2, zn3, zn4, zn5, zn6, reduceCtorEq, zn7, zi1, zi2, if_pos, if_neg] <;> rfl) ?_) | refine DO.callA Tab.go50 (by simp (disch := omega) only [go_sem, ↓reduceIte, zn1] <;> rfl) (by simp (disch := omega) only [go_sem] <;> rfl) (DApp.of (a1) (by simp (disch := omega) only [go_sem, ↓reduceIte] <;> rfl) rfl (by simp (disch := omega) only [go_sem, ↓reduceIte, zn4, reduceCtorEq] <;> rfl) ?_))
  (repeat (refine DO.run (by simp (disch := omega) only [go_sem, ↓reduceIte]; rfl) ?_))
  (refine DO.nil (by kernel_rfl) ?_)
  (repeat (first | (with_reducible refine oz (by constructor <;> decide) ?_) | ((first | apply SO.call | apply DO.call); (iterate 3 (focus (simp (disch := omega) only [go_sem, ↓reduceIte, zn1] <;> rfl))); (first | apply SCall.ofX | apply DCall.ofX); assumption; (focus (simp (disch := omega) only [go_sem, ↓reduceIte, zn1, zn2, zn3, zn4, zn5, zn6, reduceCtorEq, zn7, zi1, zi2, if_pos, if_neg] <;> rfl))) | ((with_reducible first | apply wa | apply wb | apply wc | apply wd); (focus (simp (disch := omega) only [go_sem, ↓reduceIte, zn1, zn3, zn4, reduceCtorEq] <;> rfl)); (first | refine pT ?_ | refine pF ?_ | fail_if_success with_reducible refine pA ?_)) | (with_reducible apply SC.ops)))
  (first | refine SO.callA Tab.go35 (by simp (disch := omega) only [go_sem, ↓reduceIte, zn1] <;> rfl) (by simp (disch := omega) only [go_sem] <;> rfl) (SApp.of (a2) (by simp (disch := omega) only [go_sem, ↓reduceIte] <;> rfl) rfl (by simp (disch := omega) only [go_sem, ↓reduceIte, zn4, reduceCtorEq] <;> rfl) ?_) | refine DO.callA Tab.go35 (by simp (disch := omega) only [go_sem, ↓reduceIte, zn1, zn2, zn3, zn4, zn5, zn6, reduceCtorEq, zn7, zi1, zi2, if_pos, if_neg] <;> rfl) (by simp (disch := omega) only [go_sem, ↓reduceIte, zn1, zn2, zn3, zn4, zn5, zn6, reduceCtorEq, zn7, zi1, zi2, if_pos, if_neg] <;> rfl) (DApp.of (a2) (by simp (disch := omega) only [go_sem, ↓reduceIte, zn1, zn2, zn3, zn4, zn5, zn6, reduceCtorEq, zn7, zi1, zi2, if_pos, if_neg] <;> rfl) rfl (by simp (disch := omega) only [go_sem, ↓reduceIte, zn1, zn2, zn3, zn4, zn5, zn6, reduceCtorEq, zn7, zi1, zi2, if_pos, if_neg] <;> rfl) ?_))
  (repeat (first | (with_reducible refine oz (by constructor <;> decide) ?_) | ((first | apply SO.call | apply DO.call); (iterate 3 (focus (simp (disch := omega) only [go_sem, ↓reduceIte, zn1] <;> rfl))); (first | apply SCall.ofX | apply DCall.ofX); assumption; (focus (simp (disch := omega) only [go_sem, ↓reduceIte, zn1, zn2, zn3, zn4, zn5, zn6, reduceCtorEq, zn7, zi1, zi2, if_pos, if_neg] <;> rfl))) | ((with_reducible first | apply wa | apply wb | apply wc | apply wd); (focus (simp (disch := omega) only [go_sem, ↓reduceIte, zn1, reduceCtorEq] <;> rfl)); (first | refine pT ?_ | refine pF ?_ | fail_if_success with_reducible refine pA ?_)) | (with_reducible apply SC.ops)))
  (first | refine SO.callA Tab.go68 (by simp (disch := omega) only [go_sem, ↓reduceIte, zn1] <;> rfl) (by simp (disch := omega) only [go_sem] <;> rfl) (SApp.of (a3) (by simp (disch := omega) only [go_sem, ↓reduceIte] <;> rfl) rfl (by simp (disch := omega) only [go_sem, ↓reduceIte, zn4, reduceCtorEq] <;> rfl) ?_) | refine DO.callA Tab.go68 (by simp (disch := omega) only [go_sem, ↓reduceIte, zn1, zn2, zn3, zn4, zn5, zn6, reduceCtorEq, zn7, zi1, zi2, if_pos, if_neg] <;> rfl) (by simp (disch := omega) only [go_sem, ↓reduceIte, zn1, zn2, zn3, zn4, zn5, zn6, reduceCtorEq, zn7, zi1, zi2, if_pos, if_neg] <;> rfl) (DApp.of (a3) (by simp (disch := omega) only [go_sem, ↓reduceIte, zn1, zn2, zn3, zn4, zn5, zn6, reduceCtorEq, zn7, zi1, zi2, if_pos, if_neg] <;> rfl) rfl (by simp (disch := omega) only [go_sem, ↓reduceIte, zn1, zn2, zn3, zn4, zn5, zn6, reduceCtorEq, zn7, zi1, zi2, if_pos, if_neg] <;> rfl) ?_))
  (repeat (first | (with_reducible refine oz (by constructor <;> decide) ?_) | ((first | apply SO.call | apply DO.call); (iterate 3 (focus (simp (disch := omega) only [go_sem, ↓reduceIte, zn1] <;> rfl))); (first | apply SCall.ofX | apply DCall.ofX); assumption; (focus (simp (disch := omega) only [go_sem, ↓reduceIte, zn1, zn2, zn3, zn4, zn5, zn6, reduceCtorEq, zn7, zi1, zi2, if_pos, if_neg] <;> rfl))) | ((with_reducible first | apply wa | apply wb | apply wc | apply wd); (focus (simp (disch := omega) only [go_sem, ↓reduceIte, zn1, reduceCtorEq] <;> rfl)); (first | refine pT ?_ | refine pF ?_ | fail_if_success with_reducible refine pA ?_)) | (with_reducible apply SC.ops)))
  (first | refine SO.callA Tab.go69 (by simp (disch := omega) only [go_sem, ↓reduceIte, zn1] <;> rfl) (by simp (disch := omega) only [go_sem] <;> rfl) (SApp.of (a4) (by simp (disch := omega) only [go_sem, ↓reduceIte] <;> rfl) rfl (by simp (disch := omega) only [go_sem, ↓reduceIte, zn4, reduceCtorEq] <;> rfl) ?_) | refine DO.callA Tab.go69 (by simp (disch := omega) only [go_sem, ↓reduceIte, zn1, zn2, zn3, zn4, zn5, zn6, reduceCtorEq, zn7, zi1, zi2, if_pos, if_neg] <;> rfl) (by simp (disch := omega) only [go_sem, ↓reduceIte, zn1, zn2, zn3, zn4, zn5, zn6, reduceCtorEq, zn7, zi1, zi2, if_pos, if_neg] <;> rfl) (DApp.of (a4) (by simp (disch := omega) only [go_sem, ↓reduceIte, zn1, zn2, zn3, zn4, zn5, zn6, reduceCtorEq, zn7, zi1, zi2, if_pos, if_neg] <;> rfl) rfl (by simp (disch := omega) only [go_sem, ↓reduceIte, zn1, zn2, zn3, zn4, zn5, zn6, reduceCtorEq, zn7, zi1, zi2, if_pos, if_neg] <;> rfl) ?_))
  (repeat (first | (with_reducible refine oz (by constructor <;> decide) ?_) | ((first | apply SO.call | apply DO.call); (iterate 3 (focus (simp (disch := omega) only [go_sem, ↓reduceIte, zn1] <;> rfl))); (first | apply SCall.ofX | apply DCall.ofX); assumption; (focus (simp (disch := omega) only [go_sem, ↓reduceIte, zn1, zn2, zn3, zn4, zn5, zn6, reduceCtorEq, zn7, zi1, zi2, if_pos, if_neg] <;> rfl))) | ((with_reducible first | apply wa | apply wb | apply wc | apply wd); (focus (simp (disch := omega) only [go_sem, ↓reduceIte, zn1, reduceCtorEq] <;> rfl)); (first | refine pT ?_ | refine pF ?_ | fail_if_success with_reducible refine pA ?_)) | (with_reducible apply SC.ops)))
  (first | refine SO.callA Tab.go69 (by simp (disch := omega) only [go_sem, ↓reduceIte, zn1] <;> rfl) (by simp (disch := omega) only [go_sem] <;> rfl) (SApp.of (a5) (by simp (disch := omega) only [go_sem, ↓reduceIte] <;> rfl) rfl (by simp (disch := omega) only [go_sem, ↓reduceIte, zn4, reduceCtorEq] <;> rfl) ?_) | refine DO.callA Tab.go69 (by simp (disch := omega) only [go_sem, ↓reduceIte, zn1, zn2, zn3, zn4, zn5, zn6, reduceCtorEq, zn7, zi1, zi2, if_pos, if_neg] <;> rfl) (by simp (disch := omega) only [go_sem, ↓reduceIte, zn1, zn2, zn3, zn4, zn5, zn6, reduceCtorEq, zn7, zi1, zi2, if_pos, if_neg] <;> rfl) (DApp.of (a5) (by simp (disch := omega) only [go_sem, ↓reduceIte, zn1, zn2, zn3, zn4, zn5, zn6, reduceCtorEq, zn7, zi1, zi2, if_pos, if_neg] <;> rfl) rfl (by simp (disch := omega) only [go_sem, ↓reduceIte, zn1, zn2, zn3, zn4, zn5, zn6, reduceCtorEq, zn7, zi1, zi2, if_pos, if_neg] <;> rfl) ?_))
  (repeat (first | (with_reducible refine oz (by constructor <;> decide) ?_) | ((first | apply SO.call | apply DO.call); (iterate 3 (focus (simp (disch := omega) only [go_sem, ↓reduceIte, zn1] <;> rfl))); (first | apply SCall.ofX | apply DCall.ofX); assumption; (focus (simp (disch := omega) only [go_sem, ↓reduceIte, zn1, zn2, zn3, zn4, zn5, zn6, reduceCtorEq, zn7, zi1, zi2, if_pos, if_neg] <;> rfl))) | ((with_reducible first | apply wa | apply wb | apply wc | apply wd); (focus (simp (disch := omega) only [go_sem, ↓reduceIte, zn1, reduceCtorEq] <;> rfl)); (first | refine pT ?_ | refine pF ?_ | fail_if_success with_reducible refine pA ?_)) | (with_reducible apply SC.ops)))
  (first | refine SO.callA Tab.go70 (by simp (disch := omega) only [go_sem, ↓reduceIte, zn1] <;> rfl) (by simp (disch := omega) only [go_sem] <;> rfl) (SApp.of (a6) (by simp (disch := omega) only [go_sem, ↓reduceIte] <;> rfl) rfl (by simp (disch := omega) only [go_sem, ↓reduceIte, zn4, reduceCtorEq] <;> rfl) ?_) | refine DO.callA Tab.go70 (by simp (disch := omega) only [go_sem, ↓reduceIte, zn1, zn2, zn3, zn4, zn5, zn6, reduceCtorEq, zn7, zi1, zi2, if_pos, if_neg] <;> rfl) (by simp (disch := omega) only [go_sem, ↓reduceIte, zn1, zn2, zn3, zn4, zn5, zn6, reduceCtorEq, zn7, zi1, zi2, if_pos, if_neg] <;> rfl) (DApp.of (a6) (by simp (disch := omega) only [go_sem, ↓reduceIte, zn1, zn2, zn3, zn4, zn5, zn6, reduceCtorEq, zn7, zi1, zi2, if_pos, if_neg] <;> rfl) rfl (by simp (disch := omega) only [go_sem, ↓reduceIte, zn1, zn2, zn3, zn4, zn5, zn6, reduceCtorEq, zn7, zi1, zi2, if_pos, if_neg] <;> rfl) ?_))
  (repeat (first | (with_reducible refine oz (by constructor <;> decide) ?_) | ((first | apply SO.call | apply DO.call); (iterate 3 (focus (simp (disch := omega) only [go_sem, ↓reduceIte, zn1] <;> rfl))); (first | apply SCall.ofX | apply DCall.ofX); assumption; (focus (simp (disch := omega) only [go_sem, ↓reduceIte, zn1, zn2, zn3, zn4, zn5, zn6, reduceCtorEq, zn7, zi1, zi2, if_pos, if_neg] <;> rfl))) | ((with_reducible first | apply wa | apply wb | apply wc | apply wd); (focus (simp (disch := omega) only [go_sem, ↓reduceIte, zn1, reduceCtorEq] <;> rfl)); (first | refine pT ?_ | refine pF ?_ | fail_if_success with_reducible refine pA ?_)) | (with_reducible apply SC.ops)))
  (first | refine SO.callA Tab.go71 (by simp (disch := omega) only [go_sem, ↓reduceIte, zn1] <;> rfl) (by simp (disch := omega) only [go_sem] <;> rfl) (SApp.of (a7) (by simp (disch := omega) only [go_sem, ↓reduceIte] <;> rfl) rfl (by simp (disch := omega) only [go_sem, ↓reduceIte, zn4, reduceCtorEq] <;> rfl) ?_) | refine DO.callA Tab.go71 (by simp (disch := omega) only [go_sem, ↓reduceIte, zn1, zn2, zn3, zn4, zn5, zn6, reduceCtorEq, zn7, zi1, zi2, if_pos, if_neg] <;> rfl) (by simp (disch := omega) only [go_sem, ↓reduceIte, zn1, zn2, zn3, zn4, zn5, zn6, reduceCtorEq, zn7, zi1, zi2, if_pos, if_neg] <;> rfl) (DApp.of (a7) (by simp (disch := omega) only [go_sem, ↓reduceIte, zn1, zn2, zn3, zn4, zn5, zn6, reduceCtorEq, zn7, zi1, zi2, if_pos, if_neg] <;> rfl) rfl (by simp (disch := omega) only [go_sem, ↓reduceIte, zn1, zn2, zn3, zn4, zn5, zn6, reduceCtorEq, zn7, zi1, zi2, if_pos, if_neg] <;> rfl) ?_))
  (repeat (first | (with_reducible refine oz (by constructor <;> decide) ?_) | ((first | apply SO.call | apply DO.call); (iterate 3 (focus (simp (disch := omega) only [go_sem, ↓reduceIte, zn1] <;> rfl))); (first | apply SCall.ofX | apply DCall.ofX); assumption; (focus (simp (disch := omega) only [go_sem, ↓reduceIte, zn1, zn2, zn3, zn4, zn5, zn6, reduceCtorEq, zn7, zi1, zi2, if_pos, if_neg] <;> rfl))) | ((with_reducible first | apply wa | apply wb | apply wc | apply wd); (focus (simp (disch := omega) only [go_sem, ↓reduceIte, zn1, reduceCtorEq] <;> rfl)); (first | refine pT ?_ | refine pF ?_ | fail_if_success with_reducible refine pA ?_)) | (with_reducible apply SC.ops)))
  (first | refine SO.callA Tab.go72 (by simp (disch := omega) only [go_sem, ↓reduceIte, zn1] <;> rfl) (by simp (disch := omega) only [go_sem] <;> rfl) (SApp.of (a8) (by simp (disch := omega) only [go_sem, ↓reduceIte] <;> rfl) rfl (by simp (disch := omega) only [go_sem, ↓reduceIte, zn4, reduceCtorEq] <;> rfl) ?_) | refine DO.callA Tab.go72 (by simp (disch := omega) only [go_sem, ↓reduceIte, zn1, zn2, zn3, zn4, zn5, zn6, reduceCtorEq, zn7, zi1, zi2, if_pos, if_neg] <;> rfl) (by simp (disch := omega) only [go_sem, ↓reduceIte, zn1, zn2, zn3, zn4, zn5, zn6, reduceCtorEq, zn7, zi1, zi2, if_pos, if_neg] <;> rfl) (DApp.of (a8) (by simp (disch := omega) only [go_sem, ↓reduceIte, zn1, zn2, zn3, zn4, zn5, zn6, reduceCtorEq, zn7, zi1, zi2, if_pos, if_neg] <;> rfl) rfl (by simp (disch := omega) only [go_sem, ↓reduceIte, zn1, zn2, zn3, zn4, zn5, zn6, reduceCtorEq, zn7, zi1, zi2, if_pos, if_neg] <;> rfl) ?_))
  (repeat (first | (with_reducible refine oz (by constructor <;> decide) ?_) | ((first | apply SO.call | apply DO.call); (iterate 3 (focus (simp (disch := omega) only [go_sem, ↓reduceIte, zn1] <;> rfl))); (first | apply SCall.ofX | apply DCall.ofX); assumption; (focus (simp (disch := omega) only [go_sem, ↓reduceIte, zn1, zn2, zn3, zn4, zn5, zn6, reduceCtorEq, zn7, zi1, zi2, if_pos, if_neg] <;> rfl))) | ((with_reducible first | apply wa | apply wb | apply wc | apply wd); (focus (simp (disch := omega) only [go_sem, ↓reduceIte, zn1, zn2, reduceCtorEq] <;> rfl)); (first | refine pT ?_ | refine pF ?_ | fail_if_success with_reducible refine pA ?_)) | (with_reducible apply SC.ops)))
  (first | refine SO.callA Tab.go54 (by simp (disch := omega) only [go_sem, ↓reduceIte, zn1] <;> rfl) (by simp (disch := omega) only [go_sem, zn2] <;> rfl) (SApp.of (a9) (by simp (disch := omega) only [go_sem, ↓reduceIte] <;> rfl) rfl (by simp (disch := omega) only [go_sem, ↓reduceIte, zn4, reduceCtorEq] <;> rfl) ?_) | refine DO.callA Tab.go54 (by simp (disch := omega) only [go_sem, ↓reduceIte, zn1, zn2, zn3, zn4, zn5, zn6, reduceCtorEq, zn7, zi1, zi2, if_pos, if_neg] <;> rfl) (by simp (disch := omega) only [go_sem, ↓reduceIte, zn1, zn2, zn3, zn4, zn5, zn6, reduceCtorEq, zn7, zi1, zi2, if_pos, if_neg] <;> rfl) (DApp.of (a9) (by simp (disch := omega) only [go_sem, ↓reduceIte, zn1, zn2, zn3, zn4, zn5, zn6, reduceCtorEq, zn7, zi1, zi2, if_pos, if_neg] <;> rfl) rfl (by simp (disch := omega) only [go_sem, ↓reduceIte, zn1, zn2, zn3, zn4, zn5, zn6, reduceCtorEq, zn7, zi1, zi2, if_pos, if_neg] <;> rfl) ?_))
  (repeat (first | (with_reducible refine oz (by constructor <;> decide) ?_) | ((with_reducible first | apply wa | apply wb | apply wc | apply wd); (focus (simp (disch := omega) only [go_sem, ↓reduceIte] <;> rfl)); (first | refine pT ?_ | refine pF ?_ | fail_if_success with_reducible refine pA ?_)) | (with_reducible apply SC.ops)))
  exact retQ_ret Try.results30 (by simp (disch := omega) only [go_sem, ↓reduceIte] <;> rfl) (by simp (disch := omega) only [go_sem, ↓reduceIte, zn3, if_pos, gl, gcl, gt, zl2, zn8] <;> rfl) rfl
theorem small_s (l : List Int) (a : Int) : Spec Try.prog 26 [.im (bw l) l.length, .sc (.int .i64 a)] (.sc (.bool (decide (l.length ≤ 200) && (decide (-2 ≤ a) && decide (a ≤ 220))))) := by
  by_cases h1 : l.length ≤ 200
  · have q1 : decide ((l.length : Int) ≤ 200) = true := by rw [decide_eq_true_iff]; omega
    rw [decide_eq_true h1, Bool.true_and]
    by_cases h2 : -2 ≤ a
    · have q2 : decide (a ≥ -2) = true := decide_eq_true h2
      have q2' : decide (-2 ≤ a) = true := decide_eq_true h2
      rw [q2', Bool.true_and]
      refine Spec.run Try.func26 rfl Try.ntmps26 (by simp) (by simp (disch := omega) only [go_sem, zn4]; rfl) fun B hB => ?_
      (repeat (first | (with_reducible refine oz (by constructor <;> decide) ?_) | ((with_reducible first | apply wa | apply wb | apply wc | apply wd); (focus (simp (disch := omega) only [go_sem, ↓reduceIte, zn1, zn2, reduceCtorEq, q1, q2] <;> rfl)); (first | refine pT ?_ | refine pF ?_ | fail_if_success with_reducible refine pA ?_)) | (with_reducible apply SC.ops)))
      exact retQ_ret Try.results26 (by simp (disch := omega) only [go_sem, ↓reduceIte] <;> rfl) rfl rfl
    · have q2 : decide (a ≥ -2) = false := decide_eq_false h2
      have q2' : decide (-2 ≤ a) = false := decide_eq_false h2
      rw [q2', Bool.false_and]
      refine Spec.run Try.func26 rfl Try.ntmps26 (by simp) (by simp (disch := omega) only [go_sem, zn4]; rfl) fun B hB => ?_
      (repeat (first | (with_reducible refine oz (by constructor <;> decide) ?_) | ((with_reducible first | apply wa | apply wb | apply wc | apply wd); (focus (simp (disch := omega) only [go_sem, ↓reduceIte, zn1, zn2, reduceCtorEq, q1, q2] <;> rfl)); (first | refine pT ?_ | refine pF ?_ | fail_if_success with_reducible refine pA ?_)) | (with_reducible apply SC.ops)))
      exact retQ_ret Try.results26 (by simp (disch := omega) only [go_sem, ↓reduceIte] <;> rfl) rfl rfl
  · have q1 : decide ((l.length : Int) ≤ 200) = false := by rw [decide_eq_false_iff_not]; omega
    rw [decide_eq_false h1, Bool.false_and]
    refine Spec.run Try.func26 rfl Try.ntmps26 (by simp) (by simp (disch := omega) only [go_sem, zn4]; rfl) fun B hB => ?_
    (repeat (first | (with_reducible refine oz (by constructor <;> decide) ?_) | ((with_reducible first | apply wa | apply wb | apply wc | apply wd); (focus (simp (disch := omega) only [go_sem, ↓reduceIte, zn1, zn2, reduceCtorEq, q1] <;> rfl)); (first | refine pT ?_ | refine pF ?_ | fail_if_success with_reducible refine pA ?_)) | (with_reducible apply SC.ops)))
    exact retQ_ret Try.results26 (by simp (disch := omega) only [go_sem, ↓reduceIte] <;> rfl) rfl rfl
theorem sg2_len {b : List Int} {p q : Nat} (h : q ≤ b.length) : (sg2 b p q).length = q - p := by unfold sg2; rw [List.length_take, List.length_drop]; omega
theorem fits_of {z : Int} {k : Nat} (h : (limbsOf z.natAbs).length ≤ k) : Fits k z := by
  unfold Fits
  have h1 := val_lt (limbsOf_limbs z.natAbs)
  rw [limbsOf_val] at h1
  exact Nat.lt_of_lt_of_le h1 (Nat.pow_le_pow_right (by omega) h)
section
variable {l : List Int} (hu : U8s l) (k : Nat)
include hu
theorem getI_ok : ∃ z i e, getI l l.length k = (z, i, e) ∧ (e = 0 → k < i ∧ i ≤ l.length ∧ sg2 l k i = int_ z ∧ (limbsOf z.natAbs).length ≤ 4000) := by
  by_cases h : k > l.length
  · exact ⟨0, 0, 1, by unfold getI getR; rw [if_pos (.inr (by omega))], fun h => by cases h⟩
  · by_cases h0 : (Rd.int l l.length ⟨k, 0⟩).2.e = 0
    · obtain ⟨a1, a2, a3, a4⟩ := int_unq hu (znb _) ⟨k, 0⟩ rfl (by simp only; omega) h0
      refine ⟨(Rd.int l l.length ⟨k, 0⟩).1, (Rd.int l l.length ⟨k, 0⟩).2.at_, 0, by unfold getI getR; rw [if_neg (by omega), Int.toNat_natCast, if_pos h0], fun _ => ⟨?_, a2, a3, a4⟩⟩
      have h3 := congrArg List.length a3
      rw [sg2_len a2] at h3
      have hp := int_pos (Rd.int l l.length ⟨k, 0⟩).1
      simp only at h3 hp ⊢
      omega
    · exact ⟨0, 0, (Rd.int l l.length ⟨k, 0⟩).2.e, by unfold getI getR; rw [if_neg (by omega), Int.toNat_natCast, if_neg h0], fun he => absurd he h0⟩
omit hu in
theorem mat_pos (w : Nat) (M : List (List Int)) : 0 < (mat_ w M).length := by
  have := num_pos M.length
  unfold mat_; simp only [zl1]; omega
omit hu in
theorem crt_pos (x : Crt) : 0 < (crt_ x).length := by
  have := whl_pos x.kind
  unfold crt_; simp only [zl1]; omega
omit hu in
theorem hst_pos (x : Hst) : 0 < (hst_ x).length := by
  have := whl_pos x.start
  unfold hst_ hed_; simp only [zl1]; omega
theorem gotM_ok : ∃ w M i e, gotM l l.length k = ((w, M), i, e) ∧ (e = 0 → k < i ∧ i ≤ l.length ∧ sg2 l k i = mat_ w M ∧ MatFit w M) := by
  by_cases h : k > l.length
  · exact ⟨0, [], 0, 1, by unfold gotM; rw [if_pos (.inr (by omega))]; rfl, fun h => by cases h⟩
  · by_cases h0 : (Rd.mat l l.length ⟨k, 0⟩).2.e = 0
    · obtain ⟨a1, a2, a3, a4⟩ := mat_unq hu (znb _) ⟨k, 0⟩ rfl (by simp only; omega) h0
      refine ⟨(Rd.mat l l.length ⟨k, 0⟩).1.1, (Rd.mat l l.length ⟨k, 0⟩).1.2, (Rd.mat l l.length ⟨k, 0⟩).2.at_, 0, by unfold gotM; rw [if_neg (by omega), Int.toNat_natCast, if_pos h0], fun _ => ⟨?_, a2, a3, a4⟩⟩
      have h3 := congrArg List.length a3
      rw [sg2_len a2] at h3
      have hp := mat_pos (Rd.mat l l.length ⟨k, 0⟩).1.1 (Rd.mat l l.length ⟨k, 0⟩).1.2
      simp only at h3 hp ⊢
      omega
    · exact ⟨0, [], 0, (Rd.mat l l.length ⟨k, 0⟩).2.e, by unfold gotM; rw [if_neg (by omega), Int.toNat_natCast, if_neg h0]; rfl, fun he => absurd he h0⟩
theorem gotC_ok : ∃ c i e, gotC l l.length k = (c, i, e) ∧ (e = 0 → k < i ∧ i ≤ l.length ∧ sg2 l k i = crt_ c ∧ CrtFit c) := by
  by_cases h : k > l.length
  · exact ⟨noC, 0, 1, by unfold gotC; rw [if_pos (.inr (by omega))], fun h => by cases h⟩
  · by_cases h0 : (Rd.cert l l.length ⟨k, 0⟩).2.e = 0
    · obtain ⟨a1, a2, a3, a4⟩ := cert_unq hu (znb _) ⟨k, 0⟩ rfl (by simp only; omega) h0
      refine ⟨(Rd.cert l l.length ⟨k, 0⟩).1, (Rd.cert l l.length ⟨k, 0⟩).2.at_, 0, by unfold gotC; rw [if_neg (by omega), Int.toNat_natCast, if_pos h0], fun _ => ⟨?_, a2, a3, a4⟩⟩
      have h3 := congrArg List.length a3
      rw [sg2_len a2] at h3
      have hp := crt_pos (Rd.cert l l.length ⟨k, 0⟩).1
      simp only at h3 hp ⊢
      omega
    · exact ⟨noC, 0, (Rd.cert l l.length ⟨k, 0⟩).2.e, by unfold gotC; rw [if_neg (by omega), Int.toNat_natCast, if_neg h0], fun he => absurd he h0⟩
theorem getH_ok : ∃ h i e, getH l l.length k = (h, i, e) ∧ (e = 0 → k < i ∧ i ≤ l.length ∧ sg2 l k i = hst_ h ∧ HstFit h) := by
  by_cases h : k > l.length
  · exact ⟨noH, 0, 1, by unfold getH; rw [if_pos (.inr (by omega))], fun h => by cases h⟩
  · by_cases h0 : (Rd.hist l l.length ⟨k, 0⟩).2.e = 0
    · obtain ⟨a1, a2, a3, a4⟩ := hist_unq hu (znb _) ⟨k, 0⟩ rfl (by simp only; omega) h0
      refine ⟨(Rd.hist l l.length ⟨k, 0⟩).1, (Rd.hist l l.length ⟨k, 0⟩).2.at_, 0, by unfold getH; rw [if_neg (by omega), Int.toNat_natCast, if_pos h0], fun _ => ⟨?_, a2, a3, a4⟩⟩
      have h3 := congrArg List.length a3
      rw [sg2_len a2] at h3
      have hp := hst_pos (Rd.hist l l.length ⟨k, 0⟩).1
      simp only at h3 hp ⊢
      omega
    · exact ⟨noH, 0, (Rd.hist l l.length ⟨k, 0⟩).2.e, by unfold getH; rw [if_neg (by omega), Int.toNat_natCast, if_neg h0], fun he => absurd he h0⟩
end
theorem celfit_ok {x : Cel} (h : CelFit x) : CelOk x := ⟨h.1, h.2.1, by have := h.2.2.1; omega, fun y hy => ⟨(h.2.2.2 y hy).1, by have := (h.2.2.2 y hy).2; omega⟩⟩
theorem hstfit_ok {x : Hst} (h : HstFit x) : HstOk x := ⟨h.1, fun y hy => celfit_ok (h.2.1 y hy), by have := h.2.2.1; omega, fun y hy => ⟨(h.2.2.2.1 y hy).1, celfit_ok (h.2.2.2.1 y hy).2.1, (h.2.2.2.1 y hy).2.2⟩, by have := h.2.2.2.2; omega⟩
theorem matfit_mi {w : Nat} {M : List (List Int)} (h : MatFit w M) : MI M.length w 4000 M := ⟨rfl, fun r hr => ⟨(h.row r hr).1, fun x hx => fits_of ((h.row r hr).2 x hx)⟩⟩
theorem cutP {A G : Prop} (h : A → G) (k : A) : G := h k
theorem slice_eq {l : List Int} {k i : Nat} {E : List Int} (h : sg2 l k i = E) : ((bw l).drop k).take (i - k) = bw E := by
  rw [bw_drop, bw_take]; unfold sg2 at h; rw [h]
set_option maxHeartbeats 32000000 in
set_option maxRecDepth 20000 in
theorem wuniq_s {l : List Int} {a : Int} (hl : U8s l) (ha : I64 a) : Spec Try.prog 6 [.im (bw l) l.length, .sc (.int .i64 a)] (.sc (.bool true)) := by
  have c0 := sanity_s
  have c1 := small_s l a
  by_cases hs : (decide (l.length ≤ 200) && (decide (-2 ≤ a) && decide (a ≤ 220))) = true
  · rw [hs] at c1
    have h200 : l.length ≤ 200 := by
      rw [Bool.and_eq_true, decide_eq_true_eq] at hs
      exact hs.1
    clear hs
    have c2 := GetInt_s l l.length a hl (znb _) (by omega)
    have c3 := GetMat_s l l.length a hl (znb _) (by omega)
    have c4 := GetCert_s l l.length a hl (znb _) (by omega)
    have c5 := GetHistory_s l l.length a hl (znb _) (by omega)
    by_cases h0 : a < 0
    · have q1 : decide (a < 0) = true := decide_eq_true h0
      have e2 : getI l l.length a = (0, 0, 1) := by unfold getI; rw [if_pos (.inl h0)]
      have e3 : gotM l l.length a = (noM, 0, 1) := by unfold gotM; rw [if_pos (.inl h0)]
      have e4 : gotC l l.length a = (noC, 0, 1) := by unfold gotC; rw [if_pos (.inl h0)]
      have e5 : getH l l.length a = (noH, 0, 1) := by unfold getH; rw [if_pos (.inl h0)]
      have z1 : ((1 : Nat) : Int) = 1 := rfl
      have z0 : ((0 : Nat) : Int) = 0 := rfl
      rw [e2] at c2
      rw [e3] at c3
      rw [e4] at c4
      rw [e5] at c5
      unfold tuI iv at c2
      unfold sv at c2
      unfold tuM mat at c3
      unfold tuC crtC at c4
      unfold tuH hstC at c5
      simp only [z0, z1] at c2 c3 c4 c5
      refine Spec.run Try.func6 rfl Try.ntmps6 (by simp) (by simp (disch := omega) only [go_sem, zn4]; rfl) fun B hB => ?_
      (repeat (first | refine DO.nil (by kernel_rfl) ?_ | (with_reducible refine oz (by constructor <;> decide) ?_) | ((first | apply SO.call | apply DO.call); (iterate 3 (focus (simp (disch := omega) only [go_sem, ↓reduceIte, zn1] <;> rfl))); (first | apply SCall.ofX | apply DCall.ofX); assumption; (focus (simp (disch := omega) only [go_sem] <;> rfl))) | ((with_reducible first | apply wa | apply wb | apply wc | apply wd); (focus (simp (disch := omega) only [go_sem, ↓reduceIte, zn1, zn3, zn4, reduceCtorEq, q1, beq_self_eq_true] <;> rfl)); (first | refine pT ?_ | refine pF ?_ | fail_if_success with_reducible refine pA ?_)) | ((with_reducible refine SC.draw Tab.mixed ?_ ?_); rfl) | (with_reducible apply SC.ops)))
      exact retQ_ret Try.results6 rfl rfl rfl
    · have q1 : decide (a < 0) = false := decide_eq_false h0
      obtain ⟨k, rfl⟩ : ∃ k : Nat, a = k := ⟨a.toNat, by omega⟩
      have gll := bw_len l
      obtain ⟨z, i1, e1, r1, f1⟩ := getI_ok hl k
      obtain ⟨w, M, i2, e2, r2, f2⟩ := gotM_ok hl k
      obtain ⟨ct, i3, e3, r3, f3⟩ := gotC_ok hl k
      obtain ⟨hh, i4, e4, r4, f4⟩ := getH_ok hl k
      rw [r1] at c2
      rw [r2] at c3
      rw [r3] at c4
      rw [r4] at c5
      have x0 : ((k : Int)).toNat = k := rfl
      have x1 : ((i1 : Int)).toNat = i1 := rfl
      have x2 : ((i2 : Int)).toNat = i2 := rfl
      have x3 : ((i3 : Int)).toNat = i3 := rfl
      have x4 : ((i4 : Int)).toNat = i4 := rfl
      unfold tuI at c2
      unfold tuM at c3
      unfold tuC at c4
      unfold tuH at c5
      simp only at c2 c3 c4 c5
      clear r1 r2 r3 r4
      have H1 : (((e1 : Int) == 0) = true ∧ k < i1 ∧ i1 ≤ l.length ∧ decide ((i1 : Int) < (k : Int)) = false ∧ decide ((i1 : Int) > (l.length : Int)) = false ∧ i1 - k = (int_ z).length ∧ ((bw l).drop k).take (int_ z).length = bw (int_ z) ∧ Spec Try.prog 28 [iv z] (.sc (.bool true)) ∧ Spec Try.prog 10 [.im [] 0, iv z] (.im (bw (int_ z)) (int_ z).length) ∧ Spec Try.prog 12 [.im (bw (int_ z)) (int_ z).length, .im (bw (int_ z)) (int_ z).length] (.sc (.bool true))) ∨ (((e1 : Int) == 0) = false ∧ (2 : Nat) + 2 = 4 ∧ (2 : Nat) + 2 = 4 ∧ (2 : Nat) + 2 = 4 ∧ (2 : Nat) + 2 = 4 ∧ (2 : Nat) + 2 = 4 ∧ (2 : Nat) + 2 = 4 ∧ (2 : Nat) + 2 = 4 ∧ (2 : Nat) + 2 = 4 ∧ (2 : Nat) + 2 = 4) := by
        by_cases he : e1 = 0
        · obtain ⟨p1, p2, p3, p4⟩ := f1 he
          have hlen := sg2_len (p := k) p2
          rw [p3] at hlen
          have hsl := slice_eq p3
          rw [← hlen] at hsl
          have hput := PutInt_s (b := []) z (by simp) (by omega)
          exact .inl ⟨by rw [he]; rfl, p1, p2, by rw [decide_eq_false_iff_not]; omega, by rw [decide_eq_false_iff_not]; omega, hlen.symm, hsl, rvalid_i z 4000 (fits_of p4) (by omega), hput, same_s _⟩
        · exact .inr ⟨(by rw [beq_eq_false_iff_ne]; omega), rfl, rfl, rfl, rfl, rfl, rfl, rfl, rfl, rfl⟩
      have H2 : (((e2 : Int) == 0) = true ∧ k < i2 ∧ i2 ≤ l.length ∧ decide ((i2 : Int) < (k : Int)) = false ∧ decide ((i2 : Int) > (l.length : Int)) = false ∧ i2 - k = (mat_ w M).length ∧ ((bw l).drop k).take (mat_ w M).length = bw (mat_ w M) ∧ Spec Try.prog 29 [mat w M] (.sc (.bool true)) ∧ Spec Try.prog 11 [.im [] 0, mat w M] (.im (bw (mat_ w M)) (mat_ w M).length) ∧ Spec Try.prog 12 [.im (bw (mat_ w M)) (mat_ w M).length, .im (bw (mat_ w M)) (mat_ w M).length] (.sc (.bool true))) ∨ (((e2 : Int) == 0) = false ∧ (2 : Nat) + 2 = 4 ∧ (2 : Nat) + 2 = 4 ∧ (2 : Nat) + 2 = 4 ∧ (2 : Nat) + 2 = 4 ∧ (2 : Nat) + 2 = 4 ∧ (2 : Nat) + 2 = 4 ∧ (2 : Nat) + 2 = 4 ∧ (2 : Nat) + 2 = 4 ∧ (2 : Nat) + 2 = 4) := by
        by_cases he : e2 = 0
        · obtain ⟨p1, p2, p3, p4⟩ := f2 he
          have hlen := sg2_len (p := k) p2
          rw [p3] at hlen
          have hsl := slice_eq p3
          rw [← hlen] at hsl
          have hput := PutMat_s (b := []) (matfit_ok p4) (by simp; omega)
          exact .inl ⟨by rw [he]; rfl, p1, p2, by rw [decide_eq_false_iff_not]; omega, by rw [decide_eq_false_iff_not]; omega, hlen.symm, hsl, iValid_s (matfit_mi p4) (by omega) (by have := p4.len; omega) (by have := p4.wid; omega), hput, same_s _⟩
        · exact .inr ⟨(by rw [beq_eq_false_iff_ne]; omega), rfl, rfl, rfl, rfl, rfl, rfl, rfl, rfl, rfl⟩
      have H3 : (((e3 : Int) == 0) = true ∧ k < i3 ∧ i3 ≤ l.length ∧ decide ((i3 : Int) < (k : Int)) = false ∧ decide ((i3 : Int) > (l.length : Int)) = false ∧ i3 - k = (crt_ ct).length ∧ ((bw l).drop k).take (crt_ ct).length = bw (crt_ ct) ∧ Spec Try.prog 30 [.im [] 0, crtC ct] (.im (bw (crt_ ct)) (crt_ ct).length) ∧ Spec Try.prog 12 [.im (bw (crt_ ct)) (crt_ ct).length, .im (bw (crt_ ct)) (crt_ ct).length] (.sc (.bool true))) ∨ (((e3 : Int) == 0) = false ∧ (2 : Nat) + 2 = 4 ∧ (2 : Nat) + 2 = 4 ∧ (2 : Nat) + 2 = 4 ∧ (2 : Nat) + 2 = 4 ∧ (2 : Nat) + 2 = 4 ∧ (2 : Nat) + 2 = 4 ∧ (2 : Nat) + 2 = 4 ∧ (2 : Nat) + 2 = 4) := by
        by_cases he : e3 = 0
        · obtain ⟨p1, p2, p3, p4⟩ := f3 he
          have hlen := sg2_len (p := k) p2
          rw [p3] at hlen
          have hsl := slice_eq p3
          rw [← hlen] at hsl
          have hput := PutCert_s (b := []) p4 (by simp; omega)
          exact .inl ⟨by rw [he]; rfl, p1, p2, by rw [decide_eq_false_iff_not]; omega, by rw [decide_eq_false_iff_not]; omega, hlen.symm, hsl, hput, same_s _⟩
        · exact .inr ⟨(by rw [beq_eq_false_iff_ne]; omega), rfl, rfl, rfl, rfl, rfl, rfl, rfl, rfl⟩
      have H4 : (((e4 : Int) != 0) = false ∧ k < i4 ∧ i4 ≤ l.length ∧ decide ((i4 : Int) ≥ (k : Int)) = true ∧ decide ((i4 : Int) ≤ (l.length : Int)) = true ∧ decide ((k : Int) ≤ (i4 : Int)) = true ∧ i4 - k = (hst_ hh).length ∧ ((bw l).drop k).take (hst_ hh).length = bw (hst_ hh) ∧ Spec Try.prog 20 [.im [] 0, hstC hh] (.im (bw (hst_ hh)) (hst_ hh).length) ∧ Spec Try.prog 12 [.im (bw (hst_ hh)) (hst_ hh).length, .im (bw (hst_ hh)) (hst_ hh).length] (.sc (.bool true))) ∨ (((e4 : Int) != 0) = true ∧ (2 : Nat) + 2 = 4 ∧ (2 : Nat) + 2 = 4 ∧ (2 : Nat) + 2 = 4 ∧ (2 : Nat) + 2 = 4 ∧ (2 : Nat) + 2 = 4 ∧ (2 : Nat) + 2 = 4 ∧ (2 : Nat) + 2 = 4 ∧ (2 : Nat) + 2 = 4 ∧ (2 : Nat) + 2 = 4) := by
        by_cases he : e4 = 0
        · obtain ⟨p1, p2, p3, p4⟩ := f4 he
          have hlen := sg2_len (p := k) p2
          rw [p3] at hlen
          have hsl := slice_eq p3
          rw [← hlen] at hsl
          have hput := PutHistory_s (b := []) (hstfit_ok p4) (by simp; omega)
          exact .inl ⟨by rw [he]; rfl, p1, p2, by rw [decide_eq_true_iff]; omega, by rw [decide_eq_true_iff]; omega, by rw [decide_eq_true_iff]; omega, hlen.symm, hsl, hput, same_s _⟩
        · exact .inr ⟨(by rw [bne_iff_ne]; omega), rfl, rfl, rfl, rfl, rfl, rfl, rfl, rfl, rfl⟩
      clear f1 f2 f3 f4
      generalize bw (int_ z) = E1 at *
      generalize (int_ z).length = N1 at *
      generalize bw (mat_ w M) = E2 at *
      generalize (mat_ w M).length = N2 at *
      generalize bw (crt_ ct) = E3 at *
      generalize (crt_ ct).length = N3 at *
      generalize bw (hst_ hh) = E4 at *
      generalize (hst_ hh).length = N4 at *
      unfold iv at c2 H1
      unfold sv at c2 H1
      unfold mat at c3 H2
      unfold crtC at c4 H3
      unfold hstC at c5 H4
      have G1 := fun _ : Unit => H1
      have G2 := fun _ : Unit => H2
      have G3 := fun _ : Unit => H3
      have G4 := fun _ : Unit => H4
      clear H1 H2 H3 H4 h200 ha hl h0
      refine Spec.run Try.func6 rfl Try.ntmps6 (by simp) (by simp (disch := omega) only [go_sem, zn4]; rfl) fun B hB => ?_
      (repeat (first | refine DO.nil (by kernel_rfl) ?_ | (with_reducible refine oz (by constructor <;> decide) ?_) | ((first | apply SO.call | apply DO.call); (iterate 3 (focus (simp (disch := omega) only [go_sem, ↓reduceIte, zn1] <;> rfl))); (first | apply SCall.ofX | apply DCall.ofX); assumption; (focus (simp (disch := omega) only [go_sem] <;> rfl))) | ((with_reducible first | apply wa | apply wb | apply wc | apply wd); (focus (simp (disch := omega) only [go_sem, ↓reduceIte, zn1, zn3, zn4, reduceCtorEq, q1] <;> rfl)); (first | refine pT ?_ | refine pF ?_ | fail_if_success with_reducible refine pA ?_)) | ((with_reducible refine SC.draw Tab.mixed ?_ ?_); rfl) | (with_reducible apply SC.ops)))
      apply cutP
      · intro N1
        rcases G1 () with ⟨u1, u2, u3, u4, u5, u6, u7, d1, d2, d3⟩ | ⟨u1, u2, u3, u4, u5, u6, u7, d1, d2, d3⟩
        all_goals
          (repeat (first | refine DO.nil (by kernel_rfl) ?_ | (with_reducible refine oz (by constructor <;> decide) ?_) | ((first | apply SO.call | apply DO.call); (iterate 3 (focus (simp (disch := omega) only [go_sem, ↓reduceIte, zn1] <;> rfl))); (first | apply SCall.ofX | apply DCall.ofX); assumption; (focus (simp (disch := omega) only [go_sem] <;> rfl))) | ((with_reducible first | apply wa | apply wb | apply wc | apply wd); (focus (simp (disch := omega) only [go_sem, ↓reduceIte, zn1, zn3, zn4, reduceCtorEq, if_pos, u1, u4, u5, u6, u7, x0, x1, zn8] <;> rfl)); (first | refine pT ?_ | refine pF ?_ | fail_if_success with_reducible refine pA ?_)) | (with_reducible apply SC.ops)))
        all_goals refine SC.weak (s' := ⟨[(0, .im (bw l) l.length), (1, .sc (.int .i64 k)), (5, .sc (.bool true)), (9, .pt 1 0), (10, .sc (.int .i64 i2)), (11, .sc (.int .i64 e2)), (12, .pt 2 0), (13, .sc (.int .i64 i3)), (14, .sc (.int .i64 e3)), (15, .pt 3 0), (16, .sc (.int .i64 i4)), (17, .sc (.int .i64 e4))], [(1, ⟨35, [.sc (.int .i64 M.length), .sc (.int .i64 w), .im (imR w (rI M)) M.length], false⟩), (2, ⟨77, [.sc (.int .i64 ct.kind), .sc (.bool (decide (ct.n < 0))), .im (lv (limbsOf ct.n.natAbs)) (limbsOf ct.n.natAbs).length, .sc (.int .u64 ct.p), .im (its ct.rows) ct.rows.length, .im (its ct.cols) ct.cols.length, .im (mts ct.M) ct.M.length, .im (ivs ct.X) ct.X.length, .im (rts ct.Y) ct.Y.length, .sc (.bool ct.found)], false⟩), (3, ⟨52, [.sc (.int .i64 hh.start), .im (cels hh.base) hh.base.length, .im (chgs hh.log) hh.log.length], false⟩)], 4, 175⟩) (by simp) ?_ N1
        all_goals (refine Le.slots ?_ ?_ ?_ <;> (repeat' (first | (exact fun _ _ h => h) | exact znb _ | exact leSl_nil | refine leSl_cons (by simp (disch := omega) only [go_sem, ↓reduceIte, zn1, reduceCtorEq] <;> rfl) ?_ ?_ | exact VLe.junk _ | exact VLe.refl rfl | exact VLe.nil_sl _ _ _ | exact VLe.int (by first | rfl | omega | (dsimp only; omega)) | exact VLe.bool rfl | exact VLe.sl rfl (by first | rfl | omega) | exact VLe.cap rfl (by first | rfl | omega) | exact VLe.im rfl rfl | omega | (refine fun id k h => ?_; simp only [hget] at h ⊢; (repeat' (split at h)) <;> first | (cases h; done) | (simp (disch := omega) only [if_pos, if_neg]; exact h)))))
      clear G1
      apply cutP
      · intro N2
        rcases G2 () with ⟨v1, v2, v3, v4, v5, v6, v7, d4, d5, d6⟩ | ⟨v1, v2, v3, v4, v5, v6, v7, d4, d5, d6⟩
        all_goals (refine SC.draw Tab.mixed rfl ?_)
        all_goals
          (repeat (first | refine DO.nil (by kernel_rfl) ?_ | (with_reducible refine oz (by constructor <;> decide) ?_) | ((first | apply SO.call | apply DO.call); (iterate 3 (focus (simp (disch := omega) only [go_sem, ↓reduceIte, zn1] <;> rfl))); (first | apply SCall.ofX | apply DCall.ofX); assumption; (focus (simp (disch := omega) only [go_sem] <;> rfl))) | ((with_reducible first | apply wa | apply wb | apply wc | apply wd); (focus (simp (disch := omega) only [go_sem, ↓reduceIte, zn1, zn3, zn4, reduceCtorEq, if_pos, v1, v4, v5, v6, v7, x0, x2, zn8] <;> rfl)); (first | refine pT ?_ | refine pF ?_ | fail_if_success with_reducible refine pA ?_)) | (with_reducible apply SC.ops)))
        all_goals refine SC.weak (s' := ⟨[(0, .im (bw l) l.length), (1, .sc (.int .i64 k)), (5, .sc (.bool true)), (12, .pt 2 0), (13, .sc (.int .i64 i3)), (14, .sc (.int .i64 e3)), (15, .pt 3 0), (16, .sc (.int .i64 i4)), (17, .sc (.int .i64 e4))], [(2, ⟨77, [.sc (.int .i64 ct.kind), .sc (.bool (decide (ct.n < 0))), .im (lv (limbsOf ct.n.natAbs)) (limbsOf ct.n.natAbs).length, .sc (.int .u64 ct.p), .im (its ct.rows) ct.rows.length, .im (its ct.cols) ct.cols.length, .im (mts ct.M) ct.M.length, .im (ivs ct.X) ct.X.length, .im (rts ct.Y) ct.Y.length, .sc (.bool ct.found)], false⟩), (3, ⟨52, [.sc (.int .i64 hh.start), .im (cels hh.base) hh.base.length, .im (chgs hh.log) hh.log.length], false⟩)], 4, 175⟩) (by simp) ?_ N2
        all_goals (refine Le.slots ?_ ?_ ?_ <;> (repeat' (first | (exact fun _ _ h => h) | exact znb _ | exact leSl_nil | refine leSl_cons (by simp (disch := omega) only [go_sem, ↓reduceIte, zn1, reduceCtorEq] <;> rfl) ?_ ?_ | exact VLe.junk _ | exact VLe.refl rfl | exact VLe.nil_sl _ _ _ | exact VLe.int (by first | rfl | omega | (dsimp only; omega)) | exact VLe.bool rfl | exact VLe.sl rfl (by first | rfl | omega) | exact VLe.cap rfl (by first | rfl | omega) | exact VLe.im rfl rfl | omega | (refine fun id k h => ?_; simp only [hget] at h ⊢; (repeat' (split at h)) <;> first | (cases h; done) | (simp (disch := omega) only [if_pos, if_neg]; exact h)))))
      clear G2
      apply cutP
      · intro N3
        rcases G3 () with ⟨w1, w2, w3, w4, w5, w6, w7, d7, d8⟩ | ⟨w1, w2, w3, w4, w5, w6, w7, d7, d8⟩
        all_goals (refine SC.draw Tab.mixed rfl ?_)
        all_goals
          (repeat (first | refine DO.nil (by kernel_rfl) ?_ | (with_reducible refine oz (by constructor <;> decide) ?_) | ((first | apply SO.call | apply DO.call); (iterate 3 (focus (simp (disch := omega) only [go_sem, ↓reduceIte, zn1] <;> rfl))); (first | apply SCall.ofX | apply DCall.ofX); assumption; (focus (simp (disch := omega) only [go_sem] <;> rfl))) | ((with_reducible first | apply wa | apply wb | apply wc | apply wd); (focus (simp (disch := omega) only [go_sem, ↓reduceIte, zn1, zn3, zn4, reduceCtorEq, if_pos, w1, w4, w5, w6, w7, x0, x3, zn8] <;> rfl)); (first | refine pT ?_ | refine pF ?_ | fail_if_success with_reducible refine pA ?_)) | (with_reducible apply SC.ops)))
        all_goals refine SC.weak (s' := ⟨[(0, .im (bw l) l.length), (1, .sc (.int .i64 k)), (5, .sc (.bool true)), (15, .pt 3 0), (16, .sc (.int .i64 i4)), (17, .sc (.int .i64 e4))], [(3, ⟨52, [.sc (.int .i64 hh.start), .im (cels hh.base) hh.base.length, .im (chgs hh.log) hh.log.length], false⟩)], 4, 175⟩) (by simp) ?_ N3
        all_goals (refine Le.slots ?_ ?_ ?_ <;> (repeat' (first | (exact fun _ _ h => h) | exact znb _ | exact leSl_nil | refine leSl_cons (by simp (disch := omega) only [go_sem, ↓reduceIte, zn1, reduceCtorEq] <;> rfl) ?_ ?_ | exact VLe.junk _ | exact VLe.refl rfl | exact VLe.nil_sl _ _ _ | exact VLe.int (by first | rfl | omega | (dsimp only; omega)) | exact VLe.bool rfl | exact VLe.sl rfl (by first | rfl | omega) | exact VLe.cap rfl (by first | rfl | omega) | exact VLe.im rfl rfl | omega | (refine fun id k h => ?_; simp only [hget] at h ⊢; (repeat' (split at h)) <;> first | (cases h; done) | (simp (disch := omega) only [if_pos, if_neg]; exact h)))))
      clear G3
      rcases G4 () with ⟨y1, y2, y3, y4, y5, y6, y7, y8, d9, d0⟩ | ⟨y1, y2, y3, y4, y5, y6, y7, y8, d9, d0⟩
      all_goals
        (repeat (first | refine DO.nil (by kernel_rfl) ?_ | (with_reducible refine oz (by constructor <;> decide) ?_) | ((first | apply SO.call | apply DO.call); (iterate 3 (focus (simp (disch := omega) only [go_sem, ↓reduceIte, zn1] <;> rfl))); (first | apply SCall.ofX | apply DCall.ofX); assumption; (focus (simp (disch := omega) only [go_sem] <;> rfl))) | ((with_reducible first | apply wa | apply wb | apply wc | apply wd); (focus (simp (disch := omega) only [go_sem, ↓reduceIte, zn1, zn2, zn3, zn4, reduceCtorEq, if_pos, y1, y4, y5, y7, y8, x0, x4, zn8] <;> rfl)); (first | refine pT ?_ | refine pF ?_ | fail_if_success with_reducible refine pA ?_)) | ((with_reducible refine SC.draw Tab.mixed ?_ ?_); rfl) | (with_reducible apply SC.ops)))
      all_goals exact retQ_ret Try.results6 rfl rfl rfl
  · have hs2 : (decide (l.length ≤ 200) && (decide (-2 ≤ a) && decide (a ≤ 220))) = false := by simpa using hs
    rw [hs2] at c1
    refine Spec.run Try.func6 rfl Try.ntmps6 (by simp) (by simp (disch := omega) only [go_sem, zn4]; rfl) fun B hB => ?_
    (repeat (first | refine DO.nil (by kernel_rfl) ?_ | (with_reducible refine oz (by constructor <;> decide) ?_) | ((first | apply SO.call | apply DO.call); (iterate 3 (focus (simp (disch := omega) only [go_sem, ↓reduceIte, zn1] <;> rfl))); (first | apply SCall.ofX | apply DCall.ofX); assumption; (focus (simp (disch := omega) only [go_sem] <;> rfl))) | ((with_reducible first | apply wa | apply wb | apply wc | apply wd); (focus (simp (disch := omega) only [go_sem, ↓reduceIte, zn1, reduceCtorEq] <;> rfl)); (first | refine pT ?_ | refine pF ?_ | fail_if_success with_reducible refine pA ?_)) | ((with_reducible refine SC.draw Tab.mixed ?_ ?_); rfl) | (with_reducible apply SC.ops)))
    exact retQ_ret Try.results6 rfl rfl rfl
end Go.Proofs.Ytphilljhfdlfdaa
