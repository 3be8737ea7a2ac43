/- Texts joined: Fa Fb Fc Fd Fe Ff Fg Fj Fk Fl Fm Fn Fo. -/
import Derived.Test.YtphilljhfdlfdaaGreatZe
import Derived.Test.YtphilljhfdlfdaaGreatZf
import Derived.Test.YtphilljhfdlfdaaGreatZh
import Derived.Test.YtphilljhfdlfdaaGreatZi
import Derived.Test.YtphilljhfdlfdaaGreatZj
set_option linter.all false
open Nat renaming reduceEqDiff → zn1, reduceLT → zn2, reduceLeDiff → zn3, reduceAdd → zn4, reduceMul → zn5, reduceSub → zn6, reduceBEq → zn7, mul_one → zn8, zero_add → zn9, one_mul → zna, le_refl → znb, zero_le → znc, add_sub_cancel_left → znd, sub_eq_zero_of_le → zne, add_assoc → znf
open Int renaming reduceToNat → zi1, reducePow → zi2
open List renaming length_append → zl1, drop_zero → zl2, take_succ_cons → zl3, take_zero → zl4, getElem?_drop → zl5, append_assoc → zl6, nil_append → zl7, cons_append → zl8, drop_succ_cons → zl9, take_of_length_le → zla, getElem?_eq_getElem → zlb, getElem?_eq_some_iff → zlc, map_cons → zld, map_nil → zle, all_eq_true → zlf
namespace Go.Proofs.YtphilljhfdlfdaaGreat
open Go.RowKit
def rtC (x : Int × Int) : List V := [.sc (.bool (decide (x.1 < 0))), .im (lv (limbsOf x.1.natAbs)) (limbsOf x.1.natAbs).length, .sc (.bool (decide (x.2 < 0))), .im (lv (limbsOf x.2.natAbs)) (limbsOf x.2.natAbs).length]
def rat_ (x : Int × Int) : List Int := int_ x.1 ++ int_ x.2
def ratV (x : Int × Int) : Bool := decide (0 < x.2) && decide (Int.gcd x.1 x.2 = 1)
set_option maxHeartbeats 4000000 in
theorem prvalid_s (x : Int × Int) (K : Nat) (hn : Fits K x.1) (hd : Fits K x.2) (hK : K ≤ 100000000) : Spec Tryz.prog 75 [.ag (rtC x)] (.sc (.bool (ratV x))) := by
  obtain ⟨n, d⟩ := x
  simp only at hn hd
  have c1 := pvalid_i n K hn (by omega)
  have c2 := pvalid_i d K hd (by omega)
  have c3 := psign_i d K hd (by omega)
  have c4 := pgcd_i n d K hn hd hK
  have c5 := pof_i 1 (by decide) (by decide)
  unfold rtC ratV
  simp only
  by_cases h0 : 0 < d
  · have q1 : decide (d.sign ≤ 0) = false := by rw [Int.sign_eq_one_of_pos h0]; rfl
    have hg : Int.gcd n d ≤ d.natAbs := Nat.le_of_dvd (by omega) (Int.gcd_dvd_natAbs_right n d)
    have hgf : Fits K ((Int.gcd n d : Nat) : Int) := by unfold Fits at *; rw [Int.natAbs_natCast]; omega
    have h1f : Fits (K + 1) (1 : Int) := by
      unfold Fits
      rw [Nat.pow_succ]
      have : 0 < 4294967296 ^ K := Nat.pow_pos (by omega)
      show 1 < _
      generalize 4294967296 ^ K = T at *
      omega
    have c6 := pcmp_i ((Int.gcd n d : Nat) : Int) 1 (K + 1) (hgf.mono (by omega)) h1f (by omega)
    have q2 : ((((Int.gcd n d : Nat) : Int) - 1).sign == 0) = (decide (0 < d) && decide (Int.gcd n d = 1)) := by
      rw [decide_eq_true h0, Bool.true_and, Bool.eq_iff_iff, beq_iff_eq, decide_eq_true_iff, Int.sign_eq_zero_iff_zero]
      omega
    generalize (decide (0 < d) && decide (Int.gcd n d = 1)) = R at *
    generalize Int.gcd n d = g at *
    unfold iv at c1 c2 c3 c4 c5 c6
    unfold sv at c1 c2 c3 c4 c5 c6
    refine Spec.run Tryz.func75 rfl Tryz.ntmps75 (by simp) (by simp only [go_sem]; rfl) fun B hB => ?_
    (repeat (first | (with_reducible refine oz (by constructor <;> decide) ?_) | ((apply SO.call); (iterate 3 (simp (disch := omega) only [go_sem, ↓reduceIte, zn1] <;> rfl)); (apply SCall.ofX); (assumption); (simp (disch := omega) only [go_sem] <;> rfl)) | ((with_reducible first | apply SC.condB | apply SC.region | apply SO.run); (simp (disch := omega) only [go_sem, ↓reduceIte, zn1, zn2, zn3, zn4, reduceCtorEq, q1, q2] <;> rfl); (first | refine pickF ?_ | fail_if_success with_reducible refine pickA ?_)) | (with_reducible apply SC.ops)))
    exact retQ_ret Tryz.results75 (by simp (disch := omega) only [go_sem, ↓reduceIte] <;> rfl) rfl rfl
  · have q1 : decide (d.sign ≤ 0) = true := by
      rw [decide_eq_true_iff]
      rcases Int.lt_or_eq_of_le (Int.not_lt.1 h0) with h | h
      · rw [Int.sign_eq_neg_one_of_neg h]; decide
      · rw [h]; decide
    rw [decide_eq_false h0, Bool.false_and]
    unfold iv at c1 c2 c3
    unfold sv at c1 c2 c3
    clear c4 c5
    refine Spec.run Tryz.func75 rfl Tryz.ntmps75 (by simp) (by simp only [go_sem]; rfl) fun B hB => ?_
    (repeat (first | (with_reducible refine oz (by constructor <;> decide) ?_) | ((apply SO.call); (iterate 3 (simp (disch := omega) only [go_sem, ↓reduceIte, zn1] <;> rfl)); (apply SCall.ofX); (assumption); (simp (disch := omega) only [go_sem] <;> rfl)) | ((with_reducible first | apply SC.condB | apply SC.region | apply SO.run); (simp (disch := omega) only [go_sem, ↓reduceIte, zn1, zn3, zn4, reduceCtorEq, q1] <;> rfl); (first | refine pickT ?_ | fail_if_success with_reducible refine pickA ?_)) | (with_reducible apply SC.ops)))
    exact retQ_ret Tryz.results75 (by simp only [go_sem, ↓reduceIte] <;> rfl) rfl rfl
theorem fits_z (K : Nat) : Fits K 0 := by unfold Fits; exact Nat.pow_pos (by omega)
theorem int_fit {b : List Int} {n : Nat} {s : Rd} (hu : U8s b) : Fits 4000 (s.int b n).1 := by
  unfold Rd.int
  generalize s.number b n = r
  obtain ⟨u, s1⟩ := r
  simp only
  by_cases h4 : u / 2 > 4000
  · have f2 := fail_ne2 s1 (e := 2) (by omega)
    simp only [if_pos h4, f2, false_and, if_false]
    exact fits_z _
  · simp only [if_neg h4]
    have hv : ∀ (a K : Nat), K = 4000 → Fits K (sgn (u % 2 == 1) (val (lims b a (u / 2)))) := fun a K hK => by
      unfold Fits
      rw [sgn_natAbs]
      have h := val_lt (lims_limbs hu a (u / 2))
      rw [lims_len] at h
      exact Nat.lt_of_lt_of_le h (Nat.pow_le_pow_right (by omega) (by omega))
    repeat' split
    all_goals first | exact hv _ _ rfl | exact fits_z _
def Rd.rat (b : List Int) (n : Nat) (s : Rd) : (Int × Int) × Rd :=
  if ((s.int b n).2.int b n).2.e = 0 then
    if ratV ((s.int b n).1, ((s.int b n).2.int b n).1) = true then (((s.int b n).1, ((s.int b n).2.int b n).1), ((s.int b n).2.int b n).2) else ((0, 0), ((s.int b n).2.int b n).2.fail 4)
  else ((0, 0), ((s.int b n).2.int b n).2)
theorem rat_at {b : List Int} {n : Nat} {s : Rd} (h : s.at_ ≤ n) : (s.rat b n).2.at_ ≤ n := by
  have h2 := int_at (b := b) (int_at (b := b) h)
  unfold Rd.rat
  generalize (s.int b n).2.int b n = r at *
  repeat' split
  · exact h2
  · show (r.2.fail 4).at_ ≤ n
    rw [fail_at]; exact h2
  · exact h2
theorem rt_only (x : Int × Int) : Only (fun _ => False) (.ag (rtC x)) := by
  refine .ag fun y hy => ?_
  simp only [rtC, List.mem_cons, List.not_mem_nil, or_false] at hy
  rcases hy with rfl | rfl | rfl | rfl
  · exact .sc _
  · exact .im _ _
  · exact .sc _
  · exact .im _ _
set_option maxHeartbeats 4000000 in
theorem rrat_s (b : List Int) (n : Nat) (s : Rd) (hu : U8s b) (hn : n ≤ b.length) (hb : n ≤ 1000000000) (ha : s.at_ ≤ n) : RdQ Tryz.prog 64 [] (rdB b n s) (rdB b n (s.rat b n).2) (.ag (rtC (s.rat b n).1)) := by
  refine ⟨rt_only _, rdB_clo _ _ _, fun k nx hk => ?_⟩
  refine InlQ.run Tryz.func64 rfl Tryz.ntmps64 (by simp) (by simp only [go_sem]; rfl) fun B hB => ?_
  have c1 := rint_s b n s hu hn hb ha
  have c2 := rint_s b n (s.int b n).2 hu hn hb (int_at ha)
  have f1 := int_fit (b := b) (n := n) (s := s) hu
  have f2 := int_fit (b := b) (n := n) (s := (s.int b n).2) hu
  unfold Rd.rat
  generalize s.int b n = r at *
  obtain ⟨x, s1⟩ := r
  simp only at c1 c2 f1 f2 ⊢
  generalize s1.int b n = r at *
  obtain ⟨y, s2⟩ := r
  simp only at c2 f2 ⊢
  have c3 := prvalid_s (x, y) 4000 f1 f2 (by omega)
  have c4 := fail_s b n s2 4
  have ho := rt_only (x, y)
  have ho0 := rt_only (0, 0)
  unfold rtC at *
  unfold iv at c1 c2
  unfold sv at c1 c2
  unfold rdB at *
  simp only at ho ho0 c3
  by_cases he : s2.e = 0
  · have q1 : ((s2.e : Int) != 0) = false := by rw [he]; rfl
    rw [if_pos he]
    by_cases hv : ratV (x, y) = true
    · rw [if_pos hv]
      rw [hv] at c3
      (repeat (first | (with_reducible refine oz (by constructor <;> decide) ?_) | ((with_reducible first | apply SC.region | apply SO.run); (simp only [go_sem, ↓reduceIte, reduceCtorEq] <;> rfl); (fail_if_success with_reducible refine pickA ?_)) | (with_reducible apply SC.ops)))
      (refine SO.inlQ (by simp (disch := omega) only [go_sem] <;> rfl) Tab.go46 (by simp (disch := omega) only [go_sem, ↓reduceIte] <;> rfl) (by simp (disch := omega) only [go_sem] <;> rfl) (SInlQ.rd (c1) (by simp (disch := omega) only [go_sem, ↓reduceIte, if_neg] <;> rfl) rfl (by (dsimp only; omega)) (by simp (disch := omega) only [go_sem, ↓reduceIte, if_neg] <;> rfl) ?_))
      (repeat (first | (with_reducible refine oz (by constructor <;> decide) ?_) | ((with_reducible first | apply SC.region | apply SO.run); (simp only [go_sem, ↓reduceIte, zn1, zn3, zn4, reduceCtorEq] <;> rfl); (fail_if_success with_reducible refine pickA ?_)) | (with_reducible apply SC.ops)))
      (refine SO.inlQ (by simp (disch := omega) only [go_sem] <;> rfl) Tab.go46 (by simp (disch := omega) only [go_sem, ↓reduceIte] <;> rfl) (by simp (disch := omega) only [go_sem] <;> rfl) (SInlQ.rd (c2) (by simp (disch := omega) only [go_sem, ↓reduceIte, if_neg] <;> rfl) rfl (by (dsimp only; omega)) (by simp (disch := omega) only [go_sem, ↓reduceIte, if_neg] <;> rfl) ?_))
      (repeat (first | (with_reducible refine oz (by constructor <;> decide) ?_) | ((apply SO.call); (iterate 3 (simp (disch := omega) only [go_sem, ↓reduceIte] <;> rfl)); (apply SCall.ofX); (assumption); (simp (disch := omega) only [go_sem] <;> rfl)) | ((with_reducible first | apply SC.condB | apply SC.region | apply SO.run); (simp (disch := omega) only [go_sem, ↓reduceIte, zn1, zn2, zn3, zn4, reduceCtorEq, if_neg, q1] <;> rfl); (first | refine pickF ?_ | fail_if_success with_reducible refine pickA ?_)) | (with_reducible apply SC.ops)))
      exact rd_ret hB hk ho rfl Tryz.results64 (by simp (disch := omega) only [go_sem, ↓reduceIte, zn1, zn3, zn4, if_neg] <;> rfl) (by simp (disch := omega) only [go_sem, ↓reduceIte, if_neg] <;> rfl)
    · rw [if_neg hv]
      have hv2 : ratV (x, y) = false := by simpa using hv
      rw [hv2] at c3
      (repeat (first | (with_reducible refine oz (by constructor <;> decide) ?_) | ((with_reducible first | apply SC.region | apply SO.run); (simp only [go_sem, ↓reduceIte, reduceCtorEq] <;> rfl); (fail_if_success with_reducible refine pickA ?_)) | (with_reducible apply SC.ops)))
      (refine SO.inlQ (by simp (disch := omega) only [go_sem] <;> rfl) Tab.go46 (by simp (disch := omega) only [go_sem, ↓reduceIte] <;> rfl) (by simp (disch := omega) only [go_sem] <;> rfl) (SInlQ.rd (c1) (by simp (disch := omega) only [go_sem, ↓reduceIte, if_neg] <;> rfl) rfl (by (dsimp only; omega)) (by simp (disch := omega) only [go_sem, ↓reduceIte, if_neg] <;> rfl) ?_))
      (repeat (first | (with_reducible refine oz (by constructor <;> decide) ?_) | ((with_reducible first | apply SC.region | apply SO.run); (simp only [go_sem, ↓reduceIte, zn1, zn3, zn4, reduceCtorEq] <;> rfl); (fail_if_success with_reducible refine pickA ?_)) | (with_reducible apply SC.ops)))
      (refine SO.inlQ (by simp (disch := omega) only [go_sem] <;> rfl) Tab.go46 (by simp (disch := omega) only [go_sem, ↓reduceIte] <;> rfl) (by simp (disch := omega) only [go_sem] <;> rfl) (SInlQ.rd (c2) (by simp (disch := omega) only [go_sem, ↓reduceIte, if_neg] <;> rfl) rfl (by (dsimp only; omega)) (by simp (disch := omega) only [go_sem, ↓reduceIte, if_neg] <;> rfl) ?_))
      (repeat (first | (with_reducible refine oz (by constructor <;> decide) ?_) | ((apply SO.call); (iterate 3 (simp (disch := omega) only [go_sem, ↓reduceIte, if_neg] <;> rfl)); (apply SCall.ofX); (assumption); (simp (disch := omega) only [go_sem] <;> rfl)) | ((with_reducible first | apply SC.condB | apply SC.region | apply SO.run); (simp (disch := omega) only [go_sem, ↓reduceIte, zn1, zn3, zn4, reduceCtorEq, if_neg, q1] <;> rfl); (first | refine pT ?_ | refine pF ?_ | fail_if_success with_reducible refine pA ?_)) | (with_reducible apply SC.ops)))
      (refine SO.inlQ (by simp (disch := omega) only [go_sem] <;> rfl) Tab.go66 (by simp (disch := omega) only [go_sem, ↓reduceIte] <;> rfl) (by simp (disch := omega) only [go_sem] <;> rfl) (SInlQ.rd (c4) (by simp (disch := omega) only [go_sem, ↓reduceIte, if_neg] <;> rfl) rfl (by (dsimp only; omega)) (by simp (disch := omega) only [go_sem, ↓reduceIte, if_neg] <;> rfl) ?_))
      (repeat (first | (with_reducible refine oz (by constructor <;> decide) ?_) | ((with_reducible apply SC.region); (simp (disch := omega) only [go_sem, ↓reduceIte, zn1, zn3, zn4, if_neg] <;> rfl); (fail_if_success with_reducible refine pickA ?_))))
      exact rd_retF hB hk Tryz.results64 (by simp (disch := omega) only [go_sem, ↓reduceIte, zn1, zn3, zn4, if_neg] <;> rfl) (by simp (disch := omega) only [go_sem, ↓reduceIte] <;> rfl) ho0 rfl (by simp (disch := omega) only [go_sem, ↓reduceIte, if_neg] <;> rfl)
  · have q1 : ((s2.e : Int) != 0) = true := by rw [bne_iff_ne]; omega
    rw [if_neg he]
    (repeat (first | (with_reducible refine oz (by constructor <;> decide) ?_) | ((with_reducible first | apply SC.region | apply SO.run); (simp only [go_sem, ↓reduceIte, reduceCtorEq] <;> rfl); (fail_if_success with_reducible refine pickA ?_)) | (with_reducible apply SC.ops)))
    (refine SO.inlQ (by simp (disch := omega) only [go_sem] <;> rfl) Tab.go46 (by simp (disch := omega) only [go_sem, ↓reduceIte] <;> rfl) (by simp (disch := omega) only [go_sem] <;> rfl) (SInlQ.rd (c1) (by simp (disch := omega) only [go_sem, ↓reduceIte, if_neg] <;> rfl) rfl (by (dsimp only; omega)) (by simp (disch := omega) only [go_sem, ↓reduceIte, if_neg] <;> rfl) ?_))
    (repeat (first | (with_reducible refine oz (by constructor <;> decide) ?_) | ((with_reducible first | apply SC.region | apply SO.run); (simp only [go_sem, ↓reduceIte, zn1, zn3, zn4, reduceCtorEq] <;> rfl); (fail_if_success with_reducible refine pickA ?_)) | (with_reducible apply SC.ops)))
    (refine SO.inlQ (by simp (disch := omega) only [go_sem] <;> rfl) Tab.go46 (by simp (disch := omega) only [go_sem, ↓reduceIte] <;> rfl) (by simp (disch := omega) only [go_sem] <;> rfl) (SInlQ.rd (c2) (by simp (disch := omega) only [go_sem, ↓reduceIte, if_neg] <;> rfl) rfl (by (dsimp only; omega)) (by simp (disch := omega) only [go_sem, ↓reduceIte, if_neg] <;> rfl) ?_))
    (repeat (first | (with_reducible refine oz (by constructor <;> decide) ?_) | ((with_reducible first | apply SC.condB | apply SC.region | apply SO.run); (simp (disch := omega) only [go_sem, ↓reduceIte, zn1, zn3, zn4, reduceCtorEq, if_neg, q1] <;> rfl); (first | refine pickT ?_ | fail_if_success with_reducible refine pickA ?_))))
    exact rd_retF hB hk Tryz.results64 (by simp (disch := omega) only [go_sem, ↓reduceIte, zn1, zn3, zn4, if_neg] <;> rfl) (by simp (disch := omega) only [go_sem, ↓reduceIte] <;> rfl) ho0 rfl (by simp (disch := omega) only [go_sem, ↓reduceIte, if_neg] <;> rfl)
def itC (x : Int) : List V := [.sc (.int .i64 x)]
def its (l : List Int) : List V := l.flatMap itC
theorem its_len (l : List Int) : (its l).length = l.length * 1 := by
  induction l with
  | nil => rfl
  | cons x r ih =>
    show (itC x ++ its r).length = _
    rw [zl1, ih]
    show 1 + r.length * 1 = (r.length + 1) * 1
    omega
theorem its_drop : ∀ (l : List Int) (i : Nat) (h : i < l.length), (its l).drop (i * 1) = itC l[i] ++ its (l.drop (i + 1))
  | x :: r, 0, _ => rfl
  | x :: r, i + 1, h => by
    have e : its (x :: r) = itC x ++ its r := rfl
    have e0 : (itC x).length = 1 := rfl
    have e2 : (i + 1) * 1 - 1 = i * 1 := by omega
    rw [e, List.drop_append, e0, e2, List.drop_of_length_le (by rw [e0]; omega), zl7, its_drop r i (by simpa using h)]
    rfl
theorem its_clo (l : List Int) : (its l).all clo = true := by
  rw [zlf]; intro y hy; obtain ⟨x, _, hx⟩ := List.mem_flatMap.1 hy
  simp only [itC, List.mem_cons, List.not_mem_nil, or_false] at hx
  rcases hx with rfl <;> rfl
theorem its_snoc (l : List Int) (x : Int) : its (l ++ [x]) = its l ++ itC x := by
  unfold its; simp only [List.flatMap_append, List.flatMap_cons, List.flatMap_nil, List.append_nil]
def ivC2 (z : Int) : List V := [.sc (.bool (decide (z < 0))), .im (lv (limbsOf z.natAbs)) (limbsOf z.natAbs).length]
def ivs (l : List Int) : List V := l.flatMap ivC2
theorem ivs_len (l : List Int) : (ivs l).length = l.length * 2 := by
  induction l with
  | nil => rfl
  | cons x r ih =>
    show (ivC2 x ++ ivs r).length = _
    rw [zl1, ih]
    show 2 + r.length * 2 = (r.length + 1) * 2
    omega
theorem ivs_drop : ∀ (l : List Int) (i : Nat) (h : i < l.length), (ivs l).drop (i * 2) = ivC2 l[i] ++ ivs (l.drop (i + 1))
  | x :: r, 0, _ => rfl
  | x :: r, i + 1, h => by
    have e : ivs (x :: r) = ivC2 x ++ ivs r := rfl
    have e0 : (ivC2 x).length = 2 := rfl
    have e2 : (i + 1) * 2 - 2 = i * 2 := by omega
    rw [e, List.drop_append, e0, e2, List.drop_of_length_le (by rw [e0]; omega), zl7, ivs_drop r i (by simpa using h)]
    rfl
theorem ivs_clo (l : List Int) : (ivs l).all clo = true := by
  rw [zlf]; intro y hy; obtain ⟨x, _, hx⟩ := List.mem_flatMap.1 hy
  simp only [ivC2, List.mem_cons, List.not_mem_nil, or_false] at hx
  rcases hx with rfl | rfl <;> rfl
theorem ivs_snoc (l : List Int) (x : Int) : ivs (l ++ [x]) = ivs l ++ ivC2 x := by
  unfold ivs; simp only [List.flatMap_append, List.flatMap_cons, List.flatMap_nil, List.append_nil]
def rts (l : List (Int × Int)) : List V := l.flatMap rtC
theorem rts_len (l : List (Int × Int)) : (rts l).length = l.length * 4 := by
  induction l with
  | nil => rfl
  | cons x r ih =>
    show (rtC x ++ rts r).length = _
    rw [zl1, ih]
    show 4 + r.length * 4 = (r.length + 1) * 4
    omega
theorem rts_drop : ∀ (l : List (Int × Int)) (i : Nat) (h : i < l.length), (rts l).drop (i * 4) = rtC l[i] ++ rts (l.drop (i + 1))
  | x :: r, 0, _ => rfl
  | x :: r, i + 1, h => by
    have e : rts (x :: r) = rtC x ++ rts r := rfl
    have e0 : (rtC x).length = 4 := rfl
    have e2 : (i + 1) * 4 - 4 = i * 4 := by omega
    rw [e, List.drop_append, e0, e2, List.drop_of_length_le (by rw [e0]; omega), zl7, rts_drop r i (by simpa using h)]
    rfl
theorem rts_clo (l : List (Int × Int)) : (rts l).all clo = true := by
  rw [zlf]; intro y hy; obtain ⟨x, _, hx⟩ := List.mem_flatMap.1 hy
  simp only [rtC, List.mem_cons, List.not_mem_nil, or_false] at hx
  rcases hx with rfl | rfl | rfl | rfl <;> rfl
theorem rts_snoc (l : List (Int × Int)) (x : (Int × Int)) : rts (l ++ [x]) = rts l ++ rtC x := by
  unfold rts; simp only [List.flatMap_append, List.flatMap_cons, List.flatMap_nil, List.append_nil]
def mtC (x : Nat × List (List Int)) : List V := [.sc (.int .i64 x.2.length), .sc (.int .i64 x.1), .im (imR x.1 (rI x.2)) x.2.length]
def mts (l : List (Nat × List (List Int))) : List V := l.flatMap mtC
theorem mts_len (l : List (Nat × List (List Int))) : (mts l).length = l.length * 3 := by
  induction l with
  | nil => rfl
  | cons x r ih =>
    show (mtC x ++ mts r).length = _
    rw [zl1, ih]
    show 3 + r.length * 3 = (r.length + 1) * 3
    omega
theorem mts_drop : ∀ (l : List (Nat × List (List Int))) (i : Nat) (h : i < l.length), (mts l).drop (i * 3) = mtC l[i] ++ mts (l.drop (i + 1))
  | x :: r, 0, _ => rfl
  | x :: r, i + 1, h => by
    have e : mts (x :: r) = mtC x ++ mts r := rfl
    have e0 : (mtC x).length = 3 := rfl
    have e2 : (i + 1) * 3 - 3 = i * 3 := by omega
    rw [e, List.drop_append, e0, e2, List.drop_of_length_le (by rw [e0]; omega), zl7, mts_drop r i (by simpa using h)]
    rfl
theorem mts_clo (l : List (Nat × List (List Int))) : (mts l).all clo = true := by
  rw [zlf]; intro y hy; obtain ⟨x, _, hx⟩ := List.mem_flatMap.1 hy
  simp only [mtC, List.mem_cons, List.not_mem_nil, or_false] at hx
  rcases hx with rfl | rfl | rfl <;> rfl
theorem mts_snoc (l : List (Nat × List (List Int))) (x : (Nat × List (List Int))) : mts (l ++ [x]) = mts l ++ mtC x := by
  unfold mts; simp only [List.flatMap_append, List.flatMap_cons, List.flatMap_nil, List.append_nil]
theorem rwh2_s (b : List Int) (n : Nat) (s : Rd) (hu : U8s b) (hn : n ≤ b.length) (hb : n ≤ 1000000000) (_ : s.at_ ≤ n) : RdQ Tryz.prog 58 [] (rdB b n s) (rdB b n (s.whole b n).2) (.sc (.int .i64 (s.whole b n).1)) := rwh_s b n s hu hn hb
def Rd.ints (b : List Int) (n : Nat) (s : Rd) : List Int × Rd := Rd.list b n (fun s => s.whole b n) s
theorem ints_at {b : List Int} {n : Nat} {s : Rd} (h : s.at_ ≤ n) : (s.ints b n).2.at_ ≤ n := list_at (fun _ h => whole_at h) h
set_option maxHeartbeats 4000000 in
theorem rints_s (b : List Int) (n : Nat) (s0 : Rd) (hu : U8s b) (hn : n ≤ b.length) (hb : n ≤ 1000000000) (ha : s0.at_ ≤ n) :
    RdK Tryz.prog 60 (fun k => [.pt k 0, .fn (.func 58) [.pt k 0] []]) (rdB b n s0) (rdB b n (s0.ints b n).2) (.im (its (s0.ints b n).1) (s0.ints b n).1.length) := by
  refine ⟨.im _ _, rdB_clo _ _ _, fun k nx hk => ?_⟩
  refine InlQ.run Tryz.func60 rfl Tryz.ntmps60 (by simp) (by simp (disch := omega) only [go_sem, zn4]; rfl) fun B hB => ?_
  have c1 := rsize_s b n s0 hu hn hb 4000 (by omega)
  have hat := size_at (b := b) (lim := 4000) ha
  have hc4 := size_le b n 4000 s0
  unfold Rd.ints Rd.list
  generalize s0.size b n 4000 = r at *
  obtain ⟨c, s1⟩ := r
  simp only at c1 hat hc4 ⊢
  unfold rdB at c1 ⊢
  (repeat (first | (with_reducible refine oz (by constructor <;> decide) ?_) | ((with_reducible first | apply SC.region | apply SO.run); (simp (disch := omega) only [go_sem, ↓reduceIte, reduceCtorEq] <;> rfl); (fail_if_success with_reducible refine pickA ?_)) | (with_reducible apply SC.ops)))
  (refine SO.inlQ (by simp (disch := omega) only [go_sem] <;> rfl) Tab.go68 (by simp (disch := omega) only [go_sem, ↓reduceIte] <;> rfl) (by simp (disch := omega) only [go_sem] <;> rfl) (SInlQ.rd (c1) (by simp (disch := omega) only [go_sem, ↓reduceIte] <;> rfl) rfl (by omega) (by simp (disch := omega) only [go_sem, ↓reduceIte] <;> rfl) ?_))
  (repeat (first | (with_reducible refine oz (by constructor <;> decide) ?_) | ((with_reducible first | apply SC.region | apply SO.run); (simp (disch := omega) only [go_sem, ↓reduceIte] <;> rfl); (fail_if_success with_reducible refine pickA ?_))))
  generalize hL : listR (fun s => s.whole b n) c s1 [] = L at *
  refine SC.weak (by simp) (nilSl (tO := 3) (sl' := [(0, .pt k 0), (1, .fn (.func 58) [.pt k 0] []), (5, .sc (.int .i64 c)), (6, .sl nx 0 0 1 none), (7, .sc (.int .i64 0))]) (hp' := [(k, rdB b n s1)]) nx hB (by omega) ?_ ?_) ?_
  · refine mapSl_cons (by simp (disch := omega) only [go_sem, ↓reduceIte, reduceCtorEq] <;> rfl) (VMap.pt rfl (by omega)) ?_
    refine mapSl_cons (by simp (disch := omega) only [go_sem, ↓reduceIte, zn1, reduceCtorEq] <;> rfl) (VMap.fn1 rfl (by omega)) ?_
    (repeat' (first | exact trivial | refine mapSl_cons (by simp (disch := omega) only [go_sem, ↓reduceIte, zn1] <;> rfl) ?_ ?_ | exact VMap.sc _ | exact VMap.nil_sl _ _ _))
  · unfold rdB
    (repeat' (first | exact mapHp_nil | refine mapHp_cons (by simp (disch := omega) only [go_sem, ↓reduceIte] <;> rfl) ?_ ?_ | exact BMap.clo (by rfl)))
  refine SC.loop (fun z : Nat × List Int × Rd × Nat × Nat => ⟨[(0, .pt k 0), (1, .fn (.func 58) [.pt k 0] []), (5, .sc (.int .i64 c)), (6, .sl z.2.2.2.1 0 z.2.1.length 1 none), (7, .sc (.int .i64 z.1))], [(z.2.2.2.1, ⟨3, its z.2.1, false⟩), (k, rdB b n z.2.2.1)], z.2.2.2.2, 28⟩)
    (fun z => z.1 ≤ c ∧ listR (fun s => s.whole b n) (c - z.1) z.2.2.1 z.2.1 = L ∧ z.2.1.length = z.1 ∧ z.2.2.1.at_ ≤ n ∧ nx ≤ z.2.2.2.1 ∧ z.2.2.2.1 < z.2.2.2.2) (fun z => c - z.1) (0, [], s1, nx, nx + 1) ?_ ?_ ?_
  · unfold its rdB
    (refine Le.slots ?_ ?_ ?_ <;> (repeat' (first | (exact fun _ _ h => h) | exact znb _ | exact leSl_nil | refine leSl_cons (by simp (disch := omega) only [go_sem, ↓reduceIte, zn1, reduceCtorEq] <;> rfl) ?_ ?_ | exact VLe.refl rfl)))
  · exact ⟨znc _, hL, rfl, hat, znb _, Nat.lt_succ_self _⟩
  · rintro ⟨i, acc, s, q, m⟩ ⟨hi1, hl, hlen, has, hq1, hq2⟩ K hK
    simp only at hi1 hl hlen has hq1 hq2 ⊢
    by_cases hlt : i < c ∧ s.e = 0
    · have q2 : decide ((i : Int) < (c : Int)) = true := by rw [decide_eq_true_iff]; omega
      have q3 : ((s.e : Int) == 0) = true := by rw [hlt.2]; rfl
      have c2 := rwh2_s b n s hu hn hb has
      have hats := whole_at (b := b) has
      have hci : c - i = (c - (i + 1)) + 1 := by omega
      rw [hci] at hl
      unfold listR at hl
      rw [if_pos hlt.2] at hl
      generalize s.whole b n = r at *
      obtain ⟨x, s2⟩ := r
      simp only at c2 hats hl
      have gl := its_len acc
      have gt : (its acc).take (acc.length) = its acc := zla (by omega)
      have e4 : its (acc ++ [x]) = its acc ++ itC x := its_snoc acc x
      have e5 : (acc ++ [x]).length = acc.length + 1 := zl1
      have hK2 := fun s' q' m' h => hK s' (i + 1, acc ++ [x], s2, q', m') h
      simp only [e4, e5] at hK2
      unfold rdB at *
      unfold itC at e4
      (repeat (first | (with_reducible refine oz (by constructor <;> decide) ?_) | ((with_reducible first | apply SC.condB | apply SC.region | apply SO.run); (simp (disch := omega) only [go_sem, ↓reduceIte, zn1, reduceCtorEq, if_neg, q2, q3] <;> rfl); (first | refine pickT ?_ | fail_if_success with_reducible refine pickA ?_)) | (with_reducible apply SC.ops)))
      (refine SO.inlQ (by simp (disch := omega) only [go_sem, ↓reduceIte] <;> rfl) Tab.go58 (by simp (disch := omega) only [go_sem] <;> rfl) (by simp (disch := omega) only [go_sem] <;> rfl) (SInlQ.rd (c2) (by simp (disch := omega) only [go_sem, ↓reduceIte, if_neg] <;> rfl) rfl (by (dsimp only; omega)) (by simp (disch := omega) only [go_sem, ↓reduceIte, if_neg] <;> rfl) ?_))
      (repeat (first | (with_reducible refine oz (by constructor <;> decide) ?_) | ((with_reducible first | apply SC.region | apply SO.run); (simp (disch := omega) only [go_sem, ↓reduceIte, zn1, zn3, reduceCtorEq, if_pos, if_neg, gl, gt, zn8, zl2, zl3, zl4, zna, zn9] <;> rfl); (fail_if_success with_reducible refine pickA ?_))))
      refine hK2 _ (m + 1) (m + 2) ?_ ⟨by omega, hl, by omega, hats, by omega, by omega⟩ (by omega)
      (refine Le.slots ?_ ?_ ?_ <;> (repeat' (first | exact znb _ | exact leSl_nil | refine leSl_cons (by simp (disch := omega) only [go_sem, ↓reduceIte, zn1, reduceCtorEq] <;> rfl) ?_ ?_ | exact VLe.refl rfl | (refine fun id k h => ?_; simp only [hget] at h ⊢; (repeat' (split at h)) <;> first | (cases h; done) | (simp (disch := omega) only [if_pos, if_neg]; exact h)))))
    · have hE : listR (fun s => s.whole b n) (c - i) s acc = (acc, s) := by
        by_cases h0 : c - i = 0
        · rw [h0]; rfl
        · obtain ⟨m', hm'⟩ : ∃ m', c - i = m' + 1 := ⟨c - i - 1, by omega⟩
          rw [hm']; unfold listR; rw [if_neg (fun h => hlt ⟨by omega, h⟩)]
      rw [hE] at hl
      subst hl
      have gl := its_len acc
      have gt : (its acc).take (acc.length) = its acc := zla (by omega)
      have gcl : (its acc).all clo = true := its_clo acc
      have kb : (k == q) = false := by rw [beq_eq_false_iff_ne]; omega
      simp only
      unfold rdB
      by_cases hi : i < c
      · have q2 : decide ((i : Int) < (c : Int)) = true := by rw [decide_eq_true_iff]; omega
        have q3 : ((s.e : Int) == 0) = false := by rw [beq_eq_false_iff_ne]; intro h; exact hlt ⟨hi, by omega⟩
        (repeat (first | (with_reducible refine oz (by constructor <;> decide) ?_) | ((with_reducible first | apply SC.condB | apply SC.region); (simp (disch := omega) only [go_sem, ↓reduceIte, zn1, zn2, reduceCtorEq, if_neg, q2, q3] <;> rfl); (first | refine pickF ?_ | fail_if_success with_reducible refine pickA ?_))))
        exact rd_retF hB hk Tryz.results60 (by simp (disch := omega) only [go_sem, ↓reduceIte] <;> rfl) (by simp (disch := omega) only [go_sem, ↓reduceIte, if_pos, gl, gt, gcl, zn8, zl2] <;> rfl) (.im _ _) rfl (by simp (disch := omega) only [go_sem, ↓reduceIte, if_pos, if_neg, kb, Bool.false_eq_true] <;> rfl)
      · have q2 : decide ((i : Int) < (c : Int)) = false := by rw [decide_eq_false_iff_not]; omega
        (repeat (first | (with_reducible refine oz (by constructor <;> decide) ?_) | ((with_reducible first | apply SC.condB | apply SC.region); (simp (disch := omega) only [go_sem, ↓reduceIte, zn1, zn2, reduceCtorEq, q2] <;> rfl); (first | refine pickF ?_ | fail_if_success with_reducible refine pickA ?_))))
        exact rd_retF hB hk Tryz.results60 (by simp (disch := omega) only [go_sem, ↓reduceIte] <;> rfl) (by simp (disch := omega) only [go_sem, ↓reduceIte, if_pos, gl, gt, gcl, zn8, zl2] <;> rfl) (.im _ _) rfl (by simp (disch := omega) only [go_sem, ↓reduceIte, if_pos, if_neg, kb, Bool.false_eq_true] <;> rfl)
def Rd.intl (b : List Int) (n : Nat) (s : Rd) : List Int × Rd := Rd.list b n (fun s => s.int b n) s
theorem intl_at {b : List Int} {n : Nat} {s : Rd} (h : s.at_ ≤ n) : (s.intl b n).2.at_ ≤ n := list_at (fun _ h => int_at h) h
set_option maxHeartbeats 4000000 in
theorem rintl_s (b : List Int) (n : Nat) (s0 : Rd) (hu : U8s b) (hn : n ≤ b.length) (hb : n ≤ 1000000000) (ha : s0.at_ ≤ n) :
    RdK Tryz.prog 62 (fun k => [.pt k 0, .fn (.func 46) [.pt k 0] []]) (rdB b n s0) (rdB b n (s0.intl b n).2) (.im (ivs (s0.intl b n).1) (s0.intl b n).1.length) := by
  refine ⟨.im _ _, rdB_clo _ _ _, fun k nx hk => ?_⟩
  refine InlQ.run Tryz.func62 rfl Tryz.ntmps62 (by simp) (by simp (disch := omega) only [go_sem, zn4]; rfl) fun B hB => ?_
  have c1 := rsize_s b n s0 hu hn hb 4000 (by omega)
  have hat := size_at (b := b) (lim := 4000) ha
  have hc4 := size_le b n 4000 s0
  unfold Rd.intl Rd.list
  generalize s0.size b n 4000 = r at *
  obtain ⟨c, s1⟩ := r
  simp only at c1 hat hc4 ⊢
  unfold rdB at c1 ⊢
  (repeat (first | (with_reducible refine oz (by constructor <;> decide) ?_) | ((with_reducible first | apply SC.region | apply SO.run); (simp (disch := omega) only [go_sem, ↓reduceIte, reduceCtorEq] <;> rfl); (fail_if_success with_reducible refine pickA ?_)) | (with_reducible apply SC.ops)))
  (refine SO.inlQ (by simp (disch := omega) only [go_sem] <;> rfl) Tab.go68 (by simp (disch := omega) only [go_sem, ↓reduceIte] <;> rfl) (by simp (disch := omega) only [go_sem] <;> rfl) (SInlQ.rd (c1) (by simp (disch := omega) only [go_sem, ↓reduceIte] <;> rfl) rfl (by omega) (by simp (disch := omega) only [go_sem, ↓reduceIte] <;> rfl) ?_))
  (repeat (first | (with_reducible refine oz (by constructor <;> decide) ?_) | ((with_reducible first | apply SC.region | apply SO.run); (simp (disch := omega) only [go_sem, ↓reduceIte] <;> rfl); (fail_if_success with_reducible refine pickA ?_))))
  generalize hL : listR (fun s => s.int b n) c s1 [] = L at *
  refine SC.weak (by simp) (nilSl (tO := 24) (sl' := [(0, .pt k 0), (1, .fn (.func 46) [.pt k 0] []), (5, .sc (.int .i64 c)), (6, .sl nx 0 0 2 none), (7, .sc (.int .i64 0))]) (hp' := [(k, rdB b n s1)]) nx hB (by omega) ?_ ?_) ?_
  · refine mapSl_cons (by simp (disch := omega) only [go_sem, ↓reduceIte, reduceCtorEq] <;> rfl) (VMap.pt rfl (by omega)) ?_
    refine mapSl_cons (by simp (disch := omega) only [go_sem, ↓reduceIte, zn1, reduceCtorEq] <;> rfl) (VMap.fn1 rfl (by omega)) ?_
    (repeat' (first | exact trivial | refine mapSl_cons (by simp (disch := omega) only [go_sem, ↓reduceIte, zn1] <;> rfl) ?_ ?_ | exact VMap.sc _ | exact VMap.nil_sl _ _ _))
  · unfold rdB
    (repeat' (first | exact mapHp_nil | refine mapHp_cons (by simp (disch := omega) only [go_sem, ↓reduceIte] <;> rfl) ?_ ?_ | exact BMap.clo (by rfl)))
  refine SC.loop (fun z : Nat × List Int × Rd × Nat × Nat => ⟨[(0, .pt k 0), (1, .fn (.func 46) [.pt k 0] []), (5, .sc (.int .i64 c)), (6, .sl z.2.2.2.1 0 z.2.1.length 2 none), (7, .sc (.int .i64 z.1))], [(z.2.2.2.1, ⟨24, ivs z.2.1, false⟩), (k, rdB b n z.2.2.1)], z.2.2.2.2, 28⟩)
    (fun z => z.1 ≤ c ∧ listR (fun s => s.int b n) (c - z.1) z.2.2.1 z.2.1 = L ∧ z.2.1.length = z.1 ∧ z.2.2.1.at_ ≤ n ∧ nx ≤ z.2.2.2.1 ∧ z.2.2.2.1 < z.2.2.2.2) (fun z => c - z.1) (0, [], s1, nx, nx + 1) ?_ ?_ ?_
  · unfold ivs rdB
    (refine Le.slots ?_ ?_ ?_ <;> (repeat' (first | (exact fun _ _ h => h) | exact znb _ | exact leSl_nil | refine leSl_cons (by simp (disch := omega) only [go_sem, ↓reduceIte, zn1, reduceCtorEq] <;> rfl) ?_ ?_ | exact VLe.refl rfl)))
  · exact ⟨znc _, hL, rfl, hat, znb _, Nat.lt_succ_self _⟩
  · rintro ⟨i, acc, s, q, m⟩ ⟨hi1, hl, hlen, has, hq1, hq2⟩ K hK
    simp only at hi1 hl hlen has hq1 hq2 ⊢
    by_cases hlt : i < c ∧ s.e = 0
    · have q2 : decide ((i : Int) < (c : Int)) = true := by rw [decide_eq_true_iff]; omega
      have q3 : ((s.e : Int) == 0) = true := by rw [hlt.2]; rfl
      have c2 := rint_s b n s hu hn hb has
      have hats := int_at (b := b) has
      have hci : c - i = (c - (i + 1)) + 1 := by omega
      rw [hci] at hl
      unfold listR at hl
      rw [if_pos hlt.2] at hl
      generalize s.int b n = r at *
      obtain ⟨x, s2⟩ := r
      simp only at c2 hats hl
      have gl := ivs_len acc
      have gt : (ivs acc).take (acc.length * 2) = ivs acc := zla (by omega)
      have e4 : ivs (acc ++ [x]) = ivs acc ++ ivC2 x := ivs_snoc acc x
      have e5 : (acc ++ [x]).length = acc.length + 1 := zl1
      have hK2 := fun s' q' m' h => hK s' (i + 1, acc ++ [x], s2, q', m') h
      simp only [e4, e5] at hK2
      unfold rdB at *
      unfold ivC2 at e4; unfold iv at c2; unfold sv at c2
      (repeat (first | (with_reducible refine oz (by constructor <;> decide) ?_) | ((with_reducible first | apply SC.condB | apply SC.region | apply SO.run); (simp (disch := omega) only [go_sem, ↓reduceIte, zn1, reduceCtorEq, if_neg, q2, q3] <;> rfl); (first | refine pickT ?_ | fail_if_success with_reducible refine pickA ?_)) | (with_reducible apply SC.ops)))
      (refine SO.inlQ (by simp (disch := omega) only [go_sem, ↓reduceIte] <;> rfl) Tab.go46 (by simp (disch := omega) only [go_sem] <;> rfl) (by simp (disch := omega) only [go_sem] <;> rfl) (SInlQ.rd (c2) (by simp (disch := omega) only [go_sem, ↓reduceIte, if_neg] <;> rfl) rfl (by (dsimp only; omega)) (by simp (disch := omega) only [go_sem, ↓reduceIte, if_neg] <;> rfl) ?_))
      (repeat (first | (with_reducible refine oz (by constructor <;> decide) ?_) | ((with_reducible first | apply SC.region | apply SO.run); (simp (disch := omega) only [go_sem, ↓reduceIte, zn1, zn3, zn4, reduceCtorEq, if_pos, if_neg, gl, gt, zl2, zl3, zl4, zna, zn9] <;> rfl); (fail_if_success with_reducible refine pickA ?_))))
      refine hK2 _ (m + 1) (m + 2) ?_ ⟨by omega, hl, by omega, hats, by omega, by omega⟩ (by omega)
      (refine Le.slots ?_ ?_ ?_ <;> (repeat' (first | exact znb _ | exact leSl_nil | refine leSl_cons (by simp (disch := omega) only [go_sem, ↓reduceIte, zn1, reduceCtorEq] <;> rfl) ?_ ?_ | exact VLe.refl rfl | (refine fun id k h => ?_; simp only [hget] at h ⊢; (repeat' (split at h)) <;> first | (cases h; done) | (simp (disch := omega) only [if_pos, if_neg]; exact h)))))
    · have hE : listR (fun s => s.int b n) (c - i) s acc = (acc, s) := by
        by_cases h0 : c - i = 0
        · rw [h0]; rfl
        · obtain ⟨m', hm'⟩ : ∃ m', c - i = m' + 1 := ⟨c - i - 1, by omega⟩
          rw [hm']; unfold listR; rw [if_neg (fun h => hlt ⟨by omega, h⟩)]
      rw [hE] at hl
      subst hl
      have gl := ivs_len acc
      have gt : (ivs acc).take (acc.length * 2) = ivs acc := zla (by omega)
      have gcl : (ivs acc).all clo = true := ivs_clo acc
      have kb : (k == q) = false := by rw [beq_eq_false_iff_ne]; omega
      simp only
      unfold rdB
      by_cases hi : i < c
      · have q2 : decide ((i : Int) < (c : Int)) = true := by rw [decide_eq_true_iff]; omega
        have q3 : ((s.e : Int) == 0) = false := by rw [beq_eq_false_iff_ne]; intro h; exact hlt ⟨hi, by omega⟩
        (repeat (first | (with_reducible refine oz (by constructor <;> decide) ?_) | ((with_reducible first | apply SC.condB | apply SC.region); (simp (disch := omega) only [go_sem, ↓reduceIte, zn1, zn2, reduceCtorEq, if_neg, q2, q3] <;> rfl); (first | refine pickF ?_ | fail_if_success with_reducible refine pickA ?_))))
        exact rd_retF hB hk Tryz.results62 (by simp (disch := omega) only [go_sem, ↓reduceIte] <;> rfl) (by simp (disch := omega) only [go_sem, ↓reduceIte, if_pos, gl, gt, gcl, zl2] <;> rfl) (.im _ _) rfl (by simp (disch := omega) only [go_sem, ↓reduceIte, if_pos, if_neg, kb, Bool.false_eq_true] <;> rfl)
      · have q2 : decide ((i : Int) < (c : Int)) = false := by rw [decide_eq_false_iff_not]; omega
        (repeat (first | (with_reducible refine oz (by constructor <;> decide) ?_) | ((with_reducible first | apply SC.condB | apply SC.region); (simp (disch := omega) only [go_sem, ↓reduceIte, zn1, zn2, reduceCtorEq, q2] <;> rfl); (first | refine pickF ?_ | fail_if_success with_reducible refine pickA ?_))))
        exact rd_retF hB hk Tryz.results62 (by simp (disch := omega) only [go_sem, ↓reduceIte] <;> rfl) (by simp (disch := omega) only [go_sem, ↓reduceIte, if_pos, gl, gt, gcl, zl2] <;> rfl) (.im _ _) rfl (by simp (disch := omega) only [go_sem, ↓reduceIte, if_pos, if_neg, kb, Bool.false_eq_true] <;> rfl)
def Rd.rats (b : List Int) (n : Nat) (s : Rd) : List (Int × Int) × Rd := Rd.list b n (fun s => s.rat b n) s
set_option maxHeartbeats 4000000 in
theorem rrats_s (b : List Int) (n : Nat) (s0 : Rd) (hu : U8s b) (hn : n ≤ b.length) (hb : n ≤ 1000000000) (ha : s0.at_ ≤ n) :
    RdK Tryz.prog 63 (fun k => [.pt k 0, .fn (.func 64) [.pt k 0] []]) (rdB b n s0) (rdB b n (s0.rats b n).2) (.im (rts (s0.rats b n).1) (s0.rats b n).1.length) := by
  refine ⟨.im _ _, rdB_clo _ _ _, fun k nx hk => ?_⟩
  refine InlQ.run Tryz.func63 rfl Tryz.ntmps63 (by simp) (by simp (disch := omega) only [go_sem, zn4]; rfl) fun B hB => ?_
  have c1 := rsize_s b n s0 hu hn hb 4000 (by omega)
  have hat := size_at (b := b) (lim := 4000) ha
  have hc4 := size_le b n 4000 s0
  unfold Rd.rats Rd.list
  generalize s0.size b n 4000 = r at *
  obtain ⟨c, s1⟩ := r
  simp only at c1 hat hc4 ⊢
  unfold rdB at c1 ⊢
  (repeat (first | (with_reducible refine oz (by constructor <;> decide) ?_) | ((with_reducible first | apply SC.region | apply SO.run); (simp (disch := omega) only [go_sem, ↓reduceIte, reduceCtorEq] <;> rfl); (fail_if_success with_reducible refine pickA ?_)) | (with_reducible apply SC.ops)))
  (refine SO.inlQ (by simp (disch := omega) only [go_sem] <;> rfl) Tab.go68 (by simp (disch := omega) only [go_sem, ↓reduceIte] <;> rfl) (by simp (disch := omega) only [go_sem] <;> rfl) (SInlQ.rd (c1) (by simp (disch := omega) only [go_sem, ↓reduceIte] <;> rfl) rfl (by omega) (by simp (disch := omega) only [go_sem, ↓reduceIte] <;> rfl) ?_))
  (repeat (first | (with_reducible refine oz (by constructor <;> decide) ?_) | ((with_reducible first | apply SC.region | apply SO.run); (simp (disch := omega) only [go_sem, ↓reduceIte] <;> rfl); (fail_if_success with_reducible refine pickA ?_))))
  generalize hL : listR (fun s => s.rat b n) c s1 [] = L at *
  refine SC.weak (by simp) (nilSl (tO := 71) (sl' := [(0, .pt k 0), (1, .fn (.func 64) [.pt k 0] []), (5, .sc (.int .i64 c)), (6, .sl nx 0 0 4 none), (7, .sc (.int .i64 0))]) (hp' := [(k, rdB b n s1)]) nx hB (by omega) ?_ ?_) ?_
  · refine mapSl_cons (by simp (disch := omega) only [go_sem, ↓reduceIte, reduceCtorEq] <;> rfl) (VMap.pt rfl (by omega)) ?_
    refine mapSl_cons (by simp (disch := omega) only [go_sem, ↓reduceIte, zn1, reduceCtorEq] <;> rfl) (VMap.fn1 rfl (by omega)) ?_
    (repeat' (first | exact trivial | refine mapSl_cons (by simp (disch := omega) only [go_sem, ↓reduceIte, zn1] <;> rfl) ?_ ?_ | exact VMap.sc _ | exact VMap.nil_sl _ _ _))
  · unfold rdB
    (repeat' (first | exact mapHp_nil | refine mapHp_cons (by simp (disch := omega) only [go_sem, ↓reduceIte] <;> rfl) ?_ ?_ | exact BMap.clo (by rfl)))
  refine SC.loop (fun z : Nat × List (Int × Int) × Rd × Nat × Nat => ⟨[(0, .pt k 0), (1, .fn (.func 64) [.pt k 0] []), (5, .sc (.int .i64 c)), (6, .sl z.2.2.2.1 0 z.2.1.length 4 none), (7, .sc (.int .i64 z.1))], [(z.2.2.2.1, ⟨71, rts z.2.1, false⟩), (k, rdB b n z.2.2.1)], z.2.2.2.2, 28⟩)
    (fun z => z.1 ≤ c ∧ listR (fun s => s.rat b n) (c - z.1) z.2.2.1 z.2.1 = L ∧ z.2.1.length = z.1 ∧ z.2.2.1.at_ ≤ n ∧ nx ≤ z.2.2.2.1 ∧ z.2.2.2.1 < z.2.2.2.2) (fun z => c - z.1) (0, [], s1, nx, nx + 1) ?_ ?_ ?_
  · unfold rts rdB
    (refine Le.slots ?_ ?_ ?_ <;> (repeat' (first | (exact fun _ _ h => h) | exact znb _ | exact leSl_nil | refine leSl_cons (by simp (disch := omega) only [go_sem, ↓reduceIte, zn1, reduceCtorEq] <;> rfl) ?_ ?_ | exact VLe.refl rfl)))
  · exact ⟨znc _, hL, rfl, hat, znb _, Nat.lt_succ_self _⟩
  · rintro ⟨i, acc, s, q, m⟩ ⟨hi1, hl, hlen, has, hq1, hq2⟩ K hK
    simp only at hi1 hl hlen has hq1 hq2 ⊢
    by_cases hlt : i < c ∧ s.e = 0
    · have q2 : decide ((i : Int) < (c : Int)) = true := by rw [decide_eq_true_iff]; omega
      have q3 : ((s.e : Int) == 0) = true := by rw [hlt.2]; rfl
      have c2 := rrat_s b n s hu hn hb has
      have hats := rat_at (b := b) has
      have hci : c - i = (c - (i + 1)) + 1 := by omega
      rw [hci] at hl
      unfold listR at hl
      rw [if_pos hlt.2] at hl
      generalize s.rat b n = r at *
      obtain ⟨x, s2⟩ := r
      simp only at c2 hats hl
      have gl := rts_len acc
      have gt : (rts acc).take (acc.length * 4) = rts acc := zla (by omega)
      have e4 : rts (acc ++ [x]) = rts acc ++ rtC x := rts_snoc acc x
      have e5 : (acc ++ [x]).length = acc.length + 1 := zl1
      have hK2 := fun s' q' m' h => hK s' (i + 1, acc ++ [x], s2, q', m') h
      simp only [e4, e5] at hK2
      unfold rdB at *
      unfold rtC at *
      (repeat (first | (with_reducible refine oz (by constructor <;> decide) ?_) | ((with_reducible first | apply SC.condB | apply SC.region | apply SO.run); (simp (disch := omega) only [go_sem, ↓reduceIte, zn1, reduceCtorEq, if_neg, q2, q3] <;> rfl); (first | refine pickT ?_ | fail_if_success with_reducible refine pickA ?_)) | (with_reducible apply SC.ops)))
      (refine SO.inlQ (by simp (disch := omega) only [go_sem, ↓reduceIte] <;> rfl) Tab.go64 (by simp (disch := omega) only [go_sem] <;> rfl) (by simp (disch := omega) only [go_sem] <;> rfl) (SInlQ.rd (c2) (by simp (disch := omega) only [go_sem, ↓reduceIte, if_neg] <;> rfl) rfl (by (dsimp only; omega)) (by simp (disch := omega) only [go_sem, ↓reduceIte, if_neg] <;> rfl) ?_))
      (repeat (first | (with_reducible refine oz (by constructor <;> decide) ?_) | ((with_reducible first | apply SC.region | apply SO.run); (simp (disch := omega) only [go_sem, ↓reduceIte, zn1, zn3, zn4, reduceCtorEq, if_pos, if_neg, gl, gt, zl2, zl3, zl4, zna, zn9] <;> rfl); (fail_if_success with_reducible refine pickA ?_))))
      refine hK2 _ (m + 1) (m + 2) ?_ ⟨by omega, hl, by omega, hats, by omega, by omega⟩ (by omega)
      (refine Le.slots ?_ ?_ ?_ <;> (repeat' (first | exact znb _ | exact leSl_nil | refine leSl_cons (by simp (disch := omega) only [go_sem, ↓reduceIte, zn1, reduceCtorEq] <;> rfl) ?_ ?_ | exact VLe.refl rfl | (refine fun id k h => ?_; simp only [hget] at h ⊢; (repeat' (split at h)) <;> first | (cases h; done) | (simp (disch := omega) only [if_pos, if_neg]; exact h)))))
    · have hE : listR (fun s => s.rat b n) (c - i) s acc = (acc, s) := by
        by_cases h0 : c - i = 0
        · rw [h0]; rfl
        · obtain ⟨m', hm'⟩ : ∃ m', c - i = m' + 1 := ⟨c - i - 1, by omega⟩
          rw [hm']; unfold listR; rw [if_neg (fun h => hlt ⟨by omega, h⟩)]
      rw [hE] at hl
      subst hl
      have gl := rts_len acc
      have gt : (rts acc).take (acc.length * 4) = rts acc := zla (by omega)
      have gcl : (rts acc).all clo = true := rts_clo acc
      have kb : (k == q) = false := by rw [beq_eq_false_iff_ne]; omega
      simp only
      unfold rdB
      by_cases hi : i < c
      · have q2 : decide ((i : Int) < (c : Int)) = true := by rw [decide_eq_true_iff]; omega
        have q3 : ((s.e : Int) == 0) = false := by rw [beq_eq_false_iff_ne]; intro h; exact hlt ⟨hi, by omega⟩
        (repeat (first | (with_reducible refine oz (by constructor <;> decide) ?_) | ((with_reducible first | apply SC.condB | apply SC.region); (simp (disch := omega) only [go_sem, ↓reduceIte, zn1, zn2, reduceCtorEq, if_neg, q2, q3] <;> rfl); (first | refine pickF ?_ | fail_if_success with_reducible refine pickA ?_))))
        exact rd_retF hB hk Tryz.results63 (by simp (disch := omega) only [go_sem, ↓reduceIte] <;> rfl) (by simp (disch := omega) only [go_sem, ↓reduceIte, if_pos, gl, gt, gcl, zl2] <;> rfl) (.im _ _) rfl (by simp (disch := omega) only [go_sem, ↓reduceIte, if_pos, if_neg, kb, Bool.false_eq_true] <;> rfl)
      · have q2 : decide ((i : Int) < (c : Int)) = false := by rw [decide_eq_false_iff_not]; omega
        (repeat (first | (with_reducible refine oz (by constructor <;> decide) ?_) | ((with_reducible first | apply SC.condB | apply SC.region); (simp (disch := omega) only [go_sem, ↓reduceIte, zn1, zn2, reduceCtorEq, q2] <;> rfl); (first | refine pickF ?_ | fail_if_success with_reducible refine pickA ?_))))
        exact rd_retF hB hk Tryz.results63 (by simp (disch := omega) only [go_sem, ↓reduceIte] <;> rfl) (by simp (disch := omega) only [go_sem, ↓reduceIte, if_pos, gl, gt, gcl, zl2] <;> rfl) (.im _ _) rfl (by simp (disch := omega) only [go_sem, ↓reduceIte, if_pos, if_neg, kb, Bool.false_eq_true] <;> rfl)
def Rd.mats (b : List Int) (n : Nat) (s : Rd) : List (Nat × List (List Int)) × Rd := Rd.list b n (fun s => s.mat b n) s
theorem mats_at {b : List Int} {n : Nat} {s : Rd} (h : s.at_ ≤ n) : (s.mats b n).2.at_ ≤ n := list_at (fun _ h => mat_at h) h
set_option maxHeartbeats 4000000 in
theorem rmats_s (b : List Int) (n : Nat) (s0 : Rd) (hu : U8s b) (hn : n ≤ b.length) (hb : n ≤ 1000000000) (ha : s0.at_ ≤ n) :
    RdK Tryz.prog 61 (fun k => [.pt k 0, .fn (.func 49) [.pt k 0] []]) (rdB b n s0) (rdB b n (s0.mats b n).2) (.im (mts (s0.mats b n).1) (s0.mats b n).1.length) := by
  refine ⟨.im _ _, rdB_clo _ _ _, fun k nx hk => ?_⟩
  refine InlQ.run Tryz.func61 rfl Tryz.ntmps61 (by simp) (by simp (disch := omega) only [go_sem, zn4]; rfl) fun B hB => ?_
  have c1 := rsize_s b n s0 hu hn hb 4000 (by omega)
  have hat := size_at (b := b) (lim := 4000) ha
  have hc4 := size_le b n 4000 s0
  unfold Rd.mats Rd.list
  generalize s0.size b n 4000 = r at *
  obtain ⟨c, s1⟩ := r
  simp only at c1 hat hc4 ⊢
  unfold rdB at c1 ⊢
  (repeat (first | (with_reducible refine oz (by constructor <;> decide) ?_) | ((with_reducible first | apply SC.region | apply SO.run); (simp (disch := omega) only [go_sem, ↓reduceIte, reduceCtorEq] <;> rfl); (fail_if_success with_reducible refine pickA ?_)) | (with_reducible apply SC.ops)))
  (refine SO.inlQ (by simp (disch := omega) only [go_sem] <;> rfl) Tab.go68 (by simp (disch := omega) only [go_sem, ↓reduceIte] <;> rfl) (by simp (disch := omega) only [go_sem] <;> rfl) (SInlQ.rd (c1) (by simp (disch := omega) only [go_sem, ↓reduceIte] <;> rfl) rfl (by omega) (by simp (disch := omega) only [go_sem, ↓reduceIte] <;> rfl) ?_))
  (repeat (first | (with_reducible refine oz (by constructor <;> decide) ?_) | ((with_reducible first | apply SC.region | apply SO.run); (simp (disch := omega) only [go_sem, ↓reduceIte] <;> rfl); (fail_if_success with_reducible refine pickA ?_))))
  generalize hL : listR (fun s => s.mat b n) c s1 [] = L at *
  refine SC.weak (by simp) (nilSl (tO := 49) (sl' := [(0, .pt k 0), (1, .fn (.func 49) [.pt k 0] []), (5, .sc (.int .i64 c)), (6, .sl nx 0 0 3 none), (7, .sc (.int .i64 0))]) (hp' := [(k, rdB b n s1)]) nx hB (by omega) ?_ ?_) ?_
  · refine mapSl_cons (by simp (disch := omega) only [go_sem, ↓reduceIte, reduceCtorEq] <;> rfl) (VMap.pt rfl (by omega)) ?_
    refine mapSl_cons (by simp (disch := omega) only [go_sem, ↓reduceIte, zn1, reduceCtorEq] <;> rfl) (VMap.fn1 rfl (by omega)) ?_
    (repeat' (first | exact trivial | refine mapSl_cons (by simp (disch := omega) only [go_sem, ↓reduceIte, zn1] <;> rfl) ?_ ?_ | exact VMap.sc _ | exact VMap.nil_sl _ _ _))
  · unfold rdB
    (repeat' (first | exact mapHp_nil | refine mapHp_cons (by simp (disch := omega) only [go_sem, ↓reduceIte] <;> rfl) ?_ ?_ | exact BMap.clo (by rfl)))
  refine SC.loop (fun z : Nat × List (Nat × List (List Int)) × Rd × Nat × Nat => ⟨[(0, .pt k 0), (1, .fn (.func 49) [.pt k 0] []), (5, .sc (.int .i64 c)), (6, .sl z.2.2.2.1 0 z.2.1.length 3 none), (7, .sc (.int .i64 z.1))], [(z.2.2.2.1, ⟨49, mts z.2.1, false⟩), (k, rdB b n z.2.2.1)], z.2.2.2.2, 28⟩)
    (fun z => z.1 ≤ c ∧ listR (fun s => s.mat b n) (c - z.1) z.2.2.1 z.2.1 = L ∧ z.2.1.length = z.1 ∧ z.2.2.1.at_ ≤ n ∧ nx ≤ z.2.2.2.1 ∧ z.2.2.2.1 < z.2.2.2.2) (fun z => c - z.1) (0, [], s1, nx, nx + 1) ?_ ?_ ?_
  · unfold mts rdB
    (refine Le.slots ?_ ?_ ?_ <;> (repeat' (first | (exact fun _ _ h => h) | exact znb _ | exact leSl_nil | refine leSl_cons (by simp (disch := omega) only [go_sem, ↓reduceIte, zn1, reduceCtorEq] <;> rfl) ?_ ?_ | exact VLe.refl rfl)))
  · exact ⟨znc _, hL, rfl, hat, znb _, Nat.lt_succ_self _⟩
  · rintro ⟨i, acc, s, q, m⟩ ⟨hi1, hl, hlen, has, hq1, hq2⟩ K hK
    simp only at hi1 hl hlen has hq1 hq2 ⊢
    by_cases hlt : i < c ∧ s.e = 0
    · have q2 : decide ((i : Int) < (c : Int)) = true := by rw [decide_eq_true_iff]; omega
      have q3 : ((s.e : Int) == 0) = true := by rw [hlt.2]; rfl
      have c2 := rmat_s b n s hu hn hb has
      have hats := mat_at (b := b) has
      have hci : c - i = (c - (i + 1)) + 1 := by omega
      rw [hci] at hl
      unfold listR at hl
      rw [if_pos hlt.2] at hl
      generalize s.mat b n = r at *
      obtain ⟨x, s2⟩ := r
      simp only at c2 hats hl
      have gl := mts_len acc
      have gt : (mts acc).take (acc.length * 3) = mts acc := zla (by omega)
      have e4 : mts (acc ++ [x]) = mts acc ++ mtC x := mts_snoc acc x
      have e5 : (acc ++ [x]).length = acc.length + 1 := zl1
      have hK2 := fun s' q' m' h => hK s' (i + 1, acc ++ [x], s2, q', m') h
      simp only [e4, e5] at hK2
      unfold rdB at *
      unfold mtC at e4; unfold mat at c2
      (repeat (first | (with_reducible refine oz (by constructor <;> decide) ?_) | ((with_reducible first | apply SC.condB | apply SC.region | apply SO.run); (simp (disch := omega) only [go_sem, ↓reduceIte, zn1, reduceCtorEq, if_neg, q2, q3] <;> rfl); (first | refine pickT ?_ | fail_if_success with_reducible refine pickA ?_)) | (with_reducible apply SC.ops)))
      (refine SO.inlQ (by simp (disch := omega) only [go_sem, ↓reduceIte] <;> rfl) Tab.go49 (by simp (disch := omega) only [go_sem] <;> rfl) (by simp (disch := omega) only [go_sem] <;> rfl) (SInlQ.rd (c2) (by simp (disch := omega) only [go_sem, ↓reduceIte, if_neg] <;> rfl) rfl (by (dsimp only; omega)) (by simp (disch := omega) only [go_sem, ↓reduceIte, if_neg] <;> rfl) ?_))
      (repeat (first | (with_reducible refine oz (by constructor <;> decide) ?_) | ((with_reducible first | apply SC.region | apply SO.run); (simp (disch := omega) only [go_sem, ↓reduceIte, zn1, zn3, zn4, reduceCtorEq, if_pos, if_neg, gl, gt, zl2, zl3, zl4, zna, zn9] <;> rfl); (fail_if_success with_reducible refine pickA ?_))))
      refine hK2 _ (m + 1) (m + 2) ?_ ⟨by omega, hl, by omega, hats, by omega, by omega⟩ (by omega)
      (refine Le.slots ?_ ?_ ?_ <;> (repeat' (first | exact znb _ | exact leSl_nil | refine leSl_cons (by simp (disch := omega) only [go_sem, ↓reduceIte, zn1, reduceCtorEq] <;> rfl) ?_ ?_ | exact VLe.refl rfl | (refine fun id k h => ?_; simp only [hget] at h ⊢; (repeat' (split at h)) <;> first | (cases h; done) | (simp (disch := omega) only [if_pos, if_neg]; exact h)))))
    · have hE : listR (fun s => s.mat b n) (c - i) s acc = (acc, s) := by
        by_cases h0 : c - i = 0
        · rw [h0]; rfl
        · obtain ⟨m', hm'⟩ : ∃ m', c - i = m' + 1 := ⟨c - i - 1, by omega⟩
          rw [hm']; unfold listR; rw [if_neg (fun h => hlt ⟨by omega, h⟩)]
      rw [hE] at hl
      subst hl
      have gl := mts_len acc
      have gt : (mts acc).take (acc.length * 3) = mts acc := zla (by omega)
      have gcl : (mts acc).all clo = true := mts_clo acc
      have kb : (k == q) = false := by rw [beq_eq_false_iff_ne]; omega
      simp only
      unfold rdB
      by_cases hi : i < c
      · have q2 : decide ((i : Int) < (c : Int)) = true := by rw [decide_eq_true_iff]; omega
        have q3 : ((s.e : Int) == 0) = false := by rw [beq_eq_false_iff_ne]; intro h; exact hlt ⟨hi, by omega⟩
        (repeat (first | (with_reducible refine oz (by constructor <;> decide) ?_) | ((with_reducible first | apply SC.condB | apply SC.region); (simp (disch := omega) only [go_sem, ↓reduceIte, zn1, zn2, reduceCtorEq, if_neg, q2, q3] <;> rfl); (first | refine pickF ?_ | fail_if_success with_reducible refine pickA ?_))))
        exact rd_retF hB hk Tryz.results61 (by simp (disch := omega) only [go_sem, ↓reduceIte] <;> rfl) (by simp (disch := omega) only [go_sem, ↓reduceIte, if_pos, gl, gt, gcl, zl2] <;> rfl) (.im _ _) rfl (by simp (disch := omega) only [go_sem, ↓reduceIte, if_pos, if_neg, kb, Bool.false_eq_true] <;> rfl)
      · have q2 : decide ((i : Int) < (c : Int)) = false := by rw [decide_eq_false_iff_not]; omega
        (repeat (first | (with_reducible refine oz (by constructor <;> decide) ?_) | ((with_reducible first | apply SC.condB | apply SC.region); (simp (disch := omega) only [go_sem, ↓reduceIte, zn1, zn2, reduceCtorEq, q2] <;> rfl); (first | refine pickF ?_ | fail_if_success with_reducible refine pickA ?_))))
        exact rd_retF hB hk Tryz.results61 (by simp (disch := omega) only [go_sem, ↓reduceIte] <;> rfl) (by simp (disch := omega) only [go_sem, ↓reduceIte, if_pos, gl, gt, gcl, zl2] <;> rfl) (.im _ _) rfl (by simp (disch := omega) only [go_sem, ↓reduceIte, if_pos, if_neg, kb, Bool.false_eq_true] <;> rfl)
structure Crt where
  kind : Int
  n : Int
  p : Nat
  rows : List Int
  cols : List Int
  M : List (Nat × List (List Int))
  X : List Int
  Y : List (Int × Int)
  found : Bool
def crtC (x : Crt) : V := .ag [.sc (.int .i64 x.kind), .sc (.bool (decide (x.n < 0))), .im (lv (limbsOf x.n.natAbs)) (limbsOf x.n.natAbs).length, .sc (.int .u64 x.p), .im (its x.rows) x.rows.length, .im (its x.cols) x.cols.length, .im (mts x.M) x.M.length, .im (ivs x.X) x.X.length, .im (rts x.Y) x.Y.length, .sc (.bool x.found)]
theorem crt_only (x : Crt) : Only (fun _ => False) (crtC x) := by
  refine .ag fun y hy => ?_
  simp only [List.mem_cons, List.not_mem_nil, or_false] at hy
  rcases hy with rfl | rfl | rfl | rfl | rfl | rfl | rfl | rfl | rfl | rfl
  · exact .sc _
  · exact .sc _
  · exact .im _ _
  · exact .sc _
  · exact .im _ _
  · exact .im _ _
  · exact .im _ _
  · exact .im _ _
  · exact .im _ _
  · exact .sc _
def Rd.cert (b : List Int) (n : Nat) (s : Rd) : Crt × Rd :=
  let r0 := s.whole b n
  let r1 := r0.2.int b n
  let r2 := r1.2.number b n
  let r3 := r2.2.ints b n
  let r4 := r3.2.ints b n
  let r5 := r4.2.mats b n
  let r6 := r5.2.intl b n
  let r7 := r6.2.rats b n
  let r8 := r7.2.flag b n
  (⟨r0.1, r1.1, r2.1, r3.1, r4.1, r5.1, r6.1, r7.1, r8.1⟩, r8.2)
set_option maxHeartbeats 8000000 in
set_option maxRecDepth 4000 in
theorem rcert_s (b : List Int) (n : Nat) (s : Rd) (hu : U8s b) (hn : n ≤ b.length) (hb : n ≤ 1000000000) (ha : s.at_ ≤ n) : RdQ Tryz.prog 40 [] (rdB b n s) (rdB b n (s.cert b n).2) (crtC (s.cert b n).1) := by
  refine ⟨crt_only _, rdB_clo _ _ _, fun k nx hk => ?_⟩
  refine InlQ.run Tryz.func40 rfl Tryz.ntmps40 (by simp) (by simp only [go_sem]; rfl) fun B hB => ?_
  have c0 := rwh_s b n s hu hn hb
  have t0 := whole_at (b := b) ha
  have hl := crt_only (s.cert b n).1
  unfold Rd.cert at *
  generalize s.whole b n = r at *
  obtain ⟨u0, s0⟩ := r
  simp only at c0 t0 hl ⊢
  have c1 := rint_s b n s0 hu hn hb t0
  have t1 := int_at (b := b) t0
  generalize s0.int b n = r at *
  obtain ⟨u1, s1⟩ := r
  simp only at c1 t1 hl ⊢
  have c2 := rnum_s b n s1 hu hn hb
  have t2 := number_at (b := b) t1
  generalize s1.number b n = r at *
  obtain ⟨u2, s2⟩ := r
  simp only at c2 t2 hl ⊢
  have c3 := rints_s b n s2 hu hn hb t2
  have t3 := ints_at (b := b) t2
  generalize s2.ints b n = r at *
  obtain ⟨u3, s3⟩ := r
  simp only at c3 t3 hl ⊢
  have c4 := rints_s b n s3 hu hn hb t3
  have t4 := ints_at (b := b) t3
  generalize s3.ints b n = r at *
  obtain ⟨u4, s4⟩ := r
  simp only at c4 t4 hl ⊢
  have c5 := rmats_s b n s4 hu hn hb t4
  have t5 := mats_at (b := b) t4
  generalize s4.mats b n = r at *
  obtain ⟨u5, s5⟩ := r
  simp only at c5 t5 hl ⊢
  have c6 := rintl_s b n s5 hu hn hb t5
  have t6 := intl_at (b := b) t5
  generalize s5.intl b n = r at *
  obtain ⟨u6, s6⟩ := r
  simp only at c6 t6 hl ⊢
  have c7 := rrats_s b n s6 hu hn hb t6
  generalize s6.rats b n = r at *
  obtain ⟨u7, s7⟩ := r
  simp only at c7 hl ⊢
  have c8 := rflag_s b n s7 hu hn hb
  generalize s7.flag b n = r at *
  obtain ⟨u8, s8⟩ := r
  simp only at c8 hl ⊢
  unfold crtC at hl ⊢
  unfold iv at c1
  unfold sv at c1
  unfold rdB at *
  simp only at hl ⊢
  (repeat (first | (with_reducible refine oz (by constructor <;> decide) ?_) | ((with_reducible first | apply SC.region | apply SO.run); (simp only [go_sem, ↓reduceIte, reduceCtorEq] <;> rfl); (fail_if_success with_reducible refine pickA ?_)) | (with_reducible apply SC.ops)))
  (refine SO.inlQ (by simp (disch := omega) only [go_sem] <;> rfl) Tab.go58 (by simp (disch := omega) only [go_sem, ↓reduceIte] <;> rfl) (by simp (disch := omega) only [go_sem] <;> rfl) (SInlQ.rd (c0) (by simp (disch := omega) only [go_sem, ↓reduceIte, if_neg] <;> rfl) rfl (by (dsimp only; omega)) (by simp (disch := omega) only [go_sem, ↓reduceIte, if_neg] <;> rfl) ?_))
  (repeat (first | (with_reducible refine oz (by constructor <;> decide) ?_) | ((with_reducible first | apply SC.region | apply SO.run); (simp only [go_sem, ↓reduceIte, zn1, zn3, zn4, reduceCtorEq] <;> rfl); (fail_if_success with_reducible refine pickA ?_)) | (with_reducible apply SC.ops)))
  (refine SO.inlQ (by simp (disch := omega) only [go_sem] <;> rfl) Tab.go46 (by simp (disch := omega) only [go_sem, ↓reduceIte] <;> rfl) (by simp (disch := omega) only [go_sem] <;> rfl) (SInlQ.rd (c1) (by simp (disch := omega) only [go_sem, ↓reduceIte, if_neg] <;> rfl) rfl (by (dsimp only; omega)) (by simp (disch := omega) only [go_sem, ↓reduceIte, if_neg] <;> rfl) ?_))
  (repeat (first | (with_reducible refine oz (by constructor <;> decide) ?_) | ((with_reducible first | apply SC.region | apply SO.run); (simp only [go_sem, ↓reduceIte, zn1, zn3, zn4, reduceCtorEq] <;> rfl); (fail_if_success with_reducible refine pickA ?_)) | (with_reducible apply SC.ops)))
  (refine SO.inlQ (by simp (disch := omega) only [go_sem] <;> rfl) Tab.go59 (by simp (disch := omega) only [go_sem, ↓reduceIte] <;> rfl) (by simp (disch := omega) only [go_sem] <;> rfl) (SInlQ.rd (c2) (by simp (disch := omega) only [go_sem, ↓reduceIte, if_neg] <;> rfl) rfl (by (dsimp only; omega)) (by simp (disch := omega) only [go_sem, ↓reduceIte, if_neg] <;> rfl) ?_))
  (repeat (first | (with_reducible refine oz (by constructor <;> decide) ?_) | ((with_reducible first | apply SC.region | apply SO.run); (simp only [go_sem, ↓reduceIte, zn1, zn3, zn4, reduceCtorEq] <;> rfl); (fail_if_success with_reducible refine pickA ?_)) | (with_reducible apply SC.ops)))
  (refine SO.inlQ (by simp (disch := omega) only [go_sem] <;> rfl) Tab.go60 (by simp (disch := omega) only [go_sem, ↓reduceIte, zn1] <;> rfl) (by simp (disch := omega) only [go_sem] <;> rfl) (SInlQ.rdk (c3) k (by simp (disch := omega) only [go_sem, ↓reduceIte, if_neg] <;> rfl) rfl (by (dsimp only; omega)) (by simp (disch := omega) only [go_sem, ↓reduceIte, if_neg] <;> rfl) ?_))
  (repeat (first | (with_reducible refine oz (by constructor <;> decide) ?_) | ((with_reducible first | apply SC.region | apply SO.run); (simp only [go_sem, ↓reduceIte, zn1, zn3, zn4, reduceCtorEq] <;> rfl); (fail_if_success with_reducible refine pickA ?_)) | (with_reducible apply SC.ops)))
  (refine SO.inlQ (by simp (disch := omega) only [go_sem] <;> rfl) Tab.go60 (by simp (disch := omega) only [go_sem, ↓reduceIte, zn1] <;> rfl) (by simp (disch := omega) only [go_sem] <;> rfl) (SInlQ.rdk (c4) k (by simp (disch := omega) only [go_sem, ↓reduceIte, if_neg] <;> rfl) rfl (by (dsimp only; omega)) (by simp (disch := omega) only [go_sem, ↓reduceIte, if_neg] <;> rfl) ?_))
  (repeat (first | (with_reducible refine oz (by constructor <;> decide) ?_) | ((with_reducible first | apply SC.region | apply SO.run); (simp only [go_sem, ↓reduceIte, zn1, zn3, zn4, reduceCtorEq] <;> rfl); (fail_if_success with_reducible refine pickA ?_)) | (with_reducible apply SC.ops)))
  (refine SO.inlQ (by simp (disch := omega) only [go_sem] <;> rfl) Tab.go61 (by simp (disch := omega) only [go_sem, ↓reduceIte, zn1] <;> rfl) (by simp (disch := omega) only [go_sem] <;> rfl) (SInlQ.rdk (c5) k (by simp (disch := omega) only [go_sem, ↓reduceIte, if_neg] <;> rfl) rfl (by (dsimp only; omega)) (by simp (disch := omega) only [go_sem, ↓reduceIte, if_neg] <;> rfl) ?_))
  (repeat (first | (with_reducible refine oz (by constructor <;> decide) ?_) | ((with_reducible first | apply SC.region | apply SO.run); (simp (disch := omega) only [go_sem, ↓reduceIte, zn1, zn3, zn4, reduceCtorEq] <;> rfl); (fail_if_success with_reducible refine pickA ?_)) | (with_reducible apply SC.ops)))
  (refine SO.inlQ (by simp (disch := omega) only [go_sem] <;> rfl) Tab.go62 (by simp (disch := omega) only [go_sem, ↓reduceIte, zn1] <;> rfl) (by simp (disch := omega) only [go_sem] <;> rfl) (SInlQ.rdk (c6) k (by simp (disch := omega) only [go_sem, ↓reduceIte, if_neg] <;> rfl) rfl (by (dsimp only; omega)) (by simp (disch := omega) only [go_sem, ↓reduceIte, if_neg] <;> rfl) ?_))
  (repeat (first | (with_reducible refine oz (by constructor <;> decide) ?_) | ((with_reducible first | apply SC.region | apply SO.run); (simp (disch := omega) only [go_sem, ↓reduceIte, zn1, zn3, zn4, reduceCtorEq] <;> rfl); (fail_if_success with_reducible refine pickA ?_)) | (with_reducible apply SC.ops)))
  (refine SO.inlQ (by simp (disch := omega) only [go_sem] <;> rfl) Tab.go63 (by simp (disch := omega) only [go_sem, ↓reduceIte, zn1] <;> rfl) (by simp (disch := omega) only [go_sem] <;> rfl) (SInlQ.rdk (c7) k (by simp (disch := omega) only [go_sem, ↓reduceIte, if_neg] <;> rfl) rfl (by (dsimp only; omega)) (by simp (disch := omega) only [go_sem, ↓reduceIte, if_neg] <;> rfl) ?_))
  (repeat (first | (with_reducible refine oz (by constructor <;> decide) ?_) | ((with_reducible first | apply SC.region | apply SO.run); (simp (disch := omega) only [go_sem, ↓reduceIte, zn1, zn3, zn4, reduceCtorEq] <;> rfl); (fail_if_success with_reducible refine pickA ?_)) | (with_reducible apply SC.ops)))
  (refine SO.inlQ (by simp (disch := omega) only [go_sem] <;> rfl) Tab.go65 (by simp (disch := omega) only [go_sem, ↓reduceIte] <;> rfl) (by simp (disch := omega) only [go_sem] <;> rfl) (SInlQ.rd (c8) (by simp (disch := omega) only [go_sem, ↓reduceIte, if_neg] <;> rfl) rfl (by (dsimp only; omega)) (by simp (disch := omega) only [go_sem, ↓reduceIte, if_neg] <;> rfl) ?_))
  (repeat (first | (with_reducible refine oz (by constructor <;> decide) ?_) | ((with_reducible first | apply SC.region | apply SO.run); (simp (disch := omega) only [go_sem, ↓reduceIte, zn1, zn2, zn3, zn4, reduceCtorEq, if_neg] <;> rfl); (fail_if_success with_reducible refine pickA ?_))))
  exact rd_ret hB hk hl rfl Tryz.results40 (by simp (disch := omega) only [go_sem, ↓reduceIte, zn1, zn3, zn4, if_neg] <;> rfl) (by simp (disch := omega) only [go_sem, ↓reduceIte, if_neg] <;> rfl)
def IntFit (z : Int) : Prop := (limbsOf z.natAbs).length ≤ 10000000
def RatFit (x : Int × Int) : Prop := (limbsOf x.1.natAbs).length ≤ 10000000 ∧ (limbsOf x.2.natAbs).length ≤ 10000000
def matE (y : Nat × List (List Int)) : List Int := mat_ y.1 y.2
def MtOk (y : Nat × List (List Int)) : Prop := MatOk y.1 y.2
theorem putint2_s {z : Int} (h : IntFit z) : PutA 24 [.ag (ivC2 z)] (int_ z) := putint_s z (by unfold IntFit at h; omega)
theorem putmat2_s {y : Nat × List (List Int)} (h : MtOk y) : PutA 28 [.ag (mtC y)] (matE y) := putmat_s h
theorem putrat_s {x : Int × Int} (h : RatFit x) : PutA 31 [.ag (rtC x)] (rat_ x) := by
  obtain ⟨h1, h2⟩ := h
  have hp : 0 < (rat_ x).length := by unfold rat_; rw [zl1]; have := int_pos x.1; omega
  refine PutA.of hp fun id c cap nx hc hi => ?_
  have hl : (rat_ x).length = (int_ x.1).length + (int_ x.2).length := zl1
  have a1 := putint_s x.1 (by omega) id c cap (by omega)
  have a2 := putint_s x.2 (by omega) (nx + 1) (c ++ int_ x.1) none (by rw [zl1]; omega)
  rw [zl1] at a2
  unfold rtC
  unfold iv at a1 a2
  unfold sv at a1 a2
  refine InlQ.run Tryz.func31 rfl Tryz.ntmps31 (by simp) (by simp (disch := omega) only [go_sem, zn4]; rfl) fun B hB => ?_
  (repeat (first | (with_reducible refine oz (by constructor <;> decide) ?_) | ((with_reducible apply SC.region); (simp (disch := omega) only [go_sem, ↓reduceIte, reduceCtorEq]; rfl))))
  (refine SC.draw Tab.mixed (by simp (disch := omega) only [go_sem, ↓reduceIte, if_pos]) ?_)
  (repeat (refine DO.run (by simp (disch := omega) only [go_sem, ↓reduceIte, zn1, zn3, zn4, reduceCtorEq]; rfl) ?_))
  (refine DO.callA Tab.go24 (by simp (disch := omega) only [go_sem, ↓reduceIte, zn1] <;> rfl) (by simp (disch := omega) only [go_sem] <;> rfl) (DApp.of (a1) (by simp (disch := omega) only [go_sem, ↓reduceIte, if_neg] <;> rfl) rfl (by simp (disch := omega) only [go_sem, ↓reduceIte, if_neg] <;> rfl) ?_))
  (repeat (refine DO.run (by simp (disch := omega) only [go_sem, ↓reduceIte, zn1, zn2, zn3, zn4, reduceCtorEq, if_neg]; rfl) ?_))
  (refine DO.callA Tab.go24 (by simp (disch := omega) only [go_sem, ↓reduceIte, zn1] <;> rfl) (by simp (disch := omega) only [go_sem, zn2] <;> rfl) (DApp.of (a2) (by simp (disch := omega) only [go_sem, ↓reduceIte] <;> rfl) rfl (by simp (disch := omega) only [go_sem, ↓reduceIte, if_neg] <;> rfl) ?_))
  (repeat (refine DO.run (by simp (disch := omega) only [go_sem, ↓reduceIte]; rfl) ?_))
  (refine DO.nilF (fun i => i + 1 - nx) (by simp (disch := omega) only [go_sem, zn4, zld, zle, Option.map_some, Option.map_none, znd, zne, znf, zn4] <;> rfl) (by kernel_rfl) ?_)
  (repeat ((with_reducible refine oz (by constructor <;> decide) ?_)))
  have e : bw (c ++ rat_ x) = bw (c ++ int_ x.1 ++ int_ x.2) := by unfold rat_; rw [zl6]
  refine retIQ_ret (.sl (nx + 2) 0 (c.length + (rat_ x).length) 1 none) [(nx + 2, ⟨5, bw (c ++ rat_ x), false⟩)] (nx + 3) Tryz.results31 (by simp (disch := omega) only [go_sem, ↓reduceIte]; rfl) ⟨nx + 2, by omega, rfl, rfl⟩ ?_
  rw [e, hl, ← znf]
  (refine Le.slots ?_ ?_ ?_ <;> (repeat' (first | exact znb _ | exact leSl_nil | refine leSl_cons (by simp (disch := omega) only [go_sem, ↓reduceIte] <;> rfl) ?_ ?_ | exact VLe.refl rfl | (refine fun id k h => ?_; simp only [hget] at h ⊢; (repeat' (split at h)) <;> first | (cases h; done) | (simp (disch := omega) only [if_pos]; exact h)))))
set_option maxHeartbeats 4000000 in
theorem pints_s (l : List Int) (h : ∀ x ∈ l, IntFit x) (hl : l.length ≤ 1000000) : PutA 29 [.im (ivs l) l.length, .sc (.func (.func 24) #[] #[])] (lst int_ l) := by
  have hp : 0 < (lst int_ l).length := by unfold lst; rw [zl1]; have := num_pos l.length; omega
  refine PutA.of hp fun id c cap nx hc hi => ?_
  have ge : (lst int_ l).length = (num l.length).length + (l.flatMap int_).length := zl1
  have a1 := number_s l.length (by omega) id c cap (by omega)
  refine InlQ.run Tryz.func29 rfl Tryz.ntmps29 (by simp) (by simp (disch := omega) only [go_sem, zn4]; rfl) fun B hB => ?_
  (repeat (first | (with_reducible refine oz (by constructor <;> decide) ?_) | ((with_reducible first | apply SC.region | apply SO.run); (simp (disch := omega) only [go_sem, ↓reduceIte, zn1, reduceCtorEq] <;> rfl); (fail_if_success with_reducible refine pickA ?_)) | (with_reducible apply SC.ops)))
  (refine SO.callA Tab.go25 (by simp (disch := omega) only [go_sem, ↓reduceIte, zn1] <;> rfl) (by simp (disch := omega) only [go_sem] <;> rfl) (SApp.of (a1) (by simp (disch := omega) only [go_sem, ↓reduceIte] <;> rfl) rfl (by simp (disch := omega) only [go_sem, ↓reduceIte] <;> rfl) ?_))
  (repeat (first | (with_reducible refine oz (by constructor <;> decide) ?_) | ((with_reducible first | apply SC.region | apply SO.run); (simp (disch := omega) only [go_sem, ↓reduceIte, zn1, reduceCtorEq] <;> rfl); (fail_if_success with_reducible refine pickA ?_))))
  refine SC.loop (fun x : Nat × Nat × Nat => ⟨[(0, .sl x.2.1 0 (c ++ num l.length ++ (l.take x.1).flatMap int_).length 1 none), (2, .sc (.func (.func 24) #[] #[])), (14, .im (ivs l) l.length), (15, .sc (.int .i64 l.length)), (16, .sc (.int .i64 x.1))], [(x.2.1, ⟨5, bw (c ++ num l.length ++ (l.take x.1).flatMap int_), false⟩)], x.2.2, 26⟩)
    (fun x => x.1 ≤ l.length ∧ nx ≤ x.2.1 ∧ x.2.1 < x.2.2) (fun x => l.length - x.1) (0, nx, nx + 1) ?_ ?_ ?_
  · simp only [zl4, List.flatMap_nil, List.append_nil, zl1]
    (refine Le.slots ?_ ?_ ?_ <;> (repeat' (first | (exact fun _ _ h => h) | exact znb _ | exact leSl_nil | refine leSl_cons (by simp (disch := omega) only [go_sem, ↓reduceIte, zn1, reduceCtorEq] <;> rfl) ?_ ?_ | exact VLe.refl rfl)))
  · exact ⟨znc _, by simp only; omega, by simp only; omega⟩
  · rintro ⟨i, q, m⟩ ⟨hi1, hq1, hq2⟩ K hK
    simp only at hi1 hq1 hq2 ⊢
    by_cases hlt : i < l.length
    · have gx := ivs_drop l i hlt
      have gl := ivs_len l
      have q2 : decide ((i : Int) < (l.length : Int)) = true := by rw [decide_eq_true_iff]; omega
      have x0 : ((i : Int)).toNat = i := rfl
      have h12 := h l[i] (List.getElem_mem hlt)
      have hs := flat_snoc int_ l hlt
      have hle := flat_le int_ l (i + 1)
      rw [hs, zl1] at hle
      have a2 := putint2_s h12 q (c ++ num l.length ++ (l.take i).flatMap int_) none (by rw [zl1, zl1]; omega)
      unfold ivC2 at gx; unfold ivC2 at a2
      (repeat (first | (with_reducible refine oz (by constructor <;> decide) ?_) | ((with_reducible first | apply SC.condB | apply SC.region | apply SO.run); (simp (disch := omega) only [go_sem, ↓reduceIte, zn1, zn3, zn4, reduceCtorEq, if_pos, q2, x0, gl, gx, zl8, zl7, zl3, zl4] <;> rfl); (first | refine pickT ?_ | fail_if_success with_reducible refine pickA ?_)) | (with_reducible apply SC.ops)))
      (refine SO.callAV (by simp (disch := omega) only [go_sem, ↓reduceIte, zn1] <;> rfl) Tab.go24 (by simp (disch := omega) only [go_sem, ↓reduceIte, zn1] <;> rfl) (by simp (disch := omega) only [go_sem] <;> rfl) (SApp.of (a2) (by simp (disch := omega) only [go_sem, ↓reduceIte, if_neg] <;> rfl) rfl (by simp (disch := omega) only [go_sem, ↓reduceIte, if_neg] <;> rfl) ?_))
      (repeat (first | (with_reducible refine oz (by constructor <;> decide) ?_) | ((with_reducible first | apply SC.region | apply SO.run); (simp (disch := omega) only [go_sem, ↓reduceIte, zn1, reduceCtorEq] <;> rfl); (fail_if_success with_reducible refine pickA ?_))))
      have e5 : (c ++ num l.length ++ (l.take (i + 1)).flatMap int_).length = (c ++ num l.length ++ (l.take i).flatMap int_).length + (int_ l[i]).length := by rw [hs, ← zl6, zl1]
      have e4 : bw (c ++ num l.length ++ (l.take (i + 1)).flatMap int_) = bw (c ++ num l.length ++ (l.take i).flatMap int_ ++ int_ l[i]) := by rw [hs, ← zl6]
      refine hK _ (i + 1, m + 1, m + 2) ?_ ⟨by simp only; omega, by simp only; omega, by simp only; omega⟩ (by simp only; omega)
      simp only [e4, e5]
      (refine Le.slots ?_ ?_ ?_ <;> (repeat' (first | exact znb _ | exact leSl_nil | refine leSl_cons (by simp (disch := omega) only [go_sem, ↓reduceIte, zn1, reduceCtorEq] <;> rfl) ?_ ?_ | exact VLe.refl rfl | (refine fun id k h => ?_; simp only [hget] at h ⊢; (repeat' (split at h)) <;> first | (cases h; done) | (simp (disch := omega) only [if_pos]; exact h)))))
    · have q2 : decide ((i : Int) < (l.length : Int)) = false := by rw [decide_eq_false_iff_not]; omega
      have hie : i = l.length := by omega
      have e6 : c ++ num l.length ++ (l.take i).flatMap int_ = c ++ lst int_ l := by rw [hie, List.take_length, zl6]; rfl
      have e7 : (c ++ lst int_ l).length = c.length + (lst int_ l).length := zl1
      rw [e6, e7]
      (repeat (first | (with_reducible refine oz (by constructor <;> decide) ?_) | ((with_reducible first | apply SC.condB | apply SC.region); (simp (disch := omega) only [go_sem, ↓reduceIte, zn1, zn2, reduceCtorEq, q2] <;> rfl); (first | refine pickF ?_ | fail_if_success with_reducible refine pickA ?_))))
      refine retIQ_ret (.sl q 0 (c.length + (lst int_ l).length) 1 none) [(q, ⟨5, bw (c ++ lst int_ l), false⟩)] m Tryz.results29 (by simp (disch := omega) only [go_sem, ↓reduceIte]; rfl) ⟨q, by omega, rfl, rfl⟩ ?_
      (refine Le.slots ?_ ?_ ?_ <;> (repeat' (first | (exact fun _ _ h => h) | exact znb _ | exact leSl_nil | refine leSl_cons (by simp (disch := omega) only [go_sem, ↓reduceIte] <;> rfl) ?_ ?_ | exact VLe.refl rfl)))
set_option maxHeartbeats 4000000 in
theorem prats_s (l : List (Int × Int)) (h : ∀ x ∈ l, RatFit x) (hl : l.length ≤ 1000000) : PutA 30 [.im (rts l) l.length, .sc (.func (.func 31) #[] #[])] (lst rat_ l) := by
  have hp : 0 < (lst rat_ l).length := by unfold lst; rw [zl1]; have := num_pos l.length; omega
  refine PutA.of hp fun id c cap nx hc hi => ?_
  have ge : (lst rat_ l).length = (num l.length).length + (l.flatMap rat_).length := zl1
  have a1 := number_s l.length (by omega) id c cap (by omega)
  refine InlQ.run Tryz.func30 rfl Tryz.ntmps30 (by simp) (by simp (disch := omega) only [go_sem, zn4]; rfl) fun B hB => ?_
  (repeat (first | (with_reducible refine oz (by constructor <;> decide) ?_) | ((with_reducible first | apply SC.region | apply SO.run); (simp (disch := omega) only [go_sem, ↓reduceIte, zn1, reduceCtorEq] <;> rfl); (fail_if_success with_reducible refine pickA ?_)) | (with_reducible apply SC.ops)))
  (refine SO.callA Tab.go25 (by simp (disch := omega) only [go_sem, ↓reduceIte, zn1] <;> rfl) (by simp (disch := omega) only [go_sem] <;> rfl) (SApp.of (a1) (by simp (disch := omega) only [go_sem, ↓reduceIte] <;> rfl) rfl (by simp (disch := omega) only [go_sem, ↓reduceIte] <;> rfl) ?_))
  (repeat (first | (with_reducible refine oz (by constructor <;> decide) ?_) | ((with_reducible first | apply SC.region | apply SO.run); (simp (disch := omega) only [go_sem, ↓reduceIte, zn1, reduceCtorEq] <;> rfl); (fail_if_success with_reducible refine pickA ?_))))
  refine SC.loop (fun x : Nat × Nat × Nat => ⟨[(0, .sl x.2.1 0 (c ++ num l.length ++ (l.take x.1).flatMap rat_).length 1 none), (2, .sc (.func (.func 31) #[] #[])), (14, .im (rts l) l.length), (15, .sc (.int .i64 l.length)), (16, .sc (.int .i64 x.1))], [(x.2.1, ⟨5, bw (c ++ num l.length ++ (l.take x.1).flatMap rat_), false⟩)], x.2.2, 26⟩)
    (fun x => x.1 ≤ l.length ∧ nx ≤ x.2.1 ∧ x.2.1 < x.2.2) (fun x => l.length - x.1) (0, nx, nx + 1) ?_ ?_ ?_
  · simp only [zl4, List.flatMap_nil, List.append_nil, zl1]
    (refine Le.slots ?_ ?_ ?_ <;> (repeat' (first | (exact fun _ _ h => h) | exact znb _ | exact leSl_nil | refine leSl_cons (by simp (disch := omega) only [go_sem, ↓reduceIte, zn1, reduceCtorEq] <;> rfl) ?_ ?_ | exact VLe.refl rfl)))
  · exact ⟨znc _, by simp only; omega, by simp only; omega⟩
  · rintro ⟨i, q, m⟩ ⟨hi1, hq1, hq2⟩ K hK
    simp only at hi1 hq1 hq2 ⊢
    by_cases hlt : i < l.length
    · have gx := rts_drop l i hlt
      have gl := rts_len l
      have q2 : decide ((i : Int) < (l.length : Int)) = true := by rw [decide_eq_true_iff]; omega
      have x0 : ((i : Int)).toNat = i := rfl
      have h12 := h l[i] (List.getElem_mem hlt)
      have hs := flat_snoc rat_ l hlt
      have hle := flat_le rat_ l (i + 1)
      rw [hs, zl1] at hle
      have a2 := putrat_s h12 q (c ++ num l.length ++ (l.take i).flatMap rat_) none (by rw [zl1, zl1]; omega)
      unfold rtC at gx a2
      (repeat (first | (with_reducible refine oz (by constructor <;> decide) ?_) | ((with_reducible first | apply SC.condB | apply SC.region | apply SO.run); (simp (disch := omega) only [go_sem, ↓reduceIte, zn1, zn3, zn4, reduceCtorEq, if_pos, q2, x0, gl, gx, zl8, zl7, zl3, zl4] <;> rfl); (first | refine pickT ?_ | fail_if_success with_reducible refine pickA ?_)) | (with_reducible apply SC.ops)))
      (refine SO.callAV (by simp (disch := omega) only [go_sem, ↓reduceIte, zn1] <;> rfl) Tab.go31 (by simp (disch := omega) only [go_sem, ↓reduceIte, zn1] <;> rfl) (by simp (disch := omega) only [go_sem] <;> rfl) (SApp.of (a2) (by simp (disch := omega) only [go_sem, ↓reduceIte, if_neg] <;> rfl) rfl (by simp (disch := omega) only [go_sem, ↓reduceIte, if_neg] <;> rfl) ?_))
      (repeat (first | (with_reducible refine oz (by constructor <;> decide) ?_) | ((with_reducible first | apply SC.region | apply SO.run); (simp (disch := omega) only [go_sem, ↓reduceIte, zn1, reduceCtorEq] <;> rfl); (fail_if_success with_reducible refine pickA ?_))))
      have e5 : (c ++ num l.length ++ (l.take (i + 1)).flatMap rat_).length = (c ++ num l.length ++ (l.take i).flatMap rat_).length + (rat_ l[i]).length := by rw [hs, ← zl6, zl1]
      have e4 : bw (c ++ num l.length ++ (l.take (i + 1)).flatMap rat_) = bw (c ++ num l.length ++ (l.take i).flatMap rat_ ++ rat_ l[i]) := by rw [hs, ← zl6]
      refine hK _ (i + 1, m + 1, m + 2) ?_ ⟨by simp only; omega, by simp only; omega, by simp only; omega⟩ (by simp only; omega)
      simp only [e4, e5]
      (refine Le.slots ?_ ?_ ?_ <;> (repeat' (first | exact znb _ | exact leSl_nil | refine leSl_cons (by simp (disch := omega) only [go_sem, ↓reduceIte, zn1, reduceCtorEq] <;> rfl) ?_ ?_ | exact VLe.refl rfl | (refine fun id k h => ?_; simp only [hget] at h ⊢; (repeat' (split at h)) <;> first | (cases h; done) | (simp (disch := omega) only [if_pos]; exact h)))))
    · have q2 : decide ((i : Int) < (l.length : Int)) = false := by rw [decide_eq_false_iff_not]; omega
      have hie : i = l.length := by omega
      have e6 : c ++ num l.length ++ (l.take i).flatMap rat_ = c ++ lst rat_ l := by rw [hie, List.take_length, zl6]; rfl
      have e7 : (c ++ lst rat_ l).length = c.length + (lst rat_ l).length := zl1
      rw [e6, e7]
      (repeat (first | (with_reducible refine oz (by constructor <;> decide) ?_) | ((with_reducible first | apply SC.condB | apply SC.region); (simp (disch := omega) only [go_sem, ↓reduceIte, zn1, zn2, reduceCtorEq, q2] <;> rfl); (first | refine pickF ?_ | fail_if_success with_reducible refine pickA ?_))))
      refine retIQ_ret (.sl q 0 (c.length + (lst rat_ l).length) 1 none) [(q, ⟨5, bw (c ++ lst rat_ l), false⟩)] m Tryz.results30 (by simp (disch := omega) only [go_sem, ↓reduceIte]; rfl) ⟨q, by omega, rfl, rfl⟩ ?_
      (refine Le.slots ?_ ?_ ?_ <;> (repeat' (first | (exact fun _ _ h => h) | exact znb _ | exact leSl_nil | refine leSl_cons (by simp (disch := omega) only [go_sem, ↓reduceIte] <;> rfl) ?_ ?_ | exact VLe.refl rfl)))
set_option maxHeartbeats 4000000 in
theorem pmats_s (l : List (Nat × List (List Int))) (h : ∀ x ∈ l, MtOk x) (hl : l.length ≤ 1000000) : PutA 27 [.im (mts l) l.length, .sc (.func (.func 28) #[] #[])] (lst matE l) := by
  have hp : 0 < (lst matE l).length := by unfold lst; rw [zl1]; have := num_pos l.length; omega
  refine PutA.of hp fun id c cap nx hc hi => ?_
  have ge : (lst matE l).length = (num l.length).length + (l.flatMap matE).length := zl1
  have a1 := number_s l.length (by omega) id c cap (by omega)
  refine InlQ.run Tryz.func27 rfl Tryz.ntmps27 (by simp) (by simp (disch := omega) only [go_sem, zn4]; rfl) fun B hB => ?_
  (repeat (first | (with_reducible refine oz (by constructor <;> decide) ?_) | ((with_reducible first | apply SC.region | apply SO.run); (simp (disch := omega) only [go_sem, ↓reduceIte, zn1, reduceCtorEq] <;> rfl); (fail_if_success with_reducible refine pickA ?_)) | (with_reducible apply SC.ops)))
  (refine SO.callA Tab.go25 (by simp (disch := omega) only [go_sem, ↓reduceIte, zn1] <;> rfl) (by simp (disch := omega) only [go_sem] <;> rfl) (SApp.of (a1) (by simp (disch := omega) only [go_sem, ↓reduceIte] <;> rfl) rfl (by simp (disch := omega) only [go_sem, ↓reduceIte] <;> rfl) ?_))
  (repeat (first | (with_reducible refine oz (by constructor <;> decide) ?_) | ((with_reducible first | apply SC.region | apply SO.run); (simp (disch := omega) only [go_sem, ↓reduceIte, zn1, reduceCtorEq] <;> rfl); (fail_if_success with_reducible refine pickA ?_))))
  refine SC.loop (fun x : Nat × Nat × Nat => ⟨[(0, .sl x.2.1 0 (c ++ num l.length ++ (l.take x.1).flatMap matE).length 1 none), (2, .sc (.func (.func 28) #[] #[])), (14, .im (mts l) l.length), (15, .sc (.int .i64 l.length)), (16, .sc (.int .i64 x.1))], [(x.2.1, ⟨5, bw (c ++ num l.length ++ (l.take x.1).flatMap matE), false⟩)], x.2.2, 26⟩)
    (fun x => x.1 ≤ l.length ∧ nx ≤ x.2.1 ∧ x.2.1 < x.2.2) (fun x => l.length - x.1) (0, nx, nx + 1) ?_ ?_ ?_
  · simp only [zl4, List.flatMap_nil, List.append_nil, zl1]
    (refine Le.slots ?_ ?_ ?_ <;> (repeat' (first | (exact fun _ _ h => h) | exact znb _ | exact leSl_nil | refine leSl_cons (by simp (disch := omega) only [go_sem, ↓reduceIte, zn1, reduceCtorEq] <;> rfl) ?_ ?_ | exact VLe.refl rfl)))
  · exact ⟨znc _, by simp only; omega, by simp only; omega⟩
  · rintro ⟨i, q, m⟩ ⟨hi1, hq1, hq2⟩ K hK
    simp only at hi1 hq1 hq2 ⊢
    by_cases hlt : i < l.length
    · have gx := mts_drop l i hlt
      have gl := mts_len l
      have q2 : decide ((i : Int) < (l.length : Int)) = true := by rw [decide_eq_true_iff]; omega
      have x0 : ((i : Int)).toNat = i := rfl
      have h12 := h l[i] (List.getElem_mem hlt)
      have hs := flat_snoc matE l hlt
      have hle := flat_le matE l (i + 1)
      rw [hs, zl1] at hle
      have a2 := putmat2_s h12 q (c ++ num l.length ++ (l.take i).flatMap matE) none (by rw [zl1, zl1]; omega)
      unfold mtC at gx; unfold mtC at a2
      (repeat (first | (with_reducible refine oz (by constructor <;> decide) ?_) | ((with_reducible first | apply SC.condB | apply SC.region | apply SO.run); (simp (disch := omega) only [go_sem, ↓reduceIte, zn1, zn3, zn4, reduceCtorEq, if_pos, q2, x0, gl, gx, zl8, zl7, zl3, zl4] <;> rfl); (first | refine pickT ?_ | fail_if_success with_reducible refine pickA ?_)) | (with_reducible apply SC.ops)))
      (refine SO.callAV (by simp (disch := omega) only [go_sem, ↓reduceIte, zn1] <;> rfl) Tab.go28 (by simp (disch := omega) only [go_sem, ↓reduceIte, zn1] <;> rfl) (by simp (disch := omega) only [go_sem] <;> rfl) (SApp.of (a2) (by simp (disch := omega) only [go_sem, ↓reduceIte, if_neg] <;> rfl) rfl (by simp (disch := omega) only [go_sem, ↓reduceIte, if_neg] <;> rfl) ?_))
      (repeat (first | (with_reducible refine oz (by constructor <;> decide) ?_) | ((with_reducible first | apply SC.region | apply SO.run); (simp (disch := omega) only [go_sem, ↓reduceIte, zn1, reduceCtorEq] <;> rfl); (fail_if_success with_reducible refine pickA ?_))))
      have e5 : (c ++ num l.length ++ (l.take (i + 1)).flatMap matE).length = (c ++ num l.length ++ (l.take i).flatMap matE).length + (matE l[i]).length := by rw [hs, ← zl6, zl1]
      have e4 : bw (c ++ num l.length ++ (l.take (i + 1)).flatMap matE) = bw (c ++ num l.length ++ (l.take i).flatMap matE ++ matE l[i]) := by rw [hs, ← zl6]
      refine hK _ (i + 1, m + 1, m + 2) ?_ ⟨by simp only; omega, by simp only; omega, by simp only; omega⟩ (by simp only; omega)
      simp only [e4, e5]
      (refine Le.slots ?_ ?_ ?_ <;> (repeat' (first | exact znb _ | exact leSl_nil | refine leSl_cons (by simp (disch := omega) only [go_sem, ↓reduceIte, zn1, reduceCtorEq] <;> rfl) ?_ ?_ | exact VLe.refl rfl | (refine fun id k h => ?_; simp only [hget] at h ⊢; (repeat' (split at h)) <;> first | (cases h; done) | (simp (disch := omega) only [if_pos]; exact h)))))
    · have q2 : decide ((i : Int) < (l.length : Int)) = false := by rw [decide_eq_false_iff_not]; omega
      have hie : i = l.length := by omega
      have e6 : c ++ num l.length ++ (l.take i).flatMap matE = c ++ lst matE l := by rw [hie, List.take_length, zl6]; rfl
      have e7 : (c ++ lst matE l).length = c.length + (lst matE l).length := zl1
      rw [e6, e7]
      (repeat (first | (with_reducible refine oz (by constructor <;> decide) ?_) | ((with_reducible first | apply SC.condB | apply SC.region); (simp (disch := omega) only [go_sem, ↓reduceIte, zn1, zn2, reduceCtorEq, q2] <;> rfl); (first | refine pickF ?_ | fail_if_success with_reducible refine pickA ?_))))
      refine retIQ_ret (.sl q 0 (c.length + (lst matE l).length) 1 none) [(q, ⟨5, bw (c ++ lst matE l), false⟩)] m Tryz.results27 (by simp (disch := omega) only [go_sem, ↓reduceIte]; rfl) ⟨q, by omega, rfl, rfl⟩ ?_
      (refine Le.slots ?_ ?_ ?_ <;> (repeat' (first | (exact fun _ _ h => h) | exact znb _ | exact leSl_nil | refine leSl_cons (by simp (disch := omega) only [go_sem, ↓reduceIte] <;> rfl) ?_ ?_ | exact VLe.refl rfl)))
set_option maxHeartbeats 4000000 in
theorem pits_s (l : List Int) (h : ∀ x ∈ l, I64 x) (hl : l.length ≤ 1000000) : PutA 26 [.im (its l) l.length, .sc (.func (.func 22) #[] #[])] (lst whl l) := by
  have hp : 0 < (lst whl l).length := by unfold lst; rw [zl1]; have := num_pos l.length; omega
  refine PutA.of hp fun id c cap nx hc hi => ?_
  have ge : (lst whl l).length = (num l.length).length + (l.flatMap whl).length := zl1
  have a1 := number_s l.length (by omega) id c cap (by omega)
  refine InlQ.run Tryz.func26 rfl Tryz.ntmps26 (by simp) (by simp (disch := omega) only [go_sem, zn4]; rfl) fun B hB => ?_
  (repeat (first | (with_reducible refine oz (by constructor <;> decide) ?_) | ((with_reducible first | apply SC.region | apply SO.run); (simp (disch := omega) only [go_sem, ↓reduceIte, zn1, reduceCtorEq] <;> rfl); (fail_if_success with_reducible refine pickA ?_)) | (with_reducible apply SC.ops)))
  (refine SO.callA Tab.go25 (by simp (disch := omega) only [go_sem, ↓reduceIte, zn1] <;> rfl) (by simp (disch := omega) only [go_sem] <;> rfl) (SApp.of (a1) (by simp (disch := omega) only [go_sem, ↓reduceIte] <;> rfl) rfl (by simp (disch := omega) only [go_sem, ↓reduceIte] <;> rfl) ?_))
  (repeat (first | (with_reducible refine oz (by constructor <;> decide) ?_) | ((with_reducible first | apply SC.region | apply SO.run); (simp (disch := omega) only [go_sem, ↓reduceIte, zn1, reduceCtorEq] <;> rfl); (fail_if_success with_reducible refine pickA ?_))))
  refine SC.loop (fun x : Nat × Nat × Nat => ⟨[(0, .sl x.2.1 0 (c ++ num l.length ++ (l.take x.1).flatMap whl).length 1 none), (2, .sc (.func (.func 22) #[] #[])), (14, .im (its l) l.length), (15, .sc (.int .i64 l.length)), (16, .sc (.int .i64 x.1))], [(x.2.1, ⟨5, bw (c ++ num l.length ++ (l.take x.1).flatMap whl), false⟩)], x.2.2, 26⟩)
    (fun x => x.1 ≤ l.length ∧ nx ≤ x.2.1 ∧ x.2.1 < x.2.2) (fun x => l.length - x.1) (0, nx, nx + 1) ?_ ?_ ?_
  · simp only [zl4, List.flatMap_nil, List.append_nil, zl1]
    (refine Le.slots ?_ ?_ ?_ <;> (repeat' (first | (exact fun _ _ h => h) | exact znb _ | exact leSl_nil | refine leSl_cons (by simp (disch := omega) only [go_sem, ↓reduceIte, zn1, reduceCtorEq] <;> rfl) ?_ ?_ | exact VLe.refl rfl)))
  · exact ⟨znc _, by simp only; omega, by simp only; omega⟩
  · rintro ⟨i, q, m⟩ ⟨hi1, hq1, hq2⟩ K hK
    simp only at hi1 hq1 hq2 ⊢
    by_cases hlt : i < l.length
    · have gx := its_drop l i hlt
      have gl := its_len l
      rw [zn8] at gl gx
      have q2 : decide ((i : Int) < (l.length : Int)) = true := by rw [decide_eq_true_iff]; omega
      have x0 : ((i : Int)).toNat = i := rfl
      have h12 := h l[i] (List.getElem_mem hlt)
      have hs := flat_snoc whl l hlt
      have hle := flat_le whl l (i + 1)
      rw [hs, zl1] at hle
      have a2 := whole_s h12 q (c ++ num l.length ++ (l.take i).flatMap whl) none (by rw [zl1, zl1]; omega)
      unfold itC at gx
      (repeat (first | (with_reducible refine oz (by constructor <;> decide) ?_) | ((with_reducible first | apply SC.condB | apply SC.region | apply SO.run); (simp (disch := omega) only [go_sem, ↓reduceIte, zn1, reduceCtorEq, if_pos, q2, x0, gl, gx, zl8, zl7, zn8] <;> rfl); (first | refine pickT ?_ | fail_if_success with_reducible refine pickA ?_)) | (with_reducible apply SC.ops)))
      (refine SO.callAV (by simp (disch := omega) only [go_sem, ↓reduceIte, zn1] <;> rfl) Tab.go22 (by simp (disch := omega) only [go_sem, ↓reduceIte, zn1] <;> rfl) (by simp (disch := omega) only [go_sem] <;> rfl) (SApp.of (a2) (by simp (disch := omega) only [go_sem, ↓reduceIte] <;> rfl) rfl (by simp (disch := omega) only [go_sem, ↓reduceIte] <;> rfl) ?_))
      (repeat (first | (with_reducible refine oz (by constructor <;> decide) ?_) | ((with_reducible first | apply SC.region | apply SO.run); (simp (disch := omega) only [go_sem, ↓reduceIte, zn1, reduceCtorEq] <;> rfl); (fail_if_success with_reducible refine pickA ?_))))
      have e5 : (c ++ num l.length ++ (l.take (i + 1)).flatMap whl).length = (c ++ num l.length ++ (l.take i).flatMap whl).length + (whl l[i]).length := by rw [hs, ← zl6, zl1]
      have e4 : bw (c ++ num l.length ++ (l.take (i + 1)).flatMap whl) = bw (c ++ num l.length ++ (l.take i).flatMap whl ++ whl l[i]) := by rw [hs, ← zl6]
      refine hK _ (i + 1, m, m + 1) ?_ ⟨by simp only; omega, by simp only; omega, by simp only; omega⟩ (by simp only; omega)
      simp only [e4, e5]
      (refine Le.slots ?_ ?_ ?_ <;> (repeat' (first | (exact fun _ _ h => h) | exact znb _ | exact leSl_nil | refine leSl_cons (by simp (disch := omega) only [go_sem, ↓reduceIte, zn1, reduceCtorEq] <;> rfl) ?_ ?_ | exact VLe.refl rfl)))
    · have q2 : decide ((i : Int) < (l.length : Int)) = false := by rw [decide_eq_false_iff_not]; omega
      have hie : i = l.length := by omega
      have e6 : c ++ num l.length ++ (l.take i).flatMap whl = c ++ lst whl l := by rw [hie, List.take_length, zl6]; rfl
      have e7 : (c ++ lst whl l).length = c.length + (lst whl l).length := zl1
      rw [e6, e7]
      (repeat (first | (with_reducible refine oz (by constructor <;> decide) ?_) | ((with_reducible first | apply SC.condB | apply SC.region); (simp (disch := omega) only [go_sem, ↓reduceIte, zn1, zn2, reduceCtorEq, q2] <;> rfl); (first | refine pickF ?_ | fail_if_success with_reducible refine pickA ?_))))
      refine retIQ_ret (.sl q 0 (c.length + (lst whl l).length) 1 none) [(q, ⟨5, bw (c ++ lst whl l), false⟩)] m Tryz.results26 (by simp (disch := omega) only [go_sem, ↓reduceIte]; rfl) ⟨q, by omega, rfl, rfl⟩ ?_
      (refine Le.slots ?_ ?_ ?_ <;> (repeat' (first | (exact fun _ _ h => h) | exact znb _ | exact leSl_nil | refine leSl_cons (by simp (disch := omega) only [go_sem, ↓reduceIte] <;> rfl) ?_ ?_ | exact VLe.refl rfl)))
def noC : Crt := ⟨0, 0, 0, [], [], [], [], [], false⟩
def gotC (b : List Int) (n : Nat) (at_ : Int) : Crt × Nat × Nat := if at_ < 0 ∨ at_ > n then (noC, 0, 1) else if (Rd.cert b n ⟨at_.toNat, 0⟩).2.e = 0 then ((Rd.cert b n ⟨at_.toNat, 0⟩).1, (Rd.cert b n ⟨at_.toNat, 0⟩).2.at_, 0) else (noC, 0, (Rd.cert b n ⟨at_.toNat, 0⟩).2.e)
def tuC (r : Crt × Nat × Nat) : V := .tu [crtC r.1, .sc (.int .i64 r.2.1), .sc (.int .i64 r.2.2)]
set_option maxHeartbeats 4000000 in
theorem gotC_s (b : List Int) (n : Nat) (at_ : Int) (hu : U8s b) (hn : n ≤ b.length) (hb : n ≤ 1000000000) :
    Spec Tryz.prog 39 [.im (bw b) n, .sc (.int .i64 at_), .sc (.func (.func 40) #[] #[])] (tuC (gotC b n at_)) := by
  unfold gotC
  by_cases h0 : at_ < 0
  · have q1 : decide (at_ < 0) = true := decide_eq_true h0
    rw [if_pos (.inl h0)]
    refine Spec.run Tryz.func39 rfl Tryz.ntmps39 (by simp) (by simp only [go_sem, zn4]; rfl) fun B hB => ?_
    (repeat (first | (with_reducible refine oz (by constructor <;> decide) ?_) | ((with_reducible first | apply SC.condB | apply SC.region); (simp (disch := omega) only [go_sem, ↓reduceIte, zn1, zn3, zn4, reduceCtorEq, q1] <;> rfl); (first | refine pickT ?_ | fail_if_success with_reducible refine pickA ?_))))
    exact retQ_ret Tryz.results39 (by simp (disch := omega) only [go_sem, ↓reduceIte, zn1, zn3, zn4, reduceCtorEq] <;> rfl) (by simp (disch := omega) only [go_sem, ↓reduceIte] <;> rfl) rfl
  · have q1 : decide (at_ < 0) = false := decide_eq_false h0
    by_cases h1 : at_ > n
    · have q2 : decide (at_ > (n : Int)) = true := decide_eq_true h1
      rw [if_pos (.inr h1)]
      refine Spec.run Tryz.func39 rfl Tryz.ntmps39 (by simp) (by simp only [go_sem, zn4]; rfl) fun B hB => ?_
      (repeat (first | (with_reducible refine oz (by constructor <;> decide) ?_) | ((with_reducible first | apply SC.condB | apply SC.region); (simp (disch := omega) only [go_sem, ↓reduceIte, zn1, zn3, zn4, reduceCtorEq, q1, q2] <;> rfl); (first | refine pickT ?_ | fail_if_success with_reducible refine pickA ?_))))
      exact retQ_ret Tryz.results39 (by simp (disch := omega) only [go_sem, ↓reduceIte, zn1, zn3, zn4, reduceCtorEq] <;> rfl) (by simp (disch := omega) only [go_sem, ↓reduceIte] <;> rfl) rfl
    · have q2 : decide (at_ > (n : Int)) = false := decide_eq_false h1
      rw [if_neg (by omega)]
      obtain ⟨a, rfl⟩ : ∃ a : Nat, at_ = a := ⟨at_.toNat, by omega⟩
      have c1 := rcert_s b n ⟨a, 0⟩ hu hn hb (by simp only; omega)
      rw [show ((a : Int)).toNat = a from rfl]
      generalize Rd.cert b n ⟨a, 0⟩ = r at *
      obtain ⟨z, s⟩ := r
      simp only at c1 ⊢
      unfold rdB at c1
      by_cases he : s.e = 0
      · have q3 : ((s.e : Int) != 0) = false := by rw [he]; rfl
        rw [if_pos he]
        unfold tuC
        simp only
        unfold crtC at c1 ⊢
        refine Spec.run Tryz.func39 rfl Tryz.ntmps39 (by simp) (by simp only [go_sem, zn4]; rfl) fun B hB => ?_
        (repeat (first | (with_reducible refine oz (by constructor <;> decide) ?_) | ((with_reducible first | apply SC.condB | apply SC.region | apply SO.run); (simp (disch := omega) only [go_sem, ↓reduceIte, zn1, zn3, zn4, reduceCtorEq, q1, q2] <;> rfl); (first | refine pickF ?_ | fail_if_success with_reducible refine pickA ?_)) | (with_reducible apply SC.ops)))
        (refine SO.inlQ (by simp (disch := omega) only [go_sem, ↓reduceIte, zn1] <;> rfl) Tab.go40 (by simp (disch := omega) only [go_sem, ↓reduceIte] <;> rfl) (by simp (disch := omega) only [go_sem] <;> rfl) (SInlQ.rd (c1) (by simp (disch := omega) only [go_sem, ↓reduceIte] <;> rfl) rfl (by (dsimp only; omega)) (by simp (disch := omega) only [go_sem, ↓reduceIte] <;> rfl) ?_))
        (repeat (first | refine DO.nil (by kernel_rfl) ?_ | (with_reducible refine oz (by constructor <;> decide) ?_) | ((with_reducible first | apply wa | apply wb | apply wc | apply wd); (simp only [go_sem, ↓reduceIte, zn1, zn2, zn3, zn4, reduceCtorEq, q3] <;> rfl); (first | refine pickF ?_ | fail_if_success with_reducible refine pickA ?_)) | ((with_reducible refine SC.draw Tab.mixed ?_ ?_); rfl)))
        exact retQ_ret Tryz.results39 (by simp only [go_sem, ↓reduceIte, zn1, zn3, zn4, reduceCtorEq] <;> rfl) (by simp only [go_sem, ↓reduceIte] <;> rfl) rfl
      · have q3 : ((s.e : Int) != 0) = true := by rw [bne_iff_ne]; omega
        rw [if_neg he]
        unfold crtC at c1
        refine Spec.run Tryz.func39 rfl Tryz.ntmps39 (by simp) (by simp only [go_sem, zn4]; rfl) fun B hB => ?_
        (repeat (first | (with_reducible refine oz (by constructor <;> decide) ?_) | ((with_reducible first | apply SC.condB | apply SC.region | apply SO.run); (simp (disch := omega) only [go_sem, ↓reduceIte, zn1, zn3, zn4, reduceCtorEq, q1, q2] <;> rfl); (first | refine pickF ?_ | fail_if_success with_reducible refine pickA ?_)) | (with_reducible apply SC.ops)))
        (refine SO.inlQ (by simp (disch := omega) only [go_sem, ↓reduceIte, zn1] <;> rfl) Tab.go40 (by simp (disch := omega) only [go_sem, ↓reduceIte] <;> rfl) (by simp (disch := omega) only [go_sem] <;> rfl) (SInlQ.rd (c1) (by simp (disch := omega) only [go_sem, ↓reduceIte] <;> rfl) rfl (by (dsimp only; omega)) (by simp (disch := omega) only [go_sem, ↓reduceIte] <;> rfl) ?_))
        (repeat (first | refine DO.nil (by kernel_rfl) ?_ | (with_reducible refine oz (by constructor <;> decide) ?_) | ((with_reducible first | apply wa | apply wb | apply wc | apply wd); (simp (disch := omega) only [go_sem, ↓reduceIte, zn1, zn3, zn4, reduceCtorEq, q3] <;> rfl); (first | refine pickT ?_ | fail_if_success with_reducible refine pickA ?_)) | ((with_reducible refine SC.draw Tab.mixed ?_ ?_); rfl)))
        exact retQ_ret Tryz.results39 (by simp only [go_sem, ↓reduceIte, zn1, zn3, zn4, reduceCtorEq] <;> rfl) (by simp only [go_sem, ↓reduceIte] <;> rfl) rfl
theorem idleGC : Idle Tryz.prog 38 := Idle.of Tab.go38 Tryz.func38 rfl rfl rfl rfl Tryz.ntmps38 Tryz.results38
theorem GetCert_s (b : List Int) (n : Nat) (at_ : Int) (hu : U8s b) (hn : n ≤ b.length) (hb : n ≤ 1000000000) :
    Spec Tryz.prog 9 [.im (bw b) n, .sc (.int .i64 at_)] (tuC (gotC b n at_)) := by
  have c1 := gotC_s b n at_ hu hn hb
  generalize gotC b n at_ = r at *
  obtain ⟨z, i, e⟩ := r
  unfold tuC crtC at c1 ⊢
  simp only at c1 ⊢
  refine Spec.runD Tryz.func9 rfl rfl rfl rfl idleGC Tryz.ntmps9 (by simp) (by simp only [go_sem, zn4]; rfl) (by simp only [go_sem, ↓reduceIte]; rfl) fun B hB => ?_
  (repeat (first | (with_reducible refine oz (by constructor <;> decide) ?_) | ((apply SO.call); (iterate 3 (simp (disch := omega) only [go_sem, ↓reduceIte, zn1] <;> rfl)); (apply SCall.ofX); (assumption); (simp (disch := omega) only [go_sem] <;> rfl)) | ((with_reducible first | apply SC.region | apply SO.run); (simp (disch := omega) only [go_sem, ↓reduceIte, zn1, zn2, zn3, zn4, reduceCtorEq] <;> rfl); (fail_if_success with_reducible refine pickA ?_)) | (with_reducible apply SC.ops)))
  exact retQ_ret Tryz.results9 (by simp (disch := omega) only [go_sem, ↓reduceIte, zn1, zn3, zn4] <;> rfl) (by simp (disch := omega) only [go_sem, ↓reduceIte] <;> rfl) rfl
end Go.Proofs.YtphilljhfdlfdaaGreat
