/- Texts joined: Fh Fi Fp Ua Up Ut Ub Em Fs Ft Fu. -/
import Derived.Test.YtphilljhfdlfdaaGreatZd
import Derived.Test.YtphilljhfdlfdaaGreatZe
import Derived.Test.YtphilljhfdlfdaaGreatZh
import Derived.Test.YtphilljhfdlfdaaGreatZi
import Derived.Test.YtphilljhfdlfdaaGreatZj
import Derived.Test.YtphilljhfdlfdaaGreatZk
set_option linter.all false
open Nat renaming reduceEqDiff → zn1, reduceLT → zn2, reduceLeDiff → zn3, reduceAdd → zn4, reduceMul → zn5, reduceSub → zn6, reduceBEq → zn7, mul_one → zn8, zero_add → zn9, one_mul → zna, le_refl → znb, zero_le → znc, add_sub_cancel_left → znd, sub_eq_zero_of_le → zne, add_assoc → znf
open Int renaming reduceToNat → zi1, reducePow → zi2
open List renaming length_append → zl1, drop_zero → zl2, take_succ_cons → zl3, take_zero → zl4, getElem?_drop → zl5, append_assoc → zl6, nil_append → zl7, cons_append → zl8, drop_succ_cons → zl9, take_of_length_le → zla, getElem?_eq_getElem → zlb, getElem?_eq_some_iff → zlc, map_cons → zld, map_nil → zle, all_eq_true → zlf
namespace Go.Proofs.YtphilljhfdlfdaaGreat
section
variable {b : List Int} {n : Nat} (hu : U8s b) (hn : n ≤ b.length)
include hu hn
end
end Go.Proofs.YtphilljhfdlfdaaGreat
namespace Go.Proofs.YtphilljhfdlfdaaGreat
section
variable {b : List Int} {n : Nat} (hu : U8s b) (hn : n ≤ b.length)
include hu hn
end
theorem rat_stk (b : List Int) (n : Nat) : Stk (Rd.rat b n) := fun s hs => by
  have h1 := int_stk b n s hs
  have h2 := int_stk b n (s.int b n).2 (by rw [h1]; exact hs)
  unfold Rd.rat
  rw [if_neg (by rw [h2, h1]; exact hs)]
  show ((s.int b n).2.int b n).2.e = s.e
  rw [h2, h1]
def crt_ (x : Crt) : List Int := whl x.kind ++ int_ x.n ++ num x.p ++ lst whl x.rows ++ lst whl x.cols ++ lst (fun y => mat_ y.1 y.2) x.M ++ lst int_ x.X ++ lst rat_ x.Y ++ flg x.found
def CrtFit (x : Crt) : Prop := I64 x.kind ∧ (limbsOf x.n.natAbs).length ≤ 4000 ∧ x.p < 18446744073709551616 ∧ (x.rows.length ≤ 4000 ∧ ∀ y ∈ x.rows, I64 y) ∧ (x.cols.length ≤ 4000 ∧ ∀ y ∈ x.cols, I64 y) ∧ (x.M.length ≤ 4000 ∧ ∀ y ∈ x.M, MatFit y.1 y.2) ∧ (x.X.length ≤ 4000 ∧ ∀ y ∈ x.X, (limbsOf y.natAbs).length ≤ 4000) ∧ (x.Y.length ≤ 4000 ∧ ∀ y ∈ x.Y, (limbsOf y.1.natAbs).length ≤ 4000 ∧ (limbsOf y.2.natAbs).length ≤ 4000)
def mkCt (k : Int) (y : Int × Nat × List Int × List Int × List (Nat × List (List Int)) × List Int × List (Int × Int) × Bool) : Crt := ⟨k, y.1, y.2.1, y.2.2.1, y.2.2.2.1, y.2.2.2.2.1, y.2.2.2.2.2.1, y.2.2.2.2.2.2.1, y.2.2.2.2.2.2.2⟩
theorem cert_seq (b : List Int) (n : Nat) : Rd.cert b n = seqR mkCt (Rd.whole b n) (seqR Prod.mk (Rd.int b n) (seqR Prod.mk (Rd.number b n) (seqR Prod.mk (Rd.ints b n) (seqR Prod.mk (Rd.ints b n) (seqR Prod.mk (Rd.mats b n) (seqR Prod.mk (Rd.intl b n) (seqR Prod.mk (Rd.rats b n) (Rd.flag b n)))))))) := by
  funext s
  simp only [Rd.cert, seqR, mkCt]
theorem idlePC : Idle Tryz.prog 21 := Idle.of Tab.go21 Tryz.func21 rfl rfl rfl rfl Tryz.ntmps21 Tryz.results21
theorem matfit_ok {w : Nat} {M : List (List Int)} (h : MatFit w M) : MatOk w M := ⟨by have := h.len; omega, by have := h.wid; omega, fun r hr => ⟨(h.row r hr).1, fun x hx => by have := (h.row r hr).2 x hx; omega⟩⟩
set_option maxHeartbeats 8000000 in
set_option maxRecDepth 4000 in
theorem PutCert_s {b : List Int} {x : Crt} (hx : CrtFit x) (hb : b.length + (crt_ x).length ≤ 1000000000) : Spec Tryz.prog 6 [.im (bw b) b.length, crtC x] (.im (bw (b ++ crt_ x)) (b ++ crt_ x).length) := by
  obtain ⟨h1, h2, h3, ⟨h4, h4'⟩, ⟨h5, h5'⟩, ⟨h6, h6'⟩, ⟨h7, h7'⟩, ⟨h8, h8'⟩⟩ := hx
  have hlen : (crt_ x).length = (whl x.kind).length + (int_ x.n).length + (num x.p).length + (lst whl x.rows).length + (lst whl x.cols).length + (lst (fun y => mat_ y.1 y.2) x.M).length + (lst int_ x.X).length + (lst rat_ x.Y).length + 1 := by unfold crt_; simp only [zl1]; rfl
  have a0 := cloneB_s (b := b) (by omega)
  have a1 := whole_s h1 1 b none (by omega)
  have a2 := putint_s x.n (by omega) 2 (b ++ whl x.kind) none (by simp only [zl1]; omega)
  have a3 := number_s x.p h3 3 (b ++ whl x.kind ++ int_ x.n) none (by simp only [zl1]; omega)
  have a4 := pits_s x.rows h4' (by omega) 4 (b ++ whl x.kind ++ int_ x.n ++ num x.p) none (by simp only [zl1]; omega)
  have a5 := pits_s x.cols h5' (by omega) 5 (b ++ whl x.kind ++ int_ x.n ++ num x.p ++ lst whl x.rows) none (by simp only [zl1]; omega)
  have a6 := pmats_s x.M (fun y hy => matfit_ok (h6' y hy)) (by omega) 6 (b ++ whl x.kind ++ int_ x.n ++ num x.p ++ lst whl x.rows ++ lst whl x.cols) none (by simp only [zl1]; show _ + (lst (fun y => mat_ y.1 y.2) x.M).length ≤ _; omega)
  have a7 := pints_s x.X (fun y hy => by have := h7' y hy; unfold IntFit; omega) (by omega) 7 (b ++ whl x.kind ++ int_ x.n ++ num x.p ++ lst whl x.rows ++ lst whl x.cols ++ lst (fun y => mat_ y.1 y.2) x.M) none (by simp only [zl1]; omega)
  have a8 := prats_s x.Y (fun y hy => by have := h8' y hy; unfold RatFit; omega) (by omega) 8 (b ++ whl x.kind ++ int_ x.n ++ num x.p ++ lst whl x.rows ++ lst whl x.cols ++ lst (fun y => mat_ y.1 y.2) x.M ++ lst int_ x.X) none (by simp only [zl1]; omega)
  have a9 := flag_s x.found 9 (b ++ whl x.kind ++ int_ x.n ++ num x.p ++ lst whl x.rows ++ lst whl x.cols ++ lst (fun y => mat_ y.1 y.2) x.M ++ lst int_ x.X ++ lst rat_ x.Y) none (by simp only [zl1]; show _ + 1 ≤ _; omega)
  have eM : lst matE x.M = lst (fun y => mat_ y.1 y.2) x.M := rfl
  rw [eM] at a6
  have e0 : b ++ crt_ x = b ++ whl x.kind ++ int_ x.n ++ num x.p ++ lst whl x.rows ++ lst whl x.cols ++ lst (fun y => mat_ y.1 y.2) x.M ++ lst int_ x.X ++ lst rat_ x.Y ++ flg x.found := by unfold crt_; simp only [zl6]
  have fl : (flg x.found).length = 1 := rfl
  have gle : (b ++ crt_ x).length = b.length + (whl x.kind).length + (int_ x.n).length + (num x.p).length + (lst whl x.rows).length + (lst whl x.cols).length + (lst (fun y => mat_ y.1 y.2) x.M).length + (lst int_ x.X).length + (lst rat_ x.Y).length + 1 := by rw [zl1]; omega
  have gl := bw_len (b ++ crt_ x)
  have gcl := bw_clo (b ++ crt_ x)
  have gt : (bw (b ++ crt_ x)).take (b ++ crt_ x).length = bw (b ++ crt_ x) := zla (by omega)
  rw [gle] at gl gt ⊢
  rw [e0] at gl gcl gt ⊢
  simp only [zl1, fl] at a1 a2 a3 a4 a5 a6 a7 a8 a9
  unfold iv at a2
  unfold sv at a2
  unfold crtC
  clear h1 h2 h3 h4 h4' h5 h5' h6 h6' h7 h7' h8 h8' hlen gle hb e0 eM
  generalize (whl x.kind).length = n1 at *
  generalize (int_ x.n).length = n2 at *
  generalize (num x.p).length = n3 at *
  generalize (lst whl x.rows).length = n4 at *
  generalize (lst whl x.cols).length = n5 at *
  generalize (lst (fun y => mat_ y.1 y.2) x.M).length = n6 at *
  generalize (lst int_ x.X).length = n7 at *
  generalize (lst rat_ x.Y).length = n8 at *
  refine Spec.runD Tryz.func6 rfl rfl rfl rfl idlePC Tryz.ntmps6 (by simp) rfl (by simp only [go_sem, ↓reduceIte, zn4, reduceCtorEq]; rfl) fun B hB => ?_
  (repeat ((with_reducible refine oz (by constructor <;> decide) ?_)))
  (refine SC.draw Tab.mixed rfl ?_)
  (repeat (refine DO.run (by simp only [go_sem, ↓reduceIte, reduceCtorEq]; rfl) ?_))
  (refine DO.callN Tab.go23 (by simp (disch := omega) only [go_sem, ↓reduceIte]; rfl) (by simp (disch := omega) only [go_sem] <;> rfl) ?_; refine DNew.of (a0) rfl (by simp (disch := omega) only [go_sem, zn4]; rfl) ?_)
  (repeat (refine DO.run (by simp only [go_sem, ↓reduceIte, zn1, reduceCtorEq]; rfl) ?_))
  (refine DO.callA Tab.go22 (by simp (disch := omega) only [go_sem, ↓reduceIte, zn1] <;> rfl) (by simp (disch := omega) only [go_sem] <;> rfl) (DApp.of (a1) (by simp (disch := omega) only [go_sem, ↓reduceIte] <;> rfl) rfl (by simp (disch := omega) only [go_sem, ↓reduceIte, zn4, reduceCtorEq] <;> rfl) ?_))
  (repeat (refine DO.run (by simp only [go_sem, ↓reduceIte]; rfl) ?_))
  (refine DO.nil (by kernel_rfl) ?_)
  (repeat (first | (with_reducible refine oz (by constructor <;> decide) ?_) | ((with_reducible first | apply SC.region | apply SO.run); (simp only [go_sem, ↓reduceIte, zn1, zn3, zn4, reduceCtorEq] <;> rfl); (fail_if_success with_reducible refine pickA ?_)) | (with_reducible apply SC.ops)))
  (refine SO.callA Tab.go24 (by simp (disch := omega) only [go_sem, ↓reduceIte, zn1] <;> rfl) (by simp (disch := omega) only [go_sem] <;> rfl) (SApp.of (a2) (by simp (disch := omega) only [go_sem, ↓reduceIte] <;> rfl) rfl (by simp (disch := omega) only [go_sem, ↓reduceIte, zn4, reduceCtorEq] <;> rfl) ?_))
  (repeat (first | (with_reducible refine oz (by constructor <;> decide) ?_) | ((with_reducible first | apply SC.region | apply SO.run); (simp only [go_sem, ↓reduceIte, zn1, reduceCtorEq] <;> rfl); (fail_if_success with_reducible refine pickA ?_)) | (with_reducible apply SC.ops)))
  (refine SO.callA Tab.go25 (by simp (disch := omega) only [go_sem, ↓reduceIte, zn1] <;> rfl) (by simp (disch := omega) only [go_sem] <;> rfl) (SApp.of (a3) (by simp (disch := omega) only [go_sem, ↓reduceIte] <;> rfl) rfl (by simp (disch := omega) only [go_sem, ↓reduceIte, zn4, reduceCtorEq] <;> rfl) ?_))
  (repeat (first | (with_reducible refine oz (by constructor <;> decide) ?_) | ((with_reducible first | apply SC.region | apply SO.run); (simp only [go_sem, ↓reduceIte, zn1, reduceCtorEq] <;> rfl); (fail_if_success with_reducible refine pickA ?_)) | (with_reducible apply SC.ops)))
  (refine SO.callA Tab.go26 (by simp (disch := omega) only [go_sem, ↓reduceIte, zn1] <;> rfl) (by simp (disch := omega) only [go_sem] <;> rfl) (SApp.of (a4) (by simp (disch := omega) only [go_sem, ↓reduceIte] <;> rfl) rfl (by simp (disch := omega) only [go_sem, ↓reduceIte, zn4, reduceCtorEq] <;> rfl) ?_))
  (repeat (first | (with_reducible refine oz (by constructor <;> decide) ?_) | ((with_reducible first | apply SC.region | apply SO.run); (simp only [go_sem, ↓reduceIte, zn1, reduceCtorEq] <;> rfl); (fail_if_success with_reducible refine pickA ?_)) | (with_reducible apply SC.ops)))
  (refine SO.callA Tab.go26 (by simp (disch := omega) only [go_sem, ↓reduceIte, zn1] <;> rfl) (by simp (disch := omega) only [go_sem] <;> rfl) (SApp.of (a5) (by simp (disch := omega) only [go_sem, ↓reduceIte] <;> rfl) rfl (by simp (disch := omega) only [go_sem, ↓reduceIte, zn4, reduceCtorEq] <;> rfl) ?_))
  (repeat (first | (with_reducible refine oz (by constructor <;> decide) ?_) | ((with_reducible first | apply SC.region | apply SO.run); (simp only [go_sem, ↓reduceIte, zn1, reduceCtorEq] <;> rfl); (fail_if_success with_reducible refine pickA ?_)) | (with_reducible apply SC.ops)))
  (refine SO.callA Tab.go27 (by simp (disch := omega) only [go_sem, ↓reduceIte, zn1] <;> rfl) (by simp (disch := omega) only [go_sem] <;> rfl) (SApp.of (a6) (by simp (disch := omega) only [go_sem, ↓reduceIte] <;> rfl) rfl (by simp (disch := omega) only [go_sem, ↓reduceIte, zn4, reduceCtorEq] <;> rfl) ?_))
  (repeat (first | (with_reducible refine oz (by constructor <;> decide) ?_) | ((with_reducible first | apply SC.region | apply SO.run); (simp only [go_sem, ↓reduceIte, zn1, reduceCtorEq] <;> rfl); (fail_if_success with_reducible refine pickA ?_)) | (with_reducible apply SC.ops)))
  (refine SO.callA Tab.go29 (by simp (disch := omega) only [go_sem, ↓reduceIte, zn1] <;> rfl) (by simp (disch := omega) only [go_sem] <;> rfl) (SApp.of (a7) (by simp (disch := omega) only [go_sem, ↓reduceIte] <;> rfl) rfl (by simp (disch := omega) only [go_sem, ↓reduceIte, zn4, reduceCtorEq] <;> rfl) ?_))
  (repeat (first | (with_reducible refine oz (by constructor <;> decide) ?_) | ((with_reducible first | apply SC.region | apply SO.run); (simp only [go_sem, ↓reduceIte, zn1, reduceCtorEq] <;> rfl); (fail_if_success with_reducible refine pickA ?_)) | (with_reducible apply SC.ops)))
  (refine SO.callA Tab.go30 (by simp (disch := omega) only [go_sem, ↓reduceIte, zn1] <;> rfl) (by simp (disch := omega) only [go_sem] <;> rfl) (SApp.of (a8) (by simp (disch := omega) only [go_sem, ↓reduceIte] <;> rfl) rfl (by simp (disch := omega) only [go_sem, ↓reduceIte, zn4, reduceCtorEq] <;> rfl) ?_))
  (repeat (first | (with_reducible refine oz (by constructor <;> decide) ?_) | ((with_reducible first | apply SC.region | apply SO.run); (simp only [go_sem, ↓reduceIte, zn1, zn2, reduceCtorEq] <;> rfl); (fail_if_success with_reducible refine pickA ?_)) | (with_reducible apply SC.ops)))
  (refine SO.callA Tab.go32 (by simp only [go_sem, ↓reduceIte, zn1] <;> rfl) (by simp only [go_sem, zn2] <;> rfl) (SApp.of (a9) (by simp only [go_sem, ↓reduceIte] <;> rfl) rfl (by simp only [go_sem, ↓reduceIte, zn4, reduceCtorEq] <;> rfl) ?_))
  (repeat (first | (with_reducible refine oz (by constructor <;> decide) ?_) | ((with_reducible apply SO.run); (simp only [go_sem, ↓reduceIte] <;> rfl); (fail_if_success with_reducible refine pickA ?_))))
  exact retQ_ret Tryz.results6 (by simp (disch := omega) only [go_sem, ↓reduceIte] <;> rfl) (by simp (disch := omega) only [go_sem, ↓reduceIte, zn3, if_pos, gl, gcl, gt, zl2, zn8] <;> rfl) rfl
def rt (n d : Int) : V := .ag [.sc (.bool (decide (n < 0))), .im (lv (limbsOf n.natAbs)) (limbsOf n.natAbs).length, .sc (.bool (decide (d < 0))), .im (lv (limbsOf d.natAbs)) (limbsOf d.natAbs).length]
def rv (q : Rat) : V := rt q.num (q.den : Int)
theorem red_num {n d : Int} (h : d ≠ 0) : n / (if d < 0 then -((Int.gcd n d : Nat) : Int) else ((Int.gcd n d : Nat) : Int)) = (Rat.divInt n d).num := by
  rw [Rat.num_divInt, Int.gcd_comm d n]
  split
  · rename_i hd
    rw [Int.sign_eq_neg_one_of_neg hd, Int.ediv_neg, Int.neg_one_mul, Int.neg_ediv_of_dvd (Int.gcd_dvd_left n d)]
  · rw [Int.sign_eq_one_of_pos (by omega), Int.one_mul]
theorem red_den {n d : Int} (h : d ≠ 0) : d / (if d < 0 then -((Int.gcd n d : Nat) : Int) else ((Int.gcd n d : Nat) : Int)) = ((Rat.divInt n d).den : Int) := by
  rw [Rat.den_divInt, if_neg h, Int.gcd_comm d n]
  have hd := Int.gcd_dvd_right n d
  split
  · rename_i hn
    rw [Int.ediv_neg, ← Int.neg_ediv_of_dvd hd, show -d = (d.natAbs : Int) by omega]; rfl
  · rename_i hn
    conv => lhs; rw [show d = (d.natAbs : Int) by omega]
    rfl
end Go.Proofs.YtphilljhfdlfdaaGreat
namespace Go.Proofs.YtphilljhfdlfdaaGreat
end Go.Proofs.YtphilljhfdlfdaaGreat
namespace Go.Proofs.YtphilljhfdlfdaaGreat
set_option maxHeartbeats 1000000 in
theorem rOf_i (n d : Int) (K : Nat) (hn : Fits K n) (hd : Fits K d) (hK : K ≤ 1000000) (h0 : d ≠ 0) : Spec Tryz.prog 73 [iv n, iv d] (.tu [rv (Rat.divInt n d), .sc (.int .i64 0)]) := by
  have c1 := sign_i d K hd (by omega)
  have q1 : (d.sign == 0) = false := by rw [beq_eq_false_iff_ne]; exact fun h => h0 (Int.sign_eq_zero_iff_zero.1 h)
  have hg0 : Int.gcd n d ≠ 0 := fun h => h0 (Int.gcd_eq_zero_iff.1 h).2
  have hg1 : Int.gcd n d ∣ d.natAbs := Int.gcd_dvd_natAbs_right n d
  have hgle := Nat.le_of_dvd (by omega) hg1
  have fg : Fits K (Int.gcd n d : Int) := by unfold Fits at *; rw [Int.natAbs_natCast]; omega
  have e1 := red_num (n := n) h0
  have e2 := red_den (n := n) h0
  by_cases hneg : d < 0
  · rw [if_pos hneg] at e1 e2
    have q2 : decide (d.sign < 0) = true := by rw [decide_eq_true_eq, Int.sign_eq_neg_one_of_neg hneg]; omega
    have c2 := neg_i n K hn (by omega)
    have c3 := neg_i d K hd (by omega)
    have c4 := rgcd_i (-n) (-d) K hn.neg hd.neg (by omega)
    rw [Int.gcd_neg, Int.neg_gcd] at c4
    have c5 := divmod_i (-n) (Int.gcd n d) K hn.neg fg (by omega) (by omega)
    have c6 := divmod_i (-d) (Int.gcd n d) K hd.neg fg (by omega) (by omega)
    rw [show -n / ((Int.gcd n d : Nat) : Int) = (Rat.divInt n d).num by rw [← e1, Int.ediv_neg, Int.neg_ediv_of_dvd (Int.gcd_dvd_left n d)]] at c5
    rw [show -d / ((Int.gcd n d : Nat) : Int) = ((Rat.divInt n d).den : Int) by rw [← e2, Int.ediv_neg, Int.neg_ediv_of_dvd (Int.gcd_dvd_right n d)]] at c6
    ((try unfold rv at *); (try unfold rt at *); (try unfold iv at *); (try unfold sv at *))
    generalize (Rat.divInt n d).num = x at *
    generalize ((Rat.divInt n d).den : Int) = y at *
    generalize d.sign = ds at *
    refine Spec.run Tryz.func73 rfl Tryz.ntmps73 (by simp) (by simp only [go_sem, zn4]; rfl) fun B hB => ?_
    (repeat (first | refine DO.nil (by kernel_rfl) ?_ | (with_reducible refine oz (by constructor <;> decide) ?_) | ((first | apply SO.call | apply DO.call); (iterate 3 (simp (disch := omega) only [go_sem, ↓reduceIte, zn1] <;> rfl)); (first | apply SCall.ofX | apply DCall.ofX); (assumption); (simp (disch := omega) only [go_sem] <;> rfl)) | ((with_reducible first | apply wa | apply wb | apply wc | apply wd); (simp (disch := omega) only [go_sem, ↓reduceIte, zn1, zn2, zn3, zn4, reduceCtorEq, q1, q2] <;> rfl); (first | refine pT ?_ | refine pF ?_ | fail_if_success with_reducible refine pA ?_)) | ((with_reducible refine SC.draw Tab.mixed ?_ ?_); rfl) | (with_reducible apply SC.ops)))
    exact retQ_ret Tryz.results73 (by simp (disch := omega) only [go_sem, ↓reduceIte, zn1, zn3, zn4]; rfl) (by simp (disch := omega) only [go_sem, ↓reduceIte]; rfl) rfl
  · rw [if_neg hneg] at e1 e2
    have q2 : decide (d.sign < 0) = false := by rw [decide_eq_false_iff_not, Int.sign_eq_one_of_pos (by omega)]; omega
    have c4 := rgcd_i n d K hn hd (by omega)
    have c5 := divmod_i n (Int.gcd n d) K hn fg (by omega) (by omega)
    have c6 := divmod_i d (Int.gcd n d) K hd fg (by omega) (by omega)
    rw [e1] at c5
    rw [e2] at c6
    ((try unfold rv at *); (try unfold rt at *); (try unfold iv at *); (try unfold sv at *))
    generalize (Rat.divInt n d).num = x at *
    generalize ((Rat.divInt n d).den : Int) = y at *
    generalize d.sign = ds at *
    refine Spec.run Tryz.func73 rfl Tryz.ntmps73 (by simp) (by simp only [go_sem, zn4]; rfl) fun B hB => ?_
    (repeat (first | (with_reducible refine oz (by constructor <;> decide) ?_) | ((apply SO.call); (iterate 3 (simp (disch := omega) only [go_sem, ↓reduceIte, zn1] <;> rfl)); (apply SCall.ofX); (assumption); (simp (disch := omega) only [go_sem] <;> rfl)) | ((with_reducible first | apply SC.condB | apply SC.region | apply SO.run); (simp (disch := omega) only [go_sem, ↓reduceIte, zn1, zn2, zn3, zn4, reduceCtorEq, q1, q2] <;> rfl); (first | refine pickF ?_ | fail_if_success with_reducible refine pickA ?_)) | (with_reducible apply SC.ops)))
    exact retQ_ret Tryz.results73 (by simp (disch := omega) only [go_sem, ↓reduceIte, zn1, zn3, zn4]; rfl) (by simp (disch := omega) only [go_sem, ↓reduceIte]; rfl) rfl
theorem rof_i (n d : Int) (K : Nat) (hn : Fits K n) (hd : Fits K d) (hK : K ≤ 1000000) (h0 : d ≠ 0) : Spec Tryz.prog 57 [iv n, iv d] (rv (Rat.divInt n d)) := by
  have c1 := rOf_i n d K hn hd hK h0
  ((try unfold rv at *); (try unfold rt at *); (try unfold iv at *); (try unfold sv at *))
  refine Spec.run Tryz.func57 rfl Tryz.ntmps57 (by simp) (by simp only [go_sem, zn4]; rfl) fun B hB => ?_
  (repeat (first | (with_reducible refine oz (by constructor <;> decide) ?_) | ((apply SO.call); (iterate 3 (simp (disch := omega) only [go_sem, ↓reduceIte, zn1] <;> rfl)); (apply SCall.ofX); (assumption); (simp (disch := omega) only [go_sem] <;> rfl)) | ((with_reducible first | apply SC.region | apply SO.run); (simp (disch := omega) only [go_sem, ↓reduceIte, zn1, zn2, zn3, zn4, reduceCtorEq] <;> rfl); (fail_if_success with_reducible refine pickA ?_)) | (with_reducible apply SC.ops)))
  exact retQ_ret Tryz.results57 (by simp (disch := omega) only [go_sem, ↓reduceIte, zn1, zn3, zn4]; rfl) (by simp (disch := omega) only [go_sem, ↓reduceIte]; rfl) rfl
theorem rMade_i (n d : Int) (h1 : -9223372036854775808 ≤ n) (h2 : n < 9223372036854775808) (h3 : -9223372036854775808 ≤ d) (h4 : d < 9223372036854775808) (h0 : d ≠ 0) : Spec Tryz.prog 20 [.sc (.int .i64 n), .sc (.int .i64 d)] (rv (Rat.divInt n d)) := by
  have c1 := of_i n h1 h2
  have c2 := of_i d h3 h4
  have c3 := rof_i n d 2 (fits_two (by omega)) (fits_two (by omega)) (by omega) h0
  have q1 : (d == 0) = false := by rw [beq_eq_false_iff_ne]; exact h0
  ((try unfold rv at *); (try unfold rt at *); (try unfold iv at *); (try unfold sv at *))
  refine Spec.run Tryz.func20 rfl Tryz.ntmps20 (by simp) (by simp only [go_sem, zn4]; rfl) fun B hB => ?_
  (repeat (first | (with_reducible refine oz (by constructor <;> decide) ?_) | ((apply SO.call); (iterate 3 (simp only [go_sem, ↓reduceIte, zn1, zn2] <;> rfl)); (apply SCall.ofX); (assumption); (simp only [go_sem] <;> rfl)) | ((with_reducible first | apply SC.condB | apply SC.region | apply SO.run); (simp only [go_sem, ↓reduceIte, zn1, zn3, zn4, reduceCtorEq, q1] <;> rfl); (first | refine pickF ?_ | fail_if_success with_reducible refine pickA ?_)) | (with_reducible apply SC.ops)))
  exact retQ_ret Tryz.results20 (by simp only [go_sem, ↓reduceIte, zn1, zn3, zn4]; rfl) (by simp only [go_sem, ↓reduceIte]; rfl) rfl
set_option maxHeartbeats 8000000 in
theorem rputmat_s {w : Nat} {M : List (List Int)} (hM : MatOk w M) : PutA 37 [mat w M] (mat_ w M) := by
  have hl : (mat_ w M).length = (num M.length).length + (num w).length + (M.flatMap row_).length := by unfold mat_; simp only [zl1]
  refine PutA.of (by have := num_pos M.length; omega) fun id c cap nx hc hi => ?_
  obtain ⟨hh, hw, hr⟩ := hM
  have a1 := rnumber_s M.length (by omega) id c cap (by omega)
  have a2 := rnumber_s w (by omega) (nx + 1) (c ++ num M.length) none (by rw [zl1]; omega)
  rw [zl1] at a2
  have gl := imI_len w M
  unfold mat
  refine InlQ.run Tryz.func37 rfl Tryz.ntmps37 (by simp) (by simp (disch := omega) only [go_sem, zn4]; rfl) fun B hB => ?_
  (repeat (first | (with_reducible refine oz (by constructor <;> decide) ?_) | ((with_reducible first | apply SC.region | apply SO.run); (simp (disch := omega) only [go_sem, ↓reduceIte, zn1, reduceCtorEq] <;> rfl); (fail_if_success with_reducible refine pickA ?_)) | (with_reducible apply SC.ops)))
  (refine SO.callA Tab.go35 (by simp (disch := omega) only [go_sem, ↓reduceIte, zn1] <;> rfl) (by simp (disch := omega) only [go_sem] <;> rfl) (SApp.of (a1) (by simp (disch := omega) only [go_sem, ↓reduceIte, if_neg] <;> rfl) rfl (by simp (disch := omega) only [go_sem, ↓reduceIte, if_neg] <;> rfl) ?_))
  (repeat (first | (with_reducible refine oz (by constructor <;> decide) ?_) | ((with_reducible first | apply SC.region | apply SO.run); (simp (disch := omega) only [go_sem, ↓reduceIte, zn1, reduceCtorEq, if_neg] <;> rfl); (fail_if_success with_reducible refine pickA ?_)) | (with_reducible apply SC.ops)))
  (refine SO.callA Tab.go35 (by simp (disch := omega) only [go_sem, ↓reduceIte, zn1] <;> rfl) (by simp (disch := omega) only [go_sem] <;> rfl) (SApp.of (a2) (by simp (disch := omega) only [go_sem, ↓reduceIte] <;> rfl) rfl (by simp (disch := omega) only [go_sem, ↓reduceIte, if_neg] <;> rfl) ?_))
  (repeat (first | (with_reducible refine oz (by constructor <;> decide) ?_) | ((with_reducible first | apply SC.region | apply SO.run); (simp (disch := omega) only [go_sem, ↓reduceIte] <;> rfl); (fail_if_success with_reducible refine pickA ?_))))
  have hb : ∀ i, (c ++ num M.length ++ num w ++ (M.take i).flatMap row_).length = c.length + (num M.length).length + (num w).length + ((M.take i).flatMap row_).length := fun i => by simp only [zl1]
  refine SC.loop (fun z : Nat × Nat × Nat => ⟨[(0, .sl z.2.1 0 (c ++ num M.length ++ num w ++ (M.take z.1).flatMap row_).length 1 none), (3, .pt nx 0), (5, .sc (.int .i64 z.1))], [(z.2.1, ⟨5, bw (c ++ num M.length ++ num w ++ (M.take z.1).flatMap row_), false⟩), (nx, ⟨49, [.sc (.int .i64 M.length), .sc (.int .i64 w), .im (imR w (rI M)) M.length], false⟩)], z.2.2, 40⟩)
    (fun z => z.1 ≤ M.length ∧ nx < z.2.1 ∧ z.2.1 < z.2.2) (fun z => M.length - z.1) (0, nx + 2, nx + 3) ?_ ?_ ?_
  · simp only [zl4, List.flatMap_nil, List.append_nil, zl1]
    (refine Le.slots ?_ ?_ ?_ <;> (repeat' (first | (exact fun _ _ h => h) | exact znb _ | exact leSl_nil | refine leSl_cons (by simp (disch := omega) only [go_sem, ↓reduceIte, zn1, reduceCtorEq] <;> rfl) ?_ ?_ | exact VLe.refl rfl)))
  · exact ⟨znc _, by simp only; omega, by simp only; omega⟩
  · rintro ⟨i, q, m⟩ ⟨hi1, hq1, hq2⟩ K hK
    simp only at hi1 hq1 hq2 ⊢
    by_cases hlt : i < M.length
    · have q2 : decide ((i : Int) < (M.length : Int)) = true := by rw [decide_eq_true_iff]; omega
      have x0 : ((i : Int)).toNat = i := rfl
      have g1 := imI_get (w := w) (M := M) hlt
      rw [getD_el M [] hlt] at g1
      have h12 := hr M[i] (List.getElem_mem hlt)
      have hs := flat_snoc row_ M hlt
      have hle := flat_le row_ M (i + 1)
      have hbi := hb i
      rw [hs, zl1] at hle
      have e5 : (c ++ num M.length ++ num w ++ (M.take (i + 1)).flatMap row_) = (c ++ num M.length ++ num w ++ (M.take i).flatMap row_) ++ row_ M[i] := by rw [hs]; simp only [zl6]
      have hK2 := fun s q' m' h => hK s (i + 1, q', m') h
      simp only [e5] at hK2
      generalize hpre : c ++ num M.length ++ num w ++ (M.take i).flatMap row_ = pre at *
      generalize M[i] = r at *
      obtain ⟨hrl, hrf⟩ := h12
      (repeat (first | (with_reducible refine oz (by constructor <;> decide) ?_) | ((with_reducible first | apply SC.condB | apply SC.region); (simp (disch := omega) only [go_sem, ↓reduceIte, zn1, reduceCtorEq, if_neg, q2] <;> rfl); (first | refine pickT ?_ | fail_if_success with_reducible refine pickA ?_))))
      refine SC.loop (fun z : Nat × Nat × Nat => ⟨[(0, .sl z.2.1 0 (pre ++ (r.take z.1).flatMap int_).length 1 none), (3, .pt nx 0), (5, .sc (.int .i64 i)), (6, .sc (.int .i64 z.1))], [(z.2.1, ⟨5, bw (pre ++ (r.take z.1).flatMap int_), false⟩), (nx, ⟨49, [.sc (.int .i64 M.length), .sc (.int .i64 w), .im (imR w (rI M)) M.length], false⟩)], z.2.2, 40⟩)
        (fun z => z.1 ≤ w ∧ nx < z.2.1 ∧ z.2.1 < z.2.2) (fun z => w - z.1) (0, q, m) ?_ ?_ ?_
      · simp only [zl4, List.flatMap_nil, List.append_nil]
        (refine Le.slots ?_ ?_ ?_ <;> (repeat' (first | (exact fun _ _ h => h) | exact znb _ | exact leSl_nil | refine leSl_cons (by simp (disch := omega) only [go_sem, ↓reduceIte, zn1, reduceCtorEq] <;> rfl) ?_ ?_ | exact VLe.refl rfl)))
      · exact ⟨znc _, hq1, hq2⟩
      · rintro ⟨j, q, m⟩ ⟨hj1, hq1, hq2⟩ K2 hK3
        simp only at hj1 hq1 hq2 ⊢
        have glr := ivR_len r
        by_cases hlt2 : j < w
        · have q3 : decide ((j : Int) < (w : Int)) = true := by rw [decide_eq_true_iff]; omega
          have x1 : ((j : Int)).toNat = j := rfl
          have hjr : j < r.length := by omega
          have gd := ivR_drop (l := r) (i := j) hjr
          have g2 : j * 2 < (ivR r).length := by omega
          rw [getD_el r 0 hjr] at gd
          have hs2 := flat_snoc int_ r hjr
          have hle2 := flat_le int_ r (j + 1)
          rw [hs2, zl1] at hle2
          have hrow : (row_ r).length = (r.flatMap int_).length := rfl
          have f1 := rputint_s r[j] (by have := hrf r[j] (List.getElem_mem hjr); omega) q (pre ++ (r.take j).flatMap int_) none (by rw [zl1]; omega)
          have e6 : (pre ++ (r.take (j + 1)).flatMap int_) = (pre ++ (r.take j).flatMap int_) ++ int_ r[j] := by rw [hs2]; simp only [zl6]
          have e7 : (pre ++ (r.take j).flatMap int_ ++ int_ r[j]).length = (pre ++ (r.take j).flatMap int_).length + (int_ r[j]).length := zl1
          have hK4 := fun s q' m' h => hK3 s (j + 1, q', m') h
          simp only [e6, e7] at hK4
          generalize pre ++ (r.take j).flatMap int_ = pre2 at *
          generalize (ivR r).drop ((j + 1) * 2) = D at *
          generalize ivR r = A at *
          generalize r[j] = z at *
          unfold iv sv at f1
          unfold ivC sv at gd
          simp only [zl8, zl7] at gd
          (repeat (first | (with_reducible refine oz (by constructor <;> decide) ?_) | ((with_reducible first | apply SC.condB | apply SC.region | apply SO.run); (simp (disch := omega) only [go_sem, ↓reduceIte, zn1, zn3, reduceCtorEq, if_pos, if_neg, q3, x0, x1, g1, gl, gd, g2, zl5, Nat.add_zero, zn8, zl3, zl4] <;> rfl); (first | refine pickT ?_ | fail_if_success with_reducible refine pickA ?_)) | (with_reducible apply SC.ops)))
          (refine SO.callA Tab.go34 (by simp (disch := omega) only [go_sem, ↓reduceIte, zn1] <;> rfl) (by simp (disch := omega) only [go_sem] <;> rfl) (SApp.of (f1) (by simp (disch := omega) only [go_sem, ↓reduceIte] <;> rfl) rfl (by simp (disch := omega) only [go_sem, ↓reduceIte, if_neg] <;> rfl) ?_))
          (repeat (first | (with_reducible refine oz (by constructor <;> decide) ?_) | ((with_reducible first | apply SC.region | apply SO.run); (simp (disch := omega) only [go_sem, ↓reduceIte, zn1, reduceCtorEq] <;> rfl); (fail_if_success with_reducible refine pickA ?_))))
          refine hK4 _ m (m + 1) ?_ ⟨by omega, by omega, by omega⟩ (by omega)
          (refine Le.slots ?_ ?_ ?_ <;> (repeat' (first | (exact fun _ _ h => h) | exact znb _ | exact leSl_nil | refine leSl_cons (by simp (disch := omega) only [go_sem, ↓reduceIte, zn1, reduceCtorEq] <;> rfl) ?_ ?_ | exact VLe.refl rfl)))
        · have q3 : decide ((j : Int) < (w : Int)) = false := by rw [decide_eq_false_iff_not]; omega
          have hje : j = w := by omega
          subst hje
          have er : (r.take j).flatMap int_ = row_ r := by rw [zla (by omega)]; rfl
          rw [er]
          (repeat (first | (with_reducible refine oz (by constructor <;> decide) ?_) | ((with_reducible first | apply SC.condB | apply SC.region); (simp (disch := omega) only [go_sem, ↓reduceIte, zn1, reduceCtorEq, if_neg, q3] <;> rfl); (first | refine pickF ?_ | fail_if_success with_reducible refine pickA ?_))))
          refine hK2 _ q m ?_ ⟨by omega, by omega, by omega⟩ (by omega)
          (refine Le.slots ?_ ?_ ?_ <;> (repeat' (first | (exact fun _ _ h => h) | exact znb _ | exact leSl_nil | refine leSl_cons (by simp (disch := omega) only [go_sem, ↓reduceIte, zn1, reduceCtorEq] <;> rfl) ?_ ?_ | exact VLe.refl rfl)))
    · have q2 : decide ((i : Int) < (M.length : Int)) = false := by rw [decide_eq_false_iff_not]; omega
      have hie : i = M.length := by omega
      subst hie
      rw [List.take_length] at *
      (repeat (first | (with_reducible refine oz (by constructor <;> decide) ?_) | ((with_reducible first | apply SC.condB | apply SC.region); (simp (disch := omega) only [go_sem, ↓reduceIte, zn1, zn2, reduceCtorEq, if_neg, q2] <;> rfl); (first | refine pickF ?_ | fail_if_success with_reducible refine pickA ?_))))
      have e : bw (c ++ mat_ w M) = bw (c ++ num M.length ++ num w ++ M.flatMap row_) := by unfold mat_; simp only [zl6]
      have e2 : (c ++ num M.length ++ num w ++ M.flatMap row_).length = c.length + (mat_ w M).length := by simp only [zl1]; omega
      rw [e2]
      refine retIQ_ret (.sl q 0 (c.length + (mat_ w M).length) 1 none) [(q, ⟨5, bw (c ++ mat_ w M), false⟩)] m Tryz.results37 (by simp (disch := omega) only [go_sem, ↓reduceIte]; rfl) ⟨q, by omega, rfl, rfl⟩ ?_
      rw [e]
      (refine Le.slots ?_ ?_ ?_ <;> (repeat' (first | exact znb _ | exact leSl_nil | refine leSl_cons (by simp (disch := omega) only [go_sem, ↓reduceIte] <;> rfl) ?_ ?_ | exact VLe.refl rfl | (refine fun id k h => ?_; simp only [hget] at h ⊢; (repeat' (split at h)) <;> first | (cases h; done) | (simp (disch := omega) only [if_pos]; exact h)))))
set_option maxHeartbeats 4000000 in
theorem rwints_s {l : List Int} (hl : l.length ≤ 4000) (h : ∀ x ∈ l, I64 x) : PutA 36 [.im (its l) l.length] (lst whl l) := by
  have hp : 0 < (lst whl l).length := by unfold lst; rw [zl1]; have := num_pos l.length; omega
  refine PutA.of hp fun id c cap nx hc hi => ?_
  have ge : (lst whl l).length = (num l.length).length + (l.flatMap whl).length := zl1
  have a1 := rnumber_s l.length (by omega) id c cap (by omega)
  refine InlQ.run Tryz.func36 rfl Tryz.ntmps36 (by simp) (by simp (disch := omega) only [go_sem, zn4]; rfl) fun B hB => ?_
  (repeat (first | (with_reducible refine oz (by constructor <;> decide) ?_) | ((with_reducible first | apply SC.region | apply SO.run); (simp (disch := omega) only [go_sem, ↓reduceIte, zn1, reduceCtorEq] <;> rfl); (fail_if_success with_reducible refine pickA ?_)) | (with_reducible apply SC.ops)))
  (refine SO.callA Tab.go35 (by simp (disch := omega) only [go_sem, ↓reduceIte, zn1] <;> rfl) (by simp (disch := omega) only [go_sem] <;> rfl) (SApp.of (a1) (by simp (disch := omega) only [go_sem, ↓reduceIte] <;> rfl) rfl (by simp (disch := omega) only [go_sem, ↓reduceIte] <;> rfl) ?_))
  (repeat (first | (with_reducible refine oz (by constructor <;> decide) ?_) | ((with_reducible first | apply SC.region | apply SO.run); (simp (disch := omega) only [go_sem, ↓reduceIte] <;> rfl); (fail_if_success with_reducible refine pickA ?_))))
  refine SC.loop (fun x : Nat × Nat × Nat => ⟨[(0, .sl x.2.1 0 (c ++ num l.length ++ (l.take x.1).flatMap whl).length 1 none), (1, .im (its l) l.length), (5, .sc (.int .i64 x.1))], [(x.2.1, ⟨5, bw (c ++ num l.length ++ (l.take x.1).flatMap whl), false⟩)], x.2.2, 24⟩)
    (fun x => x.1 ≤ l.length ∧ nx ≤ x.2.1 ∧ x.2.1 < x.2.2) (fun x => l.length - x.1) (0, nx, nx + 1) ?_ ?_ ?_
  · simp only [zl4, List.flatMap_nil, List.append_nil, zl1]
    (refine Le.slots ?_ ?_ ?_ <;> (repeat' (first | (exact fun _ _ h => h) | exact znb _ | exact leSl_nil | refine leSl_cons (by simp (disch := omega) only [go_sem, ↓reduceIte, zn1, reduceCtorEq] <;> rfl) ?_ ?_ | exact VLe.refl rfl)))
  · exact ⟨znc _, by simp only; omega, by simp only; omega⟩
  · rintro ⟨i, q, m⟩ ⟨hi1, hq1, hq2⟩ K hK
    simp only at hi1 hq1 hq2 ⊢
    by_cases hlt : i < l.length
    · have gx := its_drop l i hlt
      have gl := its_len l
      rw [zn8] at gl gx
      have q2 : decide ((i : Int) < (l.length : Int)) = true := by rw [decide_eq_true_iff]; omega
      have x0 : ((i : Int)).toNat = i := rfl
      have h12 := h l[i] (List.getElem_mem hlt)
      have hs := flat_snoc whl l hlt
      have hle := flat_le whl l (i + 1)
      rw [hs, zl1] at hle
      have a2 := rwhole_s h12 q (c ++ num l.length ++ (l.take i).flatMap whl) none (by rw [zl1, zl1]; omega)
      unfold itC at gx
      (repeat (first | (with_reducible refine oz (by constructor <;> decide) ?_) | ((with_reducible first | apply SC.condB | apply SC.region | apply SO.run); (simp (disch := omega) only [go_sem, ↓reduceIte, zn1, reduceCtorEq, if_pos, q2, x0, gl, gx, zl8, zl7, zn8] <;> rfl); (first | refine pickT ?_ | fail_if_success with_reducible refine pickA ?_)) | (with_reducible apply SC.ops)))
      (refine SO.callA Tab.go33 (by simp (disch := omega) only [go_sem, ↓reduceIte, zn1] <;> rfl) (by simp (disch := omega) only [go_sem] <;> rfl) (SApp.of (a2) (by simp (disch := omega) only [go_sem, ↓reduceIte] <;> rfl) rfl (by simp (disch := omega) only [go_sem, ↓reduceIte] <;> rfl) ?_))
      (repeat (first | (with_reducible refine oz (by constructor <;> decide) ?_) | ((with_reducible first | apply SC.region | apply SO.run); (simp (disch := omega) only [go_sem, ↓reduceIte, zn1, reduceCtorEq] <;> rfl); (fail_if_success with_reducible refine pickA ?_))))
      have e5 : (c ++ num l.length ++ (l.take (i + 1)).flatMap whl).length = (c ++ num l.length ++ (l.take i).flatMap whl).length + (whl l[i]).length := by rw [hs, ← zl6, zl1]
      have e4 : bw (c ++ num l.length ++ (l.take (i + 1)).flatMap whl) = bw (c ++ num l.length ++ (l.take i).flatMap whl ++ whl l[i]) := by rw [hs, ← zl6]
      refine hK _ (i + 1, m, m + 1) ?_ ⟨by simp only; omega, by simp only; omega, by simp only; omega⟩ (by simp only; omega)
      simp only [e4, e5]
      (refine Le.slots ?_ ?_ ?_ <;> (repeat' (first | (exact fun _ _ h => h) | exact znb _ | exact leSl_nil | refine leSl_cons (by simp (disch := omega) only [go_sem, ↓reduceIte, zn1, reduceCtorEq] <;> rfl) ?_ ?_ | exact VLe.refl rfl)))
    · have q2 : decide ((i : Int) < (l.length : Int)) = false := by rw [decide_eq_false_iff_not]; omega
      have hie : i = l.length := by omega
      have e6 : c ++ num l.length ++ (l.take i).flatMap whl = c ++ lst whl l := by rw [hie, List.take_length, zl6]; rfl
      have e7 : (c ++ lst whl l).length = c.length + (lst whl l).length := zl1
      rw [e6, e7]
      (repeat (first | (with_reducible refine oz (by constructor <;> decide) ?_) | ((with_reducible first | apply SC.condB | apply SC.region); (simp (disch := omega) only [go_sem, ↓reduceIte, zn1, zn2, reduceCtorEq, q2] <;> rfl); (first | refine pickF ?_ | fail_if_success with_reducible refine pickA ?_))))
      refine retIQ_ret (.sl q 0 (c.length + (lst whl l).length) 1 none) [(q, ⟨5, bw (c ++ lst whl l), false⟩)] m Tryz.results36 (by simp (disch := omega) only [go_sem, ↓reduceIte]; rfl) ⟨q, by omega, rfl, rfl⟩ ?_
      (refine Le.slots ?_ ?_ ?_ <;> (repeat' (first | (exact fun _ _ h => h) | exact znb _ | exact leSl_nil | refine leSl_cons (by simp (disch := omega) only [go_sem, ↓reduceIte] <;> rfl) ?_ ?_ | exact VLe.refl rfl)))
end Go.Proofs.YtphilljhfdlfdaaGreat
namespace Go.Proofs.YtphilljhfdlfdaaGreat
theorem rat_rds (b : List Int) (n : Nat) {x : Int × Int} (h1 : (limbsOf x.1.natAbs).length ≤ 4000) (h2 : (limbsOf x.2.natAbs).length ≤ 4000) (hv : ratV x = true) : Rds b n (Rd.rat b n) (rat_ x) x := fun p ha hp => by
  obtain ⟨s1, s2⟩ := (int_rds b n h1).seq (mk := Prod.mk) (int_rds b n h2) (int_stk b n) p ha hp
  unfold Rd.rat
  refine ⟨fun h => ?_, fun h => ?_⟩
  · have e := s1 h
    have e1 := congrArg Prod.fst e
    have e2 := congrArg Prod.snd e
    simp only [seqR] at e1 e2
    rw [e1, e2]
    simp only [if_true]
    rw [if_pos hv]; rfl
  · have e := s2 h
    simp only [seqR] at e
    rw [if_neg (by rw [e]; decide)]
    exact e
theorem cert_rds (b : List Int) (n : Nat) {x : Crt} (h : CrtFit x) (hY : ∀ y ∈ x.Y, ratV y = true) : Rds b n (Rd.cert b n) (crt_ x) x := by
  obtain ⟨h1, h2, h3, ⟨h4, h4'⟩, ⟨h5, h5'⟩, ⟨h6, h6'⟩, ⟨h7, h7'⟩, ⟨h8, h8'⟩⟩ := h
  have i1 : Rds b n (Rd.ints b n) (lst whl x.rows) x.rows := list_rds (whole_stk b n) x.rows h4 (fun y hy => whole_rds b n (h4' y hy))
  have i2 : Rds b n (Rd.ints b n) (lst whl x.cols) x.cols := list_rds (whole_stk b n) x.cols h5 (fun y hy => whole_rds b n (h5' y hy))
  have m1 : Rds b n (Rd.mats b n) (lst (fun y => mat_ y.1 y.2) x.M) x.M := list_rds (mat_stk b n) x.M h6 (fun y hy => mat_rds b n (h6' y hy))
  have x1 : Rds b n (Rd.intl b n) (lst int_ x.X) x.X := list_rds (int_stk b n) x.X h7 (fun y hy => int_rds b n (h7' y hy))
  have y1 : Rds b n (Rd.rats b n) (lst rat_ x.Y) x.Y := list_rds (rat_stk b n) x.Y h8 (fun y hy => rat_rds b n (h8' y hy).1 (h8' y hy).2 (hY y hy))
  have si : Stk (Rd.ints b n) := list_stk b n _
  have sm : Stk (Rd.mats b n) := list_stk b n _
  have sx : Stk (Rd.intl b n) := list_stk b n _
  have sy : Stk (Rd.rats b n) := list_stk b n _
  have k8 := flag_stk b n
  have k7 := sy.seq (mk := Prod.mk) k8
  have k6 := sx.seq (mk := Prod.mk) k7
  have k5 := sm.seq (mk := Prod.mk) k6
  have k4 := si.seq (mk := Prod.mk) k5
  have k3 := si.seq (mk := Prod.mk) k4
  have k2 := (number_stk b n).seq (mk := Prod.mk) k3
  have k1 := (int_stk b n).seq (mk := Prod.mk) k2
  have r7 := y1.seq (mk := Prod.mk) (flag_rds b n x.found) k8
  have r6 := x1.seq (mk := Prod.mk) r7 k7
  have r5 := m1.seq (mk := Prod.mk) r6 k6
  have r4 := i2.seq (mk := Prod.mk) r5 k5
  have r3 := i1.seq (mk := Prod.mk) r4 k4
  have r2 := (number_rds b n x.p h3).seq (mk := Prod.mk) r3 k3
  have r1 := (int_rds b n h2).seq (mk := Prod.mk) r2 k2
  have r0 := (whole_rds b n h1).seq (mk := mkCt) r1 k1
  have e : crt_ x = whl x.kind ++ (int_ x.n ++ (num x.p ++ (lst whl x.rows ++ (lst whl x.cols ++ (lst (fun y => mat_ y.1 y.2) x.M ++ (lst int_ x.X ++ (lst rat_ x.Y ++ flg x.found))))))) := by unfold crt_; simp only [zl6]
  rw [cert_seq, e]
  exact r0
theorem gotC_full {x : Crt} (h : CrtFit x) (hY : ∀ y ∈ x.Y, ratV y = true) : gotC (crt_ x) (crt_ x).length 0 = (x, (crt_ x).length, 0) := by
  have ha := at_self (crt_ x) (crt_ x).length
  rw [List.take_length] at ha
  have h1 := (cert_rds (crt_ x) (crt_ x).length h hY 0 ha (znc _)).1 (by omega)
  rw [zn9] at h1
  unfold gotC
  rw [if_neg (by omega), show (0 : Int).toNat = 0 from rfl, h1, if_pos rfl]
theorem gotC_cut {x : Crt} (h : CrtFit x) (hY : ∀ y ∈ x.Y, ratV y = true) {n : Nat} (h2 : n < (crt_ x).length) : gotC ((crt_ x).take n) n 0 = (noC, 0, 5) := by
  have ha := at_self (crt_ x) n
  have h5 := (cert_rds ((crt_ x).take n) n h hY 0 ha (znc _)).2 (by omega)
  unfold gotC
  rw [if_neg (by omega), show (0 : Int).toNat = 0 from rfl, if_neg (by rw [h5]; decide), h5]
theorem u8_rat (x : Int × Int) : U8s (rat_ x) := (u8_int _).app (u8_int _)
theorem u8_crt (x : Crt) : U8s (crt_ x) := ((((((((u8_num _).app (u8_int _)).app (u8_num _)).app (u8_lst _ fun _ => u8_num _)).app (u8_lst _ fun _ => u8_num _)).app (u8_lst _ fun _ => u8_mat _ _)).app (u8_lst _ fun _ => u8_int _)).app (u8_lst _ fun _ => u8_rat _)).app (u8_flg _)
structure RCt where
  kind : Int
  neg : Bool
  mag : List Nat
  p : Nat
  rows : List Int
  cols : List Int
  found : Bool
structure RMt where
  a : Nat
  b : Nat
  l : List Int
def RMt.made (y : RMt) : Nat × List (List Int) := (y.b % 5, filL (y.a % 5) (y.b % 5) y.l)
def RMtOk (y : RMt) : Prop := y.a < 256 ∧ y.b < 256 ∧ (∀ x ∈ y.l, -128 ≤ x ∧ x ≤ 127) ∧ y.l.length ≤ 9223372036854775807
def madeY : List Int → Nat → List (Int × Int)
  | [], _ => []
  | x :: l, i => ((Rat.divInt x (1 + (i : Int))).num, ((Rat.divInt x (1 + (i : Int))).den : Int)) :: madeY l (i + 1)
def RCt.made (x : RCt) (ms : List RMt) (l : List Int) : Crt := ⟨x.kind, sgn x.neg (val (x.mag.take 3)), x.p, x.rows.take 3, x.cols.take 3, (ms.take 2).map RMt.made, l.take 4, madeY (l.take 4) 0, x.found⟩
theorem madeY_len : ∀ (l : List Int) (i : Nat), (madeY l i).length = l.length
  | [], _ => rfl
  | x :: l, i => by rw [madeY, List.length_cons, madeY_len l, List.length_cons]
theorem madeY_snoc : ∀ (l : List Int) (x : Int) (i : Nat), madeY (l ++ [x]) i = madeY l i ++ [((Rat.divInt x (1 + ((i + l.length : Nat) : Int))).num, ((Rat.divInt x (1 + ((i + l.length : Nat) : Int))).den : Int))]
  | [], x, i => by simp [madeY]
  | y :: l, x, i => by
    rw [zl8, madeY, madeY_snoc l x (i + 1), madeY, zl8, List.length_cons, show i + 1 + l.length = i + (l.length + 1) by omega]
theorem rat_nd (q : Rat) : ratV (q.num, (q.den : Int)) = true := by
  unfold ratV
  have h1 := q.den_pos
  have h2 := q.reduced
  rw [Bool.and_eq_true, decide_eq_true_iff, decide_eq_true_iff]
  refine ⟨by simp only; omega, ?_⟩
  exact h2
theorem madeY_v : ∀ (l : List Int) (i : Nat), ∀ y ∈ madeY l i, ratV y = true
  | [], _, y, h => by cases h
  | x :: l, i, y, h => by
    rw [madeY] at h
    rcases List.mem_cons.1 h with rfl | h
    · exact rat_nd _
    · exact madeY_v l (i + 1) y h
theorem divInt_small {x : Int} {k : Nat} (hx : -128 ≤ x ∧ x ≤ 127) (hk : k ≤ 4) (hk0 : 0 < k) : (limbsOf (Rat.divInt x (k : Int)).num.natAbs).length ≤ 1 ∧ (limbsOf ((Rat.divInt x (k : Int)).den : Int).natAbs).length ≤ 1 := by
  have hk2 : (k : Int) ≠ 0 := by omega
  have h1 : (Rat.divInt x (k : Int)).num.natAbs ≤ 128 := by
    rw [Rat.num_divInt]
    rw [Int.sign_eq_one_of_pos (by omega), Int.one_mul]
    have := Int.natAbs_ediv_le_natAbs x ((Int.gcd (k : Int) x : Nat) : Int)
    omega
  have h2 : (Rat.divInt x (k : Int)).den ≤ 4 := by
    rw [Rat.den_divInt, if_neg hk2]
    have := Nat.div_le_self (k : Int).natAbs (Int.gcd (k : Int) x)
    simp only [Int.natAbs_natCast] at this ⊢
    omega
  have hf : ∀ m : Nat, m ≤ 128 → (limbsOf m).length ≤ 1 := fun m hm => by
    refine canon_len (limbsOf_canon _) ?_
    rw [limbsOf_val]
    omega
  refine ⟨hf _ h1, ?_⟩
  rw [Int.natAbs_natCast]
  exact hf _ (by omega)
theorem madeY_fit : ∀ (l : List Int) (i : Nat), (∀ x ∈ l, -128 ≤ x ∧ x ≤ 127) → i + l.length ≤ 4 → ∀ y ∈ madeY l i, (limbsOf y.1.natAbs).length ≤ 1 ∧ (limbsOf y.2.natAbs).length ≤ 1
  | [], _, _, _, y, h => by cases h
  | x :: l, i, hx, hl, y, h => by
    rw [madeY] at h
    rw [List.length_cons] at hl
    rcases List.mem_cons.1 h with rfl | h
    · have h := divInt_small (k := 1 + i) (hx x (by simp)) (by omega) (by omega)
      rw [show ((1 + i : Nat) : Int) = 1 + (i : Int) by omega] at h
      exact h
    · exact madeY_fit l (i + 1) (fun z hz => hx z (by simp [hz])) (by omega) y h
def RCtOk (x : RCt) : Prop := I64 x.kind ∧ limbs x.mag ∧ x.p < 18446744073709551616 ∧ (∀ y ∈ x.rows, I64 y) ∧ (∀ y ∈ x.cols, I64 y)
theorem lst_len {α : Type} (f : α → List Int) (m k : Nat) {l : List α} (hl : l.length ≤ k) (hk : k ≤ 4000) (h : ∀ x ∈ l, (f x).length ≤ m) : (lst f l).length ≤ 10 + k * m := by
  have h1 := num_10 (n := l.length) (by omega)
  have h2 := flat_bound f m l h
  have h3 := Nat.mul_le_mul_right m hl
  unfold lst
  rw [zl1]
  omega
theorem mct_fit {x : RCt} {ms : List RMt} {l : List Int} (hx : RCtOk x) (hm : ∀ y ∈ ms, RMtOk y) (hl : ∀ y ∈ l, -128 ≤ y ∧ y ≤ 127) : CrtFit (x.made ms l) ∧ (∀ y ∈ (x.made ms l).Y, ratV y = true) ∧ (crt_ (x.made ms l)).length ≤ 1200 := by
  obtain ⟨h1, h2, h3, h4, h5⟩ := hx
  have l3 : (x.rows.take 3).length ≤ 3 := by rw [List.length_take]; omega
  have l4 : (x.cols.take 3).length ≤ 3 := by rw [List.length_take]; omega
  have l5 : ((ms.take 2).map RMt.made).length ≤ 2 := by rw [List.length_map, List.length_take]; omega
  have l6 : (l.take 4).length ≤ 4 := by rw [List.length_take]; omega
  have l7 : (madeY (l.take 4) 0).length ≤ 4 := by rw [madeY_len]; exact l6
  have hn : (limbsOf (sgn x.neg (val (x.mag.take 3))).natAbs).length ≤ 3 := sgn_limbs h2 x.neg
  have hr : ∀ y ∈ x.rows.take 3, I64 y := fun y hy => h4 y (List.mem_of_mem_take hy)
  have hc : ∀ y ∈ x.cols.take 3, I64 y := fun y hy => h5 y (List.mem_of_mem_take hy)
  have hM : ∀ y ∈ (ms.take 2).map RMt.made, MatFit y.1 y.2 ∧ (mat_ y.1 y.2).length ≤ 300 := fun y hy => by
    obtain ⟨z, hz, rfl⟩ := List.mem_map.1 hy
    have hz2 := hm z (List.mem_of_mem_take hz)
    have := mi_fit (filL_mi2 (h := z.a % 5) (w := z.b % 5) hz2.2.2.1) (by omega) (by omega)
    exact ⟨this.1, this.2.2⟩
  have hX : ∀ y ∈ l.take 4, -128 ≤ y ∧ y ≤ 127 := fun y hy => hl y (List.mem_of_mem_take hy)
  have hX2 : ∀ y ∈ l.take 4, (limbsOf y.natAbs).length ≤ 1 := fun y hy => by
    have := hX y hy
    refine canon_len (limbsOf_canon _) ?_
    rw [limbsOf_val]
    omega
  have hY := madeY_fit (l.take 4) 0 hX (by omega)
  refine ⟨⟨h1, ?_, h3, ⟨?_, hr⟩, ⟨?_, hc⟩, ⟨?_, fun y hy => (hM y hy).1⟩, ⟨?_, fun y hy => ?_⟩, ⟨?_, fun y hy => ?_⟩⟩, madeY_v _ _, ?_⟩
  · show (limbsOf (sgn x.neg (val (x.mag.take 3))).natAbs).length ≤ 4000; omega
  · show (x.rows.take 3).length ≤ 4000; omega
  · show (x.cols.take 3).length ≤ 4000; omega
  · show ((ms.take 2).map RMt.made).length ≤ 4000; omega
  · show (l.take 4).length ≤ 4000; omega
  · have := hX2 y hy; omega
  · show (madeY (l.take 4) 0).length ≤ 4000; omega
  · have := hY y hy; exact ⟨by omega, by omega⟩
  · have w : ∀ z : Int, I64 z → (whl z).length ≤ 10 := fun z hz => whl_10 hz
    have b1 := w _ h1
    have b2 := int_len hn (by omega)
    have b3 := num_10 h3
    have b4 := lst_len whl 10 3 l3 (by omega) (fun y hy => w y (hr y hy))
    have b5 := lst_len whl 10 3 l4 (by omega) (fun y hy => w y (hc y hy))
    have b6 := lst_len (fun y : Nat × List (List Int) => mat_ y.1 y.2) 300 2 l5 (by omega) (fun y hy => (hM y hy).2)
    have b7 := lst_len int_ 14 4 l6 (by omega) (fun y hy => int_len (hX2 y hy) (by omega))
    have b8 := lst_len rat_ 28 4 l7 (by omega) (fun y hy => by
      have h1 := int_len (hY y hy).1 (by omega)
      have h2 := int_len (hY y hy).2 (by omega)
      unfold rat_; rw [zl1]; omega)
    have b9 : (flg x.found).length = 1 := rfl
    unfold crt_ RCt.made
    simp only [zl1]
    omega
theorem rputmatE_s {y : Nat × List (List Int)} (h : MatOk y.1 y.2) : PutA 37 [.ag (mtC y)] (matE y) := rputmat_s h
theorem rputintE_s {z : Int} (h : (limbsOf z.natAbs).length ≤ 4000) : PutA 34 [.ag (ivC2 z)] (int_ z) := rputint_s z (by omega)
set_option maxHeartbeats 16000000 in
set_option maxRecDepth 4000 in
theorem rputcert_s {x : Crt} (hx : CrtFit x) : PutA 8 [crtC x] (crt_ x) := by
  obtain ⟨h1, h2, h3, ⟨h4, h4'⟩, ⟨h5, h5'⟩, ⟨h6, h6'⟩, ⟨h7, h7'⟩, ⟨h8, h8'⟩⟩ := hx
  have hlen : (crt_ x).length = (whl x.kind).length + (int_ x.n).length + (num x.p).length + (lst whl x.rows).length + (lst whl x.cols).length + ((num x.M.length).length + (x.M.flatMap matE).length) + ((num x.X.length).length + (x.X.flatMap int_).length) + ((num x.Y.length).length + (x.Y.flatMap rat_).length) + 1 := by unfold crt_ lst; simp only [zl1]; rfl
  refine PutA.of (by have := whl_pos x.kind; omega) fun id c cap nx hc hi => ?_
  have a1 := rwhole_s h1 id c cap (by omega)
  have a2 := rputint_s x.n (by omega) (nx + 1) (c ++ whl x.kind) none (by simp only [zl1]; omega)
  have a3 := rnumber_s x.p h3 (nx + 2) (c ++ whl x.kind ++ int_ x.n) none (by simp only [zl1]; omega)
  have a4 := rwints_s h4 h4' (nx + 3) (c ++ whl x.kind ++ int_ x.n ++ num x.p) none (by simp only [zl1]; omega)
  have a5 := rwints_s h5 h5' (nx + 4) (c ++ whl x.kind ++ int_ x.n ++ num x.p ++ lst whl x.rows) none (by simp only [zl1]; omega)
  have a6 := rnumber_s x.M.length (by omega) (nx + 5) (c ++ whl x.kind ++ int_ x.n ++ num x.p ++ lst whl x.rows ++ lst whl x.cols) none (by simp only [zl1]; omega)
  simp only [zl1] at a1 a2 a3 a4 a5 a6
  unfold iv at a2
  unfold sv at a2
  unfold crtC
  refine InlQ.run Tryz.func8 rfl Tryz.ntmps8 (by simp) (by simp (disch := omega) only [go_sem, zn4]; rfl) fun B hB => ?_
  (repeat (first | (with_reducible refine oz (by constructor <;> decide) ?_) | ((with_reducible first | apply SC.region | apply SO.run); (simp (disch := omega) only [go_sem, ↓reduceIte, zn1, reduceCtorEq] <;> rfl); (fail_if_success with_reducible refine pickA ?_)) | (with_reducible apply SC.ops)))
  (refine SO.callA Tab.go33 (by simp (disch := omega) only [go_sem, ↓reduceIte, zn1] <;> rfl) (by simp (disch := omega) only [go_sem] <;> rfl) (SApp.of (a1) (by simp (disch := omega) only [go_sem, ↓reduceIte, if_neg] <;> rfl) rfl (by simp (disch := omega) only [go_sem, ↓reduceIte, if_neg] <;> rfl) ?_))
  (repeat (first | (with_reducible refine oz (by constructor <;> decide) ?_) | ((with_reducible first | apply SC.region | apply SO.run); (simp (disch := omega) only [go_sem, ↓reduceIte, zn1, zn3, zn4, reduceCtorEq, if_neg] <;> rfl); (fail_if_success with_reducible refine pickA ?_)) | (with_reducible apply SC.ops)))
  (refine SO.callA Tab.go34 (by simp (disch := omega) only [go_sem, ↓reduceIte, zn1] <;> rfl) (by simp (disch := omega) only [go_sem] <;> rfl) (SApp.of (a2) (by simp (disch := omega) only [go_sem, ↓reduceIte] <;> rfl) rfl (by simp (disch := omega) only [go_sem, ↓reduceIte, if_neg] <;> rfl) ?_))
  (repeat (first | (with_reducible refine oz (by constructor <;> decide) ?_) | ((with_reducible first | apply SC.region | apply SO.run); (simp (disch := omega) only [go_sem, ↓reduceIte, zn1, reduceCtorEq, if_neg] <;> rfl); (fail_if_success with_reducible refine pickA ?_)) | (with_reducible apply SC.ops)))
  (refine SO.callA Tab.go35 (by simp (disch := omega) only [go_sem, ↓reduceIte, zn1] <;> rfl) (by simp (disch := omega) only [go_sem] <;> rfl) (SApp.of (a3) (by simp (disch := omega) only [go_sem, ↓reduceIte] <;> rfl) rfl (by simp (disch := omega) only [go_sem, ↓reduceIte, if_neg] <;> rfl) ?_))
  (repeat (first | (with_reducible refine oz (by constructor <;> decide) ?_) | ((with_reducible first | apply SC.region | apply SO.run); (simp (disch := omega) only [go_sem, ↓reduceIte, zn1, reduceCtorEq, if_neg] <;> rfl); (fail_if_success with_reducible refine pickA ?_)) | (with_reducible apply SC.ops)))
  (refine SO.callA Tab.go36 (by simp (disch := omega) only [go_sem, ↓reduceIte, zn1] <;> rfl) (by simp (disch := omega) only [go_sem] <;> rfl) (SApp.of (a4) (by simp (disch := omega) only [go_sem, ↓reduceIte] <;> rfl) rfl (by simp (disch := omega) only [go_sem, ↓reduceIte, if_neg] <;> rfl) ?_))
  (repeat (first | (with_reducible refine oz (by constructor <;> decide) ?_) | ((with_reducible first | apply SC.region | apply SO.run); (simp (disch := omega) only [go_sem, ↓reduceIte, zn1, reduceCtorEq, if_neg] <;> rfl); (fail_if_success with_reducible refine pickA ?_)) | (with_reducible apply SC.ops)))
  (refine SO.callA Tab.go36 (by simp (disch := omega) only [go_sem, ↓reduceIte, zn1] <;> rfl) (by simp (disch := omega) only [go_sem] <;> rfl) (SApp.of (a5) (by simp (disch := omega) only [go_sem, ↓reduceIte] <;> rfl) rfl (by simp (disch := omega) only [go_sem, ↓reduceIte, if_neg] <;> rfl) ?_))
  (repeat (first | (with_reducible refine oz (by constructor <;> decide) ?_) | ((with_reducible first | apply SC.region | apply SO.run); (simp (disch := omega) only [go_sem, ↓reduceIte, zn1, reduceCtorEq, if_neg] <;> rfl); (fail_if_success with_reducible refine pickA ?_)) | (with_reducible apply SC.ops)))
  (refine SO.callA Tab.go35 (by simp (disch := omega) only [go_sem, ↓reduceIte, zn1] <;> rfl) (by simp (disch := omega) only [go_sem] <;> rfl) (SApp.of (a6) (by simp (disch := omega) only [go_sem, ↓reduceIte] <;> rfl) rfl (by simp (disch := omega) only [go_sem, ↓reduceIte, if_neg] <;> rfl) ?_))
  (repeat (first | (with_reducible refine oz (by constructor <;> decide) ?_) | ((with_reducible first | apply SC.region | apply SO.run); (simp (disch := omega) only [go_sem, ↓reduceIte] <;> rfl); (fail_if_success with_reducible refine pickA ?_))))
  clear a1 a2 a3 a4 a5 a6
  have hE : c ++ crt_ x = c ++ whl x.kind ++ int_ x.n ++ num x.p ++ lst whl x.rows ++ lst whl x.cols ++ num x.M.length ++ x.M.flatMap matE ++ num x.X.length ++ x.X.flatMap int_ ++ num x.Y.length ++ x.Y.flatMap rat_ ++ flg x.found := by unfold crt_ lst; simp only [zl6]; rfl
  have hcl : (c ++ crt_ x).length = c.length + (crt_ x).length := zl1
  have eP1 : c.length + (whl x.kind).length + (int_ x.n).length + (num x.p).length + (lst whl x.rows).length + (lst whl x.cols).length + (num x.M.length).length = (c ++ whl x.kind ++ int_ x.n ++ num x.p ++ lst whl x.rows ++ lst whl x.cols ++ num x.M.length).length := by simp only [zl1]
  rw [eP1]
  clear eP1 hlen
  generalize c ++ whl x.kind ++ int_ x.n ++ num x.p ++ lst whl x.rows ++ lst whl x.cols ++ num x.M.length = P1 at *
  have hL : P1.length + (x.M.flatMap matE).length + (num x.X.length).length + (x.X.flatMap int_).length + (num x.Y.length).length + (x.Y.flatMap rat_).length + 1 ≤ 1000000000 := by
    have := congrArg List.length hE
    simp only [zl1] at this hcl
    have hf : (flg x.found).length = 1 := rfl
    omega
  refine SC.meet (fun z : Nat × Nat => ⟨[(0, .sl z.1 0 (P1 ++ x.M.flatMap matE).length 1 none), (3, .pt nx 0)], [(z.1, ⟨5, bw (P1 ++ x.M.flatMap matE), false⟩), (nx, ⟨32, [.sc (.int .i64 x.kind), .sc (.bool (decide (x.n < 0))), .im (lv (limbsOf x.n.natAbs)) (limbsOf x.n.natAbs).length, .sc (.int .u64 x.p), .im (its x.rows) x.rows.length, .im (its x.cols) x.cols.length, .im (mts x.M) x.M.length, .im (ivs x.X) x.X.length, .im (rts x.Y) x.Y.length, .sc (.bool x.found)], false⟩)], z.2, 105⟩) (fun z => nx < z.1 ∧ z.1 < z.2) ?_ ?_
  · intro K0 hK0
    refine SC.loop (fun z : Nat × Nat × Nat => ⟨[(0, .sl z.2.1 0 (P1 ++ (x.M.take z.1).flatMap matE).length 1 none), (3, .pt nx 0), (5, .sc (.int .i64 z.1))], [(z.2.1, ⟨5, bw (P1 ++ (x.M.take z.1).flatMap matE), false⟩), (nx, ⟨32, [.sc (.int .i64 x.kind), .sc (.bool (decide (x.n < 0))), .im (lv (limbsOf x.n.natAbs)) (limbsOf x.n.natAbs).length, .sc (.int .u64 x.p), .im (its x.rows) x.rows.length, .im (its x.cols) x.cols.length, .im (mts x.M) x.M.length, .im (ivs x.X) x.X.length, .im (rts x.Y) x.Y.length, .sc (.bool x.found)], false⟩)], z.2.2, 105⟩) (fun z => z.1 ≤ x.M.length ∧ nx < z.2.1 ∧ z.2.1 < z.2.2) (fun z => x.M.length - z.1) (0, nx + 6, nx + 7) ?_ ?_ ?_
    · simp only [zl4, List.flatMap_nil, List.append_nil]
      (refine Le.slots ?_ ?_ ?_ <;> (repeat' (first | (exact fun _ _ h => h) | exact znb _ | exact leSl_nil | refine leSl_cons (by simp (disch := omega) only [go_sem, ↓reduceIte, zn1, reduceCtorEq] <;> rfl) ?_ ?_ | exact VLe.refl rfl)))
    · exact ⟨znc _, by simp only; omega, by simp only; omega⟩
    · rintro ⟨i, q, m⟩ ⟨hi1, hq1, hq2⟩ K hK
      simp only at hi1 hq1 hq2 ⊢
      by_cases hlt : i < x.M.length
      · have gx := mts_drop x.M i hlt
        have gl := mts_len x.M
        have q2 : decide ((i : Int) < (x.M.length : Int)) = true := by rw [decide_eq_true_iff]; omega
        have x0 : ((i : Int)).toNat = i := rfl
        have h12 := matfit_ok (h6' x.M[i] (List.getElem_mem hlt))
        have hs := flat_snoc matE x.M hlt
        have hle := flat_le matE x.M (i + 1)
        rw [hs, zl1] at hle
        have hpl : (P1 ++ (x.M.take i).flatMap matE).length = P1.length + ((x.M.take i).flatMap matE).length := zl1
        have e5 : (P1 ++ (x.M.take (i + 1)).flatMap matE).length = (P1 ++ (x.M.take i).flatMap matE).length + (matE x.M[i]).length := by rw [hs, ← zl6, zl1]
        have e4 : bw (P1 ++ (x.M.take (i + 1)).flatMap matE) = bw (P1 ++ (x.M.take i).flatMap matE ++ matE x.M[i]) := by rw [hs]; simp only [zl6]
        have hK2 := fun s q' m' h => hK s (i + 1, q', m') h
        simp only [e4, e5] at hK2
        generalize P1 ++ (x.M.take i).flatMap matE = pre at *
        have f1 := rputmatE_s h12 q pre none (by omega)
        unfold mtC at gx f1
        (repeat (first | (with_reducible refine oz (by constructor <;> decide) ?_) | ((with_reducible first | apply SC.condB | apply SC.region | apply SO.run); (simp (disch := omega) only [go_sem, ↓reduceIte, zn1, zn3, reduceCtorEq, if_pos, if_neg, q2, x0, gl, gx, zl8, zl7, zl3, zl4, zl2] <;> rfl); (first | refine pickT ?_ | fail_if_success with_reducible refine pickA ?_)) | (with_reducible apply SC.ops)))
        (refine SO.callA Tab.go37 (by simp (disch := omega) only [go_sem, ↓reduceIte, zn1] <;> rfl) (by simp (disch := omega) only [go_sem] <;> rfl) (SApp.of (f1) (by simp (disch := omega) only [go_sem, ↓reduceIte] <;> rfl) rfl (by simp (disch := omega) only [go_sem, ↓reduceIte, if_neg] <;> rfl) ?_))
        (repeat (first | (with_reducible refine oz (by constructor <;> decide) ?_) | ((with_reducible first | apply SC.region | apply SO.run); (simp (disch := omega) only [go_sem, ↓reduceIte, zn1, reduceCtorEq] <;> rfl); (fail_if_success with_reducible refine pickA ?_))))
        refine hK2 _ m (m + 1) ?_ ⟨by omega, by omega, by omega⟩ (by omega)
        (refine Le.slots ?_ ?_ ?_ <;> (repeat' (first | (exact fun _ _ h => h) | exact znb _ | exact leSl_nil | refine leSl_cons (by simp (disch := omega) only [go_sem, ↓reduceIte, zn1, reduceCtorEq] <;> rfl) ?_ ?_ | exact VLe.refl rfl)))
      · have q2 : decide ((i : Int) < (x.M.length : Int)) = false := by rw [decide_eq_false_iff_not]; omega
        have e6 : x.M.take i = x.M := zla (by omega)
        rw [e6]
        (repeat (first | (with_reducible refine oz (by constructor <;> decide) ?_) | ((with_reducible first | apply SC.condB | apply SC.region); (simp (disch := omega) only [go_sem, ↓reduceIte, zn1, reduceCtorEq, if_neg, q2] <;> rfl); (first | refine pickF ?_ | fail_if_success with_reducible refine pickA ?_))))
        refine hK0 _ (q, m) ?_ ⟨hq1, hq2⟩
        (refine Le.slots ?_ ?_ ?_ <;> (repeat' (first | (exact fun _ _ h => h) | exact znb _ | exact leSl_nil | refine leSl_cons (by simp (disch := omega) only [go_sem, ↓reduceIte, zn1, reduceCtorEq] <;> rfl) ?_ ?_ | exact VLe.refl rfl)))
  rintro ⟨q1, m1⟩ ⟨hq1, hq2⟩
  simp only at hq1 hq2 ⊢
  have a7 := rnumber_s x.X.length (by omega) q1 (P1 ++ x.M.flatMap matE) none (by simp only [zl1]; omega)
  (repeat (first | (with_reducible refine oz (by constructor <;> decide) ?_) | ((with_reducible first | apply SC.region | apply SO.run); (simp (disch := omega) only [go_sem, ↓reduceIte, zn1, reduceCtorEq, if_neg] <;> rfl); (fail_if_success with_reducible refine pickA ?_)) | (with_reducible apply SC.ops)))
  (refine SO.callA Tab.go35 (by simp (disch := omega) only [go_sem, ↓reduceIte, zn1] <;> rfl) (by simp (disch := omega) only [go_sem] <;> rfl) (SApp.of (a7) (by simp (disch := omega) only [go_sem, ↓reduceIte] <;> rfl) rfl (by simp (disch := omega) only [go_sem, ↓reduceIte, if_neg] <;> rfl) ?_))
  (repeat (first | (with_reducible refine oz (by constructor <;> decide) ?_) | ((with_reducible first | apply SC.region | apply SO.run); (simp (disch := omega) only [go_sem, ↓reduceIte] <;> rfl); (fail_if_success with_reducible refine pickA ?_))))
  clear a7
  have eP : (P1 ++ x.M.flatMap matE).length + (num x.X.length).length = (P1 ++ x.M.flatMap matE ++ num x.X.length).length := (zl1 ..).symm
  have eP2 : (P1 ++ x.M.flatMap matE ++ num x.X.length).length = P1.length + (x.M.flatMap matE).length + (num x.X.length).length := by simp only [zl1]
  rw [eP]
  rw [← eP2] at hL
  clear eP eP2
  generalize P1 ++ x.M.flatMap matE ++ num x.X.length = P2 at *
  refine SC.meet (fun z : Nat × Nat => ⟨[(0, .sl z.1 0 (P2 ++ x.X.flatMap int_).length 1 none), (3, .pt nx 0)], [(z.1, ⟨5, bw (P2 ++ x.X.flatMap int_), false⟩), (nx, ⟨32, [.sc (.int .i64 x.kind), .sc (.bool (decide (x.n < 0))), .im (lv (limbsOf x.n.natAbs)) (limbsOf x.n.natAbs).length, .sc (.int .u64 x.p), .im (its x.rows) x.rows.length, .im (its x.cols) x.cols.length, .im (mts x.M) x.M.length, .im (ivs x.X) x.X.length, .im (rts x.Y) x.Y.length, .sc (.bool x.found)], false⟩)], z.2, 105⟩) (fun z => nx < z.1 ∧ z.1 < z.2) ?_ ?_
  · intro K0 hK0
    refine SC.loop (fun z : Nat × Nat × Nat => ⟨[(0, .sl z.2.1 0 (P2 ++ (x.X.take z.1).flatMap int_).length 1 none), (3, .pt nx 0), (6, .sc (.int .i64 z.1))], [(z.2.1, ⟨5, bw (P2 ++ (x.X.take z.1).flatMap int_), false⟩), (nx, ⟨32, [.sc (.int .i64 x.kind), .sc (.bool (decide (x.n < 0))), .im (lv (limbsOf x.n.natAbs)) (limbsOf x.n.natAbs).length, .sc (.int .u64 x.p), .im (its x.rows) x.rows.length, .im (its x.cols) x.cols.length, .im (mts x.M) x.M.length, .im (ivs x.X) x.X.length, .im (rts x.Y) x.Y.length, .sc (.bool x.found)], false⟩)], z.2.2, 105⟩) (fun z => z.1 ≤ x.X.length ∧ nx < z.2.1 ∧ z.2.1 < z.2.2) (fun z => x.X.length - z.1) (0, m1, m1 + 1) ?_ ?_ ?_
    · simp only [zl4, List.flatMap_nil, List.append_nil]
      (refine Le.slots ?_ ?_ ?_ <;> (repeat' (first | (exact fun _ _ h => h) | exact znb _ | exact leSl_nil | refine leSl_cons (by simp (disch := omega) only [go_sem, ↓reduceIte, zn1, reduceCtorEq] <;> rfl) ?_ ?_ | exact VLe.refl rfl)))
    · exact ⟨znc _, by simp only; omega, by simp only; omega⟩
    · rintro ⟨i, q, m⟩ ⟨hi1, hq1, hq2⟩ K hK
      simp only at hi1 hq1 hq2 ⊢
      by_cases hlt : i < x.X.length
      · have gx := ivs_drop x.X i hlt
        have gl := ivs_len x.X
        have q2 : decide ((i : Int) < (x.X.length : Int)) = true := by rw [decide_eq_true_iff]; omega
        have x0 : ((i : Int)).toNat = i := rfl
        have h12 := h7' x.X[i] (List.getElem_mem hlt)
        have hs := flat_snoc int_ x.X hlt
        have hle := flat_le int_ x.X (i + 1)
        rw [hs, zl1] at hle
        have hpl : (P2 ++ (x.X.take i).flatMap int_).length = P2.length + ((x.X.take i).flatMap int_).length := zl1
        have e5 : (P2 ++ (x.X.take (i + 1)).flatMap int_).length = (P2 ++ (x.X.take i).flatMap int_).length + (int_ x.X[i]).length := by rw [hs, ← zl6, zl1]
        have e4 : bw (P2 ++ (x.X.take (i + 1)).flatMap int_) = bw (P2 ++ (x.X.take i).flatMap int_ ++ int_ x.X[i]) := by rw [hs]; simp only [zl6]
        have hK2 := fun s q' m' h => hK s (i + 1, q', m') h
        simp only [e4, e5] at hK2
        generalize P2 ++ (x.X.take i).flatMap int_ = pre at *
        have f1 := rputintE_s h12 q pre none (by omega)
        unfold ivC2 at gx f1
        (repeat (first | (with_reducible refine oz (by constructor <;> decide) ?_) | ((with_reducible first | apply SC.condB | apply SC.region | apply SO.run); (simp (disch := omega) only [go_sem, ↓reduceIte, zn1, zn3, reduceCtorEq, if_pos, if_neg, q2, x0, gl, gx, zl8, zl7, zl3, zl4, zl2] <;> rfl); (first | refine pickT ?_ | fail_if_success with_reducible refine pickA ?_)) | (with_reducible apply SC.ops)))
        (refine SO.callA Tab.go34 (by simp (disch := omega) only [go_sem, ↓reduceIte, zn1] <;> rfl) (by simp (disch := omega) only [go_sem] <;> rfl) (SApp.of (f1) (by simp (disch := omega) only [go_sem, ↓reduceIte] <;> rfl) rfl (by simp (disch := omega) only [go_sem, ↓reduceIte, if_neg] <;> rfl) ?_))
        (repeat (first | (with_reducible refine oz (by constructor <;> decide) ?_) | ((with_reducible first | apply SC.region | apply SO.run); (simp (disch := omega) only [go_sem, ↓reduceIte, zn1, reduceCtorEq] <;> rfl); (fail_if_success with_reducible refine pickA ?_))))
        refine hK2 _ m (m + 1) ?_ ⟨by omega, by omega, by omega⟩ (by omega)
        (refine Le.slots ?_ ?_ ?_ <;> (repeat' (first | (exact fun _ _ h => h) | exact znb _ | exact leSl_nil | refine leSl_cons (by simp (disch := omega) only [go_sem, ↓reduceIte, zn1, reduceCtorEq] <;> rfl) ?_ ?_ | exact VLe.refl rfl)))
      · have q2 : decide ((i : Int) < (x.X.length : Int)) = false := by rw [decide_eq_false_iff_not]; omega
        have e6 : x.X.take i = x.X := zla (by omega)
        rw [e6]
        (repeat (first | (with_reducible refine oz (by constructor <;> decide) ?_) | ((with_reducible first | apply SC.condB | apply SC.region); (simp (disch := omega) only [go_sem, ↓reduceIte, zn1, reduceCtorEq, if_neg, q2] <;> rfl); (first | refine pickF ?_ | fail_if_success with_reducible refine pickA ?_))))
        refine hK0 _ (q, m) ?_ ⟨hq1, hq2⟩
        (refine Le.slots ?_ ?_ ?_ <;> (repeat' (first | (exact fun _ _ h => h) | exact znb _ | exact leSl_nil | refine leSl_cons (by simp (disch := omega) only [go_sem, ↓reduceIte, zn1, reduceCtorEq] <;> rfl) ?_ ?_ | exact VLe.refl rfl)))
  rintro ⟨q2, m2⟩ ⟨hq1, hq2⟩
  simp only at hq1 hq2 ⊢
  have a7 := rnumber_s x.Y.length (by omega) q2 (P2 ++ x.X.flatMap int_) none (by simp only [zl1]; omega)
  (repeat (first | (with_reducible refine oz (by constructor <;> decide) ?_) | ((with_reducible first | apply SC.region | apply SO.run); (simp (disch := omega) only [go_sem, ↓reduceIte, zn1, reduceCtorEq, if_neg] <;> rfl); (fail_if_success with_reducible refine pickA ?_)) | (with_reducible apply SC.ops)))
  (refine SO.callA Tab.go35 (by simp (disch := omega) only [go_sem, ↓reduceIte, zn1] <;> rfl) (by simp (disch := omega) only [go_sem] <;> rfl) (SApp.of (a7) (by simp (disch := omega) only [go_sem, ↓reduceIte] <;> rfl) rfl (by simp (disch := omega) only [go_sem, ↓reduceIte, if_neg] <;> rfl) ?_))
  (repeat (first | (with_reducible refine oz (by constructor <;> decide) ?_) | ((with_reducible first | apply SC.region | apply SO.run); (simp (disch := omega) only [go_sem, ↓reduceIte] <;> rfl); (fail_if_success with_reducible refine pickA ?_))))
  clear a7
  have eP : (P2 ++ x.X.flatMap int_).length + (num x.Y.length).length = (P2 ++ x.X.flatMap int_ ++ num x.Y.length).length := (zl1 ..).symm
  have eP2 : (P2 ++ x.X.flatMap int_ ++ num x.Y.length).length = P2.length + (x.X.flatMap int_).length + (num x.Y.length).length := by simp only [zl1]
  rw [eP]
  rw [← eP2] at hL
  clear eP eP2
  generalize P2 ++ x.X.flatMap int_ ++ num x.Y.length = P3 at *
  refine SC.meet (fun z : Nat × Nat => ⟨[(0, .sl z.1 0 (P3 ++ x.Y.flatMap rat_).length 1 none), (3, .pt nx 0)], [(z.1, ⟨5, bw (P3 ++ x.Y.flatMap rat_), false⟩), (nx, ⟨32, [.sc (.int .i64 x.kind), .sc (.bool (decide (x.n < 0))), .im (lv (limbsOf x.n.natAbs)) (limbsOf x.n.natAbs).length, .sc (.int .u64 x.p), .im (its x.rows) x.rows.length, .im (its x.cols) x.cols.length, .im (mts x.M) x.M.length, .im (ivs x.X) x.X.length, .im (rts x.Y) x.Y.length, .sc (.bool x.found)], false⟩)], z.2, 105⟩) (fun z => nx < z.1 ∧ z.1 < z.2) ?_ ?_
  · intro K0 hK0
    refine SC.loop (fun z : Nat × Nat × Nat => ⟨[(0, .sl z.2.1 0 (P3 ++ (x.Y.take z.1).flatMap rat_).length 1 none), (3, .pt nx 0), (7, .sc (.int .i64 z.1))], [(z.2.1, ⟨5, bw (P3 ++ (x.Y.take z.1).flatMap rat_), false⟩), (nx, ⟨32, [.sc (.int .i64 x.kind), .sc (.bool (decide (x.n < 0))), .im (lv (limbsOf x.n.natAbs)) (limbsOf x.n.natAbs).length, .sc (.int .u64 x.p), .im (its x.rows) x.rows.length, .im (its x.cols) x.cols.length, .im (mts x.M) x.M.length, .im (ivs x.X) x.X.length, .im (rts x.Y) x.Y.length, .sc (.bool x.found)], false⟩)], z.2.2, 105⟩) (fun z => z.1 ≤ x.Y.length ∧ nx < z.2.1 ∧ z.2.1 < z.2.2) (fun z => x.Y.length - z.1) (0, m2, m2 + 1) ?_ ?_ ?_
    · simp only [zl4, List.flatMap_nil, List.append_nil]
      (refine Le.slots ?_ ?_ ?_ <;> (repeat' (first | (exact fun _ _ h => h) | exact znb _ | exact leSl_nil | refine leSl_cons (by simp (disch := omega) only [go_sem, ↓reduceIte, zn1, reduceCtorEq] <;> rfl) ?_ ?_ | exact VLe.refl rfl)))
    · exact ⟨znc _, by simp only; omega, by simp only; omega⟩
    · rintro ⟨i, q, m⟩ ⟨hi1, hq1, hq2⟩ K hK
      simp only at hi1 hq1 hq2 ⊢
      by_cases hlt : i < x.Y.length
      · have gx := rts_drop x.Y i hlt
        have gl := rts_len x.Y
        have q2 : decide ((i : Int) < (x.Y.length : Int)) = true := by rw [decide_eq_true_iff]; omega
        have x0 : ((i : Int)).toNat = i := rfl
        have h12 := h8' x.Y[i] (List.getElem_mem hlt)
        have hs := flat_snoc rat_ x.Y hlt
        have hle := flat_le rat_ x.Y (i + 1)
        rw [hs, zl1] at hle
        have hpl : (P3 ++ (x.Y.take i).flatMap rat_).length = P3.length + ((x.Y.take i).flatMap rat_).length := zl1
        have e5 : (P3 ++ (x.Y.take (i + 1)).flatMap rat_).length = (P3 ++ (x.Y.take i).flatMap rat_).length + (rat_ x.Y[i]).length := by rw [hs, ← zl6, zl1]
        have e4 : bw (P3 ++ (x.Y.take (i + 1)).flatMap rat_) = bw (P3 ++ (x.Y.take i).flatMap rat_ ++ rat_ x.Y[i]) := by rw [hs]; simp only [zl6]
        have hK2 := fun s q' m' h => hK s (i + 1, q', m') h
        simp only [e4, e5] at hK2
        generalize P3 ++ (x.Y.take i).flatMap rat_ = pre at *
        have er : (rat_ x.Y[i]).length = (int_ x.Y[i].1).length + (int_ x.Y[i].2).length := zl1
        have f1 := rputintE_s h12.1 q pre none (by omega)
        have f2 := rputintE_s h12.2 m (pre ++ int_ x.Y[i].1) none (by rw [zl1]; omega)
        have er2 : pre ++ rat_ x.Y[i] = pre ++ int_ x.Y[i].1 ++ int_ x.Y[i].2 := (zl6 ..).symm
        rw [zl1] at f2
        simp only [er2, er, ← znf] at hK2
        unfold rtC at gx
        unfold ivC2 at f1 f2
        (repeat (first | (with_reducible refine oz (by constructor <;> decide) ?_) | ((with_reducible first | apply SC.condB | apply SC.region | apply SO.run); (simp (disch := omega) only [go_sem, ↓reduceIte, zn1, zn3, reduceCtorEq, if_pos, if_neg, q2, x0, gl, gx, zl8, zl7, zl3, zl4, zl2] <;> rfl); (first | refine pickT ?_ | fail_if_success with_reducible refine pickA ?_)) | (with_reducible apply SC.ops)))
        (refine SO.callA Tab.go34 (by simp (disch := omega) only [go_sem, ↓reduceIte, zn1] <;> rfl) (by simp (disch := omega) only [go_sem] <;> rfl) (SApp.of (f1) (by simp (disch := omega) only [go_sem, ↓reduceIte] <;> rfl) rfl (by simp (disch := omega) only [go_sem, ↓reduceIte, if_neg] <;> rfl) ?_))
        (repeat (first | (with_reducible refine oz (by constructor <;> decide) ?_) | ((with_reducible first | apply SC.region | apply SO.run); (simp (disch := omega) only [go_sem, ↓reduceIte, zn1, zn3, reduceCtorEq, if_pos, if_neg, x0, gl, gx, zl8, zl7, zl3, zl4, zl9, zl2] <;> rfl); (fail_if_success with_reducible refine pickA ?_)) | (with_reducible apply SC.ops)))
        (refine SO.callA Tab.go34 (by simp (disch := omega) only [go_sem, ↓reduceIte, zn1] <;> rfl) (by simp (disch := omega) only [go_sem] <;> rfl) (SApp.of (f2) (by simp (disch := omega) only [go_sem, ↓reduceIte] <;> rfl) rfl (by simp (disch := omega) only [go_sem, ↓reduceIte, if_neg] <;> rfl) ?_))
        (repeat (first | (with_reducible refine oz (by constructor <;> decide) ?_) | ((with_reducible first | apply SC.region | apply SO.run); (simp (disch := omega) only [go_sem, ↓reduceIte, zn1, reduceCtorEq] <;> rfl); (fail_if_success with_reducible refine pickA ?_))))
        refine hK2 _ (m + 1) (m + 2) ?_ ⟨by omega, by omega, by omega⟩ (by omega)
        (refine Le.slots ?_ ?_ ?_ <;> (repeat' (first | (exact fun _ _ h => h) | exact znb _ | exact leSl_nil | refine leSl_cons (by simp (disch := omega) only [go_sem, ↓reduceIte, zn1, reduceCtorEq] <;> rfl) ?_ ?_ | exact VLe.refl rfl)))
      · have q2 : decide ((i : Int) < (x.Y.length : Int)) = false := by rw [decide_eq_false_iff_not]; omega
        have e6 : x.Y.take i = x.Y := zla (by omega)
        rw [e6]
        (repeat (first | (with_reducible refine oz (by constructor <;> decide) ?_) | ((with_reducible first | apply SC.condB | apply SC.region); (simp (disch := omega) only [go_sem, ↓reduceIte, zn1, reduceCtorEq, if_neg, q2] <;> rfl); (first | refine pickF ?_ | fail_if_success with_reducible refine pickA ?_))))
        refine hK0 _ (q, m) ?_ ⟨hq1, hq2⟩
        (refine Le.slots ?_ ?_ ?_ <;> (repeat' (first | (exact fun _ _ h => h) | exact znb _ | exact leSl_nil | refine leSl_cons (by simp (disch := omega) only [go_sem, ↓reduceIte, zn1, reduceCtorEq] <;> rfl) ?_ ?_ | exact VLe.refl rfl)))
  rintro ⟨q3, m3⟩ ⟨hq1, hq2⟩
  simp only at hq1 hq2 ⊢
  have eP2 : (P3 ++ x.Y.flatMap rat_).length = P3.length + (x.Y.flatMap rat_).length := zl1
  rw [← eP2] at hL
  have hF : c.length + (crt_ x).length = (P3 ++ x.Y.flatMap rat_).length + 1 := by
    have := congrArg List.length hE
    rw [hcl, zl1] at this
    exact this
  clear eP2
  generalize P3 ++ x.Y.flatMap rat_ = P4 at *
  have gl := bw_len P4
  have gt : (bw P4).take P4.length = bw P4 := zla (by omega)
  rcases Bool.eq_false_or_eq_true x.found with hf | hf
  · rw [hf] at hE ⊢
    have e3 : bw (c ++ crt_ x) = bw P4 ++ [.sc (.int .u8 1)] := by rw [hE, bw_app P4]; rfl
    (repeat (first | (with_reducible refine oz (by constructor <;> decide) ?_) | ((with_reducible first | apply SC.condB | apply SC.region); (simp (disch := omega) only [go_sem, ↓reduceIte, zn1, zn3, reduceCtorEq, if_pos, if_neg, gl, gt, zn8, zna, zl2, zl3, zl4] <;> rfl); (first | refine pickT ?_ | fail_if_success with_reducible refine pickA ?_))))
    refine retIQ_ret (.sl (m3 + 1) 0 (c.length + (crt_ x).length) 1 none) [(m3 + 1, ⟨5, bw (c ++ crt_ x), false⟩)] (m3 + 2) Tryz.results8 (by simp (disch := omega) only [go_sem, ↓reduceIte]; rfl) ⟨m3 + 1, by omega, rfl, rfl⟩ ?_
    rw [hF, e3]
    (refine Le.slots ?_ ?_ ?_ <;> (repeat' (first | exact znb _ | exact leSl_nil | refine leSl_cons (by simp (disch := omega) only [go_sem, ↓reduceIte] <;> rfl) ?_ ?_ | exact VLe.refl rfl | (refine fun id k h => ?_; simp only [hget] at h ⊢; (repeat' (split at h)) <;> first | (cases h; done) | (simp (disch := omega) only [if_pos]; exact h)))))
  · rw [hf] at hE ⊢
    have e3 : bw (c ++ crt_ x) = bw P4 ++ [.sc (.int .u8 0)] := by rw [hE, bw_app P4]; rfl
    (repeat (first | (with_reducible refine oz (by constructor <;> decide) ?_) | ((with_reducible first | apply SC.condB | apply SC.region); (simp (disch := omega) only [go_sem, ↓reduceIte, zn1, zn2, zn3, reduceCtorEq, if_pos, if_neg, gl, gt, zn8, zna, zl2, zl3, zl4] <;> rfl); (first | refine pickF ?_ | fail_if_success with_reducible refine pickA ?_))))
    refine retIQ_ret (.sl (m3 + 1) 0 (c.length + (crt_ x).length) 1 none) [(m3 + 1, ⟨5, bw (c ++ crt_ x), false⟩)] (m3 + 2) Tryz.results8 (by simp (disch := omega) only [go_sem, ↓reduceIte]; rfl) ⟨m3 + 1, by omega, rfl, rfl⟩ ?_
    rw [hF, e3]
    (refine Le.slots ?_ ?_ ?_ <;> (repeat' (first | exact znb _ | exact leSl_nil | refine leSl_cons (by simp (disch := omega) only [go_sem, ↓reduceIte] <;> rfl) ?_ ?_ | exact VLe.refl rfl | (refine fun id k h => ?_; simp only [hget] at h ⊢; (repeat' (split at h)) <;> first | (cases h; done) | (simp (disch := omega) only [if_pos]; exact h)))))
theorem crt_only2 (x : Crt) : ∀ y ∈ [crtC x], Only (fun _ => False) y := fun y hy => by
  rw [List.mem_singleton.1 hy]; exact crt_only x
theorem rputcert0_s {x : Crt} (hx : CrtFit x) (hl : (crt_ x).length ≤ 1000000000) (id : Nat) (k : Blk) : AppC Tryz.prog 8 [.sc (.slice none 0 0), crtC x] id k 0 (crt_ x).length 1 none ⟨5, bw (crt_ x), false⟩ := by
  have h := rputcert_s hx 0 [] none (by simpa using hl)
  simp only [zl7, List.length_nil, zn9] at h
  exact AppC.nilA h (crt_only2 x) id k
end Go.Proofs.YtphilljhfdlfdaaGreat
