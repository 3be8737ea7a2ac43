/- Texts joined: Fw Fx. -/
import Derived.Test.YtphilljhfdlfdaaGreatZc
import Derived.Test.YtphilljhfdlfdaaGreatZf
import Derived.Test.YtphilljhfdlfdaaGreatZi
import Derived.Test.YtphilljhfdlfdaaGreatZj
import Derived.Test.YtphilljhfdlfdaaGreatZl
set_option linter.all false
open Nat renaming reduceEqDiff → zn1, reduceLT → zn2, reduceLeDiff → zn3, reduceAdd → zn4, reduceMul → zn5, reduceSub → zn6, reduceBEq → zn7, mul_one → zn8, zero_add → zn9, one_mul → zna, le_refl → znb, zero_le → znc, add_sub_cancel_left → znd, sub_eq_zero_of_le → zne, add_assoc → znf
open Int renaming reduceToNat → zi1, reducePow → zi2
open List renaming length_append → zl1, drop_zero → zl2, take_succ_cons → zl3, take_zero → zl4, getElem?_drop → zl5, append_assoc → zl6, nil_append → zl7, cons_append → zl8, drop_succ_cons → zl9, take_of_length_le → zla, getElem?_eq_getElem → zlb, getElem?_eq_some_iff → zlc, map_cons → zld, map_nil → zle, all_eq_true → zlf
namespace Go.Proofs.YtphilljhfdlfdaaGreat
open Go.RowKit
theorem Le.ren2 {B : Base} {sl sl' : List (Nat × V)} {hp hp' : List (Nat × Blk)} {nx nx' nt m : Nat} (a b a2 b2 : Nat) (hB : B.Old m) (ha : m ≤ a) (hb : nx' ≤ b) (ha2 : m ≤ a2) (hb2 : nx' ≤ b2) (hbb : b ≠ b2) (hm : m ≤ nx')
    (h1 : mapSl (fun i => if i = a then b else if i = a2 then b2 else i) (fun i => i < nx') sl sl') (h2 : mapHp (fun i => if i = a then b else if i = a2 then b2 else i) (fun i => i < nx') hp hp') : Le B ⟨sl, hp, nx, nt⟩ ⟨sl', hp', nx', nt⟩ :=
  Le.map (fun i => if i = a then b else if i = a2 then b2 else i) (fun i => i < nx') hB (fun i hi => ⟨by omega, by rw [if_neg (by omega), if_neg (by omega)]⟩) (fun i hi => hi) (fun i j hi hj e => by
    repeat' (split at e)
    all_goals omega) h1 fun i k' h _ => mapHp_get h2 i k' h
def rmC (y : RMt) : List V := [.sc (.int .u8 y.a), .sc (.int .u8 y.b), .im (bv8 y.l) y.l.length]
def rms (l : List RMt) : List V := l.flatMap rmC
theorem rms_len (l : List RMt) : (rms l).length = l.length * 3 := by
  induction l with
  | nil => rfl
  | cons x r ih =>
    show (rmC x ++ rms r).length = _
    rw [zl1, ih]
    show 3 + r.length * 3 = (r.length + 1) * 3
    omega
theorem rms_drop : ∀ (l : List RMt) (i : Nat) (h : i < l.length), (rms l).drop (i * 3) = rmC l[i] ++ rms (l.drop (i + 1))
  | x :: r, 0, _ => rfl
  | x :: r, i + 1, h => by
    have e : rms (x :: r) = rmC x ++ rms r := rfl
    have e0 : (rmC x).length = 3 := rfl
    have e2 : (i + 1) * 3 - 3 = i * 3 := by omega
    rw [e, List.drop_append, e0, e2, List.drop_of_length_le (by rw [e0]; omega), zl7, rms_drop r i (by simpa using h)]
    rfl
structure Rest where
  a1 : List V
  n1 : Nat
  a2 : List V
  n2 : Nat
  a3 : List V
  n3 : Nat
def rctL (x : RCt) (r : Rest) : List V := [.sc (.int .i64 x.kind), .sc (.bool x.neg), .im (lv x.mag) x.mag.length, .sc (.int .u64 x.p), .im (its x.rows) x.rows.length, .im (its x.cols) x.cols.length, .im r.a1 r.n1, .im r.a2 r.n2, .im r.a3 r.n3, .sc (.bool x.found)]
theorem its_take (l : List Int) (k : Nat) : (its l).take (l.take k).length = its (l.take k) := by
  have e : ∀ m : List Int, its m = m.map fun x => .sc (.int .i64 x) := fun m => by
    induction m with
    | nil => rfl
    | cons x r ih => show itC x ++ its r = _; rw [ih]; rfl
  rw [e, e, ← List.map_take]
  congr 1
  rw [List.length_take]
  rcases Nat.le_total k l.length with h | h
  · rw [Nat.min_eq_left h]
  · rw [Nat.min_eq_right h, zla (znb _), zla h]
theorem its_one (l : List Int) : (its l).all V.one = true := by
  rw [zlf]; intro y hy; obtain ⟨x, _, hx⟩ := List.mem_flatMap.1 hy
  rw [List.mem_singleton.1 hx]; rfl
set_option maxHeartbeats 16000000 in
set_option maxRecDepth 4000 in
theorem mkcert_s (x : RCt) (hx : RCtOk x) (hl1 : x.mag.length ≤ 9223372036854775807) (hl2 : x.rows.length ≤ 9223372036854775807) (hl3 : x.cols.length ≤ 9223372036854775807) (r : Rest) (ms : List RMt) (hms : ∀ y ∈ ms, RMtOk y) (hml : ms.length ≤ 9223372036854775807) (l : List Int) (hl : ∀ y ∈ l, -128 ≤ y ∧ y ≤ 127) (hll : l.length ≤ 9223372036854775807) :
    Spec Tryz.prog 5 [.ag (rctL x r), .im (rms ms) ms.length, .im (bv8 l) l.length] (crtC (x.made ms l)) := by
  obtain ⟨h1, h2, h3, h4, h5⟩ := hx
  have c1 := made_i (x.mag.take 3) x.neg (limbs_take h2 3) (by simp; omega)
  have m3 : (if (x.mag.length : Int) < 3 then (x.mag.length : Int) else 3) = (((x.mag.take 3).length : Nat) : Int) := by rw [List.length_take]; split <;> omega
  have m3' : (if (3 : Int) < x.mag.length then (3 : Int) else x.mag.length) = (((x.mag.take 3).length : Nat) : Int) := min_take x.mag 3
  have m4 : (if (3 : Int) < x.rows.length then (3 : Int) else x.rows.length) = (((x.rows.take 3).length : Nat) : Int) := by rw [List.length_take]; split <;> omega
  have m5 : (if (3 : Int) < x.cols.length then (3 : Int) else x.cols.length) = (((x.cols.take 3).length : Nat) : Int) := by rw [List.length_take]; split <;> omega
  have g3 : (x.mag.take 3).length ≤ x.mag.length := take_le _ _
  have g4 : (x.rows.take 3).length ≤ x.rows.length := by rw [List.length_take]; omega
  have g5 : (x.cols.take 3).length ≤ x.cols.length := by rw [List.length_take]; omega
  have x0 : ∀ k : Nat, ((k : Int)).toNat = k := fun _ => rfl
  have glm := lv_len x.mag
  have gtm : (lv x.mag).take (x.mag.take 3).length = lv (x.mag.take 3) := by rw [lv_take, take_take_len]
  have glr := its_len x.rows
  have glc := its_len x.cols
  have gtr := its_take x.rows 3
  have gtc := its_take x.cols 3
  have glr3 := its_len (x.rows.take 3)
  have glc3 := its_len (x.cols.take 3)
  rw [zn8] at glr glc glr3 glc3
  have gor : (its (x.rows.take 3)).take (x.rows.take 3).length = its (x.rows.take 3) := zla (by omega)
  have goc : (its (x.cols.take 3)).take (x.cols.take 3).length = its (x.cols.take 3) := zla (by omega)
  have gcr := its_clo (x.rows.take 3)
  have ger := its_one (x.rows.take 3)
  have gec := its_one (x.cols.take 3)
  have gcc := its_clo (x.cols.take 3)
  unfold rctL crtC RCt.made
  unfold iv sv at c1
  simp only
  refine Spec.run Tryz.func5 rfl Tryz.ntmps5 (by simp) (by simp (disch := omega) only [go_sem, zn4]; rfl) fun B hB => ?_
  (repeat (first | (with_reducible refine oz (by constructor <;> decide) ?_) | ((with_reducible apply SC.region); (simp (disch := omega) only [go_sem, ↓reduceIte, zn4] <;> rfl); (fail_if_success with_reducible refine pickA ?_))))
  (refine SC.draw Tab.mixed rfl ?_)
  (repeat (first | refine DO.nil (by kernel_rfl) ?_ | (with_reducible refine oz (by constructor <;> decide) ?_) | ((apply DO.call); (iterate 3 (simp (disch := omega) only [go_sem, ↓reduceIte, zn1] <;> rfl)); (apply DCall.ofX); (assumption); (simp (disch := omega) only [go_sem] <;> rfl)) | ((with_reducible apply DO.run); (simp (disch := omega) only [go_sem, ↓reduceIte, zn1, zn3, zn4, reduceCtorEq, if_pos, m3', x0, gtm, zn8] <;> rfl); (fail_if_success with_reducible refine pickA ?_))))
  generalize decide (sgn x.neg (val (List.take 3 x.mag)) < 0) = D3 at *
  generalize (limbsOf (sgn x.neg (val (List.take 3 x.mag))).natAbs).length = N3 at *
  generalize lv (limbsOf (sgn x.neg (val (List.take 3 x.mag))).natAbs) = L3 at *
  refine SC.weak (by simp) (nilSl (tO := 3) (sl' := [(1, .im (rms ms) ms.length), (2, .im (bv8 l) l.length), (3, .pt 0 0), (6, .pt 1 0), (7, .pt 2 0)]) (hp' := [(0, ⟨32, [.sc (.int .i64 x.kind), .sc (.bool x.neg), .im (lv x.mag) x.mag.length, .sc (.int .u64 x.p), .im (its x.rows) x.rows.length, .im (its x.cols) x.cols.length, .im r.a1 r.n1, .im r.a2 r.n2, .im r.a3 r.n3, .sc (.bool x.found)], false⟩), (1, ⟨32, [.sc (.int .i64 0), .sc (.bool false), .sc (.slice none 0 0), .sc (.int .u64 0), .sc (.slice none 0 0), .sc (.slice none 0 0), .sc (.slice none 0 0), .sc (.slice none 0 0), .sc (.slice none 0 0), .sc (.bool false)], false⟩), (2, ⟨32, [.sc (.int .i64 x.kind), .sc (.bool D3), .im L3 N3, .sc (.int .u64 x.p), .sl 3 0 0 1 none, .sc (.slice none 0 0), .sc (.slice none 0 0), .sc (.slice none 0 0), .sc (.slice none 0 0), .sc (.bool x.found)], false⟩)]) 3 hB (by omega) ?_ ?_) ?_
  · (repeat' (first | exact trivial | refine mapSl_cons (by simp (disch := omega) only [go_sem, ↓reduceIte, zn1, reduceCtorEq] <;> rfl) ?_ ?_ | exact VMap.clo rfl | exact VMap.pt rfl (by omega)))
  · (repeat' (first | exact mapHp_nil | refine mapHp_cons (by simp (disch := omega) only [go_sem, ↓reduceIte, zn1, reduceCtorEq] <;> rfl) ?_ ?_ | exact BMap.clo (by rfl) | refine BMap.list ?_ | exact mapL_nil | refine mapL_cons ?_ ?_ | exact VMap.sc _ | exact VMap.clo rfl | exact VMap.nil_sl _ _ _))
  refine SC.weak (by simp) (nilSl (tO := 3) (sl' := [(1, .im (rms ms) ms.length), (2, .im (bv8 l) l.length), (3, .pt 0 0), (6, .pt 1 0), (7, .pt 2 0)]) (hp' := [(3, ⟨3, [], false⟩), (0, ⟨32, [.sc (.int .i64 x.kind), .sc (.bool x.neg), .im (lv x.mag) x.mag.length, .sc (.int .u64 x.p), .im (its x.rows) x.rows.length, .im (its x.cols) x.cols.length, .im r.a1 r.n1, .im r.a2 r.n2, .im r.a3 r.n3, .sc (.bool x.found)], false⟩), (1, ⟨32, [.sc (.int .i64 0), .sc (.bool false), .sc (.slice none 0 0), .sc (.int .u64 0), .sc (.slice none 0 0), .sc (.slice none 0 0), .sc (.slice none 0 0), .sc (.slice none 0 0), .sc (.slice none 0 0), .sc (.bool false)], false⟩), (2, ⟨32, [.sc (.int .i64 x.kind), .sc (.bool D3), .im L3 N3, .sc (.int .u64 x.p), .sl 3 0 0 1 none, .sl 4 0 0 1 none, .sc (.slice none 0 0), .sc (.slice none 0 0), .sc (.slice none 0 0), .sc (.bool x.found)], false⟩)]) 4 hB (by omega) ?_ ?_) ?_
  · (repeat' (first | exact trivial | refine mapSl_cons (by simp (disch := omega) only [go_sem, ↓reduceIte, zn1] <;> rfl) ?_ ?_ | exact VMap.clo rfl | exact VMap.pt rfl (by omega)))
  · (repeat' (first | exact mapHp_nil | refine mapHp_cons (by simp (disch := omega) only [go_sem, ↓reduceIte, zn1, reduceCtorEq] <;> rfl) ?_ ?_ | exact BMap.clo (by rfl) | refine BMap.list ?_ | exact mapL_nil | refine mapL_cons ?_ ?_ | exact VMap.sc _ | exact VMap.clo rfl | exact VMap.sl rfl (by omega) | exact VMap.nil_sl _ _ _))
  (refine SC.draw Tab.mixed rfl ?_)
  (repeat (first | refine DO.nil (by kernel_rfl) ?_ | (with_reducible refine oz (by constructor <;> decide) ?_) | ((with_reducible apply DO.run); (simp (disch := omega) only [go_sem, ↓reduceIte, zn1, zn3, zn4, reduceCtorEq, if_pos, m4, x0, gtr, glr3, ger, zl7, List.take_nil, zl2, zn9, zn8] <;> rfl); (fail_if_success with_reducible refine pickA ?_))))
  (refine SC.draw Tab.mixed rfl ?_)
  (repeat (first | refine DO.nil (by kernel_rfl) ?_ | (with_reducible refine oz (by constructor <;> decide) ?_) | ((with_reducible first | apply SC.region | apply DO.run); (simp (disch := omega) only [go_sem, ↓reduceIte, zn1, zn3, zn4, reduceCtorEq, if_pos, m5, x0, gtc, glc3, gec, zl7, List.take_nil, zl2, zn9, zn8] <;> rfl); (fail_if_success with_reducible refine pickA ?_))))
  refine SC.weak (by simp) (nilSl (tO := 49) (sl' := [(1, .im (rms ms) ms.length), (2, .im (bv8 l) l.length), (6, .pt 1 0), (7, .pt 2 0), (8, .sc (.int .i64 0))]) (hp' := [(5, ⟨3, its (List.take 3 x.rows), false⟩), (6, ⟨3, its (List.take 3 x.cols), false⟩), (1, ⟨32, [.sc (.int .i64 0), .sc (.bool false), .sc (.slice none 0 0), .sc (.int .u64 0), .sc (.slice none 0 0), .sc (.slice none 0 0), .sc (.slice none 0 0), .sc (.slice none 0 0), .sc (.slice none 0 0), .sc (.bool false)], false⟩), (2, ⟨32, [.sc (.int .i64 x.kind), .sc (.bool D3), .im L3 N3, .sc (.int .u64 x.p), .sl 5 0 (List.take 3 x.rows).length 1 none, .sl 6 0 (List.take 3 x.cols).length 1 none, .sl 7 0 0 3 none, .sc (.slice none 0 0), .sc (.slice none 0 0), .sc (.bool x.found)], false⟩)]) 7 hB (by omega) ?_ ?_) ?_
  · (repeat' (first | exact trivial | refine mapSl_cons (by simp (disch := omega) only [go_sem, ↓reduceIte, zn1] <;> rfl) ?_ ?_ | exact VMap.sc _ | exact VMap.clo rfl | exact VMap.pt rfl (by omega)))
  · (repeat' (first | exact mapHp_nil | refine mapHp_cons (by simp (disch := omega) only [go_sem, ↓reduceIte, zn1, reduceCtorEq] <;> rfl) ?_ ?_ | exact BMap.clo (by assumption) | refine BMap.list ?_ | exact mapL_nil | refine mapL_cons ?_ ?_ | exact VMap.sc _ | exact VMap.clo rfl | exact VMap.sl rfl (by omega) | exact VMap.nil_sl _ _ _))
  generalize hL : (ms.take 2).map RMt.made = L
  refine SC.meet (fun _ : Unit => ⟨[(2, .im (bv8 l) l.length), (6, .pt 1 0), (7, .pt 2 0)], [(7, ⟨49, mts L, false⟩), (5, ⟨3, its (List.take 3 x.rows), false⟩), (6, ⟨3, its (List.take 3 x.cols), false⟩), (1, ⟨32, [.sc (.int .i64 0), .sc (.bool false), .sc (.slice none 0 0), .sc (.int .u64 0), .sc (.slice none 0 0), .sc (.slice none 0 0), .sc (.slice none 0 0), .sc (.slice none 0 0), .sc (.slice none 0 0), .sc (.bool false)], false⟩), (2, ⟨32, [.sc (.int .i64 x.kind), .sc (.bool D3), .im L3 N3, .sc (.int .u64 x.p), .sl 5 0 (List.take 3 x.rows).length 1 none, .sl 6 0 (List.take 3 x.cols).length 1 none, .sl 7 0 L.length 3 none, .sc (.slice none 0 0), .sc (.slice none 0 0), .sc (.bool x.found)], false⟩)], 8, 107⟩) (fun _ => True) ?_ ?_
  · intro K0 hK0
    refine SC.loop (fun i : Nat => ⟨[(1, .im (rms ms) ms.length), (2, .im (bv8 l) l.length), (6, .pt 1 0), (7, .pt 2 0), (8, .sc (.int .i64 i))], [(7, ⟨49, mts ((ms.take i).map RMt.made), false⟩), (5, ⟨3, its (List.take 3 x.rows), false⟩), (6, ⟨3, its (List.take 3 x.cols), false⟩), (1, ⟨32, [.sc (.int .i64 0), .sc (.bool false), .sc (.slice none 0 0), .sc (.int .u64 0), .sc (.slice none 0 0), .sc (.slice none 0 0), .sc (.slice none 0 0), .sc (.slice none 0 0), .sc (.slice none 0 0), .sc (.bool false)], false⟩), (2, ⟨32, [.sc (.int .i64 x.kind), .sc (.bool D3), .im L3 N3, .sc (.int .u64 x.p), .sl 5 0 (List.take 3 x.rows).length 1 none, .sl 6 0 (List.take 3 x.cols).length 1 none, .sl 7 0 i 3 none, .sc (.slice none 0 0), .sc (.slice none 0 0), .sc (.bool x.found)], false⟩)], 8, 107⟩)
      (fun i => i ≤ ms.length ∧ i ≤ 2) (fun i => 2 - i) 0 ?_ ?_ ?_
    · simp only [zl4, zle]
      unfold mts
      (refine Le.slots ?_ ?_ ?_ <;> (repeat' (first | (exact fun _ _ h => h) | exact znb _ | exact leSl_nil | refine leSl_cons (by simp (disch := omega) only [go_sem, ↓reduceIte, zn1] <;> rfl) ?_ ?_ | exact VLe.refl rfl)))
    · exact ⟨znc _, znc _⟩
    · intro i ⟨hi, hi3⟩ K hK
      have gl := mts_len ((ms.take i).map RMt.made)
      rw [List.length_map, List.length_take, Nat.min_eq_left hi] at gl
      have gt : (mts ((ms.take i).map RMt.made)).take (i * 3) = mts ((ms.take i).map RMt.made) := zla (by omega)
      by_cases hlt : i < ms.length ∧ i < 2
      · have q2 : decide ((i : Int) < (ms.length : Int)) = true := by rw [decide_eq_true_iff]; omega
        have q3 : decide ((i : Int) < 2) = true := by rw [decide_eq_true_iff]; omega
        have x1 : ((i : Int)).toNat = i := rfl
        have gx := rms_drop ms i hlt.1
        have grl := rms_len ms
        obtain ⟨k1, k2, k3, k4⟩ := hms ms[i] (List.getElem_mem hlt.1)
        have c2 := rmade_s k1 k2 k3 k4
        have e4 := mts_snoc ((ms.take i).map RMt.made) ms[i].made
        rw [← map_snoc RMt.made ms hlt.1] at e4
        have cl := mts_clo ((ms.take (i + 1)).map RMt.made)
        have eh : (filL (ms[i].a % 5) (ms[i].b % 5) ms[i].l).length = ms[i].a % 5 := mkM_len
        unfold rmC at gx
        unfold mtC RMt.made at e4
        unfold RMt.made at cl
        unfold mat at c2
        rw [eh] at c2
        simp only [eh, zl8, zl7] at gx e4
        (repeat (first | refine DO.nil (by kernel_rfl) ?_ | (with_reducible refine oz (by constructor <;> decide) ?_) | ((apply DO.call); (iterate 3 (simp (disch := omega) only [go_sem, ↓reduceIte, zl7] <;> rfl)); (apply DCall.ofX); (assumption); (simp (disch := omega) only [go_sem] <;> rfl)) | ((with_reducible first | apply SC.condB | apply SC.region | apply DO.run); (simp (disch := omega) only [go_sem, ↓reduceIte, zn1, zn3, zn4, reduceCtorEq, if_pos, q2, q3, x1, gx, grl, gl, gt, zl8, zl7, zl2, zl3, zl4, zna, zn9] <;> rfl); (first | refine pickT ?_ | fail_if_success with_reducible refine pickA ?_)) | ((with_reducible refine SC.draw Tab.mixed ?_ ?_); rfl)))
        refine hK _ (i + 1) (Le.ren 7 9 hB (by omega) (by omega) (by omega) ?_ ?_) ⟨by omega, by omega⟩ (by omega)
        · (repeat' (first | exact trivial | refine mapSl_cons (by simp (disch := omega) only [go_sem, ↓reduceIte, zn1] <;> rfl) ?_ ?_ | exact VMap.sc _ | exact VMap.clo rfl | exact VMap.pt rfl (by omega)))
        · unfold RMt.made
          rw [e4] at cl ⊢
          refine mapHp_cons (by simp (disch := omega) only [go_sem, ↓reduceIte] <;> rfl) (BMap.clo cl) ?_
          (repeat' (first | exact mapHp_nil | refine mapHp_cons (by simp (disch := omega) only [go_sem, ↓reduceIte, zn1] <;> rfl) ?_ ?_ | exact BMap.clo (by assumption) | refine BMap.list ?_ | exact mapL_nil | refine mapL_cons ?_ ?_ | exact VMap.sc _ | exact VMap.clo rfl | exact VMap.sl rfl (by omega)))
      · have e9 := take_min ms hlt hi hi3
        have e10 : ((ms.take i).map RMt.made).length = i := by rw [List.length_map, List.length_take, Nat.min_eq_left hi]
        rw [e9] at hL
        rw [hL] at e10 ⊢
        subst e10
        by_cases h1 : L.length < ms.length
        · have q2 : decide ((L.length : Int) < (ms.length : Int)) = true := by rw [decide_eq_true_iff]; omega
          have q3 : decide ((L.length : Int) < 2) = false := by rw [decide_eq_false_iff_not]; omega
          (repeat (first | (with_reducible refine oz (by constructor <;> decide) ?_) | ((with_reducible first | apply SC.condB | apply SC.region); (simp (disch := omega) only [go_sem, ↓reduceIte, zn1, q2, q3] <;> rfl); (first | refine pickF ?_ | fail_if_success with_reducible refine pickA ?_))))
          refine hK0 _ () ?_ trivial
          (refine Le.slots ?_ ?_ ?_ <;> (repeat' (first | (exact fun _ _ h => h) | exact znb _ | exact leSl_nil | refine leSl_cons (by simp (disch := omega) only [go_sem, ↓reduceIte, zn1] <;> rfl) ?_ ?_ | exact VLe.refl rfl)))
        · have q2 : decide ((L.length : Int) < (ms.length : Int)) = false := by rw [decide_eq_false_iff_not]; omega
          (repeat (first | (with_reducible refine oz (by constructor <;> decide) ?_) | ((with_reducible first | apply SC.condB | apply SC.region); (simp (disch := omega) only [go_sem, ↓reduceIte, zn1, q2] <;> rfl); (first | refine pickF ?_ | fail_if_success with_reducible refine pickA ?_))))
          refine hK0 _ () ?_ trivial
          (refine Le.slots ?_ ?_ ?_ <;> (repeat' (first | (exact fun _ _ h => h) | exact znb _ | exact leSl_nil | refine leSl_cons (by simp (disch := omega) only [go_sem, ↓reduceIte, zn1] <;> rfl) ?_ ?_ | exact VLe.refl rfl)))
  intro _ _
  have cL := mts_clo L
  have lL := mts_len L
  have tL : (mts L).take (L.length * 3) = mts L := zla (by omega)
  (repeat (first | (with_reducible refine oz (by constructor <;> decide) ?_) | ((with_reducible apply SC.region); (simp (disch := omega) only [go_sem, ↓reduceIte] <;> rfl); (fail_if_success with_reducible refine pickA ?_))))
  refine SC.weak (by simp) (nilSl (tO := 24) (sl' := [(2, .im (bv8 l) l.length), (6, .pt 1 0), (7, .pt 2 0), (9, .sc (.int .i64 0))]) (hp' := [(7, ⟨49, mts L, false⟩), (5, ⟨3, its (List.take 3 x.rows), false⟩), (6, ⟨3, its (List.take 3 x.cols), false⟩), (1, ⟨32, [.sc (.int .i64 0), .sc (.bool false), .sc (.slice none 0 0), .sc (.int .u64 0), .sc (.slice none 0 0), .sc (.slice none 0 0), .sc (.slice none 0 0), .sc (.slice none 0 0), .sc (.slice none 0 0), .sc (.bool false)], false⟩), (2, ⟨32, [.sc (.int .i64 x.kind), .sc (.bool D3), .im L3 N3, .sc (.int .u64 x.p), .sl 5 0 (List.take 3 x.rows).length 1 none, .sl 6 0 (List.take 3 x.cols).length 1 none, .sl 7 0 L.length 3 none, .sl 8 0 0 2 none, .sc (.slice none 0 0), .sc (.bool x.found)], false⟩)]) 8 hB (by omega) ?_ ?_) ?_
  · (repeat' (first | exact trivial | refine mapSl_cons (by simp (disch := omega) only [go_sem, ↓reduceIte, zn1] <;> rfl) ?_ ?_ | exact VMap.sc _ | exact VMap.clo rfl | exact VMap.pt rfl (by omega)))
  · (repeat' (first | exact mapHp_nil | refine mapHp_cons (by simp (disch := omega) only [go_sem, ↓reduceIte, zn1] <;> rfl) ?_ ?_ | exact BMap.clo (by assumption) | refine BMap.list ?_ | exact mapL_nil | refine mapL_cons ?_ ?_ | exact VMap.sc _ | exact VMap.clo rfl | exact VMap.sl rfl (by omega) | exact VMap.nil_sl _ _ _))
  refine SC.weak (by simp) (nilSl (tO := 71) (sl' := [(2, .im (bv8 l) l.length), (6, .pt 1 0), (7, .pt 2 0), (9, .sc (.int .i64 0))]) (hp' := [(8, ⟨24, [], false⟩), (7, ⟨49, mts L, false⟩), (5, ⟨3, its (List.take 3 x.rows), false⟩), (6, ⟨3, its (List.take 3 x.cols), false⟩), (1, ⟨32, [.sc (.int .i64 0), .sc (.bool false), .sc (.slice none 0 0), .sc (.int .u64 0), .sc (.slice none 0 0), .sc (.slice none 0 0), .sc (.slice none 0 0), .sc (.slice none 0 0), .sc (.slice none 0 0), .sc (.bool false)], false⟩), (2, ⟨32, [.sc (.int .i64 x.kind), .sc (.bool D3), .im L3 N3, .sc (.int .u64 x.p), .sl 5 0 (List.take 3 x.rows).length 1 none, .sl 6 0 (List.take 3 x.cols).length 1 none, .sl 7 0 L.length 3 none, .sl 8 0 0 2 none, .sl 9 0 0 4 none, .sc (.bool x.found)], false⟩)]) 9 hB (by omega) ?_ ?_) ?_
  · (repeat' (first | exact trivial | refine mapSl_cons (by simp (disch := omega) only [go_sem, ↓reduceIte, zn1] <;> rfl) ?_ ?_ | exact VMap.sc _ | exact VMap.clo rfl | exact VMap.pt rfl (by omega)))
  · (repeat' (first | exact mapHp_nil | refine mapHp_cons (by simp (disch := omega) only [go_sem, ↓reduceIte, zn1] <;> rfl) ?_ ?_ | exact BMap.clo (by first | rfl | assumption) | refine BMap.list ?_ | exact mapL_nil | refine mapL_cons ?_ ?_ | exact VMap.sc _ | exact VMap.clo rfl | exact VMap.sl rfl (by omega) | exact VMap.nil_sl _ _ _))
  refine SC.loop (fun i : Nat => ⟨[(2, .im (bv8 l) l.length), (6, .pt 1 0), (7, .pt 2 0), (9, .sc (.int .i64 i))], [(8, ⟨24, ivs (l.take i), false⟩), (9, ⟨71, rts (madeY (l.take i) 0), false⟩), (7, ⟨49, mts L, false⟩), (5, ⟨3, its (List.take 3 x.rows), false⟩), (6, ⟨3, its (List.take 3 x.cols), false⟩), (1, ⟨32, [.sc (.int .i64 0), .sc (.bool false), .sc (.slice none 0 0), .sc (.int .u64 0), .sc (.slice none 0 0), .sc (.slice none 0 0), .sc (.slice none 0 0), .sc (.slice none 0 0), .sc (.slice none 0 0), .sc (.bool false)], false⟩), (2, ⟨32, [.sc (.int .i64 x.kind), .sc (.bool D3), .im L3 N3, .sc (.int .u64 x.p), .sl 5 0 (List.take 3 x.rows).length 1 none, .sl 6 0 (List.take 3 x.cols).length 1 none, .sl 7 0 L.length 3 none, .sl 8 0 i 2 none, .sl 9 0 i 4 none, .sc (.bool x.found)], false⟩)], 10, 107⟩)
    (fun i => i ≤ l.length ∧ i ≤ 4) (fun i => 4 - i) 0 ?_ ?_ ?_
  · simp only [zl4, madeY]
    unfold ivs rts
    (refine Le.slots ?_ ?_ ?_ <;> (repeat' (first | exact znb _ | exact leSl_nil | refine leSl_cons (by simp (disch := omega) only [go_sem, ↓reduceIte, zn1] <;> rfl) ?_ ?_ | exact VLe.refl rfl | (refine fun id k h => ?_; simp only [hget] at h ⊢; (repeat' (split at h)) <;> first | (cases h; done) | (simp (disch := omega) only [if_pos, if_neg]; exact h)))))
  · exact ⟨znc _, znc _⟩
  · intro i ⟨hi, hi3⟩ K hK
    have hti : (l.take i).length = i := by rw [List.length_take, Nat.min_eq_left hi]
    have gl := ivs_len (l.take i)
    have gl2 := rts_len (madeY (l.take i) 0)
    rw [madeY_len, hti] at gl2
    rw [hti] at gl
    have gt : (ivs (l.take i)).take (i * 2) = ivs (l.take i) := zla (by omega)
    have gt2 : (rts (madeY (l.take i) 0)).take (i * 4) = rts (madeY (l.take i) 0) := zla (by omega)
    by_cases hlt : i < l.length ∧ i < 4
    · have q2 : decide ((i : Int) < (l.length : Int)) = true := by rw [decide_eq_true_iff]; omega
      have q3 : decide ((i : Int) < 4) = true := by rw [decide_eq_true_iff]; omega
      have x1 : ((i : Int)).toNat = i := rfl
      have gi := bv8_get hlt.1
      have gll := bv8_len l
      have hx1 := hl l[i] (List.getElem_mem hlt.1)
      have c3 := of_i l[i] (by omega) (by omega)
      have c4 := rMade_i l[i] (1 + (i : Int)) (by omega) (by omega) (by omega) (by omega) (by omega)
      have es : l.take (i + 1) = l.take i ++ [l[i]] := List.take_succ_eq_append_getElem hlt.1
      have e4 := ivs_snoc (l.take i) l[i]
      have e5 := madeY_snoc (l.take i) l[i] 0
      rw [hti, zn9] at e5
      have e6 := rts_snoc (madeY (l.take i) 0) ((Rat.divInt l[i] (1 + ((i : Nat) : Int))).num, ((Rat.divInt l[i] (1 + ((i : Nat) : Int))).den : Int))
      rw [← e5] at e6
      rw [← es] at e4 e6
      have cl := ivs_clo (l.take (i + 1))
      have cl2 := rts_clo (madeY (l.take (i + 1)) 0)
      rw [getD_el l 0 hlt.1] at gi
      unfold rv rt at c4
      unfold iv sv at c3
      unfold ivC2 at e4
      unfold rtC at e6
      simp only [] at e4 e6
      generalize (Rat.divInt l[i] (1 + (i : Int))).num = u1 at *
      generalize ((Rat.divInt l[i] (1 + (i : Int))).den : Int) = u2 at *
      generalize l[i] = z at *
      (repeat (first | refine DO.nil (by kernel_rfl) ?_ | (with_reducible refine oz (by constructor <;> decide) ?_) | ((apply DO.call); (iterate 3 (simp (disch := omega) only [go_sem, ↓reduceIte, zn1, zl7] <;> rfl)); (apply DCall.ofX); (assumption); (simp (disch := omega) only [go_sem] <;> rfl)) | ((with_reducible first | apply SC.condB | apply SC.region | apply DO.run); (simp (disch := omega) only [go_sem, ↓reduceIte, zn1, zn3, zn4, reduceCtorEq, if_pos, q2, q3, x1, gi, gll, gl, gt, gl2, gt2, zl5, Nat.add_zero, zl8, zl7, zl2, zl3, zl4, zna, zn8, zn9] <;> rfl); (first | refine pickT ?_ | fail_if_success with_reducible refine pickA ?_)) | ((with_reducible refine SC.draw Tab.mixed ?_ ?_); rfl)))
      refine hK _ (i + 1) (Le.ren2 8 11 9 13 hB (by omega) (by omega) (by omega) (by omega) (by omega) (by omega) ?_ ?_) ⟨by omega, by omega⟩ (by omega)
      · (repeat' (first | exact trivial | refine mapSl_cons (by simp (disch := omega) only [go_sem, ↓reduceIte, zn1] <;> rfl) ?_ ?_ | exact VMap.sc _ | exact VMap.clo rfl | exact VMap.pt rfl (by omega)))
      · rw [e4] at cl ⊢
        rw [e6] at cl2 ⊢
        refine mapHp_cons (by simp (disch := omega) only [go_sem, ↓reduceIte, zn1] <;> rfl) (BMap.clo cl) ?_
        refine mapHp_cons (by simp (disch := omega) only [go_sem, ↓reduceIte, zn1] <;> rfl) (BMap.clo cl2) ?_
        (repeat' (first | exact mapHp_nil | refine mapHp_cons (by simp (disch := omega) only [go_sem, ↓reduceIte, zn1] <;> rfl) ?_ ?_ | exact BMap.clo (by assumption) | refine BMap.list ?_ | exact mapL_nil | refine mapL_cons ?_ ?_ | exact VMap.sc _ | exact VMap.clo rfl | exact VMap.sl rfl (by omega)))
    · have e9 := take_min l hlt hi hi3
      rw [e9, hti, madeY_len, hti]
      have cl := ivs_clo (l.take i)
      have cl2 := rts_clo (madeY (l.take i) 0)
      by_cases h1 : i < l.length
      · have q2 : decide ((i : Int) < (l.length : Int)) = true := by rw [decide_eq_true_iff]; omega
        have q3 : decide ((i : Int) < 4) = false := by rw [decide_eq_false_iff_not]; omega
        (repeat (first | (with_reducible refine oz (by constructor <;> decide) ?_) | ((with_reducible first | apply SC.condB | apply SC.region); (simp (disch := omega) only [go_sem, ↓reduceIte, zn1, zn2, zn3, zn4, q2, q3] <;> rfl); (first | refine pickF ?_ | fail_if_success with_reducible refine pickA ?_))))
        exact retQ_ret Tryz.results5 (by simp (disch := omega) only [go_sem, ↓reduceIte, zn1, zn3, zn4] <;> rfl) (by simp (disch := omega) only [go_sem, ↓reduceIte, zn1, if_pos, gl, gt, gl2, gt2, cl, cl2, lL, tL, cL, gcr, gcc, glr3, glc3, gor, goc, zl2, zn8] <;> rfl) rfl
      · have q2 : decide ((i : Int) < (l.length : Int)) = false := by rw [decide_eq_false_iff_not]; omega
        (repeat (first | (with_reducible refine oz (by constructor <;> decide) ?_) | ((with_reducible first | apply SC.condB | apply SC.region); (simp (disch := omega) only [go_sem, ↓reduceIte, zn1, zn2, zn3, zn4, q2] <;> rfl); (first | refine pickF ?_ | fail_if_success with_reducible refine pickA ?_))))
        exact retQ_ret Tryz.results5 (by simp (disch := omega) only [go_sem, ↓reduceIte, zn1, zn3, zn4] <;> rfl) (by simp (disch := omega) only [go_sem, ↓reduceIte, zn1, if_pos, gl, gt, gl2, gt2, cl, cl2, lL, tL, cL, gcr, gcc, glr3, glc3, gor, goc, zl2, zn8] <;> rfl) rfl
theorem rct_only (x : RCt) (r : Rest) : Only (fun _ => False) (.ag (rctL x r)) := by
  refine .ag fun y hy => ?_
  simp only [rctL, List.mem_cons, List.not_mem_nil, or_false] at hy
  rcases hy with rfl | rfl | rfl | rfl | rfl | rfl | rfl | rfl | rfl | rfl
  · exact .sc _
  · exact .sc _
  · exact .im _ _
  · exact .sc _
  · exact .im _ _
  · exact .im _ _
  · exact .im _ _
  · exact .im _ _
  · exact .im _ _
  · exact .sc _
set_option maxHeartbeats 16000000 in
set_option maxRecDepth 20000 in
theorem wcerts_s {x : RCt} (hx : RCtOk x) (hl1 : x.mag.length ≤ 9223372036854775807) (hl2 : x.rows.length ≤ 9223372036854775807) (hl3 : x.cols.length ≤ 9223372036854775807) (r : Rest) {ms : List RMt} (hms : ∀ y ∈ ms, RMtOk y) (hml : ms.length ≤ 9223372036854775807) {l : List Int} (hl : ∀ y ∈ l, -128 ≤ y ∧ y ≤ 127) (hll : l.length ≤ 9223372036854775807) :
    Spec Tryz.prog 3 [.ag (rctL x r), .im (rms ms) ms.length, .im (bv8 l) l.length] (.sc (.bool true)) := by
  have c1 := mkcert_s x hx hl1 hl2 hl3 r ms hms hml l hl hll
  obtain ⟨hfit, hY, hln⟩ := mct_fit hx hms hl
  have ho := rct_only x r
  generalize x.made ms l = h at *
  have c2 : Spec Tryz.prog 6 [.im [] 0, crtC h] (.im (bw (crt_ h)) (crt_ h).length) := PutCert_s (b := []) hfit (by simp; omega)
  have c3 := same_s (crt_ h)
  have c4 := GetCert_s (crt_ h) (crt_ h).length 0 (u8_crt h) (znb _) (by omega)
  rw [gotC_full hfit hY] at c4
  have a2 := rputcert0_s hfit (by omega) 0 ⟨5, [], false⟩
  have c6 : ∀ n, n < (crt_ h).length → Spec Tryz.prog 9 [.im (bw ((crt_ h).take n)) n, .sc (.int .i64 0)] (tuC (noC, 0, 5)) := by
    intro n h2
    have h := GetCert_s ((crt_ h).take n) n 0 ((u8_crt h).take n) (by rw [List.length_take]; omega) (by omega)
    rwa [gotC_cut hfit hY h2] at h
  have gtk : ∀ n, (bw (crt_ h)).take n = bw ((crt_ h).take n) := fun n => bw_take _ _
  have gl := bw_len (crt_ h)
  have gt : (bw (crt_ h)).take (crt_ h).length = bw (crt_ h) := zla (by omega)
  have gcl := bw_clo (crt_ h)
  have hNle : (crt_ h).length ≤ 2000 := by omega
  clear hfit hY hln hx hms hl
  have c0 := sanity_s
  generalize (crt_ h).length = N at *
  generalize hE : bw (crt_ h) = E at *
  unfold tuC crtC noC at *
  have z0 : ((0 : Nat) : Int) = 0 := rfl
  have z5 : ((5 : Nat) : Int) = 5 := rfl
  simp only [z0, z5] at c4 c6
  have e0 : its [] = [] := rfl
  have e1 : mts [] = [] := rfl
  have e2 : ivs [] = [] := rfl
  have e3 : rts [] = [] := rfl
  have e4 : lv (limbsOf (0 : Int).natAbs) = [] := rfl
  have e5 : (limbsOf (0 : Int).natAbs).length = 0 := rfl
  have e6 : decide ((0 : Int) < 0) = false := rfl
  simp only [e0, e1, e2, e3, e4, e5, e6, List.length_nil] at c6
  unfold rctL at ho c1 ⊢
  refine Spec.run Tryz.func3 rfl Tryz.ntmps3 (by simp) (by simp only [go_sem, zn4]; rfl) fun B hB => ?_
  refine SC.weak (by simp) (nilSl (tO := 5) (sl' := [(0, .ag [.sc (.int .i64 x.kind), .sc (.bool x.neg), .im (lv x.mag) x.mag.length, .sc (.int .u64 x.p), .im (its x.rows) x.rows.length, .im (its x.cols) x.cols.length, .im r.a1 r.n1, .im r.a2 r.n2, .im r.a3 r.n3, .sc (.bool x.found)]), (1, .im (rms ms) ms.length), (2, .im (bv8 l) l.length)]) (hp' := []) 0 hB (by omega) ?_ ?_) ?_
  · refine mapSl_cons (by simp only [go_sem, ↓reduceIte] <;> rfl) ho.same ?_
    (repeat' (first | exact trivial | refine mapSl_cons (by simp only [go_sem, ↓reduceIte, zn1, reduceCtorEq] <;> rfl) ?_ ?_ | exact VMap.clo rfl))
  · exact mapHp_nil
  (repeat (first | (with_reducible refine oz (by constructor <;> decide) ?_) | ((apply SO.call); (iterate 3 (simp (disch := omega) only [go_sem, ↓reduceIte, zn1] <;> rfl)); (apply SCall.ofX); (assumption); (simp (disch := omega) only [go_sem] <;> rfl)) | ((with_reducible first | apply SC.region | apply SO.run); (simp (disch := omega) only [go_sem, ↓reduceIte, zn1, zn3, zn4, reduceCtorEq] <;> rfl); (fail_if_success with_reducible refine pickA ?_)) | (with_reducible apply SC.ops)))
  (refine SO.callA Tab.go8 (by simp (disch := omega) only [go_sem, ↓reduceIte] <;> rfl) (by simp (disch := omega) only [go_sem] <;> rfl) (SApp.of (a2) (by simp (disch := omega) only [go_sem, ↓reduceIte, reduceCtorEq] <;> rfl) rfl (by simp (disch := omega) only [go_sem, ↓reduceIte, zn4, reduceCtorEq] <;> rfl) ?_))
  (repeat (first | (with_reducible refine oz (by constructor <;> decide) ?_) | ((apply SO.call); (iterate 3 (simp (disch := omega) only [go_sem, ↓reduceIte, zn1, if_pos, gl, gt, gcl, zl2, zn8] <;> rfl)); (apply SCall.ofX); (assumption); (simp (disch := omega) only [go_sem] <;> rfl)) | ((with_reducible first | apply SC.condB | apply SC.region | apply SO.run); (simp (disch := omega) only [go_sem, ↓reduceIte, zn1, zn3, zn4, zl2, bne_self_eq_false] <;> rfl); (first | refine pickF ?_ | fail_if_success with_reducible refine pickA ?_)) | (with_reducible apply SC.ops)))
  refine SC.loop (fun i : Nat => ⟨[(7, .sc (.bool true)), (9, .im E N), (13, .sc (.int .i64 i))], [], 5, 67⟩) (fun i => i ≤ N) (fun i => N - i) 0 ?_ (znc _) ?_
  · (refine Le.of [] hB (by exact ⟨znc _, fun _ _ => znc _⟩) ?_ ?_ <;> (repeat' (first | exact leSl_nil | exact leHp_nil | refine leSl_cons (by simp only [go_sem, ↓reduceIte, zn1]; rfl) ?_ ?_ | exact VLe.refl rfl)))
  · intro i hi2 K hK
    by_cases hlt : i < N
    · have q2 : decide ((i : Int) < (N : Int)) = true := by rw [decide_eq_true_iff]; omega
      have c7 := c6 i hlt
      have g1 := gtk i
      have x0 : ((i : Int)).toNat = i := rfl
      clear c6 gtk c4
      (repeat (first | (with_reducible refine oz (by constructor <;> decide) ?_) | ((apply SO.call); (iterate 3 (simp (disch := omega) only [go_sem, ↓reduceIte] <;> rfl)); (apply SCall.ofX); (assumption); (simp (disch := omega) only [go_sem] <;> rfl)) | ((with_reducible first | apply SC.condB | apply SC.region | apply SO.run); (simp (disch := omega) only [go_sem, ↓reduceIte, zn1, zn3, zn4, if_pos, q2, x0, g1, zl2, zn8, Nat.sub_zero, bne_self_eq_false] <;> rfl); (first | refine pT ?_ | refine pF ?_ | fail_if_success with_reducible refine pA ?_)) | (with_reducible apply SC.ops)))
      refine hK _ (i + 1) ?_ (by omega) (by omega)
      (refine Le.of [] hB (by exact ⟨znc _, fun _ _ => znc _⟩) ?_ ?_ <;> (repeat' (first | exact leSl_nil | exact leHp_nil | refine leSl_cons (by simp only [go_sem, ↓reduceIte, zn1]; rfl) ?_ ?_ | exact VLe.refl rfl)))
    · have q2 : decide ((i : Int) < (N : Int)) = false := by rw [decide_eq_false_iff_not]; omega
      (repeat (first | (with_reducible refine oz (by constructor <;> decide) ?_) | ((with_reducible first | apply SC.condB | apply SC.region); (simp only [go_sem, ↓reduceIte, zn1, zn2, q2] <;> rfl); (first | refine pickF ?_ | fail_if_success with_reducible refine pickA ?_))))
      exact retQ_ret Tryz.results3 rfl rfl rfl
end Go.Proofs.YtphilljhfdlfdaaGreat
