/- 'ModmatReduces' returns true for every input, and each argument reads afterwards as it read before. No conditions. -/
import Derived.Test.YtpbomhmflllemaaRows
import Derived.Test.YtpbomhmflllemaaZh
import Derived.Test.YtpbomhmflllemaaZj
set_option linter.all false

namespace Go.Proofs.Ytpbomhmflllemaa
open Go.ChangeShapes Go.WideShapes Go.ChangeAt Go.RowKit

theorem i8_wf (n : Int) (h : (Lit.int .i8 n).wf = true) : -128 ≤ n ∧ n ≤ 127 := by
  have h : (IntKind.i8.min ≤ n ∧ n ≤ IntKind.i8.max) := by simpa [Lit.wf] using h
  have h1 : IntKind.i8.min = -128 := by decide
  have h2 : IntKind.i8.max = 127 := by decide
  omega
theorem i8_rows : ∀ {yss : List (List V)}, (∀ z ∈ yss, (Shp.slc (.int .i8)).Rep z) → ∃ L : List (List Int), yss.flatten = bR L ∧ L.length = yss.length ∧ ∀ l ∈ L, (∀ x ∈ l, -128 ≤ x ∧ x ≤ 127) ∧ l.length ≤ maxLen
  | [], _ => ⟨[], rfl, rfl, fun l h => by simp at h⟩
  | y :: r, h => by
    obtain ⟨zss, h1, rfl, h2⟩ := h y (by simp)
    obtain ⟨l, h3, h4, h5⟩ := reps_ints h2
    obtain ⟨L, h6, h7, h8⟩ := i8_rows (yss := r) fun z hz => h z (by simp [hz])
    refine ⟨l :: L, ?_, by simp [h7], fun l' hl => ?_⟩
    · rw [List.flatten_cons, h6, h3, ← h4]; rfl
    · rcases List.mem_cons.1 hl with rfl | hl
      · exact ⟨fun x hx => i8_wf x (h5 x hx), by omega⟩
      · exact h8 l' hl
theorem i8_val {x : V} (h : (Shp.slc (.slc (.int .i8))).Val x) : ∃ L : List (List Int), x = .im (bR L) L.length ∧ (∀ l ∈ L, ∀ y ∈ l, -128 ≤ y ∧ y ≤ 127) ∧ L.length ≤ 9223372036854775807 ∧ ∀ l ∈ L, l.length ≤ 9223372036854775807 := by
  obtain ⟨yss, h1, rfl, h2⟩ := h
  obtain ⟨L, h3, h4, h5⟩ := i8_rows h2
  unfold maxLen at *
  exact ⟨L, by rw [h3, h4], fun l hl => (h5 l hl).1, by omega, fun l hl => by have := (h5 l hl).2; omega⟩

/-- an integer modulo p -/
def md1 (p : Nat) (x : Int) : Nat := (x % (p : Int)).toNat
theorem md1_cast {p : Nat} (hp : 0 < p) (x : Int) : ((md1 p x : Nat) : Int) = x % (p : Int) := Int.toNat_of_nonneg (Int.emod_nonneg x (by omega))
theorem md1_lt {p : Nat} (hp : 0 < p) (x : Int) : md1 p x < p := by
  have := md1_cast hp x
  have := Int.emod_lt_of_pos x (b := (p : Int)) (by omega)
  omega
theorem md1_mul {p : Nat} (hp : 0 < p) (x y : Int) : md1 p x * md1 p y % p = md1 p (x * y) := by
  have h1 := md1_cast hp x
  have h2 := md1_cast hp y
  have h3 := md1_cast hp (x * y)
  apply Int.ofNat.inj
  show ((md1 p x * md1 p y % p : Nat) : Int) = (md1 p (x * y) : Int)
  rw [h3, Int.natCast_emod, Int.natCast_mul, h1, h2, ← Int.mul_emod]
theorem md1_add {p : Nat} (hp : 0 < p) (x y : Int) : (md1 p x + md1 p y) % p = md1 p (x + y) := by
  have h1 := md1_cast hp x
  have h2 := md1_cast hp y
  have h3 := md1_cast hp (x + y)
  apply Int.ofNat.inj
  show (((md1 p x + md1 p y) % p : Nat) : Int) = (md1 p (x + y) : Int)
  rw [h3, Int.natCast_emod, Int.natCast_add, h1, h2, ← Int.add_emod]
theorem md1_neg {p : Nat} (hp : 0 < p) (x : Int) : (0 + p - md1 p x) % p = md1 p (-x) := by
  have h1 := md1_cast hp x
  have h3 := md1_cast hp (-x)
  have hl := md1_lt hp x
  apply Int.ofNat.inj
  show (((0 + p - md1 p x) % p : Nat) : Int) = (md1 p (-x) : Int)
  rw [h3, Int.natCast_emod, Int.ofNat_sub (by omega), h1]
  rw [show (((0 + p : Nat) : Int) - x % (p : Int)) = -(x % (p : Int)) + p by omega, Int.add_emod_right]
  have h4 := Int.mul_ediv_add_emod x p
  rw [show -(x % (p : Int)) = -x + (p : Int) * (x / (p : Int)) by omega, Int.add_mul_emod_self_left]
def mat2 (p : Nat) (a b c d : Int) : List (List Nat) := [[md1 p a, md1 p b], [md1 p c, md1 p d]]
theorem mat2_mv {p : Nat} (hp : 0 < p) (a b c d : Int) : MV p 2 2 (mat2 p a b c d) := by
  refine ⟨rfl, fun r hr => ?_⟩
  unfold mat2 at hr
  rcases List.mem_cons.1 hr with rfl | hr
  · exact ⟨rfl, fun x hx => by rcases List.mem_cons.1 hx with rfl | hx; exact md1_lt hp _; rw [List.mem_singleton.1 hx]; exact md1_lt hp _⟩
  · rw [List.mem_singleton.1 hr]
    exact ⟨rfl, fun x hx => by rcases List.mem_cons.1 hx with rfl | hx; exact md1_lt hp _; rw [List.mem_singleton.1 hx]; exact md1_lt hp _⟩
theorem mat2_mul {p : Nat} (hp : 0 < p) (a b c d e f g h : Int) : mulL p 2 (mat2 p a b c d) (mat2 p e f g h) = mat2 p (a * e + b * g) (a * f + b * h) (c * e + d * g) (c * f + d * h) := by
  have row : ∀ x y : Int, actL p 2 [md1 p x, md1 p y] (mat2 p e f g h) = [md1 p (x * e + y * g), md1 p (x * f + y * h)] := by
    intro x y
    simp only [actL, actGo, mat2, addRw, List.replicate, List.zipWith_cons_cons, List.zipWith_nil_right, Nat.zero_add, md1_mul hp]
    rw [Nat.mod_eq_of_lt (md1_lt hp (x * e)), Nat.mod_eq_of_lt (md1_lt hp (x * f)), md1_add hp, md1_add hp]
  unfold mulL
  rw [show mat2 p a b c d = [[md1 p a, md1 p b], [md1 p c, md1 p d]] from rfl, List.map_cons, List.map_cons, List.map_nil, row, row]
  rfl
theorem mat2_det {p : Nat} [NeZero p] (hp : Pr p) (a b c d : Int) : detL p (mat2 p a b c d) = md1 p (a * d - b * c) := by
  have hp1 := hp.1
  have h0 : 0 < p := by omega
  rw [det_lap hp (by omega) (mat2_mv h0 a b c d)]
  have e1 : minorL (mat2 p a b c d) 0 = [[md1 p d]] := rfl
  have e2 : minorL (mat2 p a b c d) 1 = [[md1 p c]] := rfl
  have one : ∀ x : Int, lapL p 1 [[md1 p x]] = md1 p x := fun x => by
    show (0 + lapT p (fun k => lapL p 0 (minorL [[md1 p x]] k)) [[md1 p x]] 0) % p = md1 p x
    unfold lapT
    rw [if_neg (by omega)]
    show (0 + 1 * md1 p x % p) % p = md1 p x
    rw [Nat.one_mul, Nat.zero_add, Nat.mod_mod, Nat.mod_eq_of_lt (md1_lt h0 x)]
  show ((0 + lapT p (fun k => lapL p 1 (minorL (mat2 p a b c d) k)) (mat2 p a b c d) 0) % p + lapT p (fun k => lapL p 1 (minorL (mat2 p a b c d) k)) (mat2 p a b c d) 1) % p = _
  unfold lapT
  rw [if_neg (by omega), if_pos rfl]
  simp only [e1, e2, one]
  show ((0 + md1 p d * md1 p a % p) % p + (0 + p - md1 p c * md1 p b % p) % p) % p = _
  rw [md1_mul h0, md1_mul h0, md1_neg h0, Nat.zero_add, Nat.mod_eq_of_lt (md1_lt h0 _), md1_add h0]
  congr 1
  rw [Int.mul_comm d a, Int.mul_comm c b]; omega

def iM (a b c d : Int) : V := m22 (decide (a < 0)) (decide (b < 0)) (decide (c < 0)) (decide (d < 0)) (lv (limbsOf a.natAbs)) (lv (limbsOf b.natAbs)) (lv (limbsOf c.natAbs)) (lv (limbsOf d.natAbs)) (limbsOf a.natAbs).length (limbsOf b.natAbs).length (limbsOf c.natAbs).length (limbsOf d.natAbs).length
theorem int2_s {L : List (List Int)} (hb : ∀ l ∈ L, ∀ x ∈ l, -128 ≤ x ∧ x ≤ 127) (hL : L.length ≤ 9223372036854775807) (hr : ∀ l ∈ L, l.length ≤ 9223372036854775807) :
    Spec Try.prog 38 [.im (bR L) L.length, .sc (.int .i64 2)] (iM (digI L 0 0) (digI L 0 1) (digI L 1 0) (digI L 1 1)) := integers_s (n := 2) hb (by omega) hL hr
theorem red_s {p : Nat} (hp : 0 < p) (hp2 : p ≤ 2147483648) {x : Int} (h : x.natAbs < 4294967296) : Spec Try.prog 74 [.sc (.int .u64 p), iv x] (.sc (.int .u64 (md1 p x : Nat))) := by
  rw [md1_cast hp]; exact mReduce_s p x 1 (fits_one h) (by omega) hp hp2
theorem rred_s {p : Nat} (hp : 0 < p) (hp2 : p ≤ 2147483648) {x : Int} (h : x.natAbs < 4294967296) : Spec Try.prog 44 [.sc (.int .u64 p), iv x] (.sc (.int .u64 (md1 p x : Nat))) := by
  rw [md1_cast hp]; exact rReduce_s p x 1 (fits_one h) (by omega) (by omega) hp hp2
theorem dig_mul {x y : Int} (h1 : -9 ≤ x ∧ x ≤ 9) (h2 : -9 ≤ y ∧ y ≤ 9) : -81 ≤ x * y ∧ x * y ≤ 81 := by
  have : (x * y).natAbs ≤ 9 * 9 := by rw [Int.natAbs_mul]; exact Nat.mul_le_mul (by omega) (by omega)
  omega

set_option maxRecDepth 20000 in
set_option maxHeartbeats 8000000 in
theorem lreduces_s {p kp : Nat} {a b c d e f g h : Int} {X Y : V} (hp : Pr p) (hle : p ≤ 2147483647) (hpr : Spec Try.prog 73 [.sc (.int .u64 p)] (.sc (.bool true))) (m1 : Spec Try.prog 39 [.sc (.int .u8 kp)] (.sc (.int .u64 p)))
    (x1 : Spec Try.prog 38 [X, .sc (.int .i64 2)] (iM a b c d)) (x2 : Spec Try.prog 38 [Y, .sc (.int .i64 2)] (iM e f g h)) (hX : ∃ cs n, X = .im cs n) (hY : ∃ cs n, Y = .im cs n)
    (ba : -9 ≤ a ∧ a ≤ 9) (bb : -9 ≤ b ∧ b ≤ 9) (bc : -9 ≤ c ∧ c ≤ 9) (bd : -9 ≤ d ∧ d ≤ 9) (be : -9 ≤ e ∧ e ≤ 9) (bf : -9 ≤ f ∧ f ≤ 9) (bg : -9 ≤ g ∧ g ≤ 9) (bh : -9 ≤ h ∧ h ≤ 9) :
    Spec Try.prog 10 [X, Y, .sc (.int .u8 kp)] (.sc (.bool true)) := by
  have hp1 := hp.1
  have h0 : 0 < p := by omega
  have hp2 : p ≤ 2147483648 := by omega
  have hne : NeZero p := ⟨by omega⟩
  have cs := sanity_s pr5
  have f1 : ∀ {x : Int}, -9 ≤ x ∧ x ≤ 9 → Fits 1 x := fun h => fits_one (by omega)
  have c1 := mul_i a e 1 (f1 ba) (f1 be) (by omega)
  have c2 := mul_i b g 1 (f1 bb) (f1 bg) (by omega)
  have c3 := mul_i a f 1 (f1 ba) (f1 bf) (by omega)
  have c4 := mul_i b h 1 (f1 bb) (f1 bh) (by omega)
  have c5 := mul_i c e 1 (f1 bc) (f1 be) (by omega)
  have c6 := mul_i d g 1 (f1 bd) (f1 bg) (by omega)
  have c7 := mul_i c f 1 (f1 bc) (f1 bf) (by omega)
  have c8 := mul_i d h 1 (f1 bd) (f1 bh) (by omega)
  have c9 := mul_i a d 1 (f1 ba) (f1 bd) (by omega)
  have c10 := mul_i b c 1 (f1 bb) (f1 bc) (by omega)
  have p1 := dig_mul ba be
  have p2 := dig_mul bb bg
  have p3 := dig_mul ba bf
  have p4 := dig_mul bb bh
  have p5 := dig_mul bc be
  have p6 := dig_mul bd bg
  have p7 := dig_mul bc bf
  have p8 := dig_mul bd bh
  have p9 := dig_mul ba bd
  have p10 := dig_mul bb bc
  have f2 : ∀ {x : Int}, -81 ≤ x ∧ x ≤ 81 → Fits 1 x := fun h => fits_one (by omega)
  have d1 := add_i (a * e) (b * g) 1 (f2 p1) (f2 p2) (by omega)
  have d2 := add_i (a * f) (b * h) 1 (f2 p3) (f2 p4) (by omega)
  have d3 := add_i (c * e) (d * g) 1 (f2 p5) (f2 p6) (by omega)
  have d4 := add_i (c * f) (d * h) 1 (f2 p7) (f2 p8) (by omega)
  have d5 := sub_i (a * d) (b * c) 1 (f2 p9) (f2 p10) (by omega)
  have e1 := mreduceM_s hpr (red_s h0 hp2 (x := a) (by omega)) (red_s h0 hp2 (x := b) (by omega)) (red_s h0 hp2 (x := c) (by omega)) (red_s h0 hp2 (x := d) (by omega))
  have e2 := mreduceM_s hpr (red_s h0 hp2 (x := e) (by omega)) (red_s h0 hp2 (x := f) (by omega)) (red_s h0 hp2 (x := g) (by omega)) (red_s h0 hp2 (x := h) (by omega))
  have e3 := mreduceM_s hpr (red_s h0 hp2 (x := a * e + b * g) (by omega)) (red_s h0 hp2 (x := a * f + b * h) (by omega)) (red_s h0 hp2 (x := c * e + d * g) (by omega)) (red_s h0 hp2 (x := c * f + d * h) (by omega))
  have e4 := rreduceM_s (rred_s h0 hp2 (x := a) (by omega)) (rred_s h0 hp2 (x := b) (by omega)) (rred_s h0 hp2 (x := c) (by omega)) (rred_s h0 hp2 (x := d) (by omega))
  have e5 := rred_s h0 hp2 (x := a * d - b * c) (by omega)
  have v1 := mat2_mv h0 a b c d
  have v2 := mat2_mv h0 e f g h
  have v3 := mat2_mv h0 (a * e + b * g) (a * f + b * h) (c * e + d * g) (c * f + d * h)
  have w1 := rvalid_t hp (by omega) v1 (by omega) (by omega)
  have w2 := rvalid_t hp (by omega) v2 (by omega) (by omega)
  have w3 := det_s hpr hp hle v1 (by omega)
  rw [mat2_det hp] at w3
  have w4 := rmul_s h0 hp2 v1 v2 (by omega) (by omega) (by omega)
  rw [mat2_mul h0] at w4
  have w5 := rsame_t v3 (by omega) (by omega)
  have w6 := rsame_t v1 (by omega) (by omega)
  obtain ⟨xs, xn, rfl⟩ := hX
  obtain ⟨ys, yn, rfl⟩ := hY
  clear p1 p2 p3 p4 p5 p6 p7 p8 p9 p10 ba bb bc bd be bf bg bh f1 f2 v1 v2 v3
  unfold iM at *
  unfold mat2 at *
  generalize md1 p (a * d - b * c) = n0 at *
  generalize md1 p (a * e + b * g) = n1 at *
  generalize md1 p (a * f + b * h) = n2 at *
  generalize md1 p (c * e + d * g) = n3 at *
  generalize md1 p (c * f + d * h) = n4 at *
  generalize md1 p a = n5 at *
  generalize md1 p b = n6 at *
  generalize md1 p c = n7 at *
  generalize md1 p d = n8 at *
  generalize md1 p e = n9 at *
  generalize md1 p f = n10 at *
  generalize md1 p g = n11 at *
  generalize md1 p h = n12 at *
  unfold m22 at *
  unfold iv sv at *
  unfold md mv imR nR nv at *
  simp only [List.map_cons, List.map_nil, List.length_cons, List.length_nil, Nat.reduceAdd] at *
  refine Spec.run Try.func10 rfl Try.ntmps10 (by simp) (by simp (disch := omega) only [go_sem, Nat.reduceAdd]; rfl) fun B hB => ?_
  (repeat (first | refine DO.nil (by kernel_rfl) ?_ | (with_reducible first | apply oz1 | apply oz2 | apply oz3 | apply oz4 | apply oz5 | apply oz6 | apply oz7 | apply oz8 | apply oz9 | apply ozb | apply ozc | apply oze | apply ozf | apply ozg | apply ozh | apply ozi | apply ozj | apply ozk | refine ozd (by decide) ?_) | ((first | apply SO.call | apply DO.call); (iterate 3 (focus (simp (disch := omega) only [go_sem, ↓reduceIte, Nat.reduceEqDiff, Nat.reduceLeDiff, Nat.reduceAdd, Nat.reduceMul, beq_self_eq_true, decide_true, List.append_nil] <;> rfl))); (first | apply SCall.ofX | apply DCall.ofX); (focus (first | assumption)); (focus (simp (disch := omega) only [go_sem, ↓reduceIte, Nat.reduceBEq, beq_self_eq_true] <;> rfl))) | ((with_reducible first | apply SC.condB | apply SC.region | apply SO.run | apply DO.run); (focus (simp (disch := omega) only [go_sem, ↓reduceIte, Nat.reduceEqDiff, Nat.reduceLT, Nat.reduceLeDiff, Nat.reduceAdd, Nat.reduceMul, reduceCtorEq, Int.reduceToNat, if_pos, bne_self_eq_false, beq_self_eq_true, Int.reduceLT, Int.reduceAdd, decide_true, decide_false, List.flatten_cons, List.flatten_nil, List.append_nil] <;> rfl)); (first | refine pickT ?_ | refine pickF ?_ | fail_if_success with_reducible refine pickA ?_)) | ((with_reducible refine SC.draw Tab.mixed ?_ ?_); (focus (first | rfl | simp (disch := omega) only [go_sem, ↓reduceIte, Nat.reduceEqDiff, Nat.reduceLT, Nat.reduceLeDiff, Nat.reduceAdd, Nat.reduceMul, Nat.reduceSub, reduceCtorEq, Nat.reduceBEq, Int.reduceToNat, Int.reducePow, if_pos, if_neg, bne_self_eq_false, beq_self_eq_true, Int.reduceLT, Int.reduceNegSucc, Int.reduceAdd, decide_true, decide_false, Int.reduceBNe, List.flatten_cons, List.flatten_nil, List.append_nil]))) | (with_reducible apply SC.ops) | (with_reducible apply SR.next) | refine SC.loopN 3 ?_))
  exact retQ_ret Try.results10 (by simp (disch := omega) only [go_sem, ↓reduceIte]; rfl) (by simp (disch := omega) only [go_sem]; rfl) rfl

theorem spec_all (xs : List V) (h : Shp.Vals [.slc (.slc (.int .i8)), .slc (.slc (.int .i8)), .int .u8] xs) : Spec Try.prog 10 xs (.sc (.bool true)) := by
  obtain ⟨x0, ys0, rfl, h0, x1, ys1, rfl, h1, x2, ys2, rfl, ⟨n, rfl, hn⟩, rfl⟩ := h
  obtain ⟨L1, rfl, a1, a2, a3⟩ := i8_val h0
  obtain ⟨L2, rfl, b1, b2, b3⟩ := i8_val h1
  obtain ⟨k, rfl, hk⟩ := wf_nat u8_wf hn
  exact lreduces_s (pOf_pr k) (pOf_le k) (prim_s k) (made_s k hk) (int2_s a1 a2 a3) (int2_s b1 b2 b3) ⟨_, _, rfl⟩ ⟨_, _, rfl⟩ (digI_small a1) (digI_small a1) (digI_small a1) (digI_small a1) (digI_small b1) (digI_small b1) (digI_small b1) (digI_small b1)

theorem own : ownKnob Try.prog.godebug = none := by kernel_rfl
theorem laidOut : laidOutB Try.prog = true := by kernel_rfl

set_option maxRecDepth 100000 in
theorem law_lifted (os : Os) (started : os.Started) (H : Type) (enc : TypeId × Value → H) :
    ReturnsInHanded {} Try.checked os 10 .any (Rows.modmatReducesSpec.pre6 enc Try.prog Try.f10 Rows.modmatReducesRow.domain false) (Rows.modmatReducesSpec.post enc Try.prog Try.f10 false true false false) := by
  refine returnsInHanded_of_change (C := Try.checked) own started (by kernel_rfl) Try.func10
    (ChangeSpec.witness6 (enc := enc) (C := Try.checked) false ⟨#[], #[.slice none 0 0, .slice none 0 0, .int .u8 0], []⟩ 8 (by kernel_rfl) (by kernel_rfl) (by kernel_rfl) (by kernel_rfl)) ?_
  intro W base args ds gs before hval0 hW hcnd _
  have hW' := hW
  obtain ⟨p, q, hA0, hV, rfl, hfz, hnd⟩ := hW
  obtain ⟨hl, hc⟩ := law_calls (enc := enc) [.slc (.slc (.int .i8)), .slc (.slc (.int .i8)), .int .u8] (by kernel_rfl) hval0 hA0 (fun g cs h => by cases h) spec_all
  refine hc.mono fun e W' ⟨he, hb⟩ => ?_
  subst he
  rw [show Try.f10.params.size = 3 by kernel_rfl] at hl
  obtain ⟨d0, d1, d2, rfl⟩ : ∃ d0 d1 d2, ds = [d0, d1, d2] := by
    match ds, hl with
    | [a0, a1, a2], _ => exact ⟨a0, a1, a2, rfl⟩
  exact ⟨_, rfl, law_post laidOut (by kernel_rfl) (by kernel_rfl) Try.underlying4 rfl rfl hW' hb⟩

theorem law_holds : Rows.ModmatReducesSaid :=
  OpenClaim.holds_of_wide 10 Try.f10 rfl rfl rfl rfl rfl rfl rfl ⟨rfl, rfl, rfl, rfl, rfl⟩ rfl rfl rfl rfl rfl (by kernel_rfl) Try.func10 (by kernel_rfl)
    (of_decide_eq_true (by kernel_rfl)) (by unfold Func.isWrapper; first | (rw [if_pos (by decide +kernel)]; kernel_rfl) | (rw [if_neg (by decide +kernel)]; exact ⟨rfl, rfl⟩))
    (fun os started H enc _ => law_lifted os started H enc)
#print axioms law_holds
end Go.Proofs.Ytpbomhmflllemaa
