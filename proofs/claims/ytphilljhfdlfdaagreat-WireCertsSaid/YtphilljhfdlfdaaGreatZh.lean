/- Texts joined: Do Dp Dq Dy Dr Ds Eh Dz Ea Eb Ec Dj Dk Dt. -/
import Derived.Test.YtphilljhfdlfdaaGreatZc
import Derived.Test.YtphilljhfdlfdaaGreatZe
import Derived.Test.YtphilljhfdlfdaaGreatZg
set_option linter.all false
open Nat renaming reduceEqDiff → zn1, reduceLT → zn2, reduceLeDiff → zn3, reduceAdd → zn4, reduceMul → zn5, reduceSub → zn6, reduceBEq → zn7, mul_one → zn8, zero_add → zn9, one_mul → zna, le_refl → znb, zero_le → znc, add_sub_cancel_left → znd, sub_eq_zero_of_le → zne, add_assoc → znf
open Int renaming reduceToNat → zi1, reducePow → zi2
open List renaming length_append → zl1, drop_zero → zl2, take_succ_cons → zl3, take_zero → zl4, getElem?_drop → zl5, append_assoc → zl6, nil_append → zl7, cons_append → zl8, drop_succ_cons → zl9, take_of_length_le → zla, getElem?_eq_getElem → zlb, getElem?_eq_some_iff → zlc, map_cons → zld, map_nil → zle, all_eq_true → zlf
namespace Go.Proofs.YtphilljhfdlfdaaGreat
open Go.RowKit
def fcv (x : Int × Int) : V := .ag [.sc (.int .i64 x.1), .sc (.bool (decide (x.2 < 0))), .im (lv (limbsOf x.2.natAbs)) (limbsOf x.2.natAbs).length]
def fcs (l : List (Int × Int)) : List V := l.flatMap fun x => [.sc (.int .i64 x.1), .sc (.bool (decide (x.2 < 0))), .im (lv (limbsOf x.2.natAbs)) (limbsOf x.2.natAbs).length]
def lst {α : Type} (f : α → List Int) (l : List α) : List Int := num l.length ++ l.flatMap f
theorem fcs_len (l : List (Int × Int)) : (fcs l).length = l.length * 3 := by
  induction l with
  | nil => rfl
  | cons x r ih =>
    show ([_, _, _] ++ fcs r).length = _
    rw [zl1, ih]
    show 3 + r.length * 3 = (r.length + 1) * 3
    omega
theorem flat_snoc {α : Type} (f : α → List Int) (l : List α) {i : Nat} (h : i < l.length) : (l.take (i + 1)).flatMap f = (l.take i).flatMap f ++ f l[i] := by
  rw [List.take_succ_eq_append_getElem h, List.flatMap_append]; simp
theorem flat_le {α : Type} (f : α → List Int) : ∀ (l : List α) (i : Nat), ((l.take i).flatMap f).length ≤ (l.flatMap f).length
  | [], i => by simp
  | x :: r, 0 => by simp
  | x :: r, i + 1 => by
    have := flat_le f r i
    simp only [zl3, List.flatMap_cons, zl1]; omega
structure Cel where
  id : Int
  dim : Int
  B : List (Int × Int)
def celC (x : Cel) : List V := [.sc (.int .i64 x.id), .sc (.int .i64 x.dim), .im (fcs x.B) x.B.length]
section
variable {P : Program}
def RdK (P : Program) (f : Nat) (xs : Nat → List V) (kd kd' : Blk) (y : V) : Prop :=
  Only (fun _ => False) y ∧ kd'.cs.all clo = true ∧ ∀ k nx, k < nx → InlQ P f (xs k) [(k, kd)] nx (fun y' hp' nx' => y' = y ∧ hp' = [(k, kd')] ∧ nx' = nx)
theorem SInlQ.rdk {B : Base} {s s' : SS} {ops : Array Oper} {l : List Oper} {cs : List Code} {Q : Exit → SS → Prop} {f n : Nat} {xs : Nat → List V} {d : Option Nat} {kd kd' : Blk} {y : V} (h : RdK P f xs kd kd' y) (k : Nat) (hk : hget s.hp k = some kd) (hn : s.nx = n) (hlt : k < n) (hp : s.put d y (.set k kd') = s')
    (ho : SO P B ops l cs Q s') : SInlQ P B f (xs k) d ops l cs Q s := by
  subst hn; subst hp
  obtain ⟨h1, h2, h3⟩ := h
  refine ⟨[(k, kd)], _, fun id b hb => ?_, h3 k s.nx hlt, ?_⟩
  · simp only [hget] at hb
    split at hb
    · rename_i e; subst e; cases hb; exact hk
    · cases hb
  · rintro x hp' nx' ⟨rfl, rfl, rfl⟩
    refine ⟨h1.mono fun _ h => h.elim, ⟨fun z hz => Only.clo (List.all_eq_true.1 h2 z hz), trivial⟩, SO.weak (Le.less (fun id b hb => ?_) (znb _)) ho⟩
    rw [hget_app]
    simp only [Eff.heap, hget_hset] at hb
    by_cases e : id = k
    · subst e; rw [if_pos rfl, hk] at hb; cases hb; simp [hget]
    · rw [if_neg e] at hb
      have : hget [(k, kd')] id = none := by simp [hget, e]
      rw [this, hget_rest]
      have h0 : hasId [(k, kd)] id = false := by simp [hasId, e]
      rw [h0]; simpa using hb
theorem nilSl {B : Base} {sl sl' : List (Nat × V)} {hp hp' : List (Nat × Blk)} {nx nt m : Nat} {tO : TypeId} (q0 : Nat) (hB : B.Old m) (hm : m ≤ q0) (hs : mapSl (fun i => i) (fun i => i < q0) sl sl') (hh : mapHp (fun i => i) (fun i => i < q0) hp hp') :
    Le B ⟨sl, hp, nx, nt⟩ ⟨sl', (q0, ⟨tO, [], false⟩) :: hp', q0 + 1, nt⟩ := by
  refine Le.map (fun i => i) (fun i => i < q0) hB (fun i hi => ⟨by omega, rfl⟩) (fun i hi => by omega) (fun i j _ _ e => e) hs fun i b hb hlt => ?_
  simp only [hget] at hb
  split at hb
  · omega
  · exact mapHp_get hh i b hb
end
def listR {α : Type} (one : Rd → α × Rd) : Nat → Rd → List α → List α × Rd
  | 0, s, acc => (acc, s)
  | f + 1, s, acc => if s.e = 0 then listR one f (one s).2 (acc ++ [(one s).1]) else (acc, s)
def Rd.list {α : Type} (b : List Int) (n : Nat) (one : Rd → α × Rd) (s : Rd) : List α × Rd := listR one (s.size b n 4000).1 (s.size b n 4000).2 []
theorem whole_at {b : List Int} {n : Nat} {s : Rd} (h : s.at_ ≤ n) : (s.whole b n).2.at_ ≤ n := number_at h
theorem size_at {b : List Int} {n lim : Nat} {s : Rd} (h : s.at_ ≤ n) : (s.size b n lim).2.at_ ≤ n := by
  unfold Rd.size
  split
  · rw [fail_at]; exact number_at h
  · exact number_at h
theorem flag_at {b : List Int} {n : Nat} {s : Rd} (h : s.at_ ≤ n) : (s.flag b n).2.at_ ≤ n := by
  unfold Rd.flag
  simp only
  split
  · rw [fail_at]; exact next_at h
  · exact next_at h
theorem int_at {b : List Int} {n : Nat} {s : Rd} (h : s.at_ ≤ n) : (s.int b n).2.at_ ≤ n := by
  unfold Rd.int
  have h1 := number_at (b := b) h
  generalize (s.number b n) = r at *
  obtain ⟨u, s1⟩ := r
  simp only at h1 ⊢
  have h2 : (if u / 2 > 4000 then s1.fail 2 else s1).at_ ≤ n := by split <;> (try rw [fail_at]) <;> exact h1
  generalize (if u / 2 > 4000 then s1.fail 2 else s1) = s2 at *
  by_cases hc : s2.e = 0 ∧ (n - s2.at_) / 4 < u / 2
  · simp only [if_pos hc]
    rw [if_neg (fail_ne2 _ (by omega))]
    show (s2.fail 5).at_ ≤ n
    rw [fail_at]; exact h2
  · simp only [if_neg hc]
    split
    · rename_i h0
      have h4 : 4 * (u / 2) ≤ n - s2.at_ := by omega
      split <;> (simp only; omega)
    · exact h2
theorem listR_at {α : Type} {one : Rd → α × Rd} {n : Nat} (h1 : ∀ s : Rd, s.at_ ≤ n → (one s).2.at_ ≤ n) : ∀ (f : Nat) (s : Rd) (acc : List α), s.at_ ≤ n → (listR one f s acc).2.at_ ≤ n
  | 0, _, _, h => h
  | f + 1, s, acc, h => by
    unfold listR
    split
    · exact listR_at h1 f _ _ (h1 s h)
    · exact h
theorem list_at {α : Type} {one : Rd → α × Rd} {b : List Int} {n : Nat} (h1 : ∀ s : Rd, s.at_ ≤ n → (one s).2.at_ ≤ n) {s : Rd} (h : s.at_ ≤ n) : (s.list b n one).2.at_ ≤ n := listR_at h1 _ _ _ (size_at h)
theorem size_le (b : List Int) (n lim : Nat) (s : Rd) : (s.size b n lim).1 ≤ lim := by
  unfold Rd.size
  split
  · exact znc _
  · omega
theorem VMap.fn1 {f : Nat → Nat} {D : Nat → Prop} {g : Fn} {id id' off : Nat} (h : f id' = id) (hD : D id') : VMap f D (.fn g [.pt id off] []) (.fn g [.pt id' off] []) := by
  refine VMap.fn rfl rfl (fun i x y hx hy => ?_) (fun i x y hx _ => by cases hx)
  match i, hx, hy with
  | 0, hx, hy => cases hx; cases hy; exact VMap.pt h hD
  | i + 1, hx, _ => cases hx
def Rd.face (b : List Int) (n : Nat) (s : Rd) : (Int × Int) × Rd := (((s.whole b n).1, ((s.whole b n).2.int b n).1), ((s.whole b n).2.int b n).2)
theorem face_at {b : List Int} {n : Nat} {s : Rd} (h : s.at_ ≤ n) : (s.face b n).2.at_ ≤ n := int_at (whole_at h)
theorem fcv_only (x : Int × Int) : Only (fun _ => False) (fcv x) := by
  refine .ag fun y hy => ?_
  simp only [List.mem_cons, List.not_mem_nil, or_false] at hy
  rcases hy with rfl | rfl | rfl
  · exact .sc _
  · exact .sc _
  · exact .im _ _
theorem rface_s (b : List Int) (n : Nat) (s : Rd) (hu : U8s b) (hn : n ≤ b.length) (hb : n ≤ 1000000000) (ha : s.at_ ≤ n) : RdQ Tryz.prog 77 [] (rdB b n s) (rdB b n (s.face b n).2) (fcv (s.face b n).1) := by
  refine ⟨fcv_only _, rdB_clo _ _ _, fun k nx hk => ?_⟩
  refine InlQ.run Tryz.func77 rfl Tryz.ntmps77 (by simp) (by simp only [go_sem]; rfl) fun B hB => ?_
  have c1 := rwh_s b n s hu hn hb
  have c2 := rint_s b n (s.whole b n).2 hu hn hb (whole_at ha)
  unfold Rd.face
  generalize s.whole b n = r at *
  obtain ⟨u, s1⟩ := r
  simp only at c1 c2 ⊢
  generalize s1.int b n = r2 at *
  obtain ⟨z, s2⟩ := r2
  simp only at c2 ⊢
  unfold fcv
  unfold rdB iv sv at *
  simp only
  (repeat (first | (with_reducible refine oz (by constructor <;> decide) ?_) | ((with_reducible first | apply SC.region | apply SO.run); (simp only [go_sem, ↓reduceIte, reduceCtorEq] <;> rfl); (fail_if_success with_reducible refine pickA ?_)) | (with_reducible apply SC.ops)))
  (refine SO.inlQ (by simp (disch := omega) only [go_sem] <;> rfl) Tab.go58 (by simp (disch := omega) only [go_sem, ↓reduceIte] <;> rfl) (by simp (disch := omega) only [go_sem] <;> rfl) (SInlQ.rd (c1) (by simp (disch := omega) only [go_sem, ↓reduceIte, if_neg] <;> rfl) rfl (by (dsimp only; omega)) (by simp (disch := omega) only [go_sem, ↓reduceIte, if_neg] <;> rfl) ?_))
  (repeat (first | (with_reducible refine oz (by constructor <;> decide) ?_) | ((with_reducible first | apply SC.region | apply SO.run); (simp only [go_sem, ↓reduceIte, zn1, zn3, zn4, reduceCtorEq] <;> rfl); (fail_if_success with_reducible refine pickA ?_)) | (with_reducible apply SC.ops)))
  (refine SO.inlQ (by simp (disch := omega) only [go_sem] <;> rfl) Tab.go46 (by simp (disch := omega) only [go_sem, ↓reduceIte] <;> rfl) (by simp (disch := omega) only [go_sem] <;> rfl) (SInlQ.rd (c2) (by simp (disch := omega) only [go_sem, ↓reduceIte, if_neg] <;> rfl) rfl (by (dsimp only; omega)) (by simp (disch := omega) only [go_sem, ↓reduceIte, if_neg] <;> rfl) ?_))
  (repeat (first | (with_reducible refine oz (by constructor <;> decide) ?_) | ((with_reducible first | apply SC.region | apply SO.run); (simp (disch := omega) only [go_sem, ↓reduceIte, zn1, zn2, zn3, zn4, reduceCtorEq, if_neg] <;> rfl); (fail_if_success with_reducible refine pickA ?_))))
  exact rd_ret hB hk (fcv_only (u, z)) rfl Tryz.results77 (by simp (disch := omega) only [go_sem, ↓reduceIte, zn1, zn3, zn4, if_neg] <;> rfl) (by simp (disch := omega) only [go_sem, ↓reduceIte, if_neg] <;> rfl)
structure Chg where
  kind : Int
  cell : Cel
  a : Int
  b : Int
  w0 : Int
  w1 : Int
def chgC (x : Chg) : List V := .sc (.int .i64 x.kind) :: celC x.cell ++ [.sc (.int .i64 x.a), .sc (.int .i64 x.b), .sc (.int .i64 x.w0), .sc (.int .i64 x.w1)]
def cels (l : List Cel) : List V := l.flatMap celC
theorem cels_len (l : List Cel) : (cels l).length = l.length * 3 := by
  induction l with
  | nil => rfl
  | cons x r ih =>
    show (celC x ++ cels r).length = _
    rw [zl1, ih]
    show 3 + r.length * 3 = (r.length + 1) * 3
    omega
theorem map_snoc {α β : Type} (f : α → β) (l : List α) {i : Nat} (h : i < l.length) : (l.take (i + 1)).map f = (l.take i).map f ++ [f l[i]] := by
  rw [List.take_succ_eq_append_getElem h, List.map_append]; rfl
theorem fcs_clo (l : List (Int × Int)) : (fcs l).all clo = true := by
  rw [zlf]; intro y hy; obtain ⟨x, _, hx⟩ := List.mem_flatMap.1 hy
  simp only [List.mem_cons, List.not_mem_nil, or_false] at hx
  rcases hx with rfl | rfl | rfl <;> rfl
def Rd.faces (b : List Int) (n : Nat) (s : Rd) : List (Int × Int) × Rd := Rd.list b n (fun s => s.face b n) s
theorem faces_at {b : List Int} {n : Nat} {s : Rd} (h : s.at_ ≤ n) : (s.faces b n).2.at_ ≤ n := list_at (fun _ h => face_at h) h
set_option maxHeartbeats 4000000 in
theorem rfaces_s (b : List Int) (n : Nat) (s0 : Rd) (hu : U8s b) (hn : n ≤ b.length) (hb : n ≤ 1000000000) (ha : s0.at_ ≤ n) :
    RdK Tryz.prog 76 (fun k => [.pt k 0, .fn (.func 77) [.pt k 0] []]) (rdB b n s0) (rdB b n (s0.faces b n).2) (.im (fcs (s0.faces b n).1) (s0.faces b n).1.length) := by
  refine ⟨.im _ _, rdB_clo _ _ _, fun k nx hk => ?_⟩
  refine InlQ.run Tryz.func76 rfl Tryz.ntmps76 (by simp) (by simp (disch := omega) only [go_sem, zn4]; rfl) fun B hB => ?_
  have c1 := rsize_s b n s0 hu hn hb 4000 (by omega)
  have hat := size_at (b := b) (lim := 4000) ha
  have hc4 := size_le b n 4000 s0
  unfold Rd.faces Rd.list
  generalize s0.size b n 4000 = r at *
  obtain ⟨c, s1⟩ := r
  simp only at c1 hat hc4 ⊢
  unfold rdB at c1 ⊢
  (repeat (first | (with_reducible refine oz (by constructor <;> decide) ?_) | ((with_reducible first | apply SC.region | apply SO.run); (simp (disch := omega) only [go_sem, ↓reduceIte, reduceCtorEq] <;> rfl); (fail_if_success with_reducible refine pickA ?_)) | (with_reducible apply SC.ops)))
  (refine SO.inlQ (by simp (disch := omega) only [go_sem] <;> rfl) Tab.go68 (by simp (disch := omega) only [go_sem, ↓reduceIte] <;> rfl) (by simp (disch := omega) only [go_sem] <;> rfl) (SInlQ.rd (c1) (by simp (disch := omega) only [go_sem, ↓reduceIte] <;> rfl) rfl (by omega) (by simp (disch := omega) only [go_sem, ↓reduceIte] <;> rfl) ?_))
  (repeat (first | (with_reducible refine oz (by constructor <;> decide) ?_) | ((with_reducible first | apply SC.region | apply SO.run); (simp (disch := omega) only [go_sem, ↓reduceIte] <;> rfl); (fail_if_success with_reducible refine pickA ?_))))
  generalize hL : listR (fun s => s.face b n) c s1 [] = L at *
  refine SC.weak (by simp) (nilSl (tO := 132) (sl' := [(0, .pt k 0), (1, .fn (.func 77) [.pt k 0] []), (5, .sc (.int .i64 c)), (6, .sl nx 0 0 3 none), (7, .sc (.int .i64 0))]) (hp' := [(k, rdB b n s1)]) nx hB (by omega) ?_ ?_) ?_
  · refine mapSl_cons (by simp (disch := omega) only [go_sem, ↓reduceIte, reduceCtorEq] <;> rfl) (VMap.pt rfl (by omega)) ?_
    refine mapSl_cons (by simp (disch := omega) only [go_sem, ↓reduceIte, zn1, reduceCtorEq] <;> rfl) (VMap.fn1 rfl (by omega)) ?_
    (repeat' (first | exact trivial | refine mapSl_cons (by simp (disch := omega) only [go_sem, ↓reduceIte, zn1] <;> rfl) ?_ ?_ | exact VMap.sc _ | exact VMap.nil_sl _ _ _))
  · unfold rdB
    (repeat' (first | exact mapHp_nil | refine mapHp_cons (by simp (disch := omega) only [go_sem, ↓reduceIte] <;> rfl) ?_ ?_ | exact BMap.clo (by rfl)))
  refine SC.loop (fun z : Nat × List (Int × Int) × Rd × Nat × Nat => ⟨[(0, .pt k 0), (1, .fn (.func 77) [.pt k 0] []), (5, .sc (.int .i64 c)), (6, .sl z.2.2.2.1 0 z.2.1.length 3 none), (7, .sc (.int .i64 z.1))], [(z.2.2.2.1, ⟨132, fcs z.2.1, false⟩), (k, rdB b n z.2.2.1)], z.2.2.2.2, 28⟩)
    (fun z => z.1 ≤ c ∧ listR (fun s => s.face b n) (c - z.1) z.2.2.1 z.2.1 = L ∧ z.2.1.length = z.1 ∧ z.2.2.1.at_ ≤ n ∧ nx ≤ z.2.2.2.1 ∧ z.2.2.2.1 < z.2.2.2.2) (fun z => c - z.1) (0, [], s1, nx, nx + 1) ?_ ?_ ?_
  · unfold fcs rdB
    (refine Le.slots ?_ ?_ ?_ <;> (repeat' (first | (exact fun _ _ h => h) | exact znb _ | exact leSl_nil | refine leSl_cons (by simp (disch := omega) only [go_sem, ↓reduceIte, zn1, reduceCtorEq] <;> rfl) ?_ ?_ | exact VLe.refl rfl)))
  · exact ⟨znc _, hL, rfl, hat, znb _, Nat.lt_succ_self _⟩
  · rintro ⟨i, acc, s, q, m⟩ ⟨hi1, hl, hlen, has, hq1, hq2⟩ K hK
    simp only at hi1 hl hlen has hq1 hq2 ⊢
    by_cases hlt : i < c ∧ s.e = 0
    · have q2 : decide ((i : Int) < (c : Int)) = true := by rw [decide_eq_true_iff]; omega
      have q3 : ((s.e : Int) == 0) = true := by rw [hlt.2]; rfl
      have c2 := rface_s b n s hu hn hb has
      have hats := face_at (b := b) has
      have hci : c - i = (c - (i + 1)) + 1 := by omega
      rw [hci] at hl
      unfold listR at hl
      rw [if_pos hlt.2] at hl
      generalize s.face b n = r at *
      obtain ⟨x, s2⟩ := r
      simp only at c2 hats hl
      have gl := fcs_len acc
      have gt : (fcs acc).take (acc.length * 3) = fcs acc := zla (by omega)
      have e4 : fcs (acc ++ [x]) = fcs acc ++ [.sc (.int .i64 x.1), .sc (.bool (decide (x.2 < 0))), .im (lv (limbsOf x.2.natAbs)) (limbsOf x.2.natAbs).length] := by unfold fcs; simp only [List.flatMap_append, List.flatMap_cons, List.flatMap_nil, List.append_nil]
      have e5 : (acc ++ [x]).length = acc.length + 1 := zl1
      have hK2 := fun s' q' m' h => hK s' (i + 1, acc ++ [x], s2, q', m') h
      simp only [e4, e5] at hK2
      unfold rdB at *
      unfold fcv at c2
      (repeat (first | (with_reducible refine oz (by constructor <;> decide) ?_) | ((with_reducible first | apply SC.condB | apply SC.region | apply SO.run); (simp (disch := omega) only [go_sem, ↓reduceIte, zn1, reduceCtorEq, if_neg, q2, q3] <;> rfl); (first | refine pickT ?_ | fail_if_success with_reducible refine pickA ?_)) | (with_reducible apply SC.ops)))
      (refine SO.inlQ (by simp (disch := omega) only [go_sem, ↓reduceIte] <;> rfl) Tab.go77 (by simp (disch := omega) only [go_sem] <;> rfl) (by simp (disch := omega) only [go_sem] <;> rfl) (SInlQ.rd (c2) (by simp (disch := omega) only [go_sem, ↓reduceIte, if_neg] <;> rfl) rfl (by (dsimp only; omega)) (by simp (disch := omega) only [go_sem, ↓reduceIte, if_neg] <;> rfl) ?_))
      (repeat (first | (with_reducible refine oz (by constructor <;> decide) ?_) | ((with_reducible first | apply SC.region | apply SO.run); (simp (disch := omega) only [go_sem, ↓reduceIte, zn1, zn3, zn4, reduceCtorEq, if_pos, if_neg, gl, gt, zl2, zl3, zl4, zna, zn9] <;> rfl); (fail_if_success with_reducible refine pickA ?_))))
      refine hK2 _ (m + 1) (m + 2) ?_ ⟨by omega, hl, by omega, hats, by omega, by omega⟩ (by omega)
      (refine Le.slots ?_ ?_ ?_ <;> (repeat' (first | exact znb _ | exact leSl_nil | refine leSl_cons (by simp (disch := omega) only [go_sem, ↓reduceIte, zn1, reduceCtorEq] <;> rfl) ?_ ?_ | exact VLe.refl rfl | (refine fun id k h => ?_; simp only [hget] at h ⊢; (repeat' (split at h)) <;> first | (cases h; done) | (simp (disch := omega) only [if_pos, if_neg]; exact h)))))
    · have hE : listR (fun s => s.face b n) (c - i) s acc = (acc, s) := by
        by_cases h0 : c - i = 0
        · rw [h0]; rfl
        · obtain ⟨m', hm'⟩ : ∃ m', c - i = m' + 1 := ⟨c - i - 1, by omega⟩
          rw [hm']; unfold listR; rw [if_neg (fun h => hlt ⟨by omega, h⟩)]
      rw [hE] at hl
      subst hl
      have gl := fcs_len acc
      have gt : (fcs acc).take (acc.length * 3) = fcs acc := zla (by omega)
      have gcl : (fcs acc).all clo = true := fcs_clo acc
      have kb : (k == q) = false := by rw [beq_eq_false_iff_ne]; omega
      simp only
      unfold rdB
      by_cases hi : i < c
      · have q2 : decide ((i : Int) < (c : Int)) = true := by rw [decide_eq_true_iff]; omega
        have q3 : ((s.e : Int) == 0) = false := by rw [beq_eq_false_iff_ne]; intro h; exact hlt ⟨hi, by omega⟩
        (repeat (first | (with_reducible refine oz (by constructor <;> decide) ?_) | ((with_reducible first | apply SC.condB | apply SC.region); (simp (disch := omega) only [go_sem, ↓reduceIte, zn1, zn2, reduceCtorEq, if_neg, q2, q3] <;> rfl); (first | refine pickF ?_ | fail_if_success with_reducible refine pickA ?_))))
        exact rd_retF hB hk Tryz.results76 (by simp (disch := omega) only [go_sem, ↓reduceIte] <;> rfl) (by simp (disch := omega) only [go_sem, ↓reduceIte, if_pos, gl, gt, gcl, zl2] <;> rfl) (.im _ _) rfl (by simp (disch := omega) only [go_sem, ↓reduceIte, if_pos, if_neg, kb, Bool.false_eq_true] <;> rfl)
      · have q2 : decide ((i : Int) < (c : Int)) = false := by rw [decide_eq_false_iff_not]; omega
        (repeat (first | (with_reducible refine oz (by constructor <;> decide) ?_) | ((with_reducible first | apply SC.condB | apply SC.region); (simp (disch := omega) only [go_sem, ↓reduceIte, zn1, zn2, reduceCtorEq, q2] <;> rfl); (first | refine pickF ?_ | fail_if_success with_reducible refine pickA ?_))))
        exact rd_retF hB hk Tryz.results76 (by simp (disch := omega) only [go_sem, ↓reduceIte] <;> rfl) (by simp (disch := omega) only [go_sem, ↓reduceIte, if_pos, gl, gt, gcl, zl2] <;> rfl) (.im _ _) rfl (by simp (disch := omega) only [go_sem, ↓reduceIte, if_pos, if_neg, kb, Bool.false_eq_true] <;> rfl)
def Rd.cell (b : List Int) (n : Nat) (s : Rd) : Cel × Rd :=
  (⟨(s.whole b n).1, ((s.whole b n).2.whole b n).1, (((s.whole b n).2.whole b n).2.faces b n).1⟩, (((s.whole b n).2.whole b n).2.faces b n).2)
theorem cell_at {b : List Int} {n : Nat} {s : Rd} (h : s.at_ ≤ n) : (s.cell b n).2.at_ ≤ n := faces_at (whole_at (whole_at h))
theorem cel_only (x : Cel) : Only (fun _ => False) (.ag (celC x)) := by
  refine .ag fun y hy => ?_
  simp only [celC, List.mem_cons, List.not_mem_nil, or_false] at hy
  rcases hy with rfl | rfl | rfl
  · exact .sc _
  · exact .sc _
  · exact .im _ _
theorem rcell2_s (b : List Int) (n : Nat) (s : Rd) (hu : U8s b) (hn : n ≤ b.length) (hb : n ≤ 1000000000) (ha : s.at_ ≤ n) : RdQ Tryz.prog 71 [] (rdB b n s) (rdB b n (s.cell b n).2) (.ag (celC (s.cell b n).1)) := by
  refine ⟨cel_only _, rdB_clo _ _ _, fun k nx hk => ?_⟩
  refine InlQ.run Tryz.func71 rfl Tryz.ntmps71 (by simp) (by simp only [go_sem]; rfl) fun B hB => ?_
  have c1 := rwh_s b n s hu hn hb
  have c2 := rwh_s b n (s.whole b n).2 hu hn hb
  have c3 := rfaces_s b n ((s.whole b n).2.whole b n).2 hu hn hb (whole_at (whole_at ha))
  unfold Rd.cell
  generalize s.whole b n = r at *
  obtain ⟨u, s1⟩ := r
  simp only at c1 c2 c3 ⊢
  generalize s1.whole b n = r at *
  obtain ⟨u2, s2⟩ := r
  simp only at c2 c3 ⊢
  generalize s2.faces b n = r at *
  obtain ⟨fs, s3⟩ := r
  simp only at c3 ⊢
  have ho := cel_only ⟨u, u2, fs⟩
  unfold celC at *
  unfold rdB at *
  simp only at ho ⊢
  (repeat (first | (with_reducible refine oz (by constructor <;> decide) ?_) | ((with_reducible first | apply SC.region | apply SO.run); (simp only [go_sem, ↓reduceIte, reduceCtorEq] <;> rfl); (fail_if_success with_reducible refine pickA ?_)) | (with_reducible apply SC.ops)))
  (refine SO.inlQ (by simp (disch := omega) only [go_sem] <;> rfl) Tab.go58 (by simp (disch := omega) only [go_sem, ↓reduceIte] <;> rfl) (by simp (disch := omega) only [go_sem] <;> rfl) (SInlQ.rd (c1) (by simp (disch := omega) only [go_sem, ↓reduceIte, if_neg] <;> rfl) rfl (by (dsimp only; omega)) (by simp (disch := omega) only [go_sem, ↓reduceIte, if_neg] <;> rfl) ?_))
  (repeat (first | (with_reducible refine oz (by constructor <;> decide) ?_) | ((with_reducible first | apply SC.region | apply SO.run); (simp only [go_sem, ↓reduceIte, zn1, zn3, zn4, reduceCtorEq] <;> rfl); (fail_if_success with_reducible refine pickA ?_)) | (with_reducible apply SC.ops)))
  (refine SO.inlQ (by simp (disch := omega) only [go_sem] <;> rfl) Tab.go58 (by simp (disch := omega) only [go_sem, ↓reduceIte] <;> rfl) (by simp (disch := omega) only [go_sem] <;> rfl) (SInlQ.rd (c2) (by simp (disch := omega) only [go_sem, ↓reduceIte, if_neg] <;> rfl) rfl (by (dsimp only; omega)) (by simp (disch := omega) only [go_sem, ↓reduceIte, if_neg] <;> rfl) ?_))
  (repeat (first | (with_reducible refine oz (by constructor <;> decide) ?_) | ((with_reducible first | apply SC.region | apply SO.run); (simp only [go_sem, ↓reduceIte, zn1, zn3, zn4, reduceCtorEq] <;> rfl); (fail_if_success with_reducible refine pickA ?_)) | (with_reducible apply SC.ops)))
  (refine SO.inlQ (by simp (disch := omega) only [go_sem] <;> rfl) Tab.go76 (by simp (disch := omega) only [go_sem, ↓reduceIte, zn1] <;> rfl) (by simp (disch := omega) only [go_sem] <;> rfl) (SInlQ.rdk (c3) k (by simp (disch := omega) only [go_sem, ↓reduceIte, if_neg] <;> rfl) rfl (by (dsimp only; omega)) (by simp (disch := omega) only [go_sem, ↓reduceIte, if_neg] <;> rfl) ?_))
  (repeat (first | (with_reducible refine oz (by constructor <;> decide) ?_) | ((with_reducible first | apply SC.region | apply SO.run); (simp (disch := omega) only [go_sem, ↓reduceIte, zn1, zn2, zn3, zn4, reduceCtorEq, if_neg] <;> rfl); (fail_if_success with_reducible refine pickA ?_))))
  exact rd_ret hB hk ho rfl Tryz.results71 (by simp (disch := omega) only [go_sem, ↓reduceIte, zn1, zn3, zn4, if_neg] <;> rfl) (by simp (disch := omega) only [go_sem, ↓reduceIte, if_neg] <;> rfl)
theorem cels_clo (l : List Cel) : (cels l).all clo = true := by
  rw [zlf]; intro y hy; obtain ⟨x, _, hx⟩ := List.mem_flatMap.1 hy
  simp only [celC, List.mem_cons, List.not_mem_nil, or_false] at hx
  rcases hx with rfl | rfl | rfl <;> rfl
def Rd.cells (b : List Int) (n : Nat) (s : Rd) : List Cel × Rd := Rd.list b n (fun s => s.cell b n) s
theorem cells_at {b : List Int} {n : Nat} {s : Rd} (h : s.at_ ≤ n) : (s.cells b n).2.at_ ≤ n := list_at (fun _ h => cell_at h) h
set_option maxHeartbeats 4000000 in
theorem rcells_s (b : List Int) (n : Nat) (s0 : Rd) (hu : U8s b) (hn : n ≤ b.length) (hb : n ≤ 1000000000) (ha : s0.at_ ≤ n) :
    RdK Tryz.prog 70 (fun k => [.pt k 0, .fn (.func 71) [.pt k 0] []]) (rdB b n s0) (rdB b n (s0.cells b n).2) (.im (cels (s0.cells b n).1) (s0.cells b n).1.length) := by
  refine ⟨.im _ _, rdB_clo _ _ _, fun k nx hk => ?_⟩
  refine InlQ.run Tryz.func70 rfl Tryz.ntmps70 (by simp) (by simp (disch := omega) only [go_sem, zn4]; rfl) fun B hB => ?_
  have c1 := rsize_s b n s0 hu hn hb 4000 (by omega)
  have hat := size_at (b := b) (lim := 4000) ha
  have hc4 := size_le b n 4000 s0
  unfold Rd.cells Rd.list
  generalize s0.size b n 4000 = r at *
  obtain ⟨c, s1⟩ := r
  simp only at c1 hat hc4 ⊢
  unfold rdB at c1 ⊢
  (repeat (first | (with_reducible refine oz (by constructor <;> decide) ?_) | ((with_reducible first | apply SC.region | apply SO.run); (simp (disch := omega) only [go_sem, ↓reduceIte, reduceCtorEq] <;> rfl); (fail_if_success with_reducible refine pickA ?_)) | (with_reducible apply SC.ops)))
  (refine SO.inlQ (by simp (disch := omega) only [go_sem] <;> rfl) Tab.go68 (by simp (disch := omega) only [go_sem, ↓reduceIte] <;> rfl) (by simp (disch := omega) only [go_sem] <;> rfl) (SInlQ.rd (c1) (by simp (disch := omega) only [go_sem, ↓reduceIte] <;> rfl) rfl (by omega) (by simp (disch := omega) only [go_sem, ↓reduceIte] <;> rfl) ?_))
  (repeat (first | (with_reducible refine oz (by constructor <;> decide) ?_) | ((with_reducible first | apply SC.region | apply SO.run); (simp (disch := omega) only [go_sem, ↓reduceIte] <;> rfl); (fail_if_success with_reducible refine pickA ?_))))
  generalize hL : listR (fun s => s.cell b n) c s1 [] = L at *
  refine SC.weak (by simp) (nilSl (tO := 120) (sl' := [(0, .pt k 0), (1, .fn (.func 71) [.pt k 0] []), (5, .sc (.int .i64 c)), (6, .sl nx 0 0 3 none), (7, .sc (.int .i64 0))]) (hp' := [(k, rdB b n s1)]) nx hB (by omega) ?_ ?_) ?_
  · refine mapSl_cons (by simp (disch := omega) only [go_sem, ↓reduceIte, reduceCtorEq] <;> rfl) (VMap.pt rfl (by omega)) ?_
    refine mapSl_cons (by simp (disch := omega) only [go_sem, ↓reduceIte, zn1, reduceCtorEq] <;> rfl) (VMap.fn1 rfl (by omega)) ?_
    (repeat' (first | exact trivial | refine mapSl_cons (by simp (disch := omega) only [go_sem, ↓reduceIte, zn1] <;> rfl) ?_ ?_ | exact VMap.sc _ | exact VMap.nil_sl _ _ _))
  · unfold rdB
    (repeat' (first | exact mapHp_nil | refine mapHp_cons (by simp (disch := omega) only [go_sem, ↓reduceIte] <;> rfl) ?_ ?_ | exact BMap.clo (by rfl)))
  refine SC.loop (fun z : Nat × List Cel × Rd × Nat × Nat => ⟨[(0, .pt k 0), (1, .fn (.func 71) [.pt k 0] []), (5, .sc (.int .i64 c)), (6, .sl z.2.2.2.1 0 z.2.1.length 3 none), (7, .sc (.int .i64 z.1))], [(z.2.2.2.1, ⟨120, cels z.2.1, false⟩), (k, rdB b n z.2.2.1)], z.2.2.2.2, 28⟩)
    (fun z => z.1 ≤ c ∧ listR (fun s => s.cell b n) (c - z.1) z.2.2.1 z.2.1 = L ∧ z.2.1.length = z.1 ∧ z.2.2.1.at_ ≤ n ∧ nx ≤ z.2.2.2.1 ∧ z.2.2.2.1 < z.2.2.2.2) (fun z => c - z.1) (0, [], s1, nx, nx + 1) ?_ ?_ ?_
  · unfold cels rdB
    (refine Le.slots ?_ ?_ ?_ <;> (repeat' (first | (exact fun _ _ h => h) | exact znb _ | exact leSl_nil | refine leSl_cons (by simp (disch := omega) only [go_sem, ↓reduceIte, zn1, reduceCtorEq] <;> rfl) ?_ ?_ | exact VLe.refl rfl)))
  · exact ⟨znc _, hL, rfl, hat, znb _, Nat.lt_succ_self _⟩
  · rintro ⟨i, acc, s, q, m⟩ ⟨hi1, hl, hlen, has, hq1, hq2⟩ K hK
    simp only at hi1 hl hlen has hq1 hq2 ⊢
    by_cases hlt : i < c ∧ s.e = 0
    · have q2 : decide ((i : Int) < (c : Int)) = true := by rw [decide_eq_true_iff]; omega
      have q3 : ((s.e : Int) == 0) = true := by rw [hlt.2]; rfl
      have c2 := rcell2_s b n s hu hn hb has
      have hats := cell_at (b := b) has
      have hci : c - i = (c - (i + 1)) + 1 := by omega
      rw [hci] at hl
      unfold listR at hl
      rw [if_pos hlt.2] at hl
      generalize s.cell b n = r at *
      obtain ⟨x, s2⟩ := r
      simp only at c2 hats hl
      have gl := cels_len acc
      have gt : (cels acc).take (acc.length * 3) = cels acc := zla (by omega)
      have e4 : cels (acc ++ [x]) = cels acc ++ celC x := by unfold cels; simp only [List.flatMap_append, List.flatMap_cons, List.flatMap_nil, List.append_nil]
      have e5 : (acc ++ [x]).length = acc.length + 1 := zl1
      have hK2 := fun s' q' m' h => hK s' (i + 1, acc ++ [x], s2, q', m') h
      simp only [e4, e5] at hK2
      unfold rdB at *
      unfold celC at *
      (repeat (first | (with_reducible refine oz (by constructor <;> decide) ?_) | ((with_reducible first | apply SC.condB | apply SC.region | apply SO.run); (simp (disch := omega) only [go_sem, ↓reduceIte, zn1, reduceCtorEq, if_neg, q2, q3] <;> rfl); (first | refine pickT ?_ | fail_if_success with_reducible refine pickA ?_)) | (with_reducible apply SC.ops)))
      (refine SO.inlQ (by simp (disch := omega) only [go_sem, ↓reduceIte] <;> rfl) Tab.go71 (by simp (disch := omega) only [go_sem] <;> rfl) (by simp (disch := omega) only [go_sem] <;> rfl) (SInlQ.rd (c2) (by simp (disch := omega) only [go_sem, ↓reduceIte, if_neg] <;> rfl) rfl (by (dsimp only; omega)) (by simp (disch := omega) only [go_sem, ↓reduceIte, if_neg] <;> rfl) ?_))
      (repeat (first | (with_reducible refine oz (by constructor <;> decide) ?_) | ((with_reducible first | apply SC.region | apply SO.run); (simp (disch := omega) only [go_sem, ↓reduceIte, zn1, zn3, zn4, reduceCtorEq, if_pos, if_neg, gl, gt, zl2, zl3, zl4, zna, zn9] <;> rfl); (fail_if_success with_reducible refine pickA ?_))))
      refine hK2 _ (m + 1) (m + 2) ?_ ⟨by omega, hl, by omega, hats, by omega, by omega⟩ (by omega)
      (refine Le.slots ?_ ?_ ?_ <;> (repeat' (first | exact znb _ | exact leSl_nil | refine leSl_cons (by simp (disch := omega) only [go_sem, ↓reduceIte, zn1, reduceCtorEq] <;> rfl) ?_ ?_ | exact VLe.refl rfl | (refine fun id k h => ?_; simp only [hget] at h ⊢; (repeat' (split at h)) <;> first | (cases h; done) | (simp (disch := omega) only [if_pos, if_neg]; exact h)))))
    · have hE : listR (fun s => s.cell b n) (c - i) s acc = (acc, s) := by
        by_cases h0 : c - i = 0
        · rw [h0]; rfl
        · obtain ⟨m', hm'⟩ : ∃ m', c - i = m' + 1 := ⟨c - i - 1, by omega⟩
          rw [hm']; unfold listR; rw [if_neg (fun h => hlt ⟨by omega, h⟩)]
      rw [hE] at hl
      subst hl
      have gl := cels_len acc
      have gt : (cels acc).take (acc.length * 3) = cels acc := zla (by omega)
      have gcl : (cels acc).all clo = true := cels_clo acc
      have kb : (k == q) = false := by rw [beq_eq_false_iff_ne]; omega
      simp only
      unfold rdB
      by_cases hi : i < c
      · have q2 : decide ((i : Int) < (c : Int)) = true := by rw [decide_eq_true_iff]; omega
        have q3 : ((s.e : Int) == 0) = false := by rw [beq_eq_false_iff_ne]; intro h; exact hlt ⟨hi, by omega⟩
        (repeat (first | (with_reducible refine oz (by constructor <;> decide) ?_) | ((with_reducible first | apply SC.condB | apply SC.region); (simp (disch := omega) only [go_sem, ↓reduceIte, zn1, zn2, reduceCtorEq, if_neg, q2, q3] <;> rfl); (first | refine pickF ?_ | fail_if_success with_reducible refine pickA ?_))))
        exact rd_retF hB hk Tryz.results70 (by simp (disch := omega) only [go_sem, ↓reduceIte] <;> rfl) (by simp (disch := omega) only [go_sem, ↓reduceIte, if_pos, gl, gt, gcl, zl2] <;> rfl) (.im _ _) rfl (by simp (disch := omega) only [go_sem, ↓reduceIte, if_pos, if_neg, kb, Bool.false_eq_true] <;> rfl)
      · have q2 : decide ((i : Int) < (c : Int)) = false := by rw [decide_eq_false_iff_not]; omega
        (repeat (first | (with_reducible refine oz (by constructor <;> decide) ?_) | ((with_reducible first | apply SC.condB | apply SC.region); (simp (disch := omega) only [go_sem, ↓reduceIte, zn1, zn2, reduceCtorEq, q2] <;> rfl); (first | refine pickF ?_ | fail_if_success with_reducible refine pickA ?_))))
        exact rd_retF hB hk Tryz.results70 (by simp (disch := omega) only [go_sem, ↓reduceIte] <;> rfl) (by simp (disch := omega) only [go_sem, ↓reduceIte, if_pos, gl, gt, gcl, zl2] <;> rfl) (.im _ _) rfl (by simp (disch := omega) only [go_sem, ↓reduceIte, if_pos, if_neg, kb, Bool.false_eq_true] <;> rfl)
def Rd.chg (b : List Int) (n : Nat) (s : Rd) : Chg × Rd :=
  let r0 := s.whole b n
  let r1 := r0.2.cell b n
  let r2 := r1.2.whole b n
  let r3 := r2.2.whole b n
  let r4 := r3.2.whole b n
  let r5 := r4.2.whole b n
  (⟨r0.1, r1.1, r2.1, r3.1, r4.1, r5.1⟩, r5.2)
theorem chg_at {b : List Int} {n : Nat} {s : Rd} (h : s.at_ ≤ n) : (s.chg b n).2.at_ ≤ n := by
  unfold Rd.chg
  simp only
  exact whole_at (whole_at (whole_at (whole_at (cell_at (whole_at h)))))
theorem chg_only (x : Chg) : Only (fun _ => False) (.ag (chgC x)) := by
  refine .ag fun y hy => ?_
  simp only [chgC, celC, zl8, zl7, List.mem_cons, List.not_mem_nil, or_false] at hy
  rcases hy with rfl | rfl | rfl | rfl | rfl | rfl | rfl | rfl
  · exact .sc _
  · exact .sc _
  · exact .sc _
  · exact .im _ _
  · exact .sc _
  · exact .sc _
  · exact .sc _
  · exact .sc _
set_option maxHeartbeats 4000000 in
set_option maxRecDepth 4000 in
theorem rchg_s (b : List Int) (n : Nat) (s : Rd) (hu : U8s b) (hn : n ≤ b.length) (hb : n ≤ 1000000000) (ha : s.at_ ≤ n) : RdQ Tryz.prog 72 [] (rdB b n s) (rdB b n (s.chg b n).2) (.ag (chgC (s.chg b n).1)) := by
  refine ⟨chg_only _, rdB_clo _ _ _, fun k nx hk => ?_⟩
  refine InlQ.run Tryz.func72 rfl Tryz.ntmps72 (by simp) (by simp only [go_sem]; rfl) fun B hB => ?_
  have c0 := rwh_s b n s hu hn hb
  have c1 := rcell2_s b n (s.whole b n).2 hu hn hb (whole_at ha)
  have hl := chg_only (s.chg b n).1
  unfold Rd.chg at *
  generalize s.whole b n = r at *
  obtain ⟨u0, s0⟩ := r
  simp only at c0 c1 hl ⊢
  generalize s0.cell b n = r at *
  obtain ⟨x1, s1⟩ := r
  simp only at c1 hl ⊢
  have c2 := rwh_s b n s1 hu hn hb
  generalize s1.whole b n = r at *
  obtain ⟨u2, s2⟩ := r
  simp only at c2 hl ⊢
  have c3 := rwh_s b n s2 hu hn hb
  generalize s2.whole b n = r at *
  obtain ⟨u3, s3⟩ := r
  simp only at c3 hl ⊢
  have c4 := rwh_s b n s3 hu hn hb
  generalize s3.whole b n = r at *
  obtain ⟨u4, s4⟩ := r
  simp only at c4 hl ⊢
  have c5 := rwh_s b n s4 hu hn hb
  generalize s4.whole b n = r at *
  obtain ⟨u5, s5⟩ := r
  simp only at c5 hl ⊢
  unfold chgC celC at *
  unfold rdB at *
  simp only [zl8, zl7] at hl ⊢
  (repeat (first | (with_reducible refine oz (by constructor <;> decide) ?_) | ((with_reducible first | apply SC.region | apply SO.run); (simp only [go_sem, ↓reduceIte, reduceCtorEq] <;> rfl); (fail_if_success with_reducible refine pickA ?_)) | (with_reducible apply SC.ops)))
  (refine SO.inlQ (by simp (disch := omega) only [go_sem] <;> rfl) Tab.go58 (by simp (disch := omega) only [go_sem, ↓reduceIte] <;> rfl) (by simp (disch := omega) only [go_sem] <;> rfl) (SInlQ.rd (c0) (by simp (disch := omega) only [go_sem, ↓reduceIte, if_neg] <;> rfl) rfl (by (dsimp only; omega)) (by simp (disch := omega) only [go_sem, ↓reduceIte, if_neg] <;> rfl) ?_))
  (repeat (first | (with_reducible refine oz (by constructor <;> decide) ?_) | ((with_reducible first | apply SC.region | apply SO.run); (simp only [go_sem, ↓reduceIte, zn1, zn3, zn4, reduceCtorEq] <;> rfl); (fail_if_success with_reducible refine pickA ?_)) | (with_reducible apply SC.ops)))
  (refine SO.inlQ (by simp (disch := omega) only [go_sem] <;> rfl) Tab.go71 (by simp (disch := omega) only [go_sem, ↓reduceIte] <;> rfl) (by simp (disch := omega) only [go_sem] <;> rfl) (SInlQ.rd (c1) (by simp (disch := omega) only [go_sem, ↓reduceIte, if_neg] <;> rfl) rfl (by (dsimp only; omega)) (by simp (disch := omega) only [go_sem, ↓reduceIte, if_neg] <;> rfl) ?_))
  (repeat (first | (with_reducible refine oz (by constructor <;> decide) ?_) | ((with_reducible first | apply SC.condB | apply SC.region | apply SO.run); (simp (disch := omega) only [go_sem, ↓reduceIte, zn1, zn3, zn4, reduceCtorEq, zi1, if_pos] <;> rfl); (first | refine pickT ?_ | fail_if_success with_reducible refine pickA ?_)) | (with_reducible apply SC.ops) | (with_reducible apply SR.next) | refine SC.loopN 5 ?_))
  (refine SO.inlQ (by simp (disch := omega) only [go_sem] <;> rfl) Tab.go58 (by simp (disch := omega) only [go_sem, ↓reduceIte] <;> rfl) (by simp (disch := omega) only [go_sem] <;> rfl) (SInlQ.rd (c2) (by simp (disch := omega) only [go_sem, ↓reduceIte, if_neg] <;> rfl) rfl (by (dsimp only; omega)) (by simp (disch := omega) only [go_sem, ↓reduceIte, if_neg] <;> rfl) ?_))
  (repeat (first | (with_reducible refine oz (by constructor <;> decide) ?_) | ((with_reducible first | apply SC.condB | apply SC.region | apply SO.run); (simp (disch := omega) only [go_sem, ↓reduceIte, zn1, zn3, zn4, reduceCtorEq, zi1, if_pos, Int.reduceAdd] <;> rfl); (first | refine pickT ?_ | fail_if_success with_reducible refine pickA ?_)) | (with_reducible apply SC.ops) | (with_reducible apply SR.next)))
  (refine SO.inlQ (by simp (disch := omega) only [go_sem] <;> rfl) Tab.go58 (by simp (disch := omega) only [go_sem, ↓reduceIte] <;> rfl) (by simp (disch := omega) only [go_sem] <;> rfl) (SInlQ.rd (c3) (by simp (disch := omega) only [go_sem, ↓reduceIte, if_neg] <;> rfl) rfl (by (dsimp only; omega)) (by simp (disch := omega) only [go_sem, ↓reduceIte, if_neg] <;> rfl) ?_))
  (repeat (first | (with_reducible refine oz (by constructor <;> decide) ?_) | ((with_reducible first | apply SC.condB | apply SC.region | apply SO.run); (simp (disch := omega) only [go_sem, ↓reduceIte, zn1, zn3, zn4, reduceCtorEq, zi1, if_pos, Int.reduceAdd] <;> rfl); (first | refine pickT ?_ | fail_if_success with_reducible refine pickA ?_)) | (with_reducible apply SC.ops) | (with_reducible apply SR.next)))
  (refine SO.inlQ (by simp (disch := omega) only [go_sem] <;> rfl) Tab.go58 (by simp (disch := omega) only [go_sem, ↓reduceIte] <;> rfl) (by simp (disch := omega) only [go_sem] <;> rfl) (SInlQ.rd (c4) (by simp (disch := omega) only [go_sem, ↓reduceIte, if_neg] <;> rfl) rfl (by (dsimp only; omega)) (by simp (disch := omega) only [go_sem, ↓reduceIte, if_neg] <;> rfl) ?_))
  (repeat (first | (with_reducible refine oz (by constructor <;> decide) ?_) | ((with_reducible first | apply SC.condB | apply SC.region | apply SO.run); (simp (disch := omega) only [go_sem, ↓reduceIte, zn1, zn3, zn4, reduceCtorEq, zi1, if_pos, Int.reduceAdd] <;> rfl); (first | refine pickT ?_ | fail_if_success with_reducible refine pickA ?_)) | (with_reducible apply SC.ops) | (with_reducible apply SR.next)))
  (refine SO.inlQ (by simp (disch := omega) only [go_sem] <;> rfl) Tab.go58 (by simp (disch := omega) only [go_sem, ↓reduceIte] <;> rfl) (by simp (disch := omega) only [go_sem] <;> rfl) (SInlQ.rd (c5) (by simp (disch := omega) only [go_sem, ↓reduceIte, if_neg] <;> rfl) rfl (by (dsimp only; omega)) (by simp (disch := omega) only [go_sem, ↓reduceIte, if_neg] <;> rfl) ?_))
  (repeat (first | (with_reducible refine oz (by constructor <;> decide) ?_) | ((with_reducible first | apply SC.condB | apply SC.region | apply SO.run); (simp (disch := omega) only [go_sem, ↓reduceIte, zn1, zn2, zn3, zn4, if_neg, Int.reduceAdd] <;> rfl); (first | refine pickF ?_ | fail_if_success with_reducible refine pickA ?_)) | (with_reducible apply SR.next)))
  exact rd_ret hB hk hl rfl Tryz.results72 (by simp (disch := omega) only [go_sem, ↓reduceIte, zn1, zn3, zn4, if_neg] <;> rfl) (by simp (disch := omega) only [go_sem, ↓reduceIte, if_neg] <;> rfl)
section
variable {P : Program}
theorem NewX.split0 {f : Nat} {k : Blk} {X : Nat → V} {fl : Bool} (h1 : NewX P f [.sc (.slice none 0 0)] k X fl) (h2 : ∀ a c, c ≤ maxLen → NewX P f [.sc (.slice (some a) 0 c)] k X fl) : NewX P f [.im [] 0] k X fl := by
  refine ⟨h1.1, fun S w vs hS hT ha => ?_⟩
  obtain ⟨vl⟩ := vs
  have hlen := ha.1
  match vl, ha with
  | [v], ha =>
    have hr := ha.2 0 _ v rfl rfl
    have key : ∀ u : Value, v = u → AllC S w [.sc u] (#[v] : Array Value).toList := fun u e => ⟨rfl, fun i y z hy hz => by
      cases i with
      | zero => simp at hy hz; subst hy; subst hz; rw [e]; exact R.sc _
      | succ i => simp at hy⟩
    cases hr with
    | im0 hl hm ha' =>
      rename_i c a
      cases a with
      | none => have hc := ha' rfl; subst hc; exact h1.2 S w #[.slice none 0 0] hS hT (key _ rfl)
      | some ad => exact (h2 ad c hm).2 S w #[.slice (some ad) 0 c] hS hT (key _ rfl)
    | im1 f hl hm hS' hc hx => rename_i c b off; exact (h2 ⟨b, off, none⟩ c hm).2 S w #[.slice (some ⟨b, off, none⟩) 0 c] hS hT (key _ rfl)
  | [], ha => simp at hlen
  | _ :: _ :: _, ha => simp at hlen
end
theorem Le.emp {B : Base} {sl : List (Nat × V)} {hp : List (Nat × Blk)} {nx nt c : Nat} {ad : Addr} (t : Nat) (h : get sl t = .sc (.slice (some ad) 0 c)) (hc : c ≤ maxLen) : Le B ⟨sl, hp, nx, nt⟩ ⟨(t, .im [] 0) :: sl, hp, nx, nt⟩ := by
  intro S rho A a w hr
  refine ⟨S, rho, A, ⟨fun t' => ?_, hr.mem, hr.alt, hr.nt, hr.defs⟩⟩
  simp only [get]
  by_cases e : t' = t
  · subst e
    rw [if_pos rfl]
    have := hr.slots t'
    simp only at this
    rw [h] at this
    generalize a.eval (.tmp t') = u at *
    cases this
    exact .im0 (znc _) hc (fun h => by cases h)
  · rw [if_neg e]; exact hr.slots t'
theorem cloneB_s {b : List Int} (hb : b.length ≤ 1000000000) : NewP Tryz.prog 23 [.im (bw b) b.length] ⟨5, bw b, false⟩ 0 b.length 1 none := by
  by_cases h : b.length = 0
  · have h0 : b = [] := List.eq_nil_of_length_eq_zero h
    subst h0
    refine NewX.split0 ?_ fun a c hc => ?_
    · refine NewP.ofQ bw_sc ?_
      refine InlQ.run Tryz.func23 rfl Tryz.ntmps23 (by simp) (by simp only [go_sem]; rfl) fun B hB => ?_
      (repeat (first | (with_reducible refine oz (by constructor <;> decide) ?_) | ((with_reducible first | apply SC.condB | apply SC.region); (simp (disch := omega) only [go_sem, ↓reduceIte, reduceCtorEq] <;> rfl); (first | refine pickT ?_ | fail_if_success with_reducible refine pickA ?_))))
      exact retIQ_ret (.sl 0 0 0 1 none) [(0, ⟨5, [], false⟩)] 1 Tryz.results23 (by simp only [go_sem, ↓reduceIte] <;> rfl) ⟨0, by omega, rfl, rfl⟩ (Le.map (fun i => i) (fun _ => False) hB (fun i hi => by omega) (fun _ h => h.elim) (fun _ _ h => h.elim) ⟨VMap.nil_sl _ _ _, trivial⟩ (fun _ _ _ h => h.elim))
    · refine NewP.ofQ bw_sc ?_
      refine InlQ.run Tryz.func23 rfl Tryz.ntmps23 (by simp) (by simp only [go_sem]; rfl) fun B hB => ?_
      (repeat (first | (with_reducible refine oz (by constructor <;> decide) ?_) | ((with_reducible first | apply SC.condB | apply SC.region | apply SO.run); (simp only [go_sem, ↓reduceIte, zn1, zn2, zn3, reduceCtorEq] <;> rfl); (first | refine pickF ?_ | fail_if_success with_reducible refine pickA ?_)) | (with_reducible apply SC.ops)))
      refine SO.weak (Le.emp 6 (by simp only [go_sem, ↓reduceIte] <;> rfl) hc) ?_
      (repeat (first | (with_reducible refine oz (by constructor <;> decide) ?_) | ((with_reducible apply SO.run); (simp only [go_sem, ↓reduceIte, zn1, zn2, zn3, zn4] <;> rfl); (fail_if_success with_reducible refine pickA ?_))))
      refine retIQ_ret (.sl 1 0 0 1 none) [(1, ⟨5, [], false⟩)] 2 Tryz.results23 (by simp only [go_sem, ↓reduceIte] <;> rfl) ⟨1, by omega, rfl, rfl⟩ ?_
      (refine Le.slots ?_ ?_ ?_ <;> (repeat' (first | (exact fun _ _ h => h) | exact znb _ | exact leSl_nil | refine leSl_cons (by simp only [go_sem, ↓reduceIte] <;> rfl) ?_ ?_ | exact VLe.refl rfl)))
  · have gl := bw_len b
    have gc := bw_clo b
    have go := bw_one b
    have gt : (bw b).take b.length = bw b := zla (by omega)
    refine NewP.ofQ bw_sc ?_
    refine InlQ.run Tryz.func23 rfl Tryz.ntmps23 (by simp) (by simp only [go_sem]; rfl) fun B hB => ?_
    (repeat (first | (with_reducible refine oz (by constructor <;> decide) ?_) | ((with_reducible first | apply SC.condB | apply SC.region); (simp (disch := omega) only [go_sem, ↓reduceIte, zn1, zn2, zn3, zn4, reduceCtorEq, if_pos, gl, go, zn8, zn9, zl7] <;> rfl); (first | refine pickF ?_ | fail_if_success with_reducible refine pickA ?_))))
    refine retIQ_ret (.sl 1 0 b.length 1 none) [(1, ⟨5, bw b, false⟩)] 2 Tryz.results23 (by simp (disch := omega) only [go_sem, ↓reduceIte] <;> rfl) ⟨1, by omega, rfl, rfl⟩ ?_
    (refine Le.slots ?_ ?_ ?_ <;> (repeat' (first | (exact fun _ _ h => h) | exact znb _ | exact leSl_nil | refine leSl_cons (by simp only [go_sem, ↓reduceIte] <;> rfl) ?_ ?_ | exact VLe.refl rfl)))
theorem idlePI : Idle Tryz.prog 41 := Idle.of Tab.go41 Tryz.func41 rfl rfl rfl rfl Tryz.ntmps41 Tryz.results41
theorem PutInt_s {b : List Int} (z : Int) (hb : b.length ≤ 100000000) (hz : (limbsOf z.natAbs).length ≤ 10000000) : Spec Tryz.prog 10 [.im (bw b) b.length, iv z] (.im (bw (b ++ int_ z)) (b ++ int_ z).length) := by
  have ge : (int_ z).length ≤ 500000000 := by
    have hh : hdI z = 2 * (limbsOf z.natAbs).length + (if z < 0 then 1 else 0) := rfl
    have := num_10 (n := hdI z) (by rw [hh]; split <;> omega)
    unfold int_; rw [zl1, lbs_len]; omega
  have a1 := cloneB_s (b := b) (by omega)
  have a2 := putint_s z (by omega) 1 b none (by omega)
  have gl := bw_len (b ++ int_ z)
  have gle : (b ++ int_ z).length = b.length + (int_ z).length := zl1
  have gcl := bw_clo (b ++ int_ z)
  refine Spec.runD Tryz.func10 rfl rfl rfl rfl idlePI Tryz.ntmps10 (by simp) rfl (by simp only [go_sem, ↓reduceIte, zn4, reduceCtorEq]; rfl) fun B hB => ?_
  unfold iv sv at a2 ⊢
  (repeat ((with_reducible refine oz (by constructor <;> decide) ?_)))
  (refine SC.draw Tab.mixed rfl ?_)
  (repeat (refine DO.run (by simp only [go_sem, ↓reduceIte, reduceCtorEq]; rfl) ?_))
  (refine DO.callN Tab.go23 (by simp (disch := omega) only [go_sem, ↓reduceIte]; rfl) (by simp (disch := omega) only [go_sem] <;> rfl) ?_; refine DNew.of (a1) rfl (by simp (disch := omega) only [go_sem, zn4]; rfl) ?_)
  (repeat (refine DO.run (by simp only [go_sem, ↓reduceIte, zn1, zn2, zn3, zn4, reduceCtorEq]; rfl) ?_))
  (refine DO.callA Tab.go24 (by simp only [go_sem, ↓reduceIte, zn1] <;> rfl) (by simp only [go_sem, zn2] <;> rfl) (DApp.of (a2) (by simp only [go_sem, ↓reduceIte] <;> rfl) rfl (by simp only [go_sem, ↓reduceIte, zn4, reduceCtorEq] <;> rfl) ?_))
  (repeat (refine DO.run (by simp only [go_sem, ↓reduceIte]; rfl) ?_))
  (refine DO.nil (by kernel_rfl) ?_)
  (repeat ((with_reducible refine oz (by constructor <;> decide) ?_)))
  have gt : (bw (b ++ int_ z)).take (b.length + (int_ z).length) = bw (b ++ int_ z) := zla (by omega)
  rw [gle]
  exact retQ_ret Tryz.results10 (by simp (disch := omega) only [go_sem, ↓reduceIte] <;> rfl) (by simp (disch := omega) only [go_sem, ↓reduceIte, if_pos, gl, gle, gcl, gt, zl2, zn8] <;> rfl) rfl
structure Hst where
  start : Int
  base : List Cel
  log : List Chg
def chgs (l : List Chg) : List V := l.flatMap chgC
theorem chgs_len (l : List Chg) : (chgs l).length = l.length * 8 := by
  induction l with
  | nil => rfl
  | cons x r ih =>
    show (chgC x ++ chgs r).length = _
    rw [zl1, ih]
    show 8 + r.length * 8 = (r.length + 1) * 8
    omega
def hstC (x : Hst) : V := .ag [.sc (.int .i64 x.start), .im (cels x.base) x.base.length, .im (chgs x.log) x.log.length]
end Go.Proofs.YtphilljhfdlfdaaGreat
