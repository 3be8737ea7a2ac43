/- Texts joined: Sn T2 Nt La Lb Lc Ld Gl Op Lm Ln Lo Lp Lq Base Val Vam Van Ja Jb Jc Jd Qa Je Jg Jh Ji. -/
import Derived.WalkSmall
import Derived.KernelRfl
import Derived.WalkKit
import Derived.ProofKit
import Derived.OpenShut
import Derived.Carry
import Derived.Deep.QuietTactic
import Derived.BigQuiet
import Derived.Deep.LoopGhost
import Derived.Laws.AppendOwnNone
import Derived.Deep.RegionHeld3
import Derived.Deep.DeepCutAuto
import Derived.Test.YtphilljhfdlfdaaGreatZa
import Derived.Test.YtphilljhfdlfdaaGreatZb
import Derived.Test.YtphilljhfdlfdaaGreatZc
set_option linter.all false
open Nat renaming reduceEqDiff → zn1, reduceLT → zn2, reduceLeDiff → zn3, reduceAdd → zn4, reduceMul → zn5, reduceSub → zn6, reduceBEq → zn7, mul_one → zn8, zero_add → zn9, one_mul → zna, le_refl → znb, zero_le → znc, add_sub_cancel_left → znd, sub_eq_zero_of_le → zne, add_assoc → znf
open Int renaming reduceToNat → zi1, reducePow → zi2
open List renaming length_append → zl1, drop_zero → zl2, take_succ_cons → zl3, take_zero → zl4, getElem?_drop → zl5, append_assoc → zl6, nil_append → zl7, cons_append → zl8, drop_succ_cons → zl9, take_of_length_le → zla, getElem?_eq_getElem → zlb, getElem?_eq_some_iff → zlc, map_cons → zld, map_nil → zle, all_eq_true → zlf
namespace Go.Proofs.YtphilljhfdlfdaaGreat
open Go.RowKit
@[go_sem high] theorem wi64 (n : Int) (h1 : -9223372036854775808 ≤ n) (h2 : n ≤ 9223372036854775807) : IntKind.i64.wrap n = n := IntWalk.i64_in n ⟨h1, h2⟩
@[go_sem high] theorem wi32 (n : Int) (h1 : -2147483648 ≤ n) (h2 : n ≤ 2147483647) : IntKind.i32.wrap n = n := IntWalk.i32_in n ⟨h1, h2⟩
@[go_sem high] theorem wi8 (n : Int) (h1 : -128 ≤ n) (h2 : n ≤ 127) : IntKind.i8.wrap n = n := IntWalk.i8_in n ⟨h1, h2⟩
@[go_sem high] theorem wu64 (n : Int) (h1 : 0 ≤ n) (h2 : n ≤ 18446744073709551615) : IntKind.u64.wrap n = n := IntWalk.u64_in n ⟨h1, h2⟩
@[go_sem high] theorem wu32 (n : Int) (h1 : 0 ≤ n) (h2 : n ≤ 4294967295) : IntKind.u32.wrap n = n := IntWalk.u32_in n ⟨h1, h2⟩
@[go_sem high] theorem wu16 (n : Int) (h1 : 0 ≤ n) (h2 : n ≤ 65535) : IntKind.u16.wrap n = n := IntWalk.u16_in n ⟨h1, h2⟩
@[go_sem high] theorem wu8 (n : Int) (h1 : 0 ≤ n) (h2 : n ≤ 255) : IntKind.u8.wrap n = n := IntWalk.u8_in n ⟨h1, h2⟩
@[go_sem low] theorem wu32m (n : Int) : IntKind.u32.wrap n = n % 4294967296 := IntKind.wrap_u32 n
@[go_sem low] theorem wu8m (n : Int) : IntKind.u8.wrap n = n % 256 := IntKind.wrap_u8 n
@[go_sem] theorem tmod_nn (x y : Int) (h : 0 ≤ x) : x.tmod y = x % y := Int.tmod_eq_emod_of_nonneg h
@[go_sem] theorem tdiv_nn (x y : Int) (h : 0 ≤ x) : x.tdiv y = x / y := Int.tdiv_eq_ediv_of_nonneg h
theorem fdiv_pow (x : Int) (k : Nat) : x.fdiv (2 ^ k) = x / 2 ^ k := Int.fdiv_eq_ediv_of_nonneg _ (Int.le_of_lt (Int.pow_pos (by omega)))
attribute [go_sem] fdiv_pow
end Go.Proofs.YtphilljhfdlfdaaGreat
namespace Go.Proofs.YtphilljhfdlfdaaGreat
open Go.RowKit
end Go.Proofs.YtphilljhfdlfdaaGreat
namespace Go.Proofs.YtphilljhfdlfdaaGreat
def sm (f : Nat → Nat) : Nat → Nat
  | 0 => 0
  | n + 1 => sm f n + f n
end Go.Proofs.YtphilljhfdlfdaaGreat
namespace Go.Proofs.YtphilljhfdlfdaaGreat
section lin
variable {K : Type} [Lean.Grind.CommRing K]
def sg (f : Nat → K) : Nat → K
  | 0 => 0
  | n + 1 => sg f n + f n
theorem sg_congr {f g : Nat → K} : ∀ {n : Nat}, (∀ i, i < n → f i = g i) → sg f n = sg g n
  | 0, _ => rfl
  | n + 1, h => by rw [sg, sg, sg_congr fun i hi => h i (by omega), h n (by omega)]
theorem sg_add (f g : Nat → K) : ∀ n : Nat, sg (fun i => f i + g i) n = sg f n + sg g n
  | 0 => by simp only [sg]; grind
  | n + 1 => by rw [sg, sg, sg, sg_add f g n]; grind
theorem sg_mul (a : K) (f : Nat → K) : ∀ n : Nat, sg (fun i => a * f i) n = a * sg f n
  | 0 => by simp only [sg]; grind
  | n + 1 => by rw [sg, sg, sg_mul a f n]; grind
theorem sg_zero : ∀ {n : Nat} {f : Nat → K}, (∀ i, i < n → f i = 0) → sg f n = 0
  | 0, _, _ => rfl
  | n + 1, f, h => by rw [sg, sg_zero fun i hi => h i (by omega), h n (by omega)]; grind
theorem sg_one : ∀ {n k : Nat} {f : Nat → K}, k < n → (∀ i, i < n → i ≠ k → f i = 0) → sg f n = f k
  | 0, k, f, hk, _ => by omega
  | n + 1, k, f, hk, h => by
    rw [sg]
    by_cases e : k = n
    · subst e; rw [sg_zero fun i hi => h i (by omega) (by omega)]; grind
    · rw [sg_one (k := k) (by omega) fun i hi hn => h i (by omega) hn, h n (by omega) (by omega)]; grind
def Sp (n m : Nat) (A : Nat → Nat → K) (v : Nat → K) : Prop := ∃ x : Nat → K, ∀ j, j < m → v j = sg (fun i => x i * A i j) n
variable {n m n' : Nat} {A B : Nat → Nat → K} {u v : Nat → K}
theorem Sp.row {i : Nat} (hi : i < n) : Sp n m A (A i) := ⟨fun k => if k = i then 1 else 0, fun j _ => by
  rw [sg_one (k := i) hi fun k _ hk => by dsimp only; rw [if_neg hk]; grind]
  dsimp only
  rw [if_pos rfl]; grind⟩
theorem Sp.zero (h : ∀ j, j < m → v j = 0) : Sp n m A v := ⟨fun _ => 0, fun j hj => by
  rw [h j hj, sg_zero]; intro i _; grind⟩
theorem Sp.add (h : Sp n m A u) (k : Sp n m A v) : Sp n m A (fun j => u j + v j) := by
  obtain ⟨x, hx⟩ := h
  obtain ⟨y, hy⟩ := k
  refine ⟨fun i => x i + y i, fun j hj => ?_⟩
  dsimp only
  rw [hx j hj, hy j hj, ← sg_add]
  exact sg_congr fun i _ => by grind
theorem Sp.smul (a : K) (h : Sp n m A u) : Sp n m A (fun j => a * u j) := by
  obtain ⟨x, hx⟩ := h
  refine ⟨fun i => a * x i, fun j hj => ?_⟩
  dsimp only
  rw [hx j hj, ← sg_mul]
  exact sg_congr fun i _ => by grind
theorem Sp.congr (h : Sp n m A u) (e : ∀ j, j < m → v j = u j) : Sp n m A v := by
  obtain ⟨x, hx⟩ := h
  exact ⟨x, fun j hj => (e j hj).trans (hx j hj)⟩
theorem Sp.sum {f : Nat → Nat → K} : ∀ {k : Nat}, (∀ i, i < k → Sp n m A (f i)) → Sp n m A (fun j => sg (fun i => f i j) k)
  | 0, _ => Sp.zero fun _ _ => rfl
  | k + 1, h => (Sp.add (Sp.sum fun i hi => h i (by omega)) (h k (by omega))).congr fun _ _ => rfl
theorem Sp.trans (h : ∀ i, i < n' → Sp n m A (B i)) (hv : Sp n' m B v) : Sp n m A v := by
  obtain ⟨y, hy⟩ := hv
  exact (Sp.sum (f := fun i j => y i * B i j) fun i hi => (h i hi).smul (y i)).congr hy
theorem Sp.cut {m' : Nat} (h : Sp n m A v) (hm : m' ≤ m) : Sp n m' A v := by
  obtain ⟨x, hx⟩ := h
  exact ⟨x, fun j hj => hx j (by omega)⟩
variable {r r' : Nat} {R R' : Nat → Nat → K} {c c' : Nat → Nat}
end lin
end Go.Proofs.YtphilljhfdlfdaaGreat
namespace Go.Proofs.YtphilljhfdlfdaaGreat
section lin
variable {K : Type} [Lean.Grind.CommRing K]
variable {n w c k : Nat} {A0 A : Nat → Nat → K} {pv : Nat → Nat}
variable {cols : Nat}
variable {M : Nat → Nat → K}
end lin
end Go.Proofs.YtphilljhfdlfdaaGreat
namespace Go.Proofs.YtphilljhfdlfdaaGreat
section fz
variable {p : Nat} [NeZero p]
def fz (p : Nat) [NeZero p] (x : Nat) : Fin p := Fin.ofNat p x
end fz
def ent (M : List (List Nat)) (i j : Nat) : Nat := (M.getD i []).getD j 0
section mv
variable {p n w : Nat} {M : List (List Nat)}
theorem getD_mem {α : Type} {l : List α} {i : Nat} {d : α} (h : i < l.length) : l.getD i d ∈ l := by
  rw [List.getD_eq_getElem?_getD, zlb h]; exact List.getElem_mem h
theorem getD_set {α : Type} {l : List α} {i k : Nat} {x d : α} (hk : k < l.length) : (l.set k x).getD i d = if i = k then x else l.getD i d := by
  rw [List.getD_eq_getElem?_getD, List.getElem?_set, List.getD_eq_getElem?_getD]
  by_cases e : k = i
  · subst e; rw [if_pos rfl, if_pos rfl, if_pos hk]; rfl
  · rw [if_neg e, if_neg fun e' => e e'.symm]
end mv
section rows
variable {p w : Nat} {a b : List Nat}
end rows
section step
variable {p n w k q c h : Nat} {M : List (List Nat)} {rk : List Nat}
variable [NeZero p]
def fM (p : Nat) [NeZero p] (M : List (List Nat)) (i j : Nat) : Fin p := fz p (ent M i j)
end step
def Same (p w : Nat) [NeZero p] (M R : List (List Nat)) : Prop := (∀ i, i < M.length → Sp R.length w (fM p R) (fM p M i)) ∧ ∀ i, i < R.length → Sp M.length w (fM p M) (fM p R i)
section form
variable {p n w : Nat} {M R R' : List (List Nat)} {pv pv' : List Nat} [NeZero p]
theorem Same.refl : Same p w M M := ⟨fun _ hi => Sp.row hi, fun _ hi => Sp.row hi⟩
theorem Same.symm (h : Same p w M R) : Same p w R M := ⟨h.2, h.1⟩
theorem Same.trans (h : Same p w M R) (h' : Same p w R R') : Same p w M R' := ⟨fun i hi => Sp.trans h'.1 (h.1 i hi), fun i hi => Sp.trans h.2 (h'.2 i hi)⟩
end form
end Go.Proofs.YtphilljhfdlfdaaGreat
namespace Go.Proofs.YtphilljhfdlfdaaGreat
section widen
variable {p n w : Nat} {M : List (List Nat)}
variable [NeZero p]
end widen
section left
variable {p n w : Nat} {M L L' : List (List Nat)} [NeZero p]
end left
section left2
variable {p n w : Nat} {M : List (List Nat)} [NeZero p]
end left2
section solv
variable {p n w : Nat} {M : List (List Nat)} {b : List Nat} [NeZero p]
def fR (p : Nat) [NeZero p] (r : List Nat) (j : Nat) : Fin p := fz p (r.getD j 0)
end solv
section turn
variable {p n w : Nat} {M : List (List Nat)}
variable [NeZero p]
end turn
end Go.Proofs.YtphilljhfdlfdaaGreat
namespace Go.Proofs.YtphilljhfdlfdaaGreat
open Go.ChangeShapes Go.WideShapes Go.ChangeAt Go.RowKit
section
variable {H : Type} {enc : TypeId × Value → H} {P : Program} {W W' : World}
theorem trodAll_below (hl : laidOutB P = true) (hb : Below W.heap.size W W') : ∀ {ts : List TypeId} {vs : List Value} {ds : List (DataW H)} {ps : List MemPlace}, (ts.all fun t => P.readableRec t && decide (t < P.types.size)) = true → (∀ x ∈ ps, x.block < W.heap.size) →
    DataW.TrodAll enc P W 0 (fun _ => true) true ts vs ds ps → DataW.TrodAll enc P W' 0 (fun b => decide (b < W.heap.size)) true ts vs ds ps
  | [], vs, ds, ps, _, _, h => by obtain ⟨rfl, rfl, rfl⟩ := trodAll_nil h; exact trodAll_mk0
  | t :: ts, vs, ds, ps, hr, hlt, h => by
    obtain ⟨v, vs', d, ds', p, q, rfl, rfl, rfl, h1, h2⟩ := trodAll_cons h
    simp only [List.all_cons, Bool.and_eq_true, decide_eq_true_eq] at hr
    exact trodAll_cons_mk (Below.trod hl hr.1.1 hr.1.2 h1 hb fun x hx => hlt x (List.mem_append.2 (.inl hx))) (trodAll_below hl hb hr.2 (fun x hx => hlt x (List.mem_append.2 (.inr hx))) h2)
theorem law_post {f : Func} {s : ChangeSpec} {args : Array Value} {ds gs : List (DataW H)} {before : List MemPlace} {tb : TypeId} (hl : laidOutB P = true) (hr : (f.params.toList.all fun t => P.readableRec t && decide (t < P.types.size)) = true) (hres : f.resultTypes = #[tb])
    (htb : P.underlying tb = some .bool) (hvars : s.vars = []) (hs : s.fn H ds = { results := [.lit (.bool true)], args := ds }) (hW : DataW.Whole enc P f.params.toList s.vars false W args.toList ds gs before) (hb : Below W.heap.size W W') :
    s.post enc P f false true false false W args (.bool true) W' := by
  have hW' := hW
  obtain ⟨p, q, hA, hV, rfl, hz, hn⟩ := hW
  have hlt := hW'.lt
  rw [hvars] at hV
  obtain ⟨rfl, rfl⟩ := trodVars_none hV
  have e : s.fn H (ds ++ []) = { results := [.lit (.bool true)], args := ds } := by rw [List.append_nil]; exact hs
  refine ⟨ds, [], p ++ [], [], p, [], hW', ?_, ?_, ?_, hb.frame _, fun h => by cases h⟩
  · rw [e, hres]; exact trodAll_mk1 (shut_bool htb true)
  · rw [e]; exact trodAll_below hl hb hr (fun x hx => hlt x (List.mem_append.2 (.inl hx))) hA
  · rw [e, hvars]; exact rfl
theorem Rc.sc (S : Nat → Prop) (w : World) (v : Value) : Rc S w (.sc v) v := R.sc v
theorem Rc.scs (S : Nat → Prop) (w : World) (l : List Value) : Rc S w (.ag (l.map .sc)) (.agg l.toArray) :=
  R.ag (by simp) fun i x u hx hu => by
    rw [List.getElem?_map] at hx
    rw [List.getElem?_toArray] at hu
    rw [hu] at hx
    cases hx; exact .sc _
theorem AllC.nil (S : Nat → Prop) (w : World) : AllC S w [] [] := ⟨rfl, fun i x u hx => by simp at hx⟩
theorem AllC.cons {S : Nat → Prop} {w : World} {x : V} {v : Value} {xs : List V} {vs : List Value} (h : Rc S w x v) (k : AllC S w xs vs) : AllC S w (x :: xs) (v :: vs) :=
  ⟨by simp [k.1], fun i y u hy hu => by
    cases i with
    | zero => simp at hy hu; subst hy; subst hu; exact h
    | succ i => simp at hy hu; exact k.2 i y u hy hu⟩
theorem Spec.law {f : Nat} {xs : List V} {args : Array Value} (h : Spec P f xs (.sc (.bool true))) (ht : TabOK (fun b => b < W.heap.size) W) (ha : AllC (fun b => b < W.heap.size) W xs args.toList) : Calls P f args W fun e W' => e = .returned (.bool true) ∧ Below W.heap.size W W' := by
  refine (h _ W args (fun _ h => h) ht ha).mono ?_
  rintro e W' ⟨v, rfl, hg, hx⟩
  have : v = .bool true := by
    generalize hq : V.sc (.bool true) = q at hx
    cases hx <;> cases hq
    rfl
  exact ⟨by rw [this], hg.os, hg.tape, hg.output, hg.size, hg.block⟩
theorem u8_wf (n : Int) (h : (Lit.int .u8 n).wf = true) : 0 ≤ n ∧ n ≤ (255 : Nat) := by
  have h1 : IntKind.u8.min = 0 := rfl
  have h2 : IntKind.u8.max = 255 := rfl
  simp [Lit.wf] at h
  omega
theorem u32_wf (n : Int) (h : (Lit.int .u32 n).wf = true) : 0 ≤ n ∧ n ≤ (4294967295 : Nat) := by
  have h1 : IntKind.u32.min = 0 := rfl
  have h2 : IntKind.u32.max = 4294967295 := rfl
  simp [Lit.wf] at h
  omega
end
end Go.Proofs.YtphilljhfdlfdaaGreat
namespace Go.Proofs.YtphilljhfdlfdaaGreat
open Go.ChangeShapes Go.WideShapes Go.ChangeAt Go.RowKit
inductive Shp where
  | int (k : IntKind) | bool | str
  | arr (n : Nat) (s : Shp)
  | slc (s : Shp)
  | st (l : List Shp)
mutual
/-- the cells of a value of the shape, as trees -/
def Shp.Rep : Shp → List V → Prop
  | .int k, ys => ∃ n : Int, ys = [.sc (.int k n)] ∧ (Lit.int k n).wf = true
  | .bool, ys => ∃ b, ys = [.sc (.bool b)]
  | .str, ys => ∃ s : ByteArray, ys = [.sc (.string s)] ∧ s.size ≤ maxLen
  | .arr n s, ys => ∃ yss : List (List V), yss.length = n ∧ ys = yss.flatten ∧ ∀ z ∈ yss, s.Rep z
  | .slc s, ys => ∃ yss : List (List V), yss.length ≤ maxLen ∧ ys = [.im yss.flatten yss.length] ∧ ∀ z ∈ yss, s.Rep z
  | .st l, ys => Shp.Reps l ys
def Shp.Reps : List Shp → List V → Prop
  | [], ys => ys = []
  | s :: r, ys => ∃ a b, ys = a ++ b ∧ s.Rep a ∧ Shp.Reps r b
end
mutual
/-- the type has the shape -/
def Shp.ok (P : Program) : Shp → TypeId → Bool
  | .int k, t => match P.underlying t with
    | some (.int k') => k' == k && P.cellsOf t == 1
    | _ => false
  | .bool, t => match P.underlying t with
    | some .bool => P.cellsOf t == 1
    | _ => false
  | .str, t => match P.underlying t with
    | some .string => P.cellsOf t == 1
    | _ => false
  | .arr n s, t => match P.underlying t with
    | some (.array m e) => m == n && s.ok P e && P.cellsOf t == n * P.cellsOf e
    | _ => false
  | .slc s, t => match P.underlying t with
    | some (.slice e) => s.ok P e && P.cellsOf t == 1
    | _ => false
  | .st l, t => match P.underlying t with
    | some (.struct fs) => Shp.oks P l fs.toList 0 (P.cellsOf t)
    | _ => false
def Shp.oks (P : Program) : List Shp → List Field → Nat → Nat → Bool
  | [], fs, off, n => fs.isEmpty && off == n
  | s :: r, fs, off, n => match fs with
    | f :: fs => f.offset == off && s.ok P f.type && Shp.oks P r fs (off + P.cellsOf f.type) n
    | [] => false
end
section
variable {S : Nat → Prop} {w : World}
theorem AllC.append {xs ys : List V} {vs us : List Value} (h : AllC S w xs vs) (k : AllC S w ys us) : AllC S w (xs ++ ys) (vs ++ us) := by
  refine ⟨by simp [h.1, k.1], fun i x u hx hu => ?_⟩
  have hl := h.1
  rw [List.getElem?_append] at hx hu
  by_cases hi : i < xs.length
  · rw [if_pos hi] at hx; rw [if_pos (by omega)] at hu
    exact h.2 i x u hx hu
  · rw [if_neg hi] at hx; rw [if_neg (by omega), ← hl] at hu
    exact k.2 _ x u hx hu
theorem AllC.rows {Q : List V → Prop} {sz : Nat} : ∀ (n : Nat) (cs : List Value), cs.length = n * sz → (∀ i, i < n → ∃ ys, Q ys ∧ AllC S w ys ((cs.drop (i * sz)).take sz)) → ∃ yss : List (List V), yss.length = n ∧ (∀ z ∈ yss, Q z) ∧ AllC S w yss.flatten cs
  | 0, cs, hl, _ => by
    have : cs = [] := List.eq_nil_of_length_eq_zero (by simpa using hl)
    subst this
    exact ⟨[], rfl, fun z hz => by simp at hz, AllC.nil _ _⟩
  | n + 1, cs, hl, h => by
    obtain ⟨ys, hq, ha⟩ := h 0 (by omega)
    rw [Nat.zero_mul, zl2] at ha
    have hl' : cs.length = n * sz + sz := by rw [hl, Nat.add_mul, zna]
    obtain ⟨yss, h1, h2, h3⟩ := AllC.rows (Q := Q) (sz := sz) n (cs.drop sz) (by simp [hl']) fun i hi => by
      obtain ⟨zs, hz, hb⟩ := h (i + 1) (by omega)
      refine ⟨zs, hz, ?_⟩
      rwa [List.drop_drop, show sz + i * sz = (i + 1) * sz by rw [Nat.add_mul]; omega]
    refine ⟨ys :: yss, by simp [h1], fun z hz => ?_, ?_⟩
    · rcases List.mem_cons.1 hz with rfl | hz
      · exact hq
      · exact h2 z hz
    · have := ha.append h3
      rwa [List.take_append_drop] at this
end
theorem addr_add (a : Addr) (i j : Nat) : (a.add i).add j = a.add (i + j) := by
  unfold Addr.add
  by_cases hj : j = 0
  · subst hj; simp
  · by_cases hi : i = 0
    · subst hi; simp
    · rw [if_neg hj, if_neg hi, if_neg (by omega)]; simp; omega
section
variable {H : Type} {enc : TypeId × Value → H} {P : Program} {w : World} {base : Nat} {sp : Nat → Bool} {held : Bool}
mutual
theorem open_rep : ∀ (s : Shp) {t : TypeId} {fuel : Nat} {cs : List Value} {x : DataW H × List MemPlace}, s.ok P t = true → DataW.trod enc P w base sp held fuel t cs = some x → cs.length = P.cellsOf t ∧ ∃ ys, s.Rep ys ∧ AllC (fun b => b < w.heap.size) w ys cs
  | .int k, t, fuel, cs, x, ho, h => by
    simp only [Shp.ok] at ho
    split at ho
    · rename_i k' hu
      simp only [Bool.and_eq_true, beq_iff_eq] at ho
      obtain ⟨rfl, hc⟩ := ho
      obtain ⟨n, rfl, _, hw⟩ := DataW.trod_int hu h
      exact ⟨hc.symm, _, ⟨n, rfl, hw⟩, AllC.cons (Rc.sc _ _ _) (AllC.nil _ _)⟩
    · cases ho
  | .bool, t, fuel, cs, x, ho, h => by
    simp only [Shp.ok] at ho
    split at ho
    · rename_i hu
      simp only [beq_iff_eq] at ho
      obtain ⟨n, rfl, _⟩ := DataW.trod_bool hu h
      exact ⟨ho.symm, _, ⟨n, rfl⟩, AllC.cons (Rc.sc _ _ _) (AllC.nil _ _)⟩
    · cases ho
  | .str, t, fuel, cs, x, ho, h => by
    simp only [Shp.ok] at ho
    split at ho
    · rename_i hu
      simp only [beq_iff_eq] at ho
      obtain ⟨n, rfl, _, hl⟩ := DataW.trod_string hu h
      exact ⟨ho.symm, _, ⟨n, rfl, hl⟩, AllC.cons (Rc.sc _ _ _) (AllC.nil _ _)⟩
    · cases ho
  | .arr n s, t, fuel, cs, x, ho, h => by
    simp only [Shp.ok] at ho
    split at ho
    · rename_i m e hu
      simp only [Bool.and_eq_true, beq_iff_eq] at ho
      obtain ⟨⟨rfl, ho⟩, hc⟩ := ho
      obtain ⟨xs, q, _, _, hl, hn, hel⟩ := DataW.trod_array hu h
      refine ⟨hl, ?_⟩
      obtain ⟨yss, h1, h2, h3⟩ := AllC.rows (S := fun b => b < w.heap.size) (w := w) (Q := s.Rep) m cs (by rw [hl, hc]) fun i hi => by
        have := hel i hi
        rw [zlb (by omega)] at this
        exact (open_rep s ho this).2
      exact ⟨_, ⟨yss, h1, rfl, h2⟩, h3⟩
    · cases ho
  | .slc s, t, fuel, cs, x, ho, h => by
    simp only [Shp.ok] at ho
    split at ho
    · rename_i e hu
      simp only [Bool.and_eq_true, beq_iff_eq] at ho
      obtain ⟨ho, hc⟩ := ho
      rcases DataW.trod_slice hu h with ⟨rfl, _⟩ | ⟨a, len, cap, elems, rest, n, _, rfl, _, hb, hl, hm, hlen, hel, _, _⟩
      · exact ⟨hc.symm, _, ⟨[], by simp, rfl, fun z hz => by simp at hz⟩, AllC.cons (.im0 (znb _) (by unfold maxLen; omega) (fun _ => rfl)) (AllC.nil _ _)⟩
      · refine ⟨hc.symm, ?_⟩
        obtain ⟨f, hf⟩ : ∃ f : Nat → Value, f = fun i => (w.cell? (a.add i)).getD undef := ⟨_, rfl⟩
        have each : ∀ i, i < len → w.cells? base (a.add (i * P.cellsOf e)) (P.cellsOf e) = some ((((List.range (len * P.cellsOf e)).map f).drop (i * P.cellsOf e)).take (P.cellsOf e)) ∧ ∃ y, DataW.trod enc P w base sp held n e ((((List.range (len * P.cellsOf e)).map f).drop (i * P.cellsOf e)).take (P.cellsOf e)) = some y := by
          intro i hi
          have h1 := hel i hi
          rw [zlb (by omega), Option.bind_eq_some_iff] at h1
          obtain ⟨cs', h2, h3⟩ := h1
          obtain ⟨_, h4, h5⟩ := World.cells?_some h2
          have hle : i * P.cellsOf e + P.cellsOf e ≤ len * P.cellsOf e := by
            have := Nat.mul_le_mul_right (P.cellsOf e) (show i + 1 ≤ len by omega)
            rwa [Nat.add_mul, zna] at this
          have he : cs' = (((List.range (len * P.cellsOf e)).map f).drop (i * P.cellsOf e)).take (P.cellsOf e) := by
            refine List.ext_getElem? fun j => ?_
            rw [List.getElem?_take]
            split
            · rename_i hj
              have h6 := h5 j hj
              rw [addr_add] at h6
              rw [zl5, List.getElem?_map, List.getElem?_range (by omega), Option.map_some, hf]
              simp only
              rw [h6, zlb (by omega)]; rfl
            · rw [List.getElem?_eq_none (by omega)]
          rw [← he]
          exact ⟨h2, _, h3⟩
        obtain ⟨yss, h1, h2, h3⟩ := AllC.rows (S := fun b => b < w.heap.size) (w := w) (Q := s.Rep) (sz := P.cellsOf e) len ((List.range (len * P.cellsOf e)).map f) (by simp) fun i hi => by
          obtain ⟨_, y, hy⟩ := each i hi
          exact (open_rep s ho hy).2
        refine ⟨_, ⟨yss, by omega, rfl, h2⟩, AllC.cons ?_ (AllC.nil _ _)⟩
        rw [h1]
        by_cases h0 : yss.flatten = []
        · rw [h0]; exact .im0 hl hm (fun h => by cases h)
        · have hpos : 0 < len * P.cellsOf e := by
            have h4 := h3.1
            simp only [List.length_map, List.length_range] at h4
            rw [← h4]
            exact List.length_pos_iff.2 h0
          have cell : ∀ i, i < len * P.cellsOf e → w.cell? (a.add i) = some (f i) := by
            intro i hi
            have hsz : 0 < P.cellsOf e := Nat.pos_of_ne_zero fun h => by rw [h, Nat.mul_zero] at hpos; omega
            have hd : i / P.cellsOf e < len := (Nat.div_lt_iff_lt_mul hsz).2 hi
            obtain ⟨h4, _⟩ := each (i / P.cellsOf e) hd
            obtain ⟨_, _, h5⟩ := World.cells?_some h4
            have h6 := h5 (i % P.cellsOf e) (Nat.mod_lt _ hsz)
            rw [addr_add, Nat.mul_comm, Nat.div_add_mod, List.getElem?_take, if_pos (Nat.mod_lt _ hsz), zl5, Nat.mul_comm, Nat.mul_comm, List.getElem?_map] at h6
            rw [h6, Nat.div_add_mod, List.getElem?_range hi]; rfl
          have c0 := cell 0 hpos
          rw [show a.add 0 = a by simp [Addr.add]] at c0
          obtain ⟨b, off, spot⟩ := a
          have hsp : spot = none := by
            cases spot with
            | none => rfl
            | some _ =>
              simp only [World.cell?] at c0
              split at c0
              · simp at c0
              · cases c0
          subst hsp
          have hbl : b < w.heap.size := by
            simp only [World.cell?] at c0
            split at c0
            · rename_i hb'; exact (Array.getElem?_eq_some_iff.1 hb').1
            · cases c0
          refine .im1 f hl hm hbl (fun i x hx => ?_) (fun i x hx => ?_)
          · have hi : i < len * P.cellsOf e := by
              have := (List.getElem?_eq_some_iff.1 hx).1
              have h4 := h3.1
              simp only [List.length_map, List.length_range] at h4
              omega
            have := cell i hi
            unfold Addr.add at this
            split at this
            · rename_i hi0; subst hi0; exact this
            · exact this
          · have hi : i < len * P.cellsOf e := by
              have := (List.getElem?_eq_some_iff.1 hx).1
              have h4 := h3.1
              simp only [List.length_map, List.length_range] at h4
              omega
            exact h3.2 i x (f i) hx (by rw [List.getElem?_map, List.getElem?_range hi]; rfl)
    · cases ho
  | .st l, t, fuel, cs, x, ho, h => by
    simp only [Shp.ok] at ho
    split at ho
    · rename_i fs hu
      obtain ⟨xs, n, _, _, hl, hn, hel⟩ := DataW.trod_struct hu h
      refine ⟨hl, ?_⟩
      obtain ⟨ys, h1, h2⟩ := open_reps l (fs := fs.toList) (off := 0) (cs := cs) (n := n) (m := P.cellsOf t) ho hl (fun i f hf => by
        have := hel i f (by simpa using hf)
        have hi := (List.getElem?_eq_some_iff.1 hf).1
        rw [zlb (by rw [hn]; simpa using hi)] at this
        exact ⟨_, this⟩)
      rw [zl2] at h2
      exact ⟨ys, h1, h2⟩
    · cases ho
theorem open_reps : ∀ (l : List Shp) {fs : List Field} {off n m : Nat} {cs : List Value}, Shp.oks P l fs off m = true → cs.length = m → (∀ (i : Nat) (f : Field), fs[i]? = some f → ∃ x : DataW H × List MemPlace, DataW.trod enc P w base sp held n f.type ((cs.drop f.offset).take (P.cellsOf f.type)) = some x) →
    ∃ ys, Shp.Reps l ys ∧ AllC (fun b => b < w.heap.size) w ys (cs.drop off)
  | [], fs, off, n, m, cs, ho, hl, h => by
    simp only [Shp.oks, Bool.and_eq_true, beq_iff_eq] at ho
    refine ⟨[], rfl, ?_⟩
    rw [List.drop_of_length_le (by omega)]
    exact AllC.nil _ _
  | s :: r, [], off, n, m, cs, ho, hl, h => by simp [Shp.oks] at ho
  | s :: r, f :: fs, off, n, m, cs, ho, hl, h => by
    simp only [Shp.oks, Bool.and_eq_true, beq_iff_eq] at ho
    obtain ⟨⟨h1, h2⟩, h3⟩ := ho
    obtain ⟨x, hx⟩ := h 0 f rfl
    obtain ⟨hlen, ys, h4, h5⟩ := open_rep s h2 hx
    obtain ⟨zs, h6, h7⟩ := open_reps r h3 hl fun i g hg => h (i + 1) g (by simpa using hg)
    refine ⟨ys ++ zs, ⟨ys, zs, rfl, h4, h6⟩, ?_⟩
    have := h5.append h7
    rwa [h1, ← List.drop_drop, List.take_append_drop] at this
end
def Shp.Val : Shp → V → Prop
  | .arr n s, x => ∃ ys, x = .ag ys ∧ (Shp.arr n s).Rep ys
  | .st l, x => ∃ ys, x = .ag ys ∧ Shp.Reps l ys
  | .int k, x => ∃ n : Int, x = .sc (.int k n) ∧ (Lit.int k n).wf = true
  | .bool, x => ∃ b, x = .sc (.bool b)
  | .str, x => ∃ s : ByteArray, x = .sc (.string s) ∧ s.size ≤ maxLen
  | .slc s, x => ∃ yss : List (List V), yss.length ≤ maxLen ∧ x = .im yss.flatten yss.length ∧ ∀ z ∈ yss, s.Rep z
def Shp.Vals : List Shp → List V → Prop
  | [], xs => xs = []
  | s :: r, xs => ∃ x ys, xs = x :: ys ∧ s.Val x ∧ Shp.Vals r ys
theorem rc_agg {S : Nat → Prop} {ys : List V} {cs : Array Value} (h : AllC S w ys cs.toList) : Rc S w (.ag ys) (.agg cs) :=
  .ag (by have := h.1; simpa using this) fun i x u hx hu => h.2 i x u hx (by simpa using hu)
theorem open_arg (s : Shp) {t : TypeId} {v : Value} {d : DataW H} {ps : List MemPlace} (ho : s.ok P t = true) (hval : Value.okWide P w .any 0 t v) (hd : DataW.Trod enc P w 0 (fun _ => true) true t v d ps) : ∃ x, s.Val x ∧ Rc (fun b => b < w.heap.size) w x v := by
  obtain ⟨fuel, hf⟩ := hd
  obtain ⟨_, ys, h1, h2⟩ := open_rep s ho hf
  have one : ∀ {y : V}, (∀ cs, v ≠ .agg cs) → ys = [y] → Rc (fun b => b < w.heap.size) w y v := by
    intro y hv e
    subst e
    have hc : v.cells.toList = [v] := by cases v <;> first | rfl | exact absurd rfl (hv _)
    rw [hc] at h2
    exact h2.2 0 y v rfl rfl
  cases s with
  | int k =>
    obtain ⟨n, rfl, hw⟩ := h1
    simp only [Shp.ok] at ho
    split at ho
    · rename_i hu
      obtain ⟨m, rfl⟩ := okWide_int hu hval
      exact ⟨_, ⟨n, rfl, hw⟩, one (fun cs e => by cases e) rfl⟩
    · cases ho
  | bool =>
    obtain ⟨b, rfl⟩ := h1
    simp only [Shp.ok] at ho
    split at ho
    · rename_i hu
      obtain ⟨m, rfl⟩ := okWide_bool hu hval
      exact ⟨_, ⟨b, rfl⟩, one (fun cs e => by cases e) rfl⟩
    · cases ho
  | str =>
    obtain ⟨b, rfl, hl⟩ := h1
    simp only [Shp.ok] at ho
    split at ho
    · rename_i hu
      refine ⟨_, ⟨b, rfl, hl⟩, one (fun cs e => ?_) rfl⟩
      subst e
      simp [Value.okWide, Cell.okWide, Cell.ok, hu] at hval
    · cases ho
  | slc s =>
    obtain ⟨yss, h3, rfl, h4⟩ := h1
    simp only [Shp.ok] at ho
    split at ho
    · rename_i hu
      refine ⟨_, ⟨yss, h3, rfl, h4⟩, one (fun cs e => ?_) rfl⟩
      subst e
      simp [Value.okWide, Cell.okWide, Cell.ok, hu] at hval
    · cases ho
  | arr n s =>
    have ho' := ho
    simp only [Shp.ok] at ho
    split at ho
    · rename_i hu
      obtain ⟨cs, rfl, _⟩ : ∃ cs, v = .agg cs ∧ cs.size = P.cellsOf t ∧ Row.okWide P w .any 0 t cs := by simpa [Value.okWide, hu] using hval
      exact ⟨_, ⟨ys, rfl, h1⟩, rc_agg h2⟩
    · cases ho
  | st l =>
    simp only [Shp.ok] at ho
    split at ho
    · rename_i hu
      obtain ⟨cs, rfl, _⟩ : ∃ cs, v = .agg cs ∧ cs.size = P.cellsOf t ∧ Row.okWide P w .any 0 t cs := by simpa [Value.okWide, hu] using hval
      exact ⟨_, ⟨ys, rfl, h1⟩, rc_agg h2⟩
    · cases ho
def Shp.okL (P : Program) : List Shp → List TypeId → Bool
  | [], [] => true
  | s :: r, t :: ts => s.ok P t && Shp.okL P r ts
  | _, _ => false
theorem open_args : ∀ (ss : List Shp) {ts : List TypeId} {vs : List Value} {ds : List (DataW H)} {ps : List MemPlace}, Shp.okL P ss ts = true → (∀ (j : Nat) t v, ts[j]? = some t → vs[j]? = some v → Value.okWide P w .any 0 t v) → DataW.TrodAll enc P w 0 (fun _ => true) true ts vs ds ps →
    ∃ xs, Shp.Vals ss xs ∧ AllC (fun b => b < w.heap.size) w xs vs ∧ ds.length = ts.length
  | [], [], vs, ds, ps, _, _, h => by obtain ⟨rfl, rfl, rfl⟩ := trodAll_nil h; exact ⟨[], rfl, AllC.nil _ _, rfl⟩
  | [], t :: ts, _, _, _, ho, _, _ => by cases ho
  | s :: r, [], _, _, _, ho, _, _ => by cases ho
  | s :: r, t :: ts, vs, ds, ps, ho, hv, h => by
    simp only [Shp.okL, Bool.and_eq_true] at ho
    obtain ⟨v, vs', d, ds', p, q, rfl, rfl, rfl, h1, h2⟩ := trodAll_cons h
    obtain ⟨x, h3, h4⟩ := open_arg s ho.1 (hv 0 t v rfl rfl) h1
    obtain ⟨xs, h5, h6, h7⟩ := open_args r ho.2 (fun j t v a b => hv (j + 1) t v (by simpa using a) (by simpa using b)) h2
    exact ⟨x :: xs, ⟨x, xs, rfl, h3, h5⟩, AllC.cons h4 h6, by simp [h7]⟩
theorem law_calls {f : Nat} {fn : Func} (ss : List Shp) {args : Array Value} {ds : List (DataW H)} {p : List MemPlace} (hok : Shp.okL P ss fn.params.toList = true)
    (hval : ∀ (j : Nat) t v, fn.params[j]? = some t → args[j]? = some v → Value.okWide P w .any 0 t v) (hA : DataW.TrodAll enc P w 0 (fun _ => true) true fn.params.toList args.toList ds p)
    (ht : TabOK (fun b => b < w.heap.size) w) (hs : ∀ xs, Shp.Vals ss xs → Spec P f xs (.sc (.bool true))) : ds.length = fn.params.size ∧ Calls P f args w fun e w' => e = .returned (.bool true) ∧ Below w.heap.size w w' := by
  obtain ⟨xs, h1, h2, h3⟩ := open_args ss hok (fun j t v a b => hval j t v (by simpa using a) (by simpa using b)) hA
  exact ⟨by simpa using h3, Spec.law (hs xs h1) ht h2⟩
theorem reps_ints {k : IntKind} : ∀ {yss : List (List V)}, (∀ z ∈ yss, (Shp.int k).Rep z) → ∃ ns : List Int, yss.flatten = ns.map (fun n => .sc (.int k n)) ∧ ns.length = yss.length ∧ ∀ n ∈ ns, (Lit.int k n).wf = true
  | [], _ => ⟨[], rfl, rfl, fun n hn => by simp at hn⟩
  | y :: r, h => by
    obtain ⟨n, rfl, hw⟩ := h y (by simp)
    obtain ⟨ns, h1, h2, h3⟩ := reps_ints (yss := r) fun z hz => h z (by simp [hz])
    exact ⟨n :: ns, by simp [h1], by simp [h2], fun m hm => by
      rcases List.mem_cons.1 hm with rfl | hm
      · exact hw
      · exact h3 m hm⟩
theorem reps_nats {k : IntKind} {M : Nat} (hk : ∀ n, (Lit.int k n).wf = true → 0 ≤ n ∧ n ≤ M) {yss : List (List V)} (h : ∀ z ∈ yss, (Shp.int k).Rep z) : ∃ ns : List Nat, yss.flatten = ns.map (fun (n : Nat) => .sc (.int k (n : Int))) ∧ ns.length = yss.length ∧ ∀ n ∈ ns, n ≤ M := by
  obtain ⟨ns, h1, h2, h3⟩ := reps_ints h
  refine ⟨ns.map Int.toNat, ?_, by simp [h2], fun n hn => ?_⟩
  · rw [h1, List.map_map]
    refine List.map_congr_left fun n hn => ?_
    have := hk n (h3 n hn)
    simp only [Function.comp, Int.toNat_of_nonneg this.1]
  · obtain ⟨m, hm, rfl⟩ := List.mem_map.1 hn
    have := hk m (h3 m hm)
    omega
theorem wf_nat {k : IntKind} {M : Nat} (hk : ∀ n, (Lit.int k n).wf = true → 0 ≤ n ∧ n ≤ M) {n : Int} (h : (Lit.int k n).wf = true) : ∃ m : Nat, n = m ∧ m ≤ M := by
  obtain ⟨h1, h2⟩ := hk n h
  exact ⟨n.toNat, by omega, by omega⟩
end
end Go.Proofs.YtphilljhfdlfdaaGreat
namespace Go.Proofs.YtphilljhfdlfdaaGreat
open Go.RowKit
end Go.Proofs.YtphilljhfdlfdaaGreat
namespace Go.Proofs.YtphilljhfdlfdaaGreat
open Go.RowKit
def nv (r : List Nat) : List V := r.map fun (n : Nat) => .sc (.int .u64 n)
def nR (M : List (List Nat)) : List (List V) := M.map nv
def mv (w : Nat) (M : List (List Nat)) : V := .im (imR w (nR M)) M.length
theorem imR_clo (w : Nat) (rs : List (List V)) : (imR w rs).all clo = true := by
  rw [zlf]; intro x hx; obtain ⟨n, _, rfl⟩ := List.mem_map.1 hx; rfl
end Go.Proofs.YtphilljhfdlfdaaGreat
namespace Go.Proofs.YtphilljhfdlfdaaGreat
open Go.RowKit
theorem klc {n i : Nat} {k : Blk} {r : List (Nat × Blk)} (h : i < n) (h2 : ∀ id q, hget r id = some q → id < n) : ∀ id q, hget ((i, k) :: r) id = some q → id < n := by
  intro id q hq
  simp only [hget] at hq
  split at hq
  · rename_i e; omega
  · exact h2 id q hq
theorem kln {n : Nat} : ∀ id q, hget [] id = some q → id < n := fun _ _ h => by cases h
end Go.Proofs.YtphilljhfdlfdaaGreat
namespace Go.Proofs.YtphilljhfdlfdaaGreat
open Go.RowKit
structure RowsOk (o : Nat) (ids : List Nat) (n lo hi : Nat) : Prop where
  len : ids.length = n
  nod : ids.Nodup
  lt : ∀ i ∈ ids, lo ≤ i ∧ i < hi
  o1 : lo ≤ o ∧ o < hi
  o2 : o ∉ ids
theorem slR_app (z m : Nat) (a b : List Nat) : slR z m a ++ slR z m b = slR z m (a ++ b) := by simp [slR]
theorem setAll_all (cs xs : List V) : ∀ off, off + xs.length ≤ cs.length → setAll cs off xs = cs.take off ++ xs ++ cs.drop (off + xs.length) := by
  induction xs generalizing cs with
  | nil => intro off h; simp [setAll]
  | cons x r ih =>
    intro off h
    simp only [List.length_cons] at h
    rw [setAll, ih (cs.set off x) (off + 1) (by rw [List.length_set]; omega)]
    have e1 : (cs.set off x).take (off + 1) = cs.take off ++ [x] := by
      rw [List.take_set, List.take_add_one, List.set_append_right _ _ (by simp; omega)]
      have : off < cs.length := by omega
      simp [zlb this, Nat.min_eq_left (by omega : off ≤ cs.length)]
    have e2 : (cs.set off x).drop (off + 1 + r.length) = cs.drop (off + (r.length + 1)) := by
      rw [List.drop_set, if_pos (by omega)]
      congr 1; omega
    rw [e1, e2]; simp
end Go.Proofs.YtphilljhfdlfdaaGreat
namespace Go.Proofs.YtphilljhfdlfdaaGreat
open Go.RowKit
end Go.Proofs.YtphilljhfdlfdaaGreat
namespace Go.Proofs.YtphilljhfdlfdaaGreat
open Go.RowKit
theorem hid {p : Prop} (h : p) : Hid p := h
def Cells (w : World) (v : Value) (xs : List Value) : Prop :=
  ∃ a cap, v = .slice a xs.length cap ∧ xs.length ≤ cap ∧ cap ≤ maxLen ∧ (a = none → cap = 0) ∧
    (xs ≠ [] → ∃ b off, a = some ⟨b, off, none⟩ ∧ b < w.heap.size ∧ ∀ i x, xs[i]? = some x → w.cell? ⟨b, off + i, none⟩ = some x)
def u32s (l : List Nat) : List Value := l.map fun (n : Nat) => Value.int .u32 (n : Int)
@[simp] theorem u32s_length (l : List Nat) : (u32s l).length = l.length := by simp [u32s]
section
variable {P : Program} {ops : Array Oper} {rest : List Oper} {o : Oper} {a : Act} {Q : Exit → Act → World → Prop}
end
end Go.Proofs.YtphilljhfdlfdaaGreat
namespace Go.Proofs.YtphilljhfdlfdaaGreat
def val : List Nat → Nat
  | [] => 0
  | x :: l => x + 4294967296 * val l
def limbs (l : List Nat) : Prop := ∀ x ∈ l, x < 4294967296
theorem limbs_cons {x : Nat} {l : List Nat} (h : limbs (x :: l)) : x < 4294967296 ∧ limbs l := ⟨h x (by simp), fun y hy => h y (by simp [hy])⟩
theorem limbs_getD {l : List Nat} (h : limbs l) (i : Nat) : l.getD i 0 < 4294967296 := by
  rw [List.getD_eq_getElem?_getD]
  by_cases hi : i < l.length
  · simp [hi]; exact h _ (List.getElem_mem hi)
  · simp [hi]
theorem val_append (a b : List Nat) : val (a ++ b) = val a + 4294967296 ^ a.length * val b := by
  induction a with
  | nil => simp [val]
  | cons x a ih => simp only [zl8, val, ih, List.length_cons, Nat.pow_succ]; grind
theorem val_lt {l : List Nat} (h : limbs l) : val l < 4294967296 ^ l.length := by
  induction l with
  | nil => simp [val]
  | cons x l ih =>
    obtain ⟨hx, hl⟩ := limbs_cons h
    have := ih hl
    simp only [val, List.length_cons, Nat.pow_succ]
    omega
theorem val_take_succ {l : List Nat} {k : Nat} (h : k < l.length) : val (l.take (k + 1)) = val (l.take k) + 4294967296 ^ k * l.getD k 0 := by
  rw [List.take_succ_eq_append_getElem h, val_append]
  simp [val, h, Nat.min_eq_left (Nat.le_of_lt h)]
theorem limbs_take {l : List Nat} (h : limbs l) (k : Nat) : limbs (l.take k) := fun x hx => h x (List.mem_of_mem_take hx)
theorem limbs_drop {l : List Nat} (h : limbs l) (k : Nat) : limbs (l.drop k) := fun x hx => h x (List.mem_of_mem_drop hx)
theorem val_split (l : List Nat) (k : Nat) (h : k ≤ l.length) : val l = val (l.take k) + 4294967296 ^ k * val (l.drop k) := by
  conv => lhs; rw [← List.take_append_drop k l]
  rw [val_append]; simp [Nat.min_eq_left h]
theorem val_lt_step {a b : List Nat} {k : Nat} (ha : limbs a) (hb : limbs b) (hka : k < a.length) (hkb : k < b.length) :
    (a.getD k 0 = b.getD k 0 → (val (a.take (k + 1)) < val (b.take (k + 1)) ↔ val (a.take k) < val (b.take k))) ∧
    (a.getD k 0 ≠ b.getD k 0 → (val (a.take (k + 1)) < val (b.take (k + 1)) ↔ a.getD k 0 < b.getD k 0)) := by
  have h1 := val_lt (limbs_take ha k)
  have h2 := val_lt (limbs_take hb k)
  rw [List.length_take, Nat.min_eq_left (Nat.le_of_lt hka)] at h1
  rw [List.length_take, Nat.min_eq_left (Nat.le_of_lt hkb)] at h2
  rw [val_take_succ hka, val_take_succ hkb]
  generalize val (a.take k) = x at *
  generalize val (b.take k) = y at *
  generalize a.getD k 0 = c
  generalize b.getD k 0 = d
  generalize 4294967296 ^ k = p at *
  refine ⟨fun h => by subst h; omega, fun h => ?_⟩
  rcases Nat.lt_or_gt_of_ne h with h' | h'
  · have : p * (c + 1) ≤ p * d := Nat.mul_le_mul_left _ h'
    rw [Nat.mul_add] at this
    constructor
    · intro _; exact h'
    · intro _; omega
  · have : p * (d + 1) ≤ p * c := Nat.mul_le_mul_left _ h'
    rw [Nat.mul_add] at this
    constructor
    · intro _; omega
    · intro _; omega
def lessL (a b : List Nat) : Bool := if a.length = b.length then decide (val a < val b) else decide (a.length < b.length)
def canon (l : List Nat) : Prop := ∀ h : l ≠ [], l.getLast h ≠ 0
theorem canon_ge {l : List Nat} (h : canon l) (hn : l ≠ []) : 4294967296 ^ (l.length - 1) ≤ val l := by
  have e := List.dropLast_concat_getLast hn
  have h1 := h hn
  conv => rhs; rw [← e]
  rw [val_append]
  simp only [List.length_dropLast, val]
  have : 4294967296 ^ (l.length - 1) * 1 ≤ 4294967296 ^ (l.length - 1) * (l.getLast hn + 4294967296 * 0) := Nat.mul_le_mul_left _ (by omega)
  omega
theorem lessL_eq {a b : List Nat} (ha : limbs a) (hb : limbs b) (ca : canon a) (cb : canon b) : lessL a b = decide (val a < val b) := by
  unfold lessL
  split
  · rfl
  · rename_i hne
    have key : ∀ {a b : List Nat}, limbs a → canon b → a.length < b.length → val a < val b := by
      intro a b ha cb h
      have h1 := val_lt ha
      have h2 := canon_ge cb (by intro e; subst e; simp at h)
      have h3 : 4294967296 ^ a.length ≤ 4294967296 ^ (b.length - 1) := Nat.pow_le_pow_right (by omega) (by omega)
      omega
    rcases Nat.lt_or_gt_of_ne hne with h | h
    · simp [h, key ha cb h]
    · have := key hb ca h
      rw [Bool.eq_iff_iff]; simp; omega
theorem val_inj {a b : List Nat} (ha : limbs a) (hb : limbs b) (h : a.length = b.length) (e : val a = val b) : a = b := by
  induction a generalizing b with
  | nil => cases b with | nil => rfl | cons => simp at h
  | cons x a ih =>
    cases b with
    | nil => simp at h
    | cons y b =>
      obtain ⟨hx, ha⟩ := limbs_cons ha
      obtain ⟨hy, hb⟩ := limbs_cons hb
      simp only [val] at e
      have h1 : x = y := by omega
      have h2 : val a = val b := by omega
      rw [h1, ih ha hb (by simpa using h) h2]
theorem canon_inj {a b : List Nat} (ha : limbs a) (hb : limbs b) (ca : canon a) (cb : canon b) (e : val a = val b) : a = b := by
  have h1 := lessL_eq ha hb ca cb
  have h2 := lessL_eq hb ha cb ca
  unfold lessL at h1 h2
  have hl : a.length = b.length := by
    by_cases hl : a.length = b.length
    · exact hl
    · rw [if_neg hl] at h1
      rw [if_neg (fun h => hl h.symm)] at h2
      simp [e] at h1 h2
      omega
  exact val_inj ha hb hl e
theorem val_take_succ' (l : List Nat) (k : Nat) : val (l.take (k + 1)) = val (l.take k) + 4294967296 ^ k * l.getD k 0 := by
  by_cases h : k < l.length
  · exact val_take_succ h
  · rw [zla (by omega), zla (by omega)]
    simp [List.getD_eq_getElem?_getD, List.getElem?_eq_none (Nat.le_of_not_lt h)]
theorem getD_ge {l : List Nat} {k : Nat} (h : ¬ k < l.length) : l.getD k 0 = 0 := by
  simp [List.getD_eq_getElem?_getD, List.getElem?_eq_none (Nat.le_of_not_lt h)]
theorem limbs_snoc {l : List Nat} (h : limbs l) {x : Nat} (hx : x < 4294967296) : limbs (l ++ [x]) := by
  intro y hy
  rcases List.mem_append.1 hy with hy | hy
  · exact h y hy
  · simp at hy; omega
def plusInv (a b : List Nat) (k c : Nat) (l : List Nat) : Prop := l.length = k ∧ limbs l ∧ val l + 4294967296 ^ k * c = val (a.take k) + val (b.take k)
theorem plusInv.step {a b l : List Nat} {k c : Nat} (h : plusInv a b k c l) (x y : Nat) (hx : a.getD k 0 = x) (hy : b.getD k 0 = y) : plusInv a b (k + 1) ((c + x + y) / 4294967296) (l ++ [(c + x + y) % 4294967296]) := by
  obtain ⟨h1, h2, h3⟩ := h
  refine ⟨by simp [h1], limbs_snoc h2 (by omega), ?_⟩
  rw [val_take_succ', val_take_succ', val_append, hx, hy, h1, Nat.pow_succ]
  simp only [val]
  have hd := Nat.div_add_mod (c + x + y) 4294967296
  generalize 4294967296 ^ k = p at *
  generalize (c + x + y) / 4294967296 = d at *
  generalize (c + x + y) % 4294967296 = m at *
  have : p * (c + x + y) = p * (4294967296 * d + m) := by rw [hd]
  grind
theorem plusInv.done {a b l : List Nat} {k : Nat} (h : plusInv a b k 0 l) (ha : a.length ≤ k) (hb : b.length ≤ k) : val l = val a + val b := by
  obtain ⟨h1, h2, h3⟩ := h
  rw [zla ha, zla hb] at h3
  simpa using h3
theorem val_set {z : List Nat} {j : Nat} (h : j < z.length) (x : Nat) : val (z.set j x) + 4294967296 ^ j * z.getD j 0 = val z + 4294967296 ^ j * x := by
  induction z generalizing j with
  | nil => simp at h
  | cons y z ih =>
    cases j with
    | zero => simp [val]; omega
    | succ j =>
      have := ih (j := j) (by simpa using h)
      simp only [List.set_cons_succ, val, List.getD_cons_succ, Nat.pow_succ] at *
      grind
theorem limbs_set {z : List Nat} (h : limbs z) (j : Nat) {x : Nat} (hx : x < 4294967296) : limbs (z.set j x) := by
  intro y hy
  rcases List.mem_or_eq_of_mem_set hy with hy | rfl
  · exact h y hy
  · exact hx
theorem limbs_replicate (n : Nat) : limbs (List.replicate n 0) := by intro x hx; simp at hx; omega
theorem val_replicate (n : Nat) : val (List.replicate n 0) = 0 := by induction n with | zero => rfl | succ n ih => simp [List.replicate_succ, val, ih]
def mulInv (a b : List Nat) (i k c : Nat) (z : List Nat) : Prop :=
  z.length = a.length + b.length + 1 ∧ limbs z ∧ val z + 4294967296 ^ (i + k) * c = val (a.take i) * val b + 4294967296 ^ i * (a.getD i 0 * val (b.take k))
theorem mulInv.step {a b z : List Nat} {i k c : Nat} (h : mulInv a b i k c z) (hj : i + k < z.length) (x y t : Nat) (hx : a.getD i 0 = x) (hy : b.getD k 0 = y) (ht : z.getD (i + k) 0 = t) :
    mulInv a b i (k + 1) ((c + t + x * y) / 4294967296) (z.set (i + k) ((c + t + x * y) % 4294967296)) := by
  obtain ⟨h1, h2, h3⟩ := h
  refine ⟨by simp [h1], limbs_set h2 _ (by omega), ?_⟩
  have h4 := val_set hj ((c + t + x * y) % 4294967296)
  rw [val_take_succ', hx, hy] at *
  rw [ht] at h4
  have hd := Nat.div_add_mod (c + t + x * y) 4294967296
  rw [show i + (k + 1) = i + k + 1 from rfl, Nat.pow_succ]
  generalize hD : (c + t + x * y) / 4294967296 = d at *
  generalize hM : (c + t + x * y) % 4294967296 = m at *
  generalize val (z.set (i + k) m) = V at *
  have e1 : 4294967296 ^ (i + k) = 4294967296 ^ i * 4294967296 ^ k := Nat.pow_add _ _ _
  generalize 4294967296 ^ (i + k) = p at *
  generalize 4294967296 ^ i = q at *
  generalize 4294967296 ^ k = r at *
  subst e1
  have : q * r * (c + t + x * y) = q * r * (4294967296 * d + m) := by rw [hd]
  grind
theorem mulInv.noCarry {a b z : List Nat} {i c : Nat} (h : mulInv a b i (b.length + 1) c z) (ha : limbs a) (hb : limbs b) (hi : i < a.length) : c = 0 := by
  obtain ⟨h1, h2, h3⟩ := h
  rw [zla (l := b) (by omega)] at h3
  have e : val (a.take (i + 1)) * val b = val (a.take i) * val b + 4294967296 ^ i * (a.getD i 0 * val b) := by
    rw [val_take_succ', Nat.add_mul, Nat.mul_assoc]
  have hA := val_lt (limbs_take ha (i + 1))
  have hB := val_lt hb
  rw [List.length_take, Nat.min_eq_left hi] at hA
  have hP : val (a.take (i + 1)) * val b < 4294967296 ^ (i + (b.length + 1)) := by
    rw [show i + (b.length + 1) = (i + 1) + b.length by omega, Nat.pow_add]
    exact Nat.mul_lt_mul'' hA hB
  rcases Nat.eq_zero_or_pos c with h0 | h0
  · exact h0
  · have : 4294967296 ^ (i + (b.length + 1)) * 1 ≤ 4294967296 ^ (i + (b.length + 1)) * c := Nat.mul_le_mul_left _ h0
    omega
theorem mulInv.row {a b z : List Nat} {i k : Nat} (h : mulInv a b i k 0 z) (hk : b.length ≤ k) : mulInv a b (i + 1) 0 0 z := by
  obtain ⟨h1, h2, h3⟩ := h
  refine ⟨h1, h2, ?_⟩
  rw [zla (l := b) hk, Nat.mul_zero, Nat.add_zero] at h3
  rw [val_take_succ', Nat.add_mul, h3, Nat.mul_zero, zl4, Nat.mul_assoc, show val [] = 0 from rfl, Nat.mul_zero, Nat.mul_zero]
theorem mulInv.done {a b z : List Nat} {i : Nat} (h : mulInv a b i 0 0 z) (hi : a.length ≤ i) : val z = val a * val b := by
  obtain ⟨h1, h2, h3⟩ := h
  rw [zla (l := a) hi, Nat.mul_zero, zl4, show val [] = 0 from rfl, Nat.mul_zero, Nat.mul_zero] at h3
  exact h3
def minusInv (a b : List Nat) (k c : Nat) (l : List Nat) : Prop := l.length = k ∧ limbs l ∧ val l + val (b.take k) = val (a.take k) + 4294967296 ^ k * c
theorem minusInv.step {a b l : List Nat} {k c : Nat} (h : minusInv a b k c l) (x y d c' : Nat) (hx : a.getD k 0 = x) (hy : b.getD k 0 = y) (hd : d < 4294967296) (he : (d : Int) = x - c - y + 4294967296 * c') : minusInv a b (k + 1) c' (l ++ [d]) := by
  obtain ⟨h1, h2, h3⟩ := h
  refine ⟨by simp [h1], limbs_snoc h2 hd, ?_⟩
  rw [val_take_succ', val_take_succ', val_append, hx, hy, h1, Nat.pow_succ]
  simp only [val]
  have he' : d + c + y = x + 4294967296 * c' := by omega
  generalize 4294967296 ^ k = p at *
  have : p * (d + c + y) = p * (x + 4294967296 * c') := by rw [he']
  grind
theorem minusInv.done {a b l : List Nat} {c : Nat} (h : minusInv a b a.length c l) (hc : c ≤ 1) (ha : limbs a) (hb : b.length ≤ a.length) (hab : val b ≤ val a) : val l = val a - val b := by
  obtain ⟨h1, h2, h3⟩ := h
  rw [zla (znb _), zla hb] at h3
  have h4 := val_lt h2
  rw [h1] at h4
  have h5 := val_lt ha
  have : c = 0 := by
    rcases Nat.lt_or_ge c 1 with hh | hh
    · omega
    · have : c = 1 := by omega
      subst this
      omega
  subst this
  omega
def sgn (neg : Bool) (m : Nat) : Int := if neg then -(m : Int) else m
theorem sgn_natAbs (neg : Bool) (m : Nat) : (sgn neg m).natAbs = m := by cases neg <;> simp [sgn]
def Fits (K : Nat) (n : Int) : Prop := n.natAbs < 4294967296 ^ K
theorem Fits.mono {K L : Nat} {n : Int} (h : Fits K n) (hl : K ≤ L) : Fits L n := Nat.lt_of_lt_of_le h (Nat.pow_le_pow_right (by omega) hl)
theorem Fits.neg {K : Nat} {n : Int} (h : Fits K n) : Fits K (-n) := by unfold Fits at *; rwa [Int.natAbs_neg]
theorem Fits.add {K : Nat} {a b : Int} (ha : Fits K a) (hb : Fits K b) : Fits (K + 1) (a + b) := by
  unfold Fits at *; rw [Nat.pow_succ]; generalize 4294967296 ^ K = p at *; omega
theorem Fits.sub {K : Nat} {a b : Int} (ha : Fits K a) (hb : Fits K b) : Fits (K + 1) (a - b) := by
  have := Fits.add ha hb.neg; rwa [← Int.sub_eq_add_neg] at this
theorem Fits.mul {K L : Nat} {a b : Int} (ha : Fits K a) (hb : Fits L b) : Fits (K + L) (a * b) := by
  unfold Fits at *; rw [Int.natAbs_mul, Nat.pow_add]; exact Nat.mul_lt_mul'' ha hb
theorem Fits.of_natAbs_le {K : Nat} {a b : Int} (h : Fits K b) (hl : a.natAbs ≤ b.natAbs) : Fits K a := Nat.lt_of_le_of_lt hl h
theorem fits_one {n : Int} (h : n.natAbs < 4294967296) : Fits 1 n := by simpa [Fits] using h
theorem fits_two {n : Int} (h : n.natAbs < 18446744073709551616) : Fits 2 n := by simpa [Fits] using h
theorem canon_len {l : List Nat} {K : Nat} (hc : canon l) (h : val l < 4294967296 ^ K) : l.length ≤ K := by
  by_cases hn : l = []
  · subst hn; simp
  · have h1 := canon_ge hc hn
    by_cases hk : l.length ≤ K
    · exact hk
    · have h2 : 4294967296 ^ K ≤ 4294967296 ^ (l.length - 1) := Nat.pow_le_pow_right (by omega) (by omega)
      omega
end Go.Proofs.YtphilljhfdlfdaaGreat
namespace Go.Proofs.YtphilljhfdlfdaaGreat
theorem val_two (m : Nat) : val [m % 4294967296, m / 4294967296] = m := by
  simp only [val]; omega
theorem limbs_two (m : Nat) (hm : m < 18446744073709551616) : limbs [m % 4294967296, m / 4294967296] := by
  intro x hx; simp at hx; omega
theorem drop_cons {l : List Nat} {k : Nat} (h : k < l.length) : l.drop k = l.getD k 0 :: l.drop (k + 1) := by
  rw [List.drop_eq_getElem_cons h, List.getD_eq_getElem?_getD, zlb h]; rfl
theorem drop_set_cons {l : List Nat} {k x : Nat} (h : k < l.length) : (l.set k x).drop k = x :: l.drop (k + 1) := by
  rw [List.drop_eq_getElem_cons (by simpa using h)]
  simp [List.drop_set]
def shortInv (a : List Nat) (d k r : Nat) (z : List Nat) : Prop := z.length = a.length ∧ limbs z ∧ r < d ∧ val (a.drop k) = val (z.drop k) * d + r
theorem shortInv.step {a z : List Nat} {d k r x : Nat} (h : shortInv a d (k + 1) r z) (hk : k < a.length) (hx : a.getD k 0 = x) (hx2 : x < 4294967296) : shortInv a d k ((r * 4294967296 + x) % d) (z.set k ((r * 4294967296 + x) / d)) ∧ (r * 4294967296 + x) / d < 4294967296 := by
  obtain ⟨h1, h2, h3, h4⟩ := h
  have hq : (r * 4294967296 + x) / d < 4294967296 := by
    rw [Nat.div_lt_iff_lt_mul (by omega)]
    have : (r + 1) * 4294967296 ≤ d * 4294967296 := Nat.mul_le_mul_right _ h3
    rw [Nat.mul_comm 4294967296 d]; omega
  refine ⟨⟨by simp [h1], limbs_set h2 _ hq, Nat.mod_lt _ (by omega), ?_⟩, hq⟩
  rw [drop_cons hk, drop_set_cons (by omega), hx]
  simp only [val]
  rw [h4]
  have hd := Nat.div_add_mod (r * 4294967296 + x) d
  generalize (r * 4294967296 + x) / d = q at *
  generalize (r * 4294967296 + x) % d = m at *
  grind
theorem shortInv.done {a z : List Nat} {d r : Nat} (h : shortInv a d 0 r z) : val z = val a / d ∧ r = val a % d := by
  obtain ⟨h1, h2, h3, h4⟩ := h
  simp only [zl2] at h4
  rw [h4, Nat.mul_comm]
  exact ⟨by rw [Nat.mul_add_div (by omega), Nat.div_eq_of_lt h3]; rfl, by rw [Nat.mul_add_mod, Nat.mod_eq_of_lt h3]⟩
theorem est_zero {r d : List Nat} {n : Nat} (hd : limbs d) (hl : r.length = d.length) (hn : d.length = n + 1) (hle : val d ≤ val r) (x y : Nat) (hx : r.getD n 0 = x) (hy : d.getD n 0 = y) :
    0 < max 1 (x / (y + 1)) ∧ max 1 (x / (y + 1)) * val d ≤ val r := by
  refine ⟨by omega, ?_⟩
  rcases Nat.lt_or_ge (x / (y + 1)) 1 with h | h
  · rw [Nat.max_eq_left (by omega)]; omega
  · rw [Nat.max_eq_right h]
    have e1 := val_split r n (by omega)
    have e2 := val_split d n (by omega)
    rw [drop_cons (show n < r.length by omega), hx] at e1
    rw [drop_cons (show n < d.length by omega), hy] at e2
    rw [List.drop_of_length_le (by omega)] at e1 e2
    have h3 := val_lt (limbs_take hd n)
    rw [List.length_take, Nat.min_eq_left (by omega)] at h3
    simp only [val, Nat.mul_zero, Nat.add_zero] at e1 e2
    rw [e1, e2]
    have h4 := Nat.div_mul_le_self x (y + 1)
    generalize x / (y + 1) = q at *
    generalize 4294967296 ^ n = p at *
    have h5 : q * (val (d.take n) + p * y) ≤ q * (p * (y + 1)) := Nat.mul_le_mul_left _ (by rw [Nat.mul_add]; omega)
    have h6 : p * (q * (y + 1)) ≤ p * x := Nat.mul_le_mul_left _ h4
    have h7 : q * (p * (y + 1)) = p * (q * (y + 1)) := by grind
    omega
theorem est_more {r d : List Nat} {n k : Nat} (hd : limbs d) (hn : d.length = n + 2) (hk : r.length = n + 2 + k + 1) (x z y : Nat) (hx : r.getD (n + k + 2) 0 = x) (hz : r.getD (n + k + 1) 0 = z) (hy : d.getD (n + 1) 0 = y) (hx0 : x ≠ 0) (hyb : y < 4294967296) :
    0 < (x * 4294967296 + z) / (y + 1) ∧ (x * 4294967296 + z) / (y + 1) * 4294967296 ^ k * val d ≤ val r := by
  have hq : 0 < (x * 4294967296 + z) / (y + 1) := Nat.div_pos (by omega) (by omega)
  refine ⟨hq, ?_⟩
  have e1 := val_split r (n + k + 1) (by omega)
  have e2 := val_split d (n + 1) (by omega)
  rw [drop_cons (show n + k + 1 < r.length by omega), hz, drop_cons (show n + k + 1 + 1 < r.length by omega), hx] at e1
  rw [drop_cons (show n + 1 < d.length by omega), hy] at e2
  rw [List.drop_of_length_le (by omega)] at e1 e2
  have h3 := val_lt (limbs_take hd (n + 1))
  rw [List.length_take, Nat.min_eq_left (by omega)] at h3
  simp only [val, Nat.mul_zero, Nat.add_zero] at e1 e2
  rw [e1, e2]
  have h4 := Nat.div_mul_le_self (x * 4294967296 + z) (y + 1)
  generalize (x * 4294967296 + z) / (y + 1) = q at *
  rw [show n + k + 1 = k + (n + 1) by omega, Nat.pow_add 4294967296 k (n + 1)]
  generalize 4294967296 ^ (n + 1) = p at *
  generalize 4294967296 ^ k = s at *
  have h5 : q * s * (val (d.take (n + 1)) + p * y) ≤ q * s * (p * (y + 1)) := Nat.mul_le_mul_left _ (by rw [Nat.mul_add]; omega)
  have h6 : s * p * (q * (y + 1)) ≤ s * p * (x * 4294967296 + z) := Nat.mul_le_mul_left _ h4
  have h7 : q * s * (p * (y + 1)) = s * p * (q * (y + 1)) := by grind
  have h8 : s * p * (z + 4294967296 * x) = s * p * (x * 4294967296 + z) := by grind
  omega
theorem val_one (x : Nat) : val [x] = x := by simp [val]
theorem limbs_one {x : Nat} (h : x < 4294967296) : limbs [x] := by intro y hy; simp at hy; omega
def divInv (A D R q : Nat) : Prop := A = R + q * D
theorem divInv.step {A D R q e : Nat} (h : divInv A D R q) (he : e * D ≤ R) : divInv A D (R - e * D) (q + e) := by
  unfold divInv at *; rw [Nat.add_mul]; omega
theorem divInv.done {a b s R q : Nat} (h : divInv (a * s) (b * s) R q) (hs : 0 < s) (hb : 0 < b) (hR : R < b * s) : q = a / b ∧ R / s = a % b := by
  unfold divInv at h
  have h1 : a * s / (b * s) = q := by
    rw [h, Nat.add_mul_div_right _ _ (Nat.mul_pos hb hs), Nat.div_eq_of_lt hR, zn9]
  have h2 : a * s % (b * s) = R := by
    rw [h, Nat.add_mul_mod_self_right, Nat.mod_eq_of_lt hR]
  rw [Nat.mul_div_mul_right _ _ hs] at h1
  rw [Nat.mul_mod_mul_right] at h2
  refine ⟨h1.symm, ?_⟩
  rw [← h2, Nat.mul_div_cancel _ hs]
theorem divInv.le {A D R q : Nat} (h : divInv A D R q) (hD : 0 < D) : R ≤ A ∧ q ≤ A := by
  unfold divInv at h
  have : q * 1 ≤ q * D := Nat.mul_le_mul_left _ hD
  omega
theorem divmod_spec (na nb : Bool) (A B : Nat) (hB : 0 < B) :
    (if na ≠ nb then -((if na = true ∧ 0 < A % B then ((A / B : Nat) : Int) + 1 else ((A / B : Nat) : Int))) else (if na = true ∧ 0 < A % B then ((A / B : Nat) : Int) + 1 else ((A / B : Nat) : Int))) = sgn na A / sgn nb B ∧
    (if na = true ∧ 0 < A % B then (B : Int) - ((A % B : Nat) : Int) else ((A % B : Nat) : Int)) = sgn na A % sgn nb B := by
  have hd := Nat.div_add_mod A B
  have hm := Nat.mod_lt A hB
  have hB' : (0 : Int) < B := by omega
  have hd' : (B : Int) * ((A / B : Nat) : Int) + ((A % B : Nat) : Int) = A := by
    have := congrArg (fun n : Nat => (n : Int)) hd
    simpa using this
  generalize hq : A / B = q at *
  generalize hr : A % B = r at *
  have key : ∀ (x Q R : Int), R + (B : Int) * Q = x → 0 ≤ R → R < B → x / (B : Int) = Q ∧ x % (B : Int) = R := fun x Q R h1 h2 h3 => (Int.ediv_emod_unique hB').2 ⟨h1, h2, h3⟩
  cases na
  · have h := key (A : Int) q r (by omega) (by omega) (by omega)
    cases nb
    · simp [sgn, h.1, h.2]
    · simp [sgn, h.1, h.2, Int.ediv_neg, Int.emod_neg]
  · by_cases h0 : 0 < r
    · have h := key (-(A : Int)) (-((q : Int) + 1)) ((B : Int) - r) (by rw [← hd', Int.mul_neg, Int.mul_add]; omega) (by omega) (by omega)
      cases nb
      · simp [sgn, h.1, h.2, h0]
      · simp [sgn, h.1, h.2, h0, Int.ediv_neg, Int.emod_neg]
    · have hr0 : r = 0 := by omega
      subst hr0
      have h := key (-(A : Int)) (-(q : Int)) 0 (by rw [← hd', Int.mul_neg]; omega) (by omega) (by omega)
      cases nb
      · simp [sgn, h.1, h.2]
      · simp [sgn, h.1, h.2, Int.ediv_neg, Int.emod_neg]
end Go.Proofs.YtphilljhfdlfdaaGreat
namespace Go.Proofs.YtphilljhfdlfdaaGreat
open Go.RowKit
theorem val_take_set {z : List Nat} {i y : Nat} (h : i < z.length) : val ((z.set i y).take (i + 1)) = val (z.take i) + 4294967296 ^ i * y := by
  rw [val_take_succ', List.take_set_of_le (znb _)]
  congr 2
  simp [List.getD_eq_getElem?_getD, h]
theorem val_take_all (z : List Nat) {n : Nat} (h : z.length ≤ n) : val (z.take n) = val z := by rw [zla h]
theorem val_snoc_set {z : List Nat} {n y : Nat} (h : z.length = n + 1) : val (z.set n y) = val (z.take n) + 4294967296 ^ n * y := by
  rw [← val_take_set (by omega), val_take_all]; simp; omega
theorem val_last {z : List Nat} {n : Nat} (h : z.length = n + 1) : val z = val (z.take n) + 4294967296 ^ n * z.getD n 0 := by
  rw [← val_take_succ', val_take_all]; omega
theorem drop_set_ge {z : List Nat} {i j y : Nat} (h : i < j) : (z.set i y).drop j = z.drop j := List.drop_set_of_lt h
theorem getD_of_drop {u z : List Nat} {i : Nat} (h : z.drop i = u.drop i) : z.getD i 0 = u.getD i 0 := by
  have h1 : (z.drop i)[0]? = (u.drop i)[0]? := by rw [h]
  simp only [zl5, Nat.add_zero] at h1
  simp [List.getD_eq_getElem?_getD, h1]
theorem drop_next {u z : List Nat} {i : Nat} (h : z.drop i = u.drop i) : z.drop (i + 1) = u.drop (i + 1) := by
  rw [← List.drop_drop, ← List.drop_drop, h]
def shiftInv (x : List Nat) (p i c : Nat) (z : List Nat) : Prop := z.length = x.length + 1 ∧ limbs z ∧ c < p ∧ val (z.take i) + 4294967296 ^ i * c = val (x.take i) * p
theorem shiftInv.step {x z : List Nat} {p i c d w : Nat} (h : shiftInv x p i c z) (hi : i < x.length) (hd : x.getD i 0 = d) (hd2 : d < 4294967296) (hw : w = c + d * p) (hp : p ≤ 4294967296) : shiftInv x p (i + 1) (w / 4294967296) (z.set i (w % 4294967296)) ∧ w < 4294967296 * p := by
  obtain ⟨h1, h2, h3, h4⟩ := h
  have hlt : w < 4294967296 * p := by
    have : d * p ≤ 4294967295 * p := Nat.mul_le_mul_right _ (by omega)
    omega
  refine ⟨⟨by simp [h1], limbs_set h2 _ (by omega), Nat.div_lt_of_lt_mul hlt, ?_⟩, hlt⟩
  rw [val_take_set (by omega), val_take_succ', hd, Nat.pow_succ, Nat.add_mul, ← h4, Nat.mul_assoc]
  have e : 4294967296 ^ i * w = 4294967296 ^ i * (w % 4294967296) + 4294967296 ^ i * (4294967296 * (w / 4294967296)) := by
    rw [← Nat.mul_add]; congr 1; omega
  have e2 : 4294967296 ^ i * w = 4294967296 ^ i * c + 4294967296 ^ i * (d * p) := by rw [hw, Nat.mul_add]
  rw [Nat.mul_assoc]
  omega
theorem shiftInv.done {x z : List Nat} {p c : Nat} (h : shiftInv x p x.length c z) : val (z.set x.length c) = val x * p := by
  obtain ⟨h1, h2, h3, h4⟩ := h
  rw [val_snoc_set h1, h4, List.take_length]
def UU (u0 u1 u2 ul M : Nat) : Nat := ((u0 * 4294967296 + u1) * 4294967296 + u2) * M + ul
def VV (v1 v2 vl M : Nat) : Nat := (v1 * 4294967296 + v2) * M + vl
theorem val_top3 {u : List Nat} {k : Nat} (h : u.length = k + 3) : val u = UU (u.getD (k + 2) 0) (u.getD (k + 1) 0) (u.getD k 0) (val (u.take k)) (4294967296 ^ k) := by
  have p1 : 4294967296 ^ (k + 2) = 4294967296 ^ k * 4294967296 * 4294967296 := by rw [Nat.pow_succ, Nat.pow_succ]
  have p2 : 4294967296 ^ (k + 1) = 4294967296 ^ k * 4294967296 := by rw [Nat.pow_succ]
  rw [val_last (n := k + 2) h, val_take_succ', val_take_succ', p1, p2]
  unfold UU
  generalize u.getD (k + 2) 0 = a
  generalize u.getD (k + 1) 0 = b
  generalize u.getD k 0 = c
  generalize val (u.take k) = d
  generalize 4294967296 ^ k = M
  have e1 : M * 4294967296 * 4294967296 * a = (M * a) * (4294967296 * 4294967296) := by ac_rfl
  have e2 : M * 4294967296 * b = (M * b) * 4294967296 := by ac_rfl
  have e3 : ((a * 4294967296 + b) * 4294967296 + c) * M = (M * a) * (4294967296 * 4294967296) + (M * b) * 4294967296 + M * c := by
    rw [Nat.add_mul, Nat.add_mul, Nat.add_mul]; ac_rfl
  omega
theorem val_top2 {v : List Nat} {k : Nat} (h : v.length = k + 2) : val v = VV (v.getD (k + 1) 0) (v.getD k 0) (val (v.take k)) (4294967296 ^ k) := by
  rw [val_last (n := k + 1) h, val_take_succ', Nat.pow_succ]
  unfold VV
  generalize v.getD (k + 1) 0 = b
  generalize v.getD k 0 = c
  generalize val (v.take k) = d
  generalize 4294967296 ^ k = M
  have e2 : M * 4294967296 * b = (M * b) * 4294967296 := by ac_rfl
  have e3 : (b * 4294967296 + c) * M = (M * b) * 4294967296 + M * c := by
    rw [Nat.add_mul]; ac_rfl
  omega
theorem top_le {u0 u1 u2 ul v1 v2 vl M : Nat} (hM : 0 < M) (hu : UU u0 u1 u2 ul M < 4294967296 * VV v1 v2 vl M) (hvl : vl < M) (h2 : v2 < 4294967296) : u0 ≤ v1 := by
  refine Nat.le_of_lt_succ ?_
  have h3 : u0 * 4294967296 * 4294967296 * M ≤ UU u0 u1 u2 ul M := by
    unfold UU
    refine Nat.le_trans ?_ (Nat.le_add_right _ _)
    refine Nat.mul_le_mul_right _ ?_
    omega
  have h4 : VV v1 v2 vl M < (v1 + 1) * 4294967296 * M := by
    unfold VV
    have : (v1 * 4294967296 + v2 + 1) * M ≤ (v1 + 1) * 4294967296 * M := Nat.mul_le_mul_right _ (by omega)
    rw [Nat.add_mul _ 1] at this
    omega
  have h5 : u0 * 4294967296 * 4294967296 * M < 4294967296 * ((v1 + 1) * 4294967296 * M) := by omega
  have h6 : u0 * (4294967296 * 4294967296 * M) < (v1 + 1) * (4294967296 * 4294967296 * M) := by
    have a1 : u0 * (4294967296 * 4294967296 * M) = u0 * 4294967296 * 4294967296 * M := by ac_rfl
    have a2 : (v1 + 1) * (4294967296 * 4294967296 * M) = 4294967296 * ((v1 + 1) * 4294967296 * M) := by ac_rfl
    rw [a1, a2]; exact h5
  exact Nat.lt_of_mul_lt_mul_right h6
theorem guess_down {u0 u1 u2 ul v1 v2 vl M q r Q : Nat} (hul : ul < M) (hq : q * v1 + r = u0 * 4294967296 + u1) (hQ : Q * VV v1 v2 vl M ≤ UU u0 u1 u2 ul M) (hQb : Q < 4294967296) (hle : Q ≤ q)
    (ht : 4294967295 < q ∨ r * 4294967296 + u2 < q * v2) : Q ≤ q - 1 ∧ 1 ≤ q := by
  rcases Nat.lt_or_ge Q q with h | h
  · omega
  · exfalso
    have e : Q = q := by omega
    subst e
    rcases ht with ht | ht
    · omega
    · have h1 : Q * ((v1 * 4294967296 + v2) * M) ≤ Q * VV v1 v2 vl M := Nat.mul_le_mul_left _ (by unfold VV; omega)
      have h2 : UU u0 u1 u2 ul M < ((u0 * 4294967296 + u1) * 4294967296 + u2 + 1) * M := by unfold UU; rw [Nat.add_mul _ 1]; omega
      have h3 : Q * (v1 * 4294967296 + v2) * M < ((u0 * 4294967296 + u1) * 4294967296 + u2 + 1) * M := by rw [Nat.mul_assoc]; omega
      have h4 := Nat.lt_of_mul_lt_mul_right h3
      rw [← hq, Nat.mul_add] at h4
      have e2 : Q * (v1 * 4294967296) = Q * v1 * 4294967296 := by ac_rfl
      omega
theorem guess_end {u0 u1 u2 ul v1 v2 vl M q r : Nat} (hM : 0 < M) (hvl : vl < M) (hv : 1 ≤ v1) (hq : q * v1 + r = u0 * 4294967296 + u1) (hqb : q < 4294967296) (ht : q * v2 ≤ r * 4294967296 + u2) : q * VV v1 v2 vl M < UU u0 u1 u2 ul M + VV v1 v2 vl M := by
  have h1 : q * (v1 * 4294967296 + v2) ≤ (u0 * 4294967296 + u1) * 4294967296 + u2 := by
    rw [← hq, Nat.mul_add]
    have e2 : q * (v1 * 4294967296) = q * v1 * 4294967296 := by ac_rfl
    omega
  have h2 := Nat.mul_le_mul_right M h1
  have h3 : q * vl ≤ 4294967295 * M := Nat.mul_le_mul (by omega) (by omega)
  have h4 : 1 * 4294967296 * M ≤ (v1 * 4294967296 + v2) * M := Nat.mul_le_mul_right _ (by omega)
  have e : q * VV v1 v2 vl M = q * (v1 * 4294967296 + v2) * M + q * vl := by unfold VV; rw [Nat.mul_add, Nat.mul_assoc]
  unfold UU
  rw [e]
  have : VV v1 v2 vl M = (v1 * 4294967296 + v2) * M + vl := rfl
  omega
theorem guess_break {u0 u1 v1 q r : Nat} (hu : u0 ≤ v1) (hu1 : u1 < 4294967296) (hv : 1 ≤ v1) (hq : q * v1 + r = u0 * 4294967296 + u1) (hr : 4294967296 ≤ r) : q < 4294967296 := by
  refine Nat.lt_of_not_le fun h => ?_
  have := Nat.mul_le_mul_right v1 h
  omega
theorem guess_first {u0 u1 v1 : Nat} (hu : u0 ≤ v1) (hu1 : u1 < 4294967296) (hv : 2147483648 ≤ v1) : (u0 * 4294967296 + u1) / v1 ≤ 4294967297 := by
  refine Nat.le_of_lt_succ (Nat.div_lt_of_lt_mul ?_)
  omega
theorem guess_over {u0 u1 u2 ul v1 v2 vl M Q : Nat} (hul : ul < M) (hM : 0 < M) (hv1 : 0 < v1) (hu1 : u1 < 4294967296) (hu2 : u2 < 4294967296) (hQ : Q * VV v1 v2 vl M ≤ UU u0 u1 u2 ul M) : Q ≤ (u0 * 4294967296 + u1) / v1 := by
  rw [Nat.le_div_iff_mul_le hv1]
  have h1 : Q * (v1 * 4294967296 * M) ≤ Q * VV v1 v2 vl M := Nat.mul_le_mul_left _ (by
    unfold VV; rw [Nat.add_mul]; omega)
  have h2 : UU u0 u1 u2 ul M < (u0 * 4294967296 + u1 + 1) * 4294967296 * M := by
    have : ((u0 * 4294967296 + u1) * 4294967296 + u2 + 1) * M ≤ (u0 * 4294967296 + u1 + 1) * 4294967296 * M := Nat.mul_le_mul_right _ (by omega)
    rw [Nat.add_mul _ 1] at this
    unfold UU; omega
  have h3 : Q * v1 * (4294967296 * M) < (u0 * 4294967296 + u1 + 1) * (4294967296 * M) := by
    have a1 : Q * v1 * (4294967296 * M) = Q * (v1 * 4294967296 * M) := by ac_rfl
    have a2 : (u0 * 4294967296 + u1 + 1) * (4294967296 * M) = (u0 * 4294967296 + u1 + 1) * 4294967296 * M := by ac_rfl
    rw [a1, a2]; omega
  have := Nat.lt_of_mul_lt_mul_right h3
  omega
def msInv (u v : List Nat) (q i br c : Nat) (z : List Nat) : Prop :=
  z.length = u.length ∧ limbs z ∧ br ≤ 1 ∧ c < 4294967296 ∧ z.drop i = u.drop i ∧ val (z.take i) + q * val (v.take i) = val (u.take i) + 4294967296 ^ i * (c + br)
theorem msInv.step {u v z : List Nat} {q i br c e y w d br' : Nat} (h : msInv u v q i br c z) (hi : i < u.length) (he : v.getD i 0 = e) (hy : u.getD i 0 = y) (he2 : e < 4294967296) (hy2 : y < 4294967296) (hq : q < 4294967296)
    (hw : w = c + q * e) (hd : d < 4294967296) (hb : br' ≤ 1) (hdd : d + w % 4294967296 + br = y + 4294967296 * br') : msInv u v q (i + 1) br' (w / 4294967296) (z.set i d) ∧ w < 18446744073709551616 := by
  obtain ⟨h1, h2, h3, h4, h5, h6⟩ := h
  have hp : q * e ≤ 4294967295 * 4294967295 := Nat.mul_le_mul (by omega) (by omega)
  refine ⟨⟨by simp [h1], limbs_set h2 _ hd, hb, by omega, ?_, ?_⟩, by omega⟩
  · rw [drop_set_ge (by omega)]; exact drop_next h5
  · rw [val_take_set (by omega), val_take_succ', val_take_succ', he, hy, Nat.pow_succ]
    have a1 : q * (val (v.take i) + 4294967296 ^ i * e) = q * val (v.take i) + 4294967296 ^ i * (q * e) := by rw [Nat.mul_add]; ac_rfl
    have a2 : 4294967296 ^ i * 4294967296 * (w / 4294967296 + br') = 4294967296 ^ i * (4294967296 * (w / 4294967296)) + 4294967296 ^ i * (4294967296 * br') := by rw [Nat.mul_add]; ac_rfl
    have a3 : 4294967296 ^ i * (d + w % 4294967296 + br) = 4294967296 ^ i * (y + 4294967296 * br') := by rw [hdd]
    have a4 : 4294967296 ^ i * w = 4294967296 ^ i * (w % 4294967296) + 4294967296 ^ i * (4294967296 * (w / 4294967296)) := by rw [← Nat.mul_add]; congr 1; omega
    have a5 : 4294967296 ^ i * w = 4294967296 ^ i * c + 4294967296 ^ i * (q * e) := by rw [hw, Nat.mul_add]
    rw [a1, a2]
    rw [Nat.mul_add, Nat.mul_add, Nat.mul_add] at a3
    rw [Nat.mul_add] at h6
    omega
def abInv (u v : List Nat) (i c : Nat) (z : List Nat) : Prop := z.length = u.length ∧ limbs z ∧ c < 4294967296 ∧ z.drop i = u.drop i ∧ val (z.take i) + 4294967296 ^ i * c = val (u.take i) + val (v.take i)
theorem abInv.step {u v z : List Nat} {i c e y w : Nat} (h : abInv u v i c z) (hi : i < u.length) (he : v.getD i 0 = e) (hy : u.getD i 0 = y) (he2 : e < 4294967296) (hy2 : y < 4294967296) (hw : w = c + (y + e)) :
    abInv u v (i + 1) (w / 4294967296) (z.set i (w % 4294967296)) := by
  obtain ⟨h1, h2, h3, h4, h5⟩ := h
  refine ⟨by simp [h1], limbs_set h2 _ (by omega), by omega, ?_, ?_⟩
  · rw [drop_set_ge (by omega)]; exact drop_next h4
  · rw [val_take_set (by omega), val_take_succ', val_take_succ', he, hy, Nat.pow_succ]
    have a2 : 4294967296 ^ i * 4294967296 * (w / 4294967296) = 4294967296 ^ i * (4294967296 * (w / 4294967296)) := by ac_rfl
    have a4 : 4294967296 ^ i * w = 4294967296 ^ i * (w % 4294967296) + 4294967296 ^ i * (4294967296 * (w / 4294967296)) := by rw [← Nat.mul_add]; congr 1; omega
    have a5 : 4294967296 ^ i * w = 4294967296 ^ i * c + (4294967296 ^ i * y + 4294967296 ^ i * e) := by rw [hw, Nat.mul_add, Nat.mul_add]
    rw [a2]
    omega
theorem digit_right {u v z : List Nat} {n q br c : Nat} (hu : u.length = n + 1) (hv : v.length = n) (h : msInv u v q n br c z) (hQ : val u / val v ≤ q) (hV : 0 < val v) (hc : c + br ≤ u.getD n 0) :
    q = val u / val v ∧ val (z.set n (u.getD n 0 - (c + br))) = val u % val v := by
  obtain ⟨h1, h2, h3, h4, h5, h6⟩ := h
  have hval : val (z.set n (u.getD n 0 - (c + br))) + q * val v = val u := by
    rw [val_snoc_set (by omega), val_last hu]
    rw [val_take_all v (by omega)] at h6
    have : 4294967296 ^ n * u.getD n 0 = 4294967296 ^ n * (u.getD n 0 - (c + br)) + 4294967296 ^ n * (c + br) := by rw [← Nat.mul_add]; congr 1; omega
    omega
  have hq : q ≤ val u / val v := (Nat.le_div_iff_mul_le hV).2 (by omega)
  have hq2 : q = val u / val v := by omega
  refine ⟨hq2, ?_⟩
  have := Nat.div_add_mod (val u) (val v)
  rw [← hq2, Nat.mul_comm] at this
  omega
theorem digit_less {u v z zz : List Nat} {n q br c ca : Nat} (hu : u.length = n + 1) (hv : v.length = n) (lu : limbs u) (lv' : limbs v) (h : msInv u v q n br c z) (hc : u.getD n 0 < c + br) (hQ : val u / val v ≤ q) (hq : q * val v < val u + val v) (hV : 0 < val v)
    (z' : List Nat) (hz' : z' = z.set n ((4294967296 + u.getD n 0 - (c + br)) % 4294967296)) (ha : abInv z' v n ca zz) : 1 ≤ q ∧ q - 1 = val u / val v ∧ ((4294967296 + u.getD n 0 - (c + br)) % 4294967296 + ca) % 4294967296 = 0 ∧ val (zz.set n 0) = val u % val v := by
  obtain ⟨h1, h2, h3, h4, h5, h6⟩ := h
  obtain ⟨g1, g2, g3, g4, g5⟩ := ha
  have ht : z'.take n = z.take n := by rw [hz', List.take_set_of_le (znb _)]
  rw [ht, val_take_all v (by omega)] at g5
  rw [val_take_all v (by omega)] at h6
  have hzl : z'.length = n + 1 := by rw [hz']; simp; omega
  have hU := val_last hu
  have lz : val (zz.take n) < 4294967296 ^ n := by
    have := val_lt (limbs_take g2 n)
    rwa [List.length_take, Nat.min_eq_left (by omega)] at this
  have lV : val v < 4294967296 ^ n := by have := val_lt lv'; rwa [hv] at this
  have lu0 := limbs_getD lu n
  generalize u.getD n 0 = t at *
  obtain ⟨s, hs⟩ : ∃ s, c + br = t + s := ⟨c + br - t, by omega⟩
  rw [hs] at h6 hc ⊢
  rw [Nat.mul_add] at h6
  have hs1 : 1 ≤ s := by omega
  have e1 : val u + 4294967296 ^ n * s = val (z.take n) + q * val v := by omega
  have hsl : 4294967296 ^ n * 1 ≤ 4294967296 ^ n * s := Nat.mul_le_mul_left _ hs1
  have lzt : val (z.take n) < 4294967296 ^ n := by
    have := val_lt (limbs_take h2 n)
    rwa [List.length_take, Nat.min_eq_left (by omega)] at this
  have e2 : val u < q * val v := by omega
  have hq1 : 1 ≤ q := by
    rcases Nat.eq_zero_or_pos q with h | h
    · subst h; omega
    · exact h
  have e3 : q - 1 = val u / val v := by
    have a1 : val u / val v < q := (Nat.div_lt_iff_lt_mul hV).2 e2
    have a2 : q - 1 ≤ val u / val v := by
      rw [Nat.le_div_iff_mul_le hV, Nat.sub_mul]
      omega
    omega
  have hd := Nat.div_add_mod (val u) (val v)
  have hm := Nat.mod_lt (val u) hV
  rw [← e3, Nat.mul_comm, Nat.sub_mul, zna] at hd
  have hqv : val v ≤ q * val v := Nat.le_mul_of_pos_left _ hq1
  have e4 : val (zz.take n) + 4294967296 ^ n * ca = val u % val v + 4294967296 ^ n * s := by omega
  have e5 : ca = s := by
    have hp : 0 < 4294967296 ^ n := Nat.pow_pos (by omega)
    have b1 := congrArg (· / 4294967296 ^ n) e4
    simp only [Nat.add_mul_div_left _ _ hp] at b1
    rw [Nat.div_eq_of_lt lz, Nat.div_eq_of_lt (by omega)] at b1
    omega
  subst e5
  refine ⟨hq1, e3, ?_, ?_⟩
  · omega
  · rw [val_snoc_set (by omega), Nat.mul_zero, Nat.add_zero]; omega
def dvInv (X V n k : Nat) (Z q : List Nat) : Prop := limbs Z ∧ limbs q ∧ Z.length = q.length + n ∧ k ≤ q.length ∧ val (Z.drop k) < V ∧ val Z + 4294967296 ^ k * val (q.drop k) * V = X
theorem dvInv.seg {X V n j : Nat} {Z q : List Nat} (h : dvInv X V n (j + 1) Z q) (hV : V < 4294967296 ^ n) :
    val (Z.drop (j + (n + 1))) = 0 ∧ val ((Z.drop j).take (n + 1)) = val (Z.drop j) ∧ val ((Z.drop j).take (n + 1)) < 4294967296 * V := by
  obtain ⟨h1, h2, h3, h4, h5, h6⟩ := h
  have hlen : (Z.drop (j + 1)).length ≥ n := by simp; omega
  have hs := val_split (Z.drop (j + 1)) n (by omega)
  rw [List.drop_drop] at hs
  have hz : val (Z.drop (j + 1 + n)) = 0 := by
    rcases Nat.eq_zero_or_pos (val (Z.drop (j + 1 + n))) with e | e
    · exact e
    · have := Nat.mul_le_mul_left (4294967296 ^ n) e
      omega
  have e : j + 1 + n = j + (n + 1) := by omega
  rw [e] at hz
  have hs2 := val_split (Z.drop j) (n + 1) (by simp; omega)
  rw [List.drop_drop, hz, Nat.mul_zero, Nat.add_zero] at hs2
  refine ⟨hz, hs2.symm, ?_⟩
  rw [← hs2, drop_cons (by omega : j < Z.length)]
  have := limbs_getD h1 j
  simp only [val]
  have : 4294967296 * (val (Z.drop (j + 1)) + 1) ≤ 4294967296 * V := Nat.mul_le_mul_left _ h5
  omega
theorem dvInv.step {X V n j : Nat} {Z q z : List Nat} (h : dvInv X V n (j + 1) Z q) (hV : V < 4294967296 ^ n) (h0 : 0 < V) (hz : limbs z) (hzl : z.length = n + 1) (hv : val z = val ((Z.drop j).take (n + 1)) % V) :
    dvInv X V n j (Z.take j ++ (z ++ Z.drop (j + (n + 1)))) (q.set j (val ((Z.drop j).take (n + 1)) / V)) := by
  obtain ⟨s1, s2, s3⟩ := h.seg hV
  obtain ⟨h1, h2, h3, h4, h5, h6⟩ := h
  have hq : val ((Z.drop j).take (n + 1)) / V < 4294967296 := Nat.div_lt_of_lt_mul (by rw [Nat.mul_comm]; exact s3)
  generalize hU : val ((Z.drop j).take (n + 1)) = U at *
  have hl1 : (Z.take j).length = j := by simp; omega
  have hd : (Z.take j ++ (z ++ Z.drop (j + (n + 1)))).drop j = z ++ Z.drop (j + (n + 1)) := by
    rw [List.drop_append, hl1, Nat.sub_self, List.drop_eq_nil_of_le (by omega)]; rfl
  have hvz : val (z ++ Z.drop (j + (n + 1))) = U % V := by rw [val_append, s1, hv]; omega
  refine ⟨?_, limbs_set h2 _ hq, ?_, by simp; omega, ?_, ?_⟩
  · intro x hx
    rcases List.mem_append.1 hx with hx | hx
    · exact limbs_take h1 _ x hx
    · rcases List.mem_append.1 hx with hx | hx
      · exact hz x hx
      · exact limbs_drop h1 _ x hx
  · simp; omega
  · rw [hd, hvz]; exact Nat.mod_lt _ h0
  · rw [val_append, hl1, hvz, drop_set_cons (by omega)]
    simp only [val]
    have hZ := val_split Z j (by omega)
    rw [← s2] at hZ
    rw [hZ, Nat.pow_succ] at h6
    have hdm := Nat.div_add_mod U V
    have a1 : 4294967296 ^ j * (U / V + 4294967296 * val (q.drop (j + 1))) * V = 4294967296 ^ j * (V * (U / V)) + 4294967296 ^ j * 4294967296 * val (q.drop (j + 1)) * V := by
      rw [Nat.mul_add, Nat.add_mul]; ac_rfl
    have a2 : 4294967296 ^ j * U = 4294967296 ^ j * (V * (U / V)) + 4294967296 ^ j * (U % V) := by rw [← Nat.mul_add, hdm]
    rw [a1]
    omega
theorem dvInv.done {x y p n : Nat} {Z q : List Nat} (h : dvInv (x * p) (y * p) n 0 Z q) (hp : 0 < p) (hy : 0 < y) : val q = x / y ∧ val Z / p = x % y := by
  obtain ⟨_, _, _, _, h5, h6⟩ := h
  rw [zl2] at h5 h6
  simp only [Nat.pow_zero, zna] at h6
  exact divInv.done (h6.symm : divInv (x * p) (y * p) (val Z) (val q)) hp hy h5
theorem back_limb {Z : List Nat} {i s : Nat} (hZ : limbs Z) (hs : s ≤ 32) (hi : i + 1 < Z.length) : ((Z.getD (i + 1) 0 * 4294967296 + Z.getD i 0) / 2 ^ s) % 4294967296 = (val Z / 2 ^ s / 4294967296 ^ i) % 4294967296 := by
  have hp : 0 < 4294967296 ^ i := Nat.pow_pos (by omega)
  have lt : val (Z.take i) < 4294967296 ^ i := by
    have := val_lt (limbs_take hZ i)
    rwa [List.length_take, Nat.min_eq_left (by omega)] at this
  have e0 : val Z / 4294967296 ^ i = val (Z.drop i) := by
    rw [val_split Z i (by omega), Nat.add_mul_div_left _ _ hp, Nat.div_eq_of_lt lt, zn9]
  have e : val Z / 2 ^ s / 4294967296 ^ i = val (Z.drop i) / 2 ^ s := by
    rw [Nat.div_div_eq_div_mul, Nat.mul_comm, ← Nat.div_div_eq_div_mul, e0]
  rw [e, drop_cons (by omega), drop_cons hi]
  simp only [val]
  generalize Z.getD (i + 1) 0 = a
  generalize Z.getD i 0 = c
  generalize val (Z.drop (i + 1 + 1)) = W
  obtain ⟨t, ht⟩ : ∃ t, s + t = 32 := ⟨32 - s, by omega⟩
  have hb : 4294967296 = 2 ^ s * 2 ^ t := by rw [← Nat.pow_add, ht]
  have e1 : c + 4294967296 * (a + 4294967296 * W) = (a * 4294967296 + c) + 2 ^ s * (2 ^ t * W * 4294967296) := by
    have : 4294967296 * (4294967296 * W) = 2 ^ s * (2 ^ t * W * 4294967296) := by
      have h1 : 4294967296 * (4294967296 * W) = 2 ^ s * 2 ^ t * (4294967296 * W) := by rw [← hb]
      rw [h1]
      ac_rfl
    omega
  rw [e1, Nat.add_mul_div_left _ _ (Nat.pow_pos (by omega)), Nat.add_mul_mod_self_right]
end Go.Proofs.YtphilljhfdlfdaaGreat
namespace Go.Proofs.YtphilljhfdlfdaaGreat
open Go.RowKit
def lv (l : List Nat) : List V := l.map fun (n : Nat) => .sc (.int .u32 (n : Int))
theorem lv_len (l : List Nat) : (lv l).length = l.length := by simp [lv]
theorem lv_get {l : List Nat} {i : Nat} (h : i < l.length) : (lv l)[i]? = some (.sc (.int .u32 (l.getD i 0 : Nat))) := by
  simp [lv, h]
theorem lv_take (l : List Nat) (k : Nat) : (lv l).take k = lv (l.take k) := by simp [lv]
theorem lv_append (a b : List Nat) : lv a ++ lv b = lv (a ++ b) := by simp [lv]
theorem lv_all (l : List Nat) : (lv l).all V.one = true := by simp [lv, V.one, Value.oneCell']
theorem lv_clo (l : List Nat) : (lv l).all clo = true := by simp [lv, clo]
def sv (l : List Nat) : V := .im (lv l) l.length
def digs : Nat → Nat → List Nat
  | 0, _ => []
  | f + 1, n => if n = 0 then [] else n % 4294967296 :: digs f (n / 4294967296)
def limbsOf (n : Nat) : List Nat := digs (n + 1) n
def iv (z : Int) : V := .ag [.sc (.bool (decide (z < 0))), sv (limbsOf z.natAbs)]
theorem canon_cons {x : Nat} {r : List Nat} (h1 : r = [] → x ≠ 0) (h2 : canon r) : canon (x :: r) := by
  intro hn
  cases r with
  | nil => simpa using h1 rfl
  | cons a r => rw [List.getLast_cons (by simp)]; exact h2 (by simp)
theorem digs_spec : ∀ (f n : Nat), n < f → val (digs f n) = n ∧ limbs (digs f n) ∧ canon (digs f n)
  | 0, n, h => by omega
  | f + 1, n, h => by
    simp only [digs]
    split
    · rename_i h0; subst h0
      exact ⟨rfl, fun x hx => (by simp at hx), fun hn => absurd rfl hn⟩
    · rename_i h0
      obtain ⟨h1, h2, h3⟩ := digs_spec f (n / 4294967296) (by omega)
      refine ⟨?_, ?_, ?_⟩
      · show n % 4294967296 + 4294967296 * val (digs f (n / 4294967296)) = n
        rw [h1]; omega
      · intro x hx
        rcases List.mem_cons.1 hx with rfl | hx
        · omega
        · exact h2 x hx
      · refine canon_cons (fun e => ?_) h3
        rw [e] at h1
        have : n / 4294967296 = 0 := h1.symm
        omega
theorem limbsOf_val (n : Nat) : val (limbsOf n) = n := (digs_spec _ _ (Nat.lt_succ_self _)).1
theorem limbsOf_limbs (n : Nat) : limbs (limbsOf n) := (digs_spec _ _ (Nat.lt_succ_self _)).2.1
theorem limbsOf_canon (n : Nat) : canon (limbsOf n) := (digs_spec _ _ (Nat.lt_succ_self _)).2.2
theorem limbsOf_eq {l : List Nat} (h : limbs l) (hc : canon l) : limbsOf (val l) = l := canon_inj (limbsOf_limbs _) h (limbsOf_canon _) hc (limbsOf_val _)
theorem limbsOf_zero : limbsOf 0 = [] := rfl
theorem limbsOf_nil {n : Nat} : limbsOf n = [] ↔ n = 0 := ⟨fun h => by have := limbsOf_val n; rw [h] at this; exact this.symm, fun h => by subst h; rfl⟩
theorem val_take_zeros {l : List Nat} {k : Nat} (h : ∀ i, k ≤ i → l.getD i 0 = 0) : val (l.take k) = val l := by
  have key : ∀ m : List Nat, (∀ i, m.getD i 0 = 0) → val m = 0 := by
    intro m
    induction m with
    | nil => intro _; rfl
    | cons x r ih =>
      intro hm
      have h0 := hm 0
      simp at h0
      have := ih (fun i => by simpa using hm (i + 1))
      simp [val, h0, this]
  rcases Nat.le_total k l.length with hk | hk
  · rw [val_split l k hk, key (l.drop k) (fun i => by have := h (k + i) (by omega); simpa [List.getD_eq_getElem?_getD] using this)]; simp
  · rw [zla hk]
theorem made_tree {l : List Nat} {k : Nat} {neg : Bool} (hl : limbs l) (h : ∀ i, k ≤ i → l.getD i 0 = 0) (hk : k ≤ l.length) (h0 : k ≠ 0 → l.getD (k - 1) 0 ≠ 0) : limbsOf (sgn neg (val l)).natAbs = l.take k ∧ decide (sgn neg (val l) < 0) = (neg && decide (0 < k)) := by
  have hv := val_take_zeros h
  have hc : canon (l.take k) := by
    intro hn
    have hk0 : k ≠ 0 := by intro e; subst e; simp at hn
    rw [List.getLast_eq_getElem]
    have := h0 hk0
    simp only [List.length_take, Nat.min_eq_left hk, List.getElem_take]
    rwa [List.getD_eq_getElem?_getD, zlb (by omega)] at this
  have hn : (sgn neg (val l)).natAbs = val l := by unfold sgn; cases neg <;> simp
  refine ⟨by rw [hn, ← hv]; exact limbsOf_eq (limbs_take hl k) hc, ?_⟩
  have hz : val l = 0 ↔ k = 0 := by
    rw [← hv]
    constructor
    · intro e
      have := limbsOf_eq (limbs_take hl k) hc
      rw [e, limbsOf_zero] at this
      have := congrArg List.length this
      simp at this
      omega
    · intro e; subst e; rfl
  unfold sgn
  cases neg with
  | false => simp
  | true =>
    simp only [if_true, Bool.true_and]
    by_cases hk0 : k = 0
    · have := hz.2 hk0; simp [this, hk0]
    · have : val l ≠ 0 := fun e => hk0 (hz.1 e)
      simp; omega
end Go.Proofs.YtphilljhfdlfdaaGreat
namespace Go.Proofs.YtphilljhfdlfdaaGreat
open Go.RowKit
theorem made_i (l : List Nat) (neg : Bool) (hl : limbs l) (hm : l.length ≤ 1000000000) : Spec Tryz.prog 18 [sv l, .sc (.bool neg)] (iv (sgn neg (val l))) := by
  unfold sv
  refine Spec.run Tryz.func18 rfl Tryz.ntmps18 (by simp) (by simp only [go_sem, ↓reduceIte, zn1, zn2, zn3, zn4, zn5, zn6, reduceCtorEq, zn7, zi1, zi2, if_pos, if_neg]; rfl) fun B hB => ?_
  (repeat (first | (with_reducible refine oz (by constructor <;> decide) ?_) | ((with_reducible apply SC.region); (simp only [go_sem, ↓reduceIte, zn1, zn2, zn3, zn4, zn5, zn6, reduceCtorEq, zn7, zi1, zi2, if_pos, if_neg]; rfl))))
  refine SC.loop (fun k : Nat => ⟨[(0, .im (lv l) l.length), (1, .sc (.bool neg)), (4, .pt 0 0), (5, .sc (.int .i64 k))], [(0, ⟨24, [.sc (.bool false), .sc (.slice none 0 0)], false⟩)], 1, 31⟩)
    (fun k => k ≤ l.length ∧ ∀ i, k ≤ i → l.getD i 0 = 0) (fun k => k) l.length ?_ ?_ ?_
  · (refine Le.of [] hB (by exact ⟨znc _, fun _ _ => znc _⟩) ?_ ?_ <;> (repeat' (first | exact leSl_nil | exact leHp_nil | refine leSl_cons (by simp only [go_sem, ↓reduceIte, zn1, zn2, zn3, zn4, zn5, zn6, reduceCtorEq, zn7, zi1, zi2, if_pos, if_neg]; rfl) ?_ ?_ | refine leHp_cons (by simp only [go_sem, ↓reduceIte, zn1, zn2, zn3, zn4, zn5, zn6, reduceCtorEq, zn7, zi1, zi2, if_pos, if_neg]; rfl) ?_ ?_ | exact VLe.refl rfl | exact HLe.same rfl (LLe.refl rfl))))
  · exact ⟨znb _, fun i hi => by simp [hi]⟩
  · rintro k ⟨hk, hz⟩ K hK
    have hlen : (l.take k).length = k := by simp; omega
    have h3 : k = 0 ∨ (k ≠ 0 ∧ l.getD (k - 1) 0 ≠ 0) ∨ (k ≠ 0 ∧ l.getD (k - 1) 0 = 0) := by omega
    rcases h3 with h0 | ⟨h0, hx⟩ | ⟨h0, hx⟩
    · subst h0
      (repeat (first | (with_reducible refine oz (by constructor <;> decide) ?_) | ((with_reducible apply SC.region); (simp only [go_sem, ↓reduceIte, zn1, zn2, zn3, zn4, zn5, zn6, reduceCtorEq, zn7, zi1, zi2, if_pos, if_neg]; rfl))))
      refine SC.cond (by simp only [go_sem, ↓reduceIte, zn1, zn2, zn3, zn4, zn5, zn6, reduceCtorEq, zn7, zi1, zi2, if_pos, if_neg]; rfl) ?_ ?_
      · intro h; cases h
      intro _
      (repeat ((with_reducible refine oz (by constructor <;> decide) ?_)))
      refine SC.weak (by simp) (s' := ⟨[(0, .im (lv l) l.length), (1, .sc (.bool neg)), (4, .pt 0 0), (5, .sc (.int .i64 (0 : Nat)))], [(0, ⟨24, [.sc (.bool false), .sc (.slice none 0 0)], false⟩)], 1, 31⟩) (by (refine Le.of [] hB (by exact ⟨znc _, fun _ _ => znc _⟩) ?_ ?_ <;> (repeat' (first | exact leSl_nil | exact leHp_nil | refine leSl_cons (by simp only [go_sem, ↓reduceIte, zn1, zn2, zn3, zn4, zn5, zn6, reduceCtorEq, zn7, zi1, zi2, if_pos, if_neg]; rfl) ?_ ?_ | refine leHp_cons (by simp only [go_sem, ↓reduceIte, zn1, zn2, zn3, zn4, zn5, zn6, reduceCtorEq, zn7, zi1, zi2, if_pos, if_neg]; rfl) ?_ ?_ | exact VLe.refl rfl | exact HLe.same rfl (LLe.refl rfl))))) ?_
      obtain ⟨e1, e2⟩ := made_tree (neg := neg) hl hz hk (fun h => absurd rfl h)
      have e3 : decide ((0 : Int) < ((0 : Nat) : Int)) = decide (0 < 0) := by simp
      cases neg
      all_goals
        refine SC.ops ?_
        (repeat (refine SO.run (by simp only [go_sem, ↓reduceIte, zn1, zn2, zn3, zn4, zn5, zn6, reduceCtorEq, zn7, zi1, zi2, if_pos, if_neg, lv_len, lv_take, Int.toNat_natCast, hlen, lv_all, List.replicate_zero]; rfl) ?_))
        (repeat ((with_reducible refine oz (by constructor <;> decide) ?_)))
        refine retQ_ret Tryz.results18 (by simp only [go_sem, ↓reduceIte, zn1, zn2, zn3, zn4, zn5, zn6, reduceCtorEq, zn7, zi1, zi2, if_pos, if_neg]; rfl) (by simp only [go_sem, ↓reduceIte, zn1, zn2, zn3, zn4, zn5, zn6, reduceCtorEq, zn7, zi1, zi2, if_pos, if_neg, lv_len, lv_take, hlen, List.take_take, Nat.min_self, lv_clo]; rfl) ?_
        unfold iv sv
        rw [e1, e2]
        simp [hlen]
    · have hi : ((k : Int) - 1).toNat = k - 1 := by omega
      have hg := lv_get (l := l) (i := k - 1) (by omega)
      have hd : decide ((k : Int) > 0) = true := by simp; omega
      have hb : (((l.getD (k - 1) 0 : Nat) : Int) == 0) = false := by simp only [beq_eq_false_iff_ne, ne_eq]; omega
      (repeat ((with_reducible refine oz (by constructor <;> decide) ?_)))
      refine SC.ops ?_
      (repeat (refine SO.run (by simp (disch := omega) only [go_sem, ↓reduceIte, zn1, zn2, zn3, zn4, zn5, zn6, reduceCtorEq, zn7, zi1, zi2, if_pos, if_neg, hi, hg, hd, hb, lv_len, zl5]; rfl) ?_))
      (repeat ((with_reducible refine oz (by constructor <;> decide) ?_)))
      refine SC.cond (by simp (disch := omega) only [go_sem, ↓reduceIte, zn1, zn2, zn3, zn4, zn5, zn6, reduceCtorEq, zn7, zi1, zi2, if_pos, if_neg]; rfl) ?_ ?_
      · intro h; cases h
      intro _
      (repeat ((with_reducible refine oz (by constructor <;> decide) ?_)))
      refine SC.weak (by simp) (s' := ⟨[(0, .im (lv l) l.length), (1, .sc (.bool neg)), (4, .pt 0 0), (5, .sc (.int .i64 (k : Nat)))], [(0, ⟨24, [.sc (.bool false), .sc (.slice none 0 0)], false⟩)], 1, 31⟩) (by (refine Le.of [] hB (by exact ⟨znc _, fun _ _ => znc _⟩) ?_ ?_ <;> (repeat' (first | exact leSl_nil | exact leHp_nil | refine leSl_cons (by simp only [go_sem, ↓reduceIte, zn1, zn2, zn3, zn4, zn5, zn6, reduceCtorEq, zn7, zi1, zi2, if_pos, if_neg]; rfl) ?_ ?_ | refine leHp_cons (by simp only [go_sem, ↓reduceIte, zn1, zn2, zn3, zn4, zn5, zn6, reduceCtorEq, zn7, zi1, zi2, if_pos, if_neg]; rfl) ?_ ?_ | exact VLe.refl rfl | exact HLe.same rfl (LLe.refl rfl))))) ?_
      obtain ⟨e1, e2⟩ := made_tree (neg := neg) hl hz hk (fun _ => hx)
      have e3 : decide ((0 : Int) < ((k : Nat) : Int)) = decide (0 < k) := by simp
      cases neg
      all_goals
        refine SC.ops ?_
        (repeat (refine SO.run (by simp (disch := omega) only [go_sem, ↓reduceIte, zn1, zn2, zn3, zn4, zn5, zn6, reduceCtorEq, zn7, zi1, zi2, if_pos, if_neg, lv_len, lv_take, Int.toNat_natCast, hlen, lv_all, List.replicate_zero]; rfl) ?_))
        (repeat ((with_reducible refine oz (by constructor <;> decide) ?_)))
        refine retQ_ret Tryz.results18 (by simp (disch := omega) only [go_sem, ↓reduceIte, zn1, zn2, zn3, zn4, zn5, zn6, reduceCtorEq, zn7, zi1, zi2, if_pos, if_neg]; rfl) (by simp (disch := omega) only [go_sem, ↓reduceIte, zn1, zn2, zn3, zn4, zn5, zn6, reduceCtorEq, zn7, zi1, zi2, if_pos, if_neg, lv_len, lv_take, hlen, List.take_take, Nat.min_self, lv_clo]; rfl) ?_
        unfold iv sv
        rw [e1, e2]
        simp [hlen]
    · have hi : ((k : Int) - 1).toNat = k - 1 := by omega
      have hg := lv_get (l := l) (i := k - 1) (by omega)
      have hd : decide ((k : Int) > 0) = true := by simp; omega
      have hb : (((l.getD (k - 1) 0 : Nat) : Int) == 0) = true := by simp only [beq_iff_eq]; omega
      (repeat ((with_reducible refine oz (by constructor <;> decide) ?_)))
      refine SC.ops ?_
      (repeat (refine SO.run (by simp (disch := omega) only [go_sem, ↓reduceIte, zn1, zn2, zn3, zn4, zn5, zn6, reduceCtorEq, zn7, zi1, zi2, if_pos, if_neg, hi, hg, hd, hb, lv_len, zl5]; rfl) ?_))
      (repeat ((with_reducible refine oz (by constructor <;> decide) ?_)))
      refine SC.cond (by simp (disch := omega) only [go_sem, ↓reduceIte, zn1, zn2, zn3, zn4, zn5, zn6, reduceCtorEq, zn7, zi1, zi2, if_pos, if_neg]; rfl) ?_ ?_
      rotate_left
      · intro h; cases h
      intro _
      (repeat (first | (with_reducible refine oz (by constructor <;> decide) ?_) | ((with_reducible apply SC.region); (simp only [go_sem, ↓reduceIte, zn1, zn2, zn3, zn4, zn5, zn6, reduceCtorEq, zn7, zi1, zi2, if_pos, if_neg]; rfl))))
      refine hK _ (k - 1) ?_ ⟨by omega, fun i hi => ?_⟩ (by omega)
      · (refine Le.of [] hB (by exact ⟨znc _, fun _ _ => znc _⟩) ?_ ?_ <;> (repeat' (first | exact leSl_nil | exact leHp_nil | refine leSl_cons (by simp (disch := omega) only [go_sem, ↓reduceIte, zn1, zn2, zn3, zn4, zn5, zn6, reduceCtorEq, zn7, zi1, zi2, if_pos, if_neg]; rfl) ?_ ?_ | refine leHp_cons (by simp (disch := omega) only [go_sem, ↓reduceIte, zn1, zn2, zn3, zn4, zn5, zn6, reduceCtorEq, zn7, zi1, zi2, if_pos, if_neg]; rfl) ?_ ?_ | exact VLe.refl rfl | exact VLe.int (by first | rfl | omega) | exact HLe.same rfl (LLe.refl rfl))))
      · rcases Nat.lt_or_ge i k with h | h
        · rw [show i = k - 1 by omega]; exact hx
        · exact hz i h
end Go.Proofs.YtphilljhfdlfdaaGreat
namespace Go.Proofs.YtphilljhfdlfdaaGreat
open Go.RowKit
theorem less_i (a b : List Nat) (ha : limbs a) (hb : limbs b) (hma : a.length ≤ 1000000000) (hmb : b.length ≤ 1000000000) : Spec Tryz.prog 99 [sv a, sv b] (.sc (.bool (lessL a b))) := by
  unfold sv
  refine Spec.run Tryz.func99 rfl Tryz.ntmps99 (by simp) (by simp only [go_sem, ↓reduceIte, zn1, zn2, zn3, zn4, zn5, zn6, reduceCtorEq, zn7, zi1, zi2, if_pos, if_neg]; rfl) fun B hB => ?_
  by_cases hab : a.length = b.length
  · have h1 : ((a.length : Int) != (b.length : Int)) = false := by rw [hab]; simp
    (repeat (first | (with_reducible refine oz (by constructor <;> decide) ?_) | ((with_reducible apply SC.region); (simp only [go_sem, ↓reduceIte, zn1, zn2, zn3, zn4, zn5, zn6, reduceCtorEq, zn7, zi1, zi2, if_pos, if_neg]; rfl))))
    refine SC.cond (by simp only [go_sem, ↓reduceIte, zn1, zn2, zn3, zn4, zn5, zn6, reduceCtorEq, zn7, zi1, zi2, if_pos, if_neg, h1]; rfl) ?_ ?_
    · intro h; cases h
    intro _
    (repeat (first | (with_reducible refine oz (by constructor <;> decide) ?_) | ((with_reducible apply SC.region); (simp only [go_sem, ↓reduceIte, zn1, zn2, zn3, zn4, zn5, zn6, reduceCtorEq, zn7, zi1, zi2, if_pos, if_neg]; rfl))))
    refine SC.loop (fun k : Nat => ⟨[(0, .im (lv a) a.length), (1, .im (lv b) b.length), (4, .sc (.bool false)), (5, .sc (.int .i64 ((k : Int) - 1)))], [], 0, 41⟩)
      (fun k => k ≤ a.length ∧ (val a < val b ↔ val (a.take k) < val (b.take k))) (fun k => k) a.length ?_ ?_ ?_
    · (refine Le.of [] hB (by exact ⟨znc _, fun _ _ => znc _⟩) ?_ ?_ <;> (repeat' (first | exact leSl_nil | exact leHp_nil | refine leSl_cons (by simp (disch := omega) only [go_sem, ↓reduceIte, zn1, zn2, zn3, zn4, zn5, zn6, reduceCtorEq, zn7, zi1, zi2, if_pos, if_neg]; rfl) ?_ ?_ | exact VLe.refl rfl)))
    · exact ⟨znb _, by rw [List.take_length, hab, List.take_length]⟩
    · rintro k ⟨hk, hI⟩ K hK
      by_cases h0 : k = 0
      · subst h0
        (repeat (first | (with_reducible refine oz (by constructor <;> decide) ?_) | ((with_reducible apply SC.region); (simp only [go_sem, ↓reduceIte, zn1, zn2, zn3, zn4, zn5, zn6, reduceCtorEq, zn7, zi1, zi2, if_pos, if_neg]; rfl))))
        refine SC.cond (by simp only [go_sem, ↓reduceIte, zn1, zn2, zn3, zn4, zn5, zn6, reduceCtorEq, zn7, zi1, zi2, if_pos, if_neg]; rfl) ?_ ?_
        · intro h; simp at h
        intro _
        (repeat (first | (with_reducible refine oz (by constructor <;> decide) ?_) | ((with_reducible apply SC.region); (simp only [go_sem, ↓reduceIte, zn1, zn2, zn3, zn4, zn5, zn6, reduceCtorEq, zn7, zi1, zi2, if_pos, if_neg]; rfl))))
        refine retQ_ret Tryz.results99 (by simp only [go_sem, ↓reduceIte, zn1, zn2, zn3, zn4, zn5, zn6, reduceCtorEq, zn7, zi1, zi2, if_pos, if_neg]; rfl) (by simp only [go_sem, ↓reduceIte, zn1, zn2, zn3, zn4, zn5, zn6, reduceCtorEq, zn7, zi1, zi2, if_pos, if_neg]; rfl) ?_
        unfold lessL
        rw [if_pos hab, decide_eq_false (fun h => by have := hI.1 h; simp [val] at this)]
      · have hi : ((k : Int) - 1).toNat = k - 1 := by omega
        have hga := lv_get (l := a) (i := k - 1) (by omega)
        have hgb := lv_get (l := b) (i := k - 1) (by omega)
        have hd : decide ((k : Int) - 1 ≥ 0) = true := by simp; omega
        (repeat (first | (with_reducible refine oz (by constructor <;> decide) ?_) | ((with_reducible apply SC.region); (simp only [go_sem, ↓reduceIte, zn1, zn2, zn3, zn4, zn5, zn6, reduceCtorEq, zn7, zi1, zi2, if_pos, if_neg]; rfl))))
        refine SC.cond (by simp only [go_sem, ↓reduceIte, zn1, zn2, zn3, zn4, zn5, zn6, reduceCtorEq, zn7, zi1, zi2, if_pos, if_neg, hd]; rfl) ?_ ?_
        rotate_left
        · intro h; cases h
        intro _
        have hs := val_lt_step (a := a) (b := b) (k := k - 1) ha hb (by omega) (by omega)
        rw [show k - 1 + 1 = k by omega, ← hI] at hs
        by_cases hx : a.getD (k - 1) 0 = b.getD (k - 1) 0
        · have hne : (((a.getD (k - 1) 0 : Nat) : Int) != ((b.getD (k - 1) 0 : Nat) : Int)) = false := by rw [hx]; simp
          (repeat (first | (with_reducible refine oz (by constructor <;> decide) ?_) | (with_reducible refine SC.draw Tab.mixed rfl ?_; (repeat (refine DO.run (by simp (disch := omega) only [go_sem, ↓reduceIte, zn1, zn2, zn3, zn4, zn5, zn6, reduceCtorEq, zn7, zi1, zi2, if_pos, if_neg, hi, hga, hgb, hd, hne, lv_len, zl5]; rfl) ?_)); refine DO.nil (by kernel_rfl) ?_)))
          refine SC.cond (by simp (disch := omega) only [go_sem, ↓reduceIte, zn1, zn2, zn3, zn4, zn5, zn6, reduceCtorEq, zn7, zi1, zi2, if_pos, if_neg]; rfl) ?_ ?_
          · intro h; cases h
          intro _
          (repeat (first | (with_reducible refine oz (by constructor <;> decide) ?_) | ((with_reducible apply SC.region); (simp only [go_sem, ↓reduceIte, zn1, zn2, zn3, zn4, zn5, zn6, reduceCtorEq, zn7, zi1, zi2, if_pos, if_neg]; rfl))))
          refine hK _ (k - 1) ?_ ⟨by omega, hs.1 hx⟩ (by omega)
          (refine Le.of [] hB (by exact ⟨znc _, fun _ _ => znc _⟩) ?_ ?_ <;> (repeat' (first | exact leSl_nil | exact leHp_nil | refine leSl_cons (by simp (disch := omega) only [go_sem, ↓reduceIte, zn1, zn2, zn3, zn4, zn5, zn6, reduceCtorEq, zn7, zi1, zi2, if_pos, if_neg]; rfl) ?_ ?_ | exact VLe.refl rfl | exact VLe.int (by omega))))
        · have hne : (((a.getD (k - 1) 0 : Nat) : Int) != ((b.getD (k - 1) 0 : Nat) : Int)) = true := by simp only [bne_iff_ne, ne_eq]; omega
          (repeat (first | (with_reducible refine oz (by constructor <;> decide) ?_) | (with_reducible refine SC.draw Tab.mixed rfl ?_; (repeat (refine DO.run (by simp (disch := omega) only [go_sem, ↓reduceIte, zn1, zn2, zn3, zn4, zn5, zn6, reduceCtorEq, zn7, zi1, zi2, if_pos, if_neg, hi, hga, hgb, hd, hne, lv_len, zl5]; rfl) ?_)); refine DO.nil (by kernel_rfl) ?_)))
          refine SC.cond (by simp (disch := omega) only [go_sem, ↓reduceIte, zn1, zn2, zn3, zn4, zn5, zn6, reduceCtorEq, zn7, zi1, zi2, if_pos, if_neg]; rfl) ?_ ?_
          rotate_left
          · intro h; cases h
          intro _
          (repeat (first | (with_reducible refine oz (by constructor <;> decide) ?_) | (with_reducible refine SC.draw Tab.mixed rfl ?_; (repeat (refine DO.run (by simp (disch := omega) only [go_sem, ↓reduceIte, zn1, zn2, zn3, zn4, zn5, zn6, reduceCtorEq, zn7, zi1, zi2, if_pos, if_neg, hi, hga, hgb, hd, hne, lv_len, zl5]; rfl) ?_)); refine DO.nil (by kernel_rfl) ?_)))
          refine retQ_ret Tryz.results99 (by simp (disch := omega) only [go_sem, ↓reduceIte, zn1, zn2, zn3, zn4, zn5, zn6, reduceCtorEq, zn7, zi1, zi2, if_pos, if_neg]; rfl) (by simp (disch := omega) only [go_sem, ↓reduceIte, zn1, zn2, zn3, zn4, zn5, zn6, reduceCtorEq, zn7, zi1, zi2, if_pos, if_neg]; rfl) ?_
          unfold lessL
          rw [if_pos hab]
          have := hs.2 hx
          exact congrArg (fun t => V.sc (.bool t)) (decide_eq_decide.2 (by rw [this]; omega))
  · have h1 : ((a.length : Int) != (b.length : Int)) = true := by simp only [bne_iff_ne, ne_eq]; omega
    (repeat (first | (with_reducible refine oz (by constructor <;> decide) ?_) | ((with_reducible apply SC.region); (simp only [go_sem, ↓reduceIte, zn1, zn2, zn3, zn4, zn5, zn6, reduceCtorEq, zn7, zi1, zi2, if_pos, if_neg]; rfl))))
    refine SC.cond (by simp only [go_sem, ↓reduceIte, zn1, zn2, zn3, zn4, zn5, zn6, reduceCtorEq, zn7, zi1, zi2, if_pos, if_neg, h1]; rfl) ?_ ?_
    rotate_left
    · intro h; cases h
    intro _
    (repeat (first | (with_reducible refine oz (by constructor <;> decide) ?_) | ((with_reducible apply SC.region); (simp only [go_sem, ↓reduceIte, zn1, zn2, zn3, zn4, zn5, zn6, reduceCtorEq, zn7, zi1, zi2, if_pos, if_neg]; rfl))))
    refine retQ_ret Tryz.results99 (by simp only [go_sem, ↓reduceIte, zn1, zn2, zn3, zn4, zn5, zn6, reduceCtorEq, zn7, zi1, zi2, if_pos, if_neg]; rfl) (by simp only [go_sem, ↓reduceIte, zn1, zn2, zn3, zn4, zn5, zn6, reduceCtorEq, zn7, zi1, zi2, if_pos, if_neg]; rfl) ?_
    unfold lessL
    rw [if_neg hab]
    exact congrArg (fun t => V.sc (.bool t)) (decide_eq_decide.2 (by omega))
end Go.Proofs.YtphilljhfdlfdaaGreat
namespace Go.Proofs.YtphilljhfdlfdaaGreat
open Go.RowKit
theorem lessL_limbs (m n : Nat) : lessL (limbsOf m) (limbsOf n) = decide (m < n) := by
  rw [lessL_eq (limbsOf_limbs m) (limbsOf_limbs n) (limbsOf_canon m) (limbsOf_canon n), limbsOf_val, limbsOf_val]
theorem less_n (m n : Nat) (hm : (limbsOf m).length ≤ 1000000000) (hn : (limbsOf n).length ≤ 1000000000) : Spec Tryz.prog 99 [sv (limbsOf m), sv (limbsOf n)] (.sc (.bool (decide (m < n)))) := by
  have := less_i _ _ (limbsOf_limbs m) (limbsOf_limbs n) hm hn
  rwa [lessL_limbs] at this
theorem two_limbs {m : Nat} (h : m < 18446744073709551616) : val [m % 4294967296, m / 4294967296] = m ∧ limbs [m % 4294967296, m / 4294967296] := by
  refine ⟨by simp [val]; omega, fun x hx => ?_⟩
  simp at hx
  omega
theorem of_i (n : Int) (h1 : -9223372036854775808 ≤ n) (h2 : n < 9223372036854775808) : Spec Tryz.prog 11 [.sc (.int .i64 n)] (iv n) := by
  obtain ⟨hv, hl⟩ := two_limbs (m := n.natAbs) (by omega)
  have hm := made_i [n.natAbs % 4294967296, n.natAbs / 4294967296] (decide (n < 0)) hl (by simp)
  rw [hv] at hm
  have hs : sgn (decide (n < 0)) n.natAbs = n := by unfold sgn; split <;> simp_all <;> omega
  rw [hs] at hm
  unfold sv at hm
  rw [show lv [n.natAbs % 4294967296, n.natAbs / 4294967296] = [.sc (.int .u32 ((n.natAbs % 4294967296 : Nat) : Int)), .sc (.int .u32 ((n.natAbs / 4294967296 : Nat) : Int))] from rfl] at hm
  unfold iv sv at hm ⊢
  refine Spec.run Tryz.func11 rfl Tryz.ntmps11 (by simp) (by simp only [go_sem, ↓reduceIte, zn1, zn2, zn3, zn4, zn5, zn6, reduceCtorEq, zn7, zi1, zi2, if_pos, if_neg]; rfl) fun B hB => ?_
  obtain ⟨m, hm0⟩ : ∃ m, m = n.natAbs := ⟨_, rfl⟩
  rw [← hm0] at hm
  have w1 : (m : Int) % 4294967296 = ((m % 4294967296 : Nat) : Int) := by simp
  have w2 : (m : Int) / 2 ^ min 32 64 % 4294967296 = ((m / 4294967296 : Nat) : Int) := by
    have : (2 : Int) ^ min 32 64 = 4294967296 := by decide
    rw [this]; omega
  simp only [List.length_cons, List.length_nil, zn9, zn4] at hm
  by_cases h0 : n < 0
  · have e1 : IntKind.u64.wrap n = n + 18446744073709551616 := by simp [IntKind.wrap, IntKind.bits, IntKind.signed]; omega
    have e2 : IntKind.u64.wrap (0 - (n + 18446744073709551616)) = (m : Int) := by simp [IntKind.wrap, IntKind.bits, IntKind.signed]; omega
    have hd : decide (n < 0) = true := decide_eq_true h0
    rw [hd] at hm
    (repeat (first | (with_reducible refine oz (by constructor <;> decide) ?_) | ((with_reducible apply SC.region); (simp only [go_sem, ↓reduceIte, zn1, zn2, zn3, zn4, zn5, zn6, reduceCtorEq, zn7, zi1, zi2, if_pos, if_neg, e1, hd]; rfl))))
    refine SC.cond (by simp only [go_sem, ↓reduceIte, zn1, zn2, zn3, zn4, zn5, zn6, reduceCtorEq, zn7, zi1, zi2, if_pos, if_neg]; rfl) ?_ ?_
    rotate_left
    · intro h; cases h
    intro _
    (repeat (first | (with_reducible refine oz (by constructor <;> decide) ?_) | ((with_reducible apply SC.region); (simp (disch := omega) only [go_sem, ↓reduceIte, zn1, zn2, zn3, zn4, zn5, zn6, reduceCtorEq, zn7, zi1, zi2, if_pos, if_neg, e1, e2, hd]; rfl))))
    refine SC.ops ?_
    (repeat (refine SO.run (by simp only [go_sem, ↓reduceIte, zn1, zn2, zn3, zn4, zn5, zn6, reduceCtorEq, zn7, zi1, zi2, if_pos, if_neg, hd]; rfl) ?_))
    (refine SO.call Tab.go18 (by simp only [go_sem, ↓reduceIte, zn1, zn2, zn3, zn4, zn5, zn6, reduceCtorEq, zn7, zi1, zi2, if_pos, if_neg]; rfl) (by simp only [go_sem, ↓reduceIte, zn1, zn2, zn3, zn4, zn5, zn6, reduceCtorEq, zn7, zi1, zi2, if_pos, if_neg] <;> rfl) ?_)
    rw [w1, w2]
    (refine SCall.ofF (hm) (by simp only [go_sem, ↓reduceIte, zn1, zn2, zn3, zn4, zn5, zn6, reduceCtorEq, zn7, zi1, zi2, if_pos, if_neg]; rfl) ?_)
    (repeat (refine SO.run (by simp only [go_sem, ↓reduceIte, zn1, zn2, zn3, zn4, zn5, zn6, reduceCtorEq, zn7, zi1, zi2, if_pos, if_neg]; rfl) ?_))
    (repeat ((with_reducible refine oz (by constructor <;> decide) ?_)))
    refine retQ_ret Tryz.results11 (by simp only [go_sem, ↓reduceIte, zn1, zn2, zn3, zn4, zn5, zn6, reduceCtorEq, zn7, zi1, zi2, if_pos, if_neg]; rfl) (by simp only [go_sem, ↓reduceIte, zn1, zn2, zn3, zn4, zn5, zn6, reduceCtorEq, zn7, zi1, zi2, if_pos, if_neg]; rfl) ?_
    rw [hd, ← hm0]
  · have e1 : IntKind.u64.wrap n = (m : Int) := by simp [IntKind.wrap, IntKind.bits, IntKind.signed]; omega
    have hd : decide (n < 0) = false := decide_eq_false h0
    rw [hd] at hm
    (repeat (first | (with_reducible refine oz (by constructor <;> decide) ?_) | ((with_reducible apply SC.region); (simp only [go_sem, ↓reduceIte, zn1, zn2, zn3, zn4, zn5, zn6, reduceCtorEq, zn7, zi1, zi2, if_pos, if_neg, e1, hd]; rfl))))
    refine SC.cond (by simp only [go_sem, ↓reduceIte, zn1, zn2, zn3, zn4, zn5, zn6, reduceCtorEq, zn7, zi1, zi2, if_pos, if_neg]; rfl) ?_ ?_
    · intro h; cases h
    intro _
    (repeat ((with_reducible refine oz (by constructor <;> decide) ?_)))
    refine SC.ops ?_
    (repeat (refine SO.run (by simp only [go_sem, ↓reduceIte, zn1, zn2, zn3, zn4, zn5, zn6, reduceCtorEq, zn7, zi1, zi2, if_pos, if_neg, hd]; rfl) ?_))
    (refine SO.call Tab.go18 (by simp only [go_sem, ↓reduceIte, zn1, zn2, zn3, zn4, zn5, zn6, reduceCtorEq, zn7, zi1, zi2, if_pos, if_neg]; rfl) (by simp only [go_sem, ↓reduceIte, zn1, zn2, zn3, zn4, zn5, zn6, reduceCtorEq, zn7, zi1, zi2, if_pos, if_neg] <;> rfl) ?_)
    rw [w1, w2]
    (refine SCall.ofF (hm) (by simp only [go_sem, ↓reduceIte, zn1, zn2, zn3, zn4, zn5, zn6, reduceCtorEq, zn7, zi1, zi2, if_pos, if_neg]; rfl) ?_)
    (repeat (refine SO.run (by simp only [go_sem, ↓reduceIte, zn1, zn2, zn3, zn4, zn5, zn6, reduceCtorEq, zn7, zi1, zi2, if_pos, if_neg]; rfl) ?_))
    (repeat ((with_reducible refine oz (by constructor <;> decide) ?_)))
    refine retQ_ret Tryz.results11 (by simp only [go_sem, ↓reduceIte, zn1, zn2, zn3, zn4, zn5, zn6, reduceCtorEq, zn7, zi1, zi2, if_pos, if_neg]; rfl) (by simp only [go_sem, ↓reduceIte, zn1, zn2, zn3, zn4, zn5, zn6, reduceCtorEq, zn7, zi1, zi2, if_pos, if_neg]; rfl) ?_
    rw [hd, ← hm0]
end Go.Proofs.YtphilljhfdlfdaaGreat
namespace Go.Proofs.YtphilljhfdlfdaaGreat
open Go.RowKit
theorem clone_s (cs : List V) (hc : cs.all clo = true) (h1 : cs.all V.one = true) (hn : cs.length ≤ 1000000000) : Spec Tryz.prog 94 [.im cs cs.length] (.im cs cs.length) := by
  refine Spec.run Tryz.func94 rfl Tryz.ntmps94 (by simp) (by simp only [go_sem]; rfl) fun B hB => ?_
  (repeat (first | (with_reducible refine oz (by constructor <;> decide) ?_) | ((with_reducible apply SC.region); (simp (disch := omega) only [go_sem, ↓reduceIte, reduceCtorEq]; rfl))))
  refine SC.ops ?_
  refine SO.run (by simp only [go_sem, ↓reduceIte, reduceCtorEq]; rfl) ?_
  by_cases h0 : cs.length = 0
  · have hnil : cs = [] := List.eq_nil_of_length_eq_zero h0
    subst hnil
    refine SO.nilq (by simp (disch := omega) only [go_sem]) (by simp (disch := omega) only [go_sem, ↓reduceIte]; rfl) (by simp (disch := omega) only [go_sem]) ⟨by simp (disch := omega) only [go_sem], by simp (disch := omega) only [go_sem]⟩ fun b => ?_
    cases b
    · (repeat (first | (with_reducible refine SC.condB (by simp only [go_sem, ↓reduceIte]; rfl) ?_; with_reducible refine pickF ?_) | (with_reducible refine oz (by constructor <;> decide) ?_) | ((with_reducible apply SC.region); (simp only [go_sem, ↓reduceIte, zn1, zn2, zn3, zn4, reduceCtorEq]; rfl))))
      exact retQ_ret Tryz.results94 (by simp only [go_sem, ↓reduceIte]; rfl) (by simp only [go_sem, ↓reduceIte, zn3]; rfl) rfl
    · (repeat (first | (with_reducible refine SC.condB (by simp only [go_sem, ↓reduceIte]; rfl) ?_; with_reducible refine pickT ?_) | (with_reducible refine oz (by constructor <;> decide) ?_) | ((with_reducible apply SC.region); (simp only [go_sem, ↓reduceIte]; rfl))))
      exact retQ_ret Tryz.results94 (by simp only [go_sem, ↓reduceIte]; rfl) (by simp only [go_sem]; rfl) rfl
  · (repeat (refine SO.run (by simp (disch := omega) only [go_sem, ↓reduceIte, if_pos]; rfl) ?_))
    (repeat (first | (with_reducible refine SC.condB (by simp (disch := omega) only [go_sem, ↓reduceIte]; rfl) ?_; with_reducible refine pickF ?_) | (with_reducible refine oz (by constructor <;> decide) ?_) | ((with_reducible apply SC.region); (simp (disch := omega) only [go_sem, ↓reduceIte, zn1, zn2, zn3, zn4, reduceCtorEq, if_pos, h1]; rfl))))
    exact retQ_ret Tryz.results94 (by simp (disch := omega) only [go_sem, ↓reduceIte]; rfl) (by simp (disch := omega) only [go_sem, ↓reduceIte, if_pos, hc, List.take_length]; rfl) rfl
end Go.Proofs.YtphilljhfdlfdaaGreat
namespace Go.Proofs.YtphilljhfdlfdaaGreat
open Go.RowKit
theorem trim_i (l : List Nat) (hl : limbs l) (hm : l.length ≤ 1000000000) : Spec Tryz.prog 89 [sv l] (sv (limbsOf (val l))) := by
  unfold sv
  refine Spec.run Tryz.func89 rfl Tryz.ntmps89 (by simp) (by simp only [go_sem, ↓reduceIte, zn1, zn2, zn3, zn4, zn5, zn6, reduceCtorEq, zn7, zi1, zi2, if_pos, if_neg]; rfl) fun B hB => ?_
  (repeat (first | (with_reducible refine oz (by constructor <;> decide) ?_) | ((with_reducible apply SC.region); (simp only [go_sem, ↓reduceIte, zn1, zn2, zn3, zn4, zn5, zn6, reduceCtorEq, zn7, zi1, zi2, if_pos, if_neg]; rfl))))
  refine SC.loop (fun k : Nat => ⟨[(0, .im (lv l) l.length), (3, .sc (.int .i64 k))], [], 0, 21⟩)
    (fun k => k ≤ l.length ∧ ∀ i, k ≤ i → l.getD i 0 = 0) (fun k => k) l.length ?_ ?_ ?_
  · (refine Le.of [] hB (by exact ⟨znc _, fun _ _ => znc _⟩) ?_ ?_ <;> (repeat' (first | exact leSl_nil | exact leHp_nil | refine leSl_cons (by simp only [go_sem, ↓reduceIte, zn1, zn2, zn3, zn4, zn5, zn6, reduceCtorEq, zn7, zi1, zi2, if_pos, if_neg]; rfl) ?_ ?_ | exact VLe.refl rfl)))
  · exact ⟨znb _, fun i hi => by simp [hi]⟩
  · rintro k ⟨hk, hz⟩ K hK
    have hlen : (l.take k).length = k := by simp; omega
    by_cases h0 : k = 0
    · subst h0
      (repeat (first | (with_reducible refine oz (by constructor <;> decide) ?_) | ((with_reducible apply SC.region); (simp only [go_sem, ↓reduceIte, zn1, zn2, zn3, zn4, zn5, zn6, reduceCtorEq, zn7, zi1, zi2, if_pos, if_neg]; rfl))))
      refine SC.cond (by simp only [go_sem, ↓reduceIte, zn1, zn2, zn3, zn4, zn5, zn6, reduceCtorEq, zn7, zi1, zi2, if_pos, if_neg]; rfl) ?_ ?_
      · intro h; cases h
      intro _
      (repeat (first | (with_reducible refine oz (by constructor <;> decide) ?_) | ((with_reducible apply SC.region); (simp only [go_sem, ↓reduceIte, zn1, zn2, zn3, zn4, zn5, zn6, reduceCtorEq, zn7, zi1, zi2, if_pos, if_neg]; rfl))))
      have e1 := (made_tree (neg := false) hl hz hk (fun h => absurd rfl h)).1
      have e2 : (sgn false (val l)).natAbs = val l := by simp [sgn]
      rw [e2] at e1
      refine retQ_ret Tryz.results89 (by simp only [go_sem, ↓reduceIte, zn1, zn2, zn3, zn4, zn5, zn6, reduceCtorEq, zn7, zi1, zi2, if_pos, if_neg]; rfl) (by simp only [go_sem, ↓reduceIte, zn1, zn2, zn3, zn4, zn5, zn6, reduceCtorEq, zn7, zi1, zi2, if_pos, if_neg]; rfl) ?_
      rw [e1]; simp [lv]
    · have hi : ((k : Int) - 1).toNat = k - 1 := by omega
      have hg := lv_get (l := l) (i := k - 1) (by omega)
      have hd : decide ((k : Int) > 0) = true := by simp; omega
      by_cases hx : l.getD (k - 1) 0 = 0
      · have hb : (((l.getD (k - 1) 0 : Nat) : Int) == 0) = true := by simp only [beq_iff_eq]; omega
        (repeat (first | (with_reducible refine oz (by constructor <;> decide) ?_) | ((with_reducible apply SC.region); (simp only [go_sem, ↓reduceIte, zn1, zn2, zn3, zn4, zn5, zn6, reduceCtorEq, zn7, zi1, zi2, if_pos, if_neg]; rfl))))
        refine SC.cond (by simp only [go_sem, ↓reduceIte, zn1, zn2, zn3, zn4, zn5, zn6, reduceCtorEq, zn7, zi1, zi2, if_pos, if_neg, hd]; rfl) ?_ ?_
        rotate_left
        · intro h; cases h
        intro _
        (repeat (first | (with_reducible refine oz (by constructor <;> decide) ?_) | ((with_reducible apply SC.region); (simp (disch := omega) only [go_sem, ↓reduceIte, zn1, zn2, zn3, zn4, zn5, zn6, reduceCtorEq, zn7, zi1, zi2, if_pos, if_neg, hi, hg, hd, hb, lv_len, zl5]; rfl))))
        refine SC.cond (by simp (disch := omega) only [go_sem, ↓reduceIte, zn1, zn2, zn3, zn4, zn5, zn6, reduceCtorEq, zn7, zi1, zi2, if_pos, if_neg]; rfl) ?_ ?_
        rotate_left
        · intro h; cases h
        intro _
        (repeat (first | (with_reducible refine oz (by constructor <;> decide) ?_) | ((with_reducible apply SC.region); (simp only [go_sem, ↓reduceIte, zn1, zn2, zn3, zn4, zn5, zn6, reduceCtorEq, zn7, zi1, zi2, if_pos, if_neg]; rfl))))
        refine hK _ (k - 1) ?_ ⟨by omega, fun i hi => ?_⟩ (by omega)
        · (refine Le.of [] hB (by exact ⟨znc _, fun _ _ => znc _⟩) ?_ ?_ <;> (repeat' (first | exact leSl_nil | exact leHp_nil | refine leSl_cons (by simp (disch := omega) only [go_sem, ↓reduceIte, zn1, zn2, zn3, zn4, zn5, zn6, reduceCtorEq, zn7, zi1, zi2, if_pos, if_neg]; rfl) ?_ ?_ | exact VLe.refl rfl | exact VLe.int (by omega))))
        · rcases Nat.lt_or_ge i k with h | h
          · rw [show i = k - 1 by omega]; exact hx
          · exact hz i h
      · have hb : (((l.getD (k - 1) 0 : Nat) : Int) == 0) = false := by simp only [beq_eq_false_iff_ne, ne_eq]; omega
        have e1 := (made_tree (neg := false) hl hz hk (fun _ => hx)).1
        have e2 : (sgn false (val l)).natAbs = val l := by simp [sgn]
        rw [e2] at e1
        (repeat (first | (with_reducible refine oz (by constructor <;> decide) ?_) | ((with_reducible apply SC.region); (simp only [go_sem, ↓reduceIte, zn1, zn2, zn3, zn4, zn5, zn6, reduceCtorEq, zn7, zi1, zi2, if_pos, if_neg]; rfl))))
        refine SC.cond (by simp only [go_sem, ↓reduceIte, zn1, zn2, zn3, zn4, zn5, zn6, reduceCtorEq, zn7, zi1, zi2, if_pos, if_neg, hd]; rfl) ?_ ?_
        rotate_left
        · intro h; cases h
        intro _
        (repeat (first | (with_reducible refine oz (by constructor <;> decide) ?_) | ((with_reducible apply SC.region); (simp (disch := omega) only [go_sem, ↓reduceIte, zn1, zn2, zn3, zn4, zn5, zn6, reduceCtorEq, zn7, zi1, zi2, if_pos, if_neg, hi, hg, hd, hb, lv_len, zl5]; rfl))))
        refine SC.cond (by simp (disch := omega) only [go_sem, ↓reduceIte, zn1, zn2, zn3, zn4, zn5, zn6, reduceCtorEq, zn7, zi1, zi2, if_pos, if_neg]; rfl) ?_ ?_
        · intro h; cases h
        intro _
        (repeat (first | (with_reducible refine oz (by constructor <;> decide) ?_) | ((with_reducible apply SC.region); (simp (disch := omega) only [go_sem, ↓reduceIte, zn1, zn2, zn3, zn4, zn5, zn6, reduceCtorEq, zn7, zi1, zi2, if_pos, if_neg, hi, hg, hd, hb, lv_len, lv_take, hlen]; rfl))))
        refine retQ_ret Tryz.results89 (by simp (disch := omega) only [go_sem, ↓reduceIte, zn1, zn2, zn3, zn4, zn5, zn6, reduceCtorEq, zn7, zi1, zi2, if_pos, if_neg]; rfl) (by simp (disch := omega) only [go_sem, ↓reduceIte, zn1, zn2, zn3, zn4, zn5, zn6, reduceCtorEq, zn7, zi1, zi2, if_pos, if_neg]; rfl) ?_
        rw [e1, hlen]
theorem limbs_s (m : Nat) (h : m < 18446744073709551616) : Spec Tryz.prog 96 [.sc (.int .u64 m)] (.im [.sc (.int .u32 ((m % 4294967296 : Nat) : Int)), .sc (.int .u32 ((m / 4294967296 : Nat) : Int))] 2) := by
  have w1 : (m : Int) % 4294967296 = ((m % 4294967296 : Nat) : Int) := by simp
  have w2 : (m : Int) / 2 ^ min 32 64 % 4294967296 = ((m / 4294967296 : Nat) : Int) := by
    have : (2 : Int) ^ min 32 64 = 4294967296 := by decide
    rw [this]; omega
  refine Spec.run Tryz.func96 rfl Tryz.ntmps96 (by simp) (by simp only [go_sem, ↓reduceIte, zn1, zn2, zn3, zn4, zn5, zn6, reduceCtorEq, zn7, zi1, zi2, if_pos, if_neg]; rfl) fun B hB => ?_
  (repeat (first | (with_reducible refine oz (by constructor <;> decide) ?_) | ((with_reducible apply SC.region); (simp (disch := omega) only [go_sem, ↓reduceIte, zn1, zn2, zn3, zn4, zn5, zn6, reduceCtorEq, zn7, zi1, zi2, if_pos, if_neg]; rfl))))
  refine retQ_ret Tryz.results96 (by simp only [go_sem, ↓reduceIte, zn1, zn2, zn3, zn4, zn5, zn6, reduceCtorEq, zn7, zi1, zi2, if_pos, if_neg]; rfl) (by simp only [go_sem, ↓reduceIte, zn1, zn2, zn3, zn4, zn5, zn6, reduceCtorEq, zn7, zi1, zi2, if_pos, if_neg]; rfl) ?_
  rw [w1, w2]
theorem value_i (neg : Bool) (l : List Nat) (hl : limbs l) (hm : l.length ≤ 1000000000) : Spec Tryz.prog 93 [.sc (.bool neg), sv l] (iv (sgn neg (val l))) := by
  have ht := trim_i l hl hm
  obtain ⟨L, eL⟩ : ∃ L, L = limbsOf (val l) := ⟨_, rfl⟩
  have hn : (sgn neg (val l)).natAbs = val l := by unfold sgn; cases neg <;> simp
  rw [← eL] at ht
  unfold iv
  rw [hn, ← eL]
  unfold sv at ht ⊢
  refine Spec.run Tryz.func93 rfl Tryz.ntmps93 (by simp) (by simp only [go_sem, ↓reduceIte, zn1, zn2, zn3, zn4, zn5, zn6, reduceCtorEq, zn7, zi1, zi2, if_pos, if_neg]; rfl) fun B hB => ?_
  (repeat (first | (with_reducible refine oz (by constructor <;> decide) ?_) | ((with_reducible apply SC.region); (simp only [go_sem, ↓reduceIte, zn1, zn2, zn3, zn4, zn5, zn6, reduceCtorEq, zn7, zi1, zi2, if_pos, if_neg]; rfl))))
  refine SC.ops ?_
  (repeat (refine SO.run (by simp only [go_sem, ↓reduceIte, zn1, zn2, zn3, zn4, zn5, zn6, reduceCtorEq, zn7, zi1, zi2, if_pos, if_neg]; rfl) ?_))
  (refine SO.call Tab.go89 (by simp only [go_sem, ↓reduceIte, zn1, zn2, zn3, zn4, zn5, zn6, reduceCtorEq, zn7, zi1, zi2, if_pos, if_neg]; rfl) (by simp only [go_sem, ↓reduceIte, zn1, zn2, zn3, zn4, zn5, zn6, reduceCtorEq, zn7, zi1, zi2, if_pos, if_neg] <;> rfl) ?_)
  (refine SCall.ofF (ht) (by simp only [go_sem, ↓reduceIte, zn1, zn2, zn3, zn4, zn5, zn6, reduceCtorEq, zn7, zi1, zi2, if_pos, if_neg]; rfl) ?_)
  by_cases h0 : L.length = 0
  · have hL : L = [] := List.eq_nil_of_length_eq_zero h0
    have hv : val l = 0 := limbsOf_nil.1 (eL ▸ hL)
    subst hL
    have hd : decide (sgn neg (val l) < 0) = false := by rw [hv]; unfold sgn; cases neg <;> simp
    rw [hd]
    (repeat (refine SO.run (by simp only [go_sem, ↓reduceIte, zn1, zn2, zn3, zn4, zn5, zn6, reduceCtorEq, zn7, zi1, zi2, if_pos, if_neg]; rfl) ?_))
    (repeat (first | (with_reducible refine oz (by constructor <;> decide) ?_) | ((with_reducible apply SC.region); (simp only [go_sem, ↓reduceIte, zn1, zn2, zn3, zn4, zn5, zn6, reduceCtorEq, zn7, zi1, zi2, if_pos, if_neg]; rfl))))
    refine SC.cond (by simp only [go_sem, ↓reduceIte, zn1, zn2, zn3, zn4, zn5, zn6, reduceCtorEq, zn7, zi1, zi2, if_pos, if_neg]; rfl) ?_ ?_
    rotate_left
    · intro h; simp at h
    intro _
    (repeat (first | (with_reducible refine oz (by constructor <;> decide) ?_) | ((with_reducible apply SC.region); (simp only [go_sem, ↓reduceIte, zn1, zn2, zn3, zn4, zn5, zn6, reduceCtorEq, zn7, zi1, zi2, if_pos, if_neg]; rfl))))
    exact retQ_ret Tryz.results93 (by simp only [go_sem, ↓reduceIte, zn1, zn2, zn3, zn4, zn5, zn6, reduceCtorEq, zn7, zi1, zi2, if_pos, if_neg]; rfl) (by simp only [go_sem, ↓reduceIte, zn1, zn2, zn3, zn4, zn5, zn6, reduceCtorEq, zn7, zi1, zi2, if_pos, if_neg]; rfl) rfl
  · have hv : val l ≠ 0 := fun h => h0 (by rw [eL, h]; rfl)
    have hd : decide (sgn neg (val l) < 0) = neg := by unfold sgn; cases neg <;> simp; omega
    have hb : ((L.length : Int) == 0) = false := by simp only [beq_eq_false_iff_ne, ne_eq]; omega
    rw [hd]
    (repeat (refine SO.run (by simp only [go_sem, ↓reduceIte, zn1, zn2, zn3, zn4, zn5, zn6, reduceCtorEq, zn7, zi1, zi2, if_pos, if_neg]; rfl) ?_))
    (repeat (first | (with_reducible refine oz (by constructor <;> decide) ?_) | ((with_reducible apply SC.region); (simp only [go_sem, ↓reduceIte, zn1, zn2, zn3, zn4, zn5, zn6, reduceCtorEq, zn7, zi1, zi2, if_pos, if_neg]; rfl))))
    refine SC.cond (by simp only [go_sem, ↓reduceIte, zn1, zn2, zn3, zn4, zn5, zn6, reduceCtorEq, zn7, zi1, zi2, if_pos, if_neg, hb]; rfl) ?_ ?_
    · intro h; cases h
    intro _
    (repeat (first | (with_reducible refine oz (by constructor <;> decide) ?_) | ((with_reducible apply SC.region); (simp only [go_sem, ↓reduceIte, zn1, zn2, zn3, zn4, zn5, zn6, reduceCtorEq, zn7, zi1, zi2, if_pos, if_neg]; rfl))))
    exact retQ_ret Tryz.results93 (by simp only [go_sem, ↓reduceIte, zn1, zn2, zn3, zn4, zn5, zn6, reduceCtorEq, zn7, zi1, zi2, if_pos, if_neg]; rfl) (by simp only [go_sem, ↓reduceIte, zn1, zn2, zn3, zn4, zn5, zn6, reduceCtorEq, zn7, zi1, zi2, if_pos, if_neg]; rfl) rfl
theorem pof_i (n : Int) (h1 : -9223372036854775808 ≤ n) (h2 : n < 9223372036854775808) : Spec Tryz.prog 85 [.sc (.int .i64 n)] (iv n) := by
  obtain ⟨hv, hl⟩ := two_limbs (m := n.natAbs) (by omega)
  have hm := value_i (decide (n < 0)) [n.natAbs % 4294967296, n.natAbs / 4294967296] hl (by simp)
  rw [hv] at hm
  have hs : sgn (decide (n < 0)) n.natAbs = n := by unfold sgn; split <;> simp_all <;> omega
  rw [hs] at hm
  unfold sv at hm
  rw [show lv [n.natAbs % 4294967296, n.natAbs / 4294967296] = [.sc (.int .u32 ((n.natAbs % 4294967296 : Nat) : Int)), .sc (.int .u32 ((n.natAbs / 4294967296 : Nat) : Int))] from rfl] at hm
  unfold iv sv at hm ⊢
  obtain ⟨m, hm0⟩ : ∃ m, m = n.natAbs := ⟨_, rfl⟩
  rw [← hm0] at hm
  have hlim := limbs_s m (by omega)
  simp only [List.length_cons, List.length_nil, zn9, zn4] at hm
  refine Spec.run Tryz.func85 rfl Tryz.ntmps85 (by simp) (by simp only [go_sem, ↓reduceIte, zn1, zn2, zn3, zn4, zn5, zn6, reduceCtorEq, zn7, zi1, zi2, if_pos, if_neg]; rfl) fun B hB => ?_
  by_cases h0 : n < 0
  · have e1 : IntKind.u64.wrap n = n + 18446744073709551616 := by simp [IntKind.wrap, IntKind.bits, IntKind.signed]; omega
    have e2 : IntKind.u64.wrap (0 - (n + 18446744073709551616)) = (m : Int) := by simp [IntKind.wrap, IntKind.bits, IntKind.signed]; omega
    have hd : decide (n < 0) = true := decide_eq_true h0
    rw [hd] at hm
    (repeat (first | (with_reducible refine oz (by constructor <;> decide) ?_) | ((with_reducible apply SC.region); (simp only [go_sem, ↓reduceIte, zn1, zn2, zn3, zn4, zn5, zn6, reduceCtorEq, zn7, zi1, zi2, if_pos, if_neg, e1, hd]; rfl))))
    refine SC.cond (by simp only [go_sem, ↓reduceIte, zn1, zn2, zn3, zn4, zn5, zn6, reduceCtorEq, zn7, zi1, zi2, if_pos, if_neg]; rfl) ?_ ?_
    rotate_left
    · intro h; cases h
    intro _
    (repeat (first | (with_reducible refine oz (by constructor <;> decide) ?_) | ((with_reducible apply SC.region); (simp only [go_sem, ↓reduceIte, zn1, zn2, zn3, zn4, zn5, zn6, reduceCtorEq, zn7, zi1, zi2, if_pos, if_neg, e1, e2, hd]; rfl))))
    refine SC.ops ?_
    (repeat (refine SO.run (by simp only [go_sem, ↓reduceIte, zn1, zn2, zn3, zn4, zn5, zn6, reduceCtorEq, zn7, zi1, zi2, if_pos, if_neg, hd]; rfl) ?_))
    (refine SO.call Tab.go96 (by simp only [go_sem, ↓reduceIte, zn1, zn2, zn3, zn4, zn5, zn6, reduceCtorEq, zn7, zi1, zi2, if_pos, if_neg]; rfl) (by simp only [go_sem, ↓reduceIte, zn1, zn2, zn3, zn4, zn5, zn6, reduceCtorEq, zn7, zi1, zi2, if_pos, if_neg] <;> rfl) ?_)
    (refine SCall.of (hlim) (by simp only [go_sem, ↓reduceIte, zn1, zn2, zn3, zn4, zn5, zn6, reduceCtorEq, zn7, zi1, zi2, if_pos, if_neg]; rfl) ?_)
    (repeat (refine SO.run (by simp only [go_sem, ↓reduceIte, zn1, zn2, zn3, zn4, zn5, zn6, reduceCtorEq, zn7, zi1, zi2, if_pos, if_neg, hd]; rfl) ?_))
    (refine SO.call Tab.go93 (by simp only [go_sem, ↓reduceIte, zn1, zn2, zn3, zn4, zn5, zn6, reduceCtorEq, zn7, zi1, zi2, if_pos, if_neg]; rfl) (by simp only [go_sem, ↓reduceIte, zn1, zn2, zn3, zn4, zn5, zn6, reduceCtorEq, zn7, zi1, zi2, if_pos, if_neg] <;> rfl) ?_)
    (refine SCall.ofF (hm) (by simp only [go_sem, ↓reduceIte, zn1, zn2, zn3, zn4, zn5, zn6, reduceCtorEq, zn7, zi1, zi2, if_pos, if_neg]; rfl) ?_)
    (repeat (refine SO.run (by simp only [go_sem, ↓reduceIte, zn1, zn2, zn3, zn4, zn5, zn6, reduceCtorEq, zn7, zi1, zi2, if_pos, if_neg]; rfl) ?_))
    (repeat ((with_reducible refine oz (by constructor <;> decide) ?_)))
    refine retQ_ret Tryz.results85 (by simp only [go_sem, ↓reduceIte, zn1, zn2, zn3, zn4, zn5, zn6, reduceCtorEq, zn7, zi1, zi2, if_pos, if_neg]; rfl) (by simp only [go_sem, ↓reduceIte, zn1, zn2, zn3, zn4, zn5, zn6, reduceCtorEq, zn7, zi1, zi2, if_pos, if_neg]; rfl) ?_
    rw [hd, ← hm0]
  · have e1 : IntKind.u64.wrap n = (m : Int) := by simp [IntKind.wrap, IntKind.bits, IntKind.signed]; omega
    have hd : decide (n < 0) = false := decide_eq_false h0
    rw [hd] at hm
    (repeat (first | (with_reducible refine oz (by constructor <;> decide) ?_) | ((with_reducible apply SC.region); (simp only [go_sem, ↓reduceIte, zn1, zn2, zn3, zn4, zn5, zn6, reduceCtorEq, zn7, zi1, zi2, if_pos, if_neg, e1, hd]; rfl))))
    refine SC.cond (by simp only [go_sem, ↓reduceIte, zn1, zn2, zn3, zn4, zn5, zn6, reduceCtorEq, zn7, zi1, zi2, if_pos, if_neg]; rfl) ?_ ?_
    · intro h; cases h
    intro _
    (repeat ((with_reducible refine oz (by constructor <;> decide) ?_)))
    refine SC.ops ?_
    (repeat (refine SO.run (by simp only [go_sem, ↓reduceIte, zn1, zn2, zn3, zn4, zn5, zn6, reduceCtorEq, zn7, zi1, zi2, if_pos, if_neg, hd]; rfl) ?_))
    (refine SO.call Tab.go96 (by simp only [go_sem, ↓reduceIte, zn1, zn2, zn3, zn4, zn5, zn6, reduceCtorEq, zn7, zi1, zi2, if_pos, if_neg]; rfl) (by simp only [go_sem, ↓reduceIte, zn1, zn2, zn3, zn4, zn5, zn6, reduceCtorEq, zn7, zi1, zi2, if_pos, if_neg] <;> rfl) ?_)
    (refine SCall.of (hlim) (by simp only [go_sem, ↓reduceIte, zn1, zn2, zn3, zn4, zn5, zn6, reduceCtorEq, zn7, zi1, zi2, if_pos, if_neg]; rfl) ?_)
    (repeat (refine SO.run (by simp only [go_sem, ↓reduceIte, zn1, zn2, zn3, zn4, zn5, zn6, reduceCtorEq, zn7, zi1, zi2, if_pos, if_neg, hd]; rfl) ?_))
    (refine SO.call Tab.go93 (by simp only [go_sem, ↓reduceIte, zn1, zn2, zn3, zn4, zn5, zn6, reduceCtorEq, zn7, zi1, zi2, if_pos, if_neg]; rfl) (by simp only [go_sem, ↓reduceIte, zn1, zn2, zn3, zn4, zn5, zn6, reduceCtorEq, zn7, zi1, zi2, if_pos, if_neg] <;> rfl) ?_)
    (refine SCall.ofF (hm) (by simp only [go_sem, ↓reduceIte, zn1, zn2, zn3, zn4, zn5, zn6, reduceCtorEq, zn7, zi1, zi2, if_pos, if_neg]; rfl) ?_)
    (repeat (refine SO.run (by simp only [go_sem, ↓reduceIte, zn1, zn2, zn3, zn4, zn5, zn6, reduceCtorEq, zn7, zi1, zi2, if_pos, if_neg]; rfl) ?_))
    (repeat ((with_reducible refine oz (by constructor <;> decide) ?_)))
    refine retQ_ret Tryz.results85 (by simp only [go_sem, ↓reduceIte, zn1, zn2, zn3, zn4, zn5, zn6, reduceCtorEq, zn7, zi1, zi2, if_pos, if_neg]; rfl) (by simp only [go_sem, ↓reduceIte, zn1, zn2, zn3, zn4, zn5, zn6, reduceCtorEq, zn7, zi1, zi2, if_pos, if_neg]; rfl) ?_
    rw [hd, ← hm0]
end Go.Proofs.YtphilljhfdlfdaaGreat
namespace Go.Proofs.YtphilljhfdlfdaaGreat
open Go.RowKit
theorem lv_snoc {l : List Nat} {x : Nat} {e : Int} (h : e = (x : Int)) : lv l ++ [.sc (.int .u32 e)] = lv (l ++ [x]) := by subst h; simp [lv]
theorem lv_ok (ok : Nat → Bool) (l : List Nat) : (lv l).all (okL ok) = true := by simp [lv, okL]
theorem LLe.lv {ok : Nat → Bool} {cs : List V} {l : List Nat} (h : cs = Go.Proofs.YtphilljhfdlfdaaGreat.lv l) : LLe ok cs (Go.Proofs.YtphilljhfdlfdaaGreat.lv l) := by subst h; exact LLe.refl (lv_ok _ _)
theorem lv_ren (f : Nat → Nat) (l : List Nat) : V.renL f (lv l) = lv l := by unfold lv; rw [show (l.map fun (n : Nat) => V.sc (.int .u32 (n : Int))) = (l.map fun (n : Nat) => Value.int .u32 (n : Int)).map .sc by simp]; exact renL_map_sc f _
theorem lv_snoc' {f : Nat → Nat} {l : List Nat} {x : Nat} {e : Int} (h : e = (x : Int)) : V.renL f (lv l ++ [.sc (.int .u32 e)]) = lv (l ++ [x]) := by rw [renL_app, lv_ren, ← lv_snoc h]; simp [V.renL, V.ren]
def dg : Nat → Nat → List Nat
  | 0, _ => []
  | k + 1, n => n % 4294967296 :: dg k (n / 4294967296)
theorem dg_len : ∀ (k n : Nat), (dg k n).length = k
  | 0, _ => rfl
  | k + 1, n => by simp [dg, dg_len k]
theorem dg_limbs : ∀ (k n : Nat), limbs (dg k n)
  | 0, _ => fun x hx => by simp [dg] at hx
  | k + 1, n => fun x hx => by
    rcases List.mem_cons.1 hx with rfl | hx
    · omega
    · exact dg_limbs k _ x hx
theorem dg_val : ∀ (k n : Nat), n < 4294967296 ^ k → val (dg k n) = n
  | 0, n, h => by simp at h; subst h; rfl
  | k + 1, n, h => by
    rw [Nat.pow_succ] at h
    simp only [dg, val]
    rw [dg_val k _ (by omega)]
    omega
theorem dg_eq {l : List Nat} (h : limbs l) : dg l.length (val l) = l :=
  val_inj (dg_limbs _ _) h (dg_len _ _) (dg_val _ _ (val_lt h))
def sumLen (a b : List Nat) : Nat := max a.length b.length + (if 4294967296 ^ max a.length b.length ≤ val a + val b then 1 else 0)
theorem sum_fits {a b : List Nat} (ha : limbs a) (hb : limbs b) : val a + val b < 4294967296 ^ sumLen a b := by
  have h1 := val_lt ha
  have h2 := val_lt hb
  have h3 : 4294967296 ^ a.length ≤ 4294967296 ^ max a.length b.length := Nat.pow_le_pow_right (by omega) (by omega)
  have h4 : 4294967296 ^ b.length ≤ 4294967296 ^ max a.length b.length := Nat.pow_le_pow_right (by omega) (by omega)
  unfold sumLen
  split
  · rw [Nat.pow_succ]; omega
  · simp only [Nat.add_zero]; omega
theorem plus_i (a b : List Nat) (ha : limbs a) (hb : limbs b) (hma : a.length ≤ 1000000000) (hmb : b.length ≤ 1000000000) : Spec Tryz.prog 101 [sv a, sv b] (sv (dg (sumLen a b) (val a + val b))) := by
  unfold sv
  refine Spec.run Tryz.func101 rfl Tryz.ntmps101 (by simp) (by simp only [go_sem, zn4]; rfl) fun B hB => ?_
  (repeat (first | (with_reducible refine oz (by constructor <;> decide) ?_) | ((with_reducible apply SC.region); (simp only [go_sem, ↓reduceIte, zn3]; rfl))))
  refine SC.loop (fun x : Nat × Nat × List Nat => ⟨[(0, .im (lv a) a.length), (1, .im (lv b) b.length), (5, .sl 0 0 x.2.2.length 1 none), (6, .sc (.int .u64 x.2.1)), (7, .sc (.int .i64 x.1))], [(0, ⟨87, lv x.2.2, false⟩)], 1, 55⟩)
    (fun x => x.2.1 ≤ 1 ∧ (x.1 ≤ max a.length b.length ∨ x.1 = max a.length b.length + 1 ∧ x.2.1 = 0 ∧ 4294967296 ^ max a.length b.length ≤ val a + val b) ∧ plusInv a b x.1 x.2.1 x.2.2) (fun x => max a.length b.length + 1 - x.1) (0, 0, []) ?_ ?_ ?_
  · (refine Le.of [] hB (by exact ⟨znc _, fun _ _ => znc _⟩) ?_ ?_ <;> (repeat' (first | exact leSl_nil | exact leHp_nil | refine leSl_cons (by simp only [go_sem, ↓reduceIte, zn1, reduceCtorEq]; rfl) ?_ ?_ | refine leHp_cons (by simp only [go_sem, ↓reduceIte]; rfl) ?_ ?_ | exact VLe.refl rfl | exact VLe.cap rfl (by rfl) | exact HLe.same rfl (LLe.refl rfl))))
  · exact ⟨znc _, .inl (znc _), rfl, fun x hx => by simp at hx, by simp [val]⟩
  · rintro ⟨k, c, l⟩ ⟨hc, hk, hI⟩ K hK
    simp only at hc hk hI ⊢
    have hlk : l.length = k := hI.1
    have hst := hI.step _ _ rfl rfl
    have xa := limbs_getD ha k
    have xb := limbs_getD hb k
    have hgo : ∀ (c' : Nat), c' = c + a.getD k 0 + b.getD k 0 → c' / 4294967296 ≤ 1 ∧ c' / 4294967296 < 2 ∧ c' ≤ 18446744073709551615 := fun c' e => by omega
    by_cases hend : k < a.length ∨ k < b.length ∨ 0 < c
    · have hk' : k ≤ max a.length b.length := by omega
      have dC := decide_eq_true (p := (0 : Int) < c)
      have dA := decide_eq_true (p := (k : Int) < a.length)
      have dB := decide_eq_true (p := (k : Int) < b.length)
      have dA' := decide_eq_false (p := (k : Int) < a.length)
      have dB' := decide_eq_false (p := (k : Int) < b.length)
      have fin : ∀ s', Le B s' ⟨[(0, .im (lv a) a.length), (1, .im (lv b) b.length), (5, .sl 0 0 (l.length + 1) 1 none), (6, .sc (.int .u64 ((c + a.getD k 0 + b.getD k 0) / 4294967296 : Nat))), (7, .sc (.int .i64 (k + 1 : Nat)))], [(0, ⟨87, lv (l ++ [(c + a.getD k 0 + b.getD k 0) % 4294967296]), false⟩)], 1, 55⟩ → K s' := by
        intro s' hs'
        refine hK _ (k + 1, (c + a.getD k 0 + b.getD k 0) / 4294967296, l ++ [(c + a.getD k 0 + b.getD k 0) % 4294967296]) ?_ ⟨by simp only; omega, ?_, hst⟩ (by simp only; omega)
        · simpa using hs'
        · simp only
          rcases Nat.lt_or_ge k (max a.length b.length) with h | h
          · exact .inl h
          · have h1 : k = max a.length b.length := by omega
            have hxa := getD_ge (l := a) (k := k) (by omega)
            have hxb := getD_ge (l := b) (k := k) (by omega)
            rw [hxa, hxb] at hst ⊢
            have hc1 : c = 1 := by omega
            refine .inr ⟨by omega, by omega, ?_⟩
            have h3 := hI.2.2
            rw [zla (by omega), zla (by omega), hc1, h1] at h3
            omega
      rcases Nat.lt_or_ge k a.length with hA | hA <;> rcases Nat.lt_or_ge k b.length with hB' | hB'
      · (repeat (first | (with_reducible refine SC.condB (by simp (disch := omega) only [go_sem, ↓reduceIte]; rfl) ?_; with_reducible refine pickT ?_) | (with_reducible refine oz (by constructor <;> decide) ?_) | ((with_reducible apply SC.region); (simp (disch := omega) only [go_sem, ↓reduceIte, zn1, zn3, zn4, reduceCtorEq, if_pos, if_neg, dA (by omega), dB (by omega), lv_get hA, lv_get hB', lv_len, zl5, lv_take, List.take_length]; rfl))))
        refine fin _ (Le.swap 0 2 hB (by omega) (by omega) ?_)
        (refine Le.of [] hB (by exact ⟨znc _, fun _ _ => znc _⟩) ?_ ?_ <;> (repeat' (first | exact leSl_nil | exact leHp_nil | refine leSl_cons (by simp only [go_sem, ↓reduceIte, zn1, reduceCtorEq]; rfl) ?_ ?_ | refine leHp_cons (by simp only [go_sem, ↓reduceIte]; rfl) ?_ ?_ | exact VLe.refl rfl | refine HLe.same rfl ?_)))
        exact LLe.lv (lv_snoc' (by omega))
      · have hz := getD_ge (l := b) (k := k) (by omega)
        have q1 := dA (by omega)
        have q2 := dB' (by omega)
        (repeat (first | (with_reducible refine SC.condB (by simp (disch := omega) only [go_sem, ↓reduceIte]; rfl) ?_; first | with_reducible refine pickT ?_ | with_reducible refine pickF ?_) | (with_reducible refine oz (by constructor <;> decide) ?_) | ((with_reducible apply SC.region); (simp (disch := omega) only [go_sem, ↓reduceIte, zn1, zn3, zn4, reduceCtorEq, if_pos, if_neg, q1, q2, lv_get hA, lv_len, zl5, lv_take, List.take_length]; rfl))))
        refine fin _ (Le.swap 0 2 hB (by omega) (by omega) ?_)
        (refine Le.of [] hB (by exact ⟨znc _, fun _ _ => znc _⟩) ?_ ?_ <;> (repeat' (first | exact leSl_nil | exact leHp_nil | refine leSl_cons (by simp only [go_sem, ↓reduceIte, zn1, reduceCtorEq]; rfl) ?_ ?_ | refine leHp_cons (by simp only [go_sem, ↓reduceIte]; rfl) ?_ ?_ | exact VLe.refl rfl | exact VLe.int (by first | rfl | omega) | refine HLe.same rfl ?_)))
        exact LLe.lv (lv_snoc' (by omega))
      · have hz := getD_ge (l := a) (k := k) (by omega)
        have q1 := dA' (by omega)
        have q2 := dB (by omega)
        (repeat (first | (with_reducible refine SC.condB (by simp (disch := omega) only [go_sem, ↓reduceIte]; rfl) ?_; first | with_reducible refine pickT ?_ | with_reducible refine pickF ?_) | (with_reducible refine oz (by constructor <;> decide) ?_) | ((with_reducible apply SC.region); (simp (disch := omega) only [go_sem, ↓reduceIte, zn1, zn3, zn4, reduceCtorEq, if_pos, if_neg, q1, q2, lv_get hB', lv_len, zl5, lv_take, List.take_length]; rfl))))
        refine fin _ (Le.swap 0 2 hB (by omega) (by omega) ?_)
        (refine Le.of [] hB (by exact ⟨znc _, fun _ _ => znc _⟩) ?_ ?_ <;> (repeat' (first | exact leSl_nil | exact leHp_nil | refine leSl_cons (by simp only [go_sem, ↓reduceIte, zn1, reduceCtorEq]; rfl) ?_ ?_ | refine leHp_cons (by simp only [go_sem, ↓reduceIte]; rfl) ?_ ?_ | exact VLe.refl rfl | exact VLe.int (by first | rfl | omega) | refine HLe.same rfl ?_)))
        exact LLe.lv (lv_snoc' (by omega))
      · have hz := getD_ge (l := a) (k := k) (by omega)
        have hz := getD_ge (l := b) (k := k) (by omega)
        have q1 := dA' (by omega)
        have q2 := dB' (by omega)
        have q3 := dC (by omega)
        (repeat (first | (with_reducible refine SC.condB (by simp (disch := omega) only [go_sem, ↓reduceIte]; rfl) ?_; first | with_reducible refine pickT ?_ | with_reducible refine pickF ?_) | (with_reducible refine oz (by constructor <;> decide) ?_) | ((with_reducible apply SC.region); (simp (disch := omega) only [go_sem, ↓reduceIte, zn1, zn3, zn4, reduceCtorEq, if_pos, if_neg, q1, q2, q3, lv_len, lv_take, List.take_length]; rfl))))
        refine fin _ (Le.swap 0 2 hB (by omega) (by omega) ?_)
        (refine Le.of [] hB (by exact ⟨znc _, fun _ _ => znc _⟩) ?_ ?_ <;> (repeat' (first | exact leSl_nil | exact leHp_nil | refine leSl_cons (by simp (disch := omega) only [go_sem, ↓reduceIte, zn1, reduceCtorEq]; rfl) ?_ ?_ | refine leHp_cons (by simp (disch := omega) only [go_sem, ↓reduceIte]; rfl) ?_ ?_ | exact VLe.refl rfl | exact VLe.int (by first | rfl | omega) | refine HLe.same rfl ?_)))
        exact LLe.lv (lv_snoc' (by omega))
    · have hc0 : c = 0 := by omega
      subst hc0
      have dA := decide_eq_false (p := (k : Int) < a.length) (by omega)
      have dB := decide_eq_false (p := (k : Int) < b.length) (by omega)
      have hd := hI.done (by omega) (by omega)
      have hl : l.length = sumLen a b := by
        unfold sumLen
        have hv := val_lt hI.2.1
        rcases hk with hk | ⟨h1, h2, h3⟩
        · have h1 : k = max a.length b.length := by omega
          rw [hlk, h1] at hv
          rw [if_neg (by omega), hlk, h1]; rfl
        · rw [if_pos h3]; omega
      have he := dg_eq hI.2.1
      rw [hd, hl] at he
      have dC : decide ((0 : Int) < ((0 : Nat) : Int)) = false := by simp
      (repeat (first | (with_reducible refine SC.condB (by simp only [go_sem, ↓reduceIte]; rfl) ?_; with_reducible refine pickF ?_) | (with_reducible refine oz (by constructor <;> decide) ?_) | ((with_reducible apply SC.region); (simp only [go_sem, ↓reduceIte, zn1, zn2, reduceCtorEq, dA, dB, dC]; rfl))))
      refine retQ_ret Tryz.results101 (by simp (disch := omega) only [go_sem, ↓reduceIte]; rfl) (by simp (disch := omega) only [go_sem, ↓reduceIte, if_pos, lv_len, lv_take, lv_clo, List.take_length]; rfl) ?_
      rw [he, hl]
end Go.Proofs.YtphilljhfdlfdaaGreat
namespace Go.Proofs.YtphilljhfdlfdaaGreat
open Go.RowKit
theorem minus_i (a b : List Nat) (ha : limbs a) (hb : limbs b) (hma : a.length ≤ 1000000000) (hbl : b.length ≤ a.length) (hba : val b ≤ val a) : Spec Tryz.prog 102 [sv a, sv b] (sv (dg a.length (val a - val b))) := by
  unfold sv
  refine Spec.run Tryz.func102 rfl Tryz.ntmps102 (by simp) (by simp only [go_sem, zn4]; rfl) fun B hB => ?_
  (repeat (first | (with_reducible refine oz (by constructor <;> decide) ?_) | ((with_reducible apply SC.region); (simp only [go_sem, ↓reduceIte, zn3]; rfl))))
  refine SC.loop (fun x : Nat × Nat × List Nat => ⟨[(0, .im (lv a) a.length), (1, .im (lv b) b.length), (5, .sl 0 0 x.2.2.length 1 none), (6, .sc (.int .i64 x.2.1)), (7, .sc (.int .i64 x.1))], [(0, ⟨87, lv x.2.2, false⟩)], 1, 44⟩)
    (fun x => x.2.1 ≤ 1 ∧ x.1 ≤ a.length ∧ minusInv a b x.1 x.2.1 x.2.2) (fun x => a.length - x.1) (0, 0, []) ?_ ?_ ?_
  · (refine Le.of [] hB (by exact ⟨znc _, fun _ _ => znc _⟩) ?_ ?_ <;> (repeat' (first | exact leSl_nil | exact leHp_nil | refine leSl_cons (by simp only [go_sem, ↓reduceIte, zn1, reduceCtorEq]; rfl) ?_ ?_ | refine leHp_cons (by simp only [go_sem, ↓reduceIte]; rfl) ?_ ?_ | exact VLe.refl rfl | exact VLe.cap rfl (by rfl) | exact HLe.same rfl (LLe.refl rfl))))
  · exact ⟨znc _, znc _, rfl, fun x hx => by simp at hx, by simp [val]⟩
  · rintro ⟨k, c, l⟩ ⟨hc, hk, hI⟩ K hK
    simp only at hc hk hI ⊢
    have hlk : l.length = k := hI.1
    have xa := limbs_getD ha k
    have xb := limbs_getD hb k
    by_cases hA : k < a.length
    · have q1 := decide_eq_true (p := (k : Int) < a.length) (by omega)
      have fin : ∀ (s' : SS) (d c' : Nat), d < 4294967296 → c' ≤ 1 → (d : Int) = (a.getD k 0 : Nat) - c - (b.getD k 0 : Nat) + 4294967296 * c' → Le B s' ⟨[(0, .im (lv a) a.length), (1, .im (lv b) b.length), (5, .sl 0 0 (l.length + 1) 1 none), (6, .sc (.int .i64 c')), (7, .sc (.int .i64 (k + 1 : Nat)))], [(0, ⟨87, lv (l ++ [d]), false⟩)], 1, 44⟩ → K s' := by
        intro s' d c' hd hc' he hs'
        refine hK _ (k + 1, c', l ++ [d]) (by simpa using hs') ⟨by simpa using hc', by simp only; omega, hI.step _ _ d c' rfl rfl hd he⟩ (by simp only; omega)
      by_cases hB' : k < b.length
      · have q2 := decide_eq_true (p := (k : Int) < b.length) (by omega)
        by_cases hn : ((a.getD k 0 : Nat) : Int) - c - (b.getD k 0 : Nat) < 0
        · have q3 := decide_eq_true hn
          (repeat (first | (with_reducible refine SC.condB (by simp (disch := omega) only [go_sem, ↓reduceIte]; rfl) ?_; with_reducible refine pickT ?_) | (with_reducible refine oz (by constructor <;> decide) ?_) | ((with_reducible apply SC.region); (simp (disch := omega) only [go_sem, ↓reduceIte, zn1, zn3, zn4, reduceCtorEq, if_pos, q1, q2, q3, lv_get hA, lv_get hB', lv_len, zl5, lv_take, List.take_length]; rfl))))
          refine fin _ (a.getD k 0 + 4294967296 - c - b.getD k 0) 1 (by omega) (by omega) (by omega) (Le.swap 0 2 hB (by omega) (by omega) ?_)
          (refine Le.of [] hB (by exact ⟨znc _, fun _ _ => znc _⟩) ?_ ?_ <;> (repeat' (first | exact leSl_nil | exact leHp_nil | refine leSl_cons (by simp only [go_sem, ↓reduceIte, zn1, reduceCtorEq]; rfl) ?_ ?_ | refine leHp_cons (by simp only [go_sem, ↓reduceIte]; rfl) ?_ ?_ | exact VLe.refl rfl | refine HLe.same rfl ?_)))
          exact LLe.lv (lv_snoc' (by omega))
        · have q3 := decide_eq_false hn
          (repeat (first | (with_reducible refine SC.condB (by simp (disch := omega) only [go_sem, ↓reduceIte]; rfl) ?_; first | with_reducible refine pickT ?_ | with_reducible refine pickF ?_) | (with_reducible refine oz (by constructor <;> decide) ?_) | ((with_reducible apply SC.region); (simp (disch := omega) only [go_sem, ↓reduceIte, zn1, zn3, zn4, reduceCtorEq, if_pos, q1, q2, q3, lv_get hA, lv_get hB', lv_len, zl5, lv_take, List.take_length]; rfl))))
          refine fin _ (a.getD k 0 - c - b.getD k 0) 0 (by omega) (by omega) (by omega) (Le.swap 0 2 hB (by omega) (by omega) ?_)
          (refine Le.of [] hB (by exact ⟨znc _, fun _ _ => znc _⟩) ?_ ?_ <;> (repeat' (first | exact leSl_nil | exact leHp_nil | refine leSl_cons (by simp only [go_sem, ↓reduceIte, zn1, reduceCtorEq]; rfl) ?_ ?_ | refine leHp_cons (by simp only [go_sem, ↓reduceIte]; rfl) ?_ ?_ | exact VLe.refl rfl | refine HLe.same rfl ?_)))
          exact LLe.lv (lv_snoc' (by omega))
      · have q2 := decide_eq_false (p := (k : Int) < b.length) (by omega)
        have hz := getD_ge (l := b) (k := k) hB'
        by_cases hn : ((a.getD k 0 : Nat) : Int) - c < 0
        · have q3 := decide_eq_true hn
          (repeat (first | (with_reducible refine SC.condB (by simp (disch := omega) only [go_sem, ↓reduceIte]; rfl) ?_; first | with_reducible refine pickT ?_ | with_reducible refine pickF ?_) | (with_reducible refine oz (by constructor <;> decide) ?_) | ((with_reducible apply SC.region); (simp (disch := omega) only [go_sem, ↓reduceIte, zn1, zn3, zn4, reduceCtorEq, if_pos, q1, q2, q3, lv_get hA, lv_len, zl5, lv_take, List.take_length]; rfl))))
          refine fin _ (a.getD k 0 + 4294967296 - c) 1 (by omega) (by omega) (by omega) (Le.swap 0 2 hB (by omega) (by omega) ?_)
          (refine Le.of [] hB (by exact ⟨znc _, fun _ _ => znc _⟩) ?_ ?_ <;> (repeat' (first | exact leSl_nil | exact leHp_nil | refine leSl_cons (by simp only [go_sem, ↓reduceIte, zn1, reduceCtorEq]; rfl) ?_ ?_ | refine leHp_cons (by simp only [go_sem, ↓reduceIte]; rfl) ?_ ?_ | exact VLe.refl rfl | refine HLe.same rfl ?_)))
          exact LLe.lv (lv_snoc' (by omega))
        · have q3 := decide_eq_false hn
          (repeat (first | (with_reducible refine SC.condB (by simp (disch := omega) only [go_sem, ↓reduceIte]; rfl) ?_; first | with_reducible refine pickT ?_ | with_reducible refine pickF ?_) | (with_reducible refine oz (by constructor <;> decide) ?_) | ((with_reducible apply SC.region); (simp (disch := omega) only [go_sem, ↓reduceIte, zn1, zn3, zn4, reduceCtorEq, if_pos, q1, q2, q3, lv_get hA, lv_len, zl5, lv_take, List.take_length]; rfl))))
          refine fin _ (a.getD k 0 - c) 0 (by omega) (by omega) (by omega) (Le.swap 0 2 hB (by omega) (by omega) ?_)
          (refine Le.of [] hB (by exact ⟨znc _, fun _ _ => znc _⟩) ?_ ?_ <;> (repeat' (first | exact leSl_nil | exact leHp_nil | refine leSl_cons (by simp (disch := omega) only [go_sem, ↓reduceIte, zn1, reduceCtorEq]; rfl) ?_ ?_ | refine leHp_cons (by simp (disch := omega) only [go_sem, ↓reduceIte]; rfl) ?_ ?_ | exact VLe.refl rfl | refine HLe.same rfl ?_)))
          exact LLe.lv (lv_snoc' (by omega))
    · have hka : k = a.length := by omega
      subst hka
      have q1 := decide_eq_false (p := ((a.length : Nat) : Int) < a.length) (by omega)
      have hd := hI.done hc ha hbl hba
      have he := dg_eq hI.2.1
      rw [hd, hlk] at he
      (repeat (first | (with_reducible refine SC.condB (by simp only [go_sem, ↓reduceIte]; rfl) ?_; with_reducible refine pickF ?_) | (with_reducible refine oz (by constructor <;> decide) ?_) | ((with_reducible apply SC.region); (simp only [go_sem, ↓reduceIte, zn1, zn2, reduceCtorEq, q1]; rfl))))
      refine retQ_ret Tryz.results102 (by simp (disch := omega) only [go_sem, ↓reduceIte]; rfl) (by simp (disch := omega) only [go_sem, ↓reduceIte, if_pos, lv_len, lv_take, lv_clo, List.take_length]; rfl) ?_
      rw [he, hlk]
end Go.Proofs.YtphilljhfdlfdaaGreat
namespace Go.Proofs.YtphilljhfdlfdaaGreat
open Go.RowKit
theorem fits_len {K : Nat} {x : Int} (h : Fits K x) : (limbsOf x.natAbs).length ≤ K := canon_len (limbsOf_canon _) (by rw [limbsOf_val]; exact h)
theorem dg_made (k n : Nat) (neg : Bool) (h : n < 4294967296 ^ k) (hk : k ≤ 1000000000) : Spec Tryz.prog 18 [sv (dg k n), .sc (.bool neg)] (iv (sgn neg n)) := by
  have := made_i (dg k n) neg (dg_limbs _ _) (by rw [dg_len]; exact hk)
  rwa [dg_val k n h] at this
theorem sumLen_le (a b : List Nat) : sumLen a b ≤ max a.length b.length + 1 := by
  unfold sumLen; split <;> omega
theorem add_i (x y : Int) (K : Nat) (hx : Fits K x) (hy : Fits K y) (hK : K ≤ 500000000) : Spec Tryz.prog 87 [iv x, iv y] (iv (x + y)) := by
  have lx := fits_len hx
  have ly := fits_len hy
  have vx := limbsOf_val x.natAbs
  have vy := limbsOf_val y.natAbs
  have bx := limbsOf_limbs x.natAbs
  have bY := limbsOf_limbs y.natAbs
  by_cases hs : (decide (x < 0) == decide (y < 0)) = true
  · have hs' : (x < 0 ↔ y < 0) := by simpa using hs
    have c1 := plus_i _ _ bx bY (by omega) (by omega)
    have hf := sum_fits bx bY
    have c2 := dg_made _ _ (decide (x < 0)) hf (by have := sumLen_le (limbsOf x.natAbs) (limbsOf y.natAbs); omega)
    rw [vx, vy] at c1 c2
    rw [show sgn (decide (x < 0)) (x.natAbs + y.natAbs) = x + y by unfold sgn; split <;> simp_all <;> omega] at c2
    unfold sv at c1 c2
    unfold iv sv at c2 ⊢
    refine Spec.run Tryz.func87 rfl Tryz.ntmps87 (by simp) (by simp only [go_sem, zn4]; rfl) fun B hB => ?_
    (repeat (first | refine DO.nil (by kernel_rfl) ?_ | (with_reducible refine oz (by constructor <;> decide) ?_) | ((apply DO.call); (iterate 3 (simp (disch := omega) only [go_sem, ↓reduceIte, zn1] <;> rfl)); (apply DCall.ofX); (assumption); (simp (disch := omega) only [go_sem] <;> rfl)) | ((with_reducible first | apply SC.condB | apply SC.region | apply DO.run); (simp (disch := omega) only [go_sem, ↓reduceIte, zn1, zn3, zn4, reduceCtorEq, hs] <;> rfl); (first | refine pickT ?_ | fail_if_success with_reducible refine pickA ?_)) | ((with_reducible refine SC.draw Tab.mixed ?_ ?_); rfl)))
    exact retQ_ret Tryz.results87 (by simp only [go_sem, ↓reduceIte, zn1, zn3, zn4]; rfl) (by simp only [go_sem, ↓reduceIte]; rfl) rfl
  · have hs' : ¬ (x < 0 ↔ y < 0) := by simpa using hs
    rw [Bool.not_eq_true] at hs
    have c0 := less_n x.natAbs y.natAbs (by omega) (by omega)
    by_cases hl : x.natAbs < y.natAbs
    · rw [decide_eq_true hl] at c0
      have hle : (limbsOf x.natAbs).length ≤ (limbsOf y.natAbs).length := canon_len (limbsOf_canon _) (by have := val_lt bY; omega)
      have c1 := minus_i _ _ bY bx (by omega) hle (by omega)
      have c2 := dg_made (limbsOf y.natAbs).length (y.natAbs - x.natAbs) (decide (y < 0)) (by have := val_lt bY; omega) (by omega)
      rw [vx, vy] at c1
      rw [show sgn (decide (y < 0)) (y.natAbs - x.natAbs) = x + y by unfold sgn; split <;> simp_all <;> omega] at c2
      unfold sv at c0 c1 c2
      unfold iv sv at c2 ⊢
      refine Spec.run Tryz.func87 rfl Tryz.ntmps87 (by simp) (by simp only [go_sem, zn4]; rfl) fun B hB => ?_
      (repeat (first | refine DO.nil (by kernel_rfl) ?_ | (with_reducible refine oz (by constructor <;> decide) ?_) | ((first | apply SO.call | apply DO.call); (iterate 3 (simp (disch := omega) only [go_sem, ↓reduceIte, zn1] <;> rfl)); (first | apply SCall.ofX | apply DCall.ofX); (assumption); (simp (disch := omega) only [go_sem] <;> rfl)) | ((with_reducible first | apply wa | apply wb | apply wc | apply wd); (simp (disch := omega) only [go_sem, ↓reduceIte, zn1, zn3, zn4, reduceCtorEq, hs] <;> rfl); (first | refine pT ?_ | refine pF ?_ | fail_if_success with_reducible refine pA ?_)) | ((with_reducible refine SC.draw Tab.mixed ?_ ?_); rfl) | (with_reducible apply SC.ops)))
      exact retQ_ret Tryz.results87 (by simp only [go_sem, ↓reduceIte, zn1, zn3, zn4]; rfl) (by simp only [go_sem, ↓reduceIte]; rfl) rfl
    · rw [decide_eq_false hl] at c0
      have hle : (limbsOf y.natAbs).length ≤ (limbsOf x.natAbs).length := canon_len (limbsOf_canon _) (by have := val_lt bx; omega)
      have c1 := minus_i _ _ bx bY (by omega) hle (by omega)
      have c2 := dg_made (limbsOf x.natAbs).length (x.natAbs - y.natAbs) (decide (x < 0)) (by have := val_lt bx; omega) (by omega)
      rw [vx, vy] at c1
      rw [show sgn (decide (x < 0)) (x.natAbs - y.natAbs) = x + y by unfold sgn; split <;> simp_all <;> omega] at c2
      unfold sv at c0 c1 c2
      unfold iv sv at c2 ⊢
      refine Spec.run Tryz.func87 rfl Tryz.ntmps87 (by simp) (by simp only [go_sem, zn4]; rfl) fun B hB => ?_
      (repeat (first | refine DO.nil (by kernel_rfl) ?_ | (with_reducible refine oz (by constructor <;> decide) ?_) | ((first | apply SO.call | apply DO.call); (iterate 3 (simp (disch := omega) only [go_sem, ↓reduceIte, zn1, zn2] <;> rfl)); (first | apply SCall.ofX | apply DCall.ofX); (assumption); (simp (disch := omega) only [go_sem] <;> rfl)) | ((with_reducible first | apply wa | apply wb | apply wc | apply wd); (simp (disch := omega) only [go_sem, ↓reduceIte, zn1, zn3, zn4, reduceCtorEq, hs] <;> rfl); (first | refine pickF ?_ | fail_if_success with_reducible refine pickA ?_)) | ((with_reducible refine SC.draw Tab.mixed ?_ ?_); rfl) | (with_reducible apply SC.ops)))
      exact retQ_ret Tryz.results87 (by simp only [go_sem, ↓reduceIte, zn1, zn3, zn4]; rfl) (by simp only [go_sem, ↓reduceIte]; rfl) rfl
theorem neg_i (x : Int) (K : Nat) (hx : Fits K x) (hK : K ≤ 1000000000) : Spec Tryz.prog 79 [iv x] (iv (-x)) := by
  have lx := fits_len hx
  have c1 := made_i (limbsOf x.natAbs) (!decide (x < 0)) (limbsOf_limbs _) (by omega)
  rw [limbsOf_val, show sgn (!decide (x < 0)) x.natAbs = -x by unfold sgn; split <;> simp_all <;> omega] at c1
  unfold sv at c1
  unfold iv sv at c1 ⊢
  refine Spec.run Tryz.func79 rfl Tryz.ntmps79 (by simp) (by simp only [go_sem]; rfl) fun B hB => ?_
  (repeat (first | (with_reducible refine oz (by constructor <;> decide) ?_) | ((apply SO.call); (iterate 3 (simp only [go_sem, ↓reduceIte, zn1, zn2] <;> rfl)); (apply SCall.ofX); (assumption); (simp only [go_sem] <;> rfl)) | ((with_reducible first | apply SC.region | apply SO.run); (simp only [go_sem, ↓reduceIte, zn1, zn2, zn3, zn4, reduceCtorEq] <;> rfl); (fail_if_success with_reducible refine pickA ?_)) | (with_reducible apply SC.ops)))
  exact retQ_ret Tryz.results79 (by simp only [go_sem, ↓reduceIte, zn1, zn3, zn4]; rfl) (by simp only [go_sem, ↓reduceIte]; rfl) rfl
theorem sub_i (x y : Int) (K : Nat) (hx : Fits K x) (hy : Fits K y) (hK : K ≤ 500000000) : Spec Tryz.prog 88 [iv x, iv y] (iv (x - y)) := by
  have c1 := neg_i y K hy (by omega)
  have c2 := add_i x (-y) K hx hy.neg hK
  rw [← Int.sub_eq_add_neg] at c2
  unfold iv sv at c1 c2 ⊢
  refine Spec.run Tryz.func88 rfl Tryz.ntmps88 (by simp) (by simp only [go_sem, zn4]; rfl) fun B hB => ?_
  (repeat (first | refine DO.nil (by kernel_rfl) ?_ | (with_reducible refine oz (by constructor <;> decide) ?_) | ((apply DO.call); (iterate 3 (simp (disch := omega) only [go_sem, ↓reduceIte, zn1, zn2] <;> rfl)); (apply DCall.ofX); (assumption); (simp (disch := omega) only [go_sem] <;> rfl)) | ((with_reducible first | apply SC.region | apply DO.run); (simp (disch := omega) only [go_sem, ↓reduceIte, zn1, zn3, zn4, reduceCtorEq] <;> rfl); (fail_if_success with_reducible refine pickA ?_)) | ((with_reducible refine SC.draw Tab.mixed ?_ ?_); rfl)))
  exact retQ_ret Tryz.results88 (by simp only [go_sem, ↓reduceIte, zn1, zn3, zn4]; rfl) (by simp only [go_sem, ↓reduceIte]; rfl) rfl
theorem sign_i (x : Int) (K : Nat) (hx : Fits K x) (hK : K ≤ 1000000000) : Spec Tryz.prog 78 [iv x] (.sc (.int .i64 x.sign)) := by
  unfold iv sv
  refine Spec.run Tryz.func78 rfl Tryz.ntmps78 (by simp) (by simp only [go_sem]; rfl) fun B hB => ?_
  by_cases h0 : x = 0
  · subst h0
    have q1 : (((limbsOf (0 : Int).natAbs).length : Int) == 0) = true := by simp [limbsOf_zero]
    (repeat (first | (with_reducible refine SC.condB (by simp (disch := omega) only [go_sem, ↓reduceIte]; rfl) ?_; with_reducible refine pickT ?_) | (with_reducible refine oz (by constructor <;> decide) ?_) | ((with_reducible apply SC.region); (simp (disch := omega) only [go_sem, ↓reduceIte, zn1, reduceCtorEq, q1]; rfl))))
    exact retQ_ret Tryz.results78 (by simp only [go_sem, ↓reduceIte]; rfl) (by simp only [go_sem]; rfl) rfl
  · have q1 : (((limbsOf x.natAbs).length : Int) == 0) = false := by
      have : limbsOf x.natAbs ≠ [] := fun h => h0 (by have := limbsOf_nil.1 h; omega)
      have := List.length_pos_iff.2 this
      simp only [beq_eq_false_iff_ne, ne_eq]; omega
    by_cases h1 : x < 0
    · have q2 := decide_eq_true h1
      (repeat (first | (with_reducible refine SC.condB (by simp only [go_sem, ↓reduceIte]; rfl) ?_; first | with_reducible refine pickT ?_ | with_reducible refine pickF ?_) | (with_reducible refine oz (by constructor <;> decide) ?_) | ((with_reducible apply SC.region); (simp only [go_sem, ↓reduceIte, zn1, zn2, reduceCtorEq, q1, q2]; rfl))))
      refine retQ_ret Tryz.results78 (by simp only [go_sem, ↓reduceIte]; rfl) (by simp only [go_sem]; rfl) ?_
      rw [Int.sign_eq_neg_one_of_neg h1]
    · have q2 := decide_eq_false h1
      (repeat (first | (with_reducible refine SC.condB (by simp only [go_sem, ↓reduceIte]; rfl) ?_; with_reducible refine pickF ?_) | (with_reducible refine oz (by constructor <;> decide) ?_) | ((with_reducible apply SC.region); (simp only [go_sem, ↓reduceIte, zn1, zn2, reduceCtorEq, q1, q2]; rfl))))
      refine retQ_ret Tryz.results78 (by simp only [go_sem, ↓reduceIte]; rfl) (by simp only [go_sem]; rfl) ?_
      rw [Int.sign_eq_one_of_pos (by omega)]
end Go.Proofs.YtphilljhfdlfdaaGreat
