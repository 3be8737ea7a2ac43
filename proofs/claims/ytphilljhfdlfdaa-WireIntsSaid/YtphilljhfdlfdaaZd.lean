/- Texts joined: Sn T2 Nt La Lb Lc Ld Gl Op Lm Ln Lo Lp Lq Base Val Vam Van Ja Jb Jc Jd Qa Je Jg Jh Ji. -/
import Derived.WalkSmall
import Derived.KernelRfl
import Derived.WalkKit
import Derived.ProofKit
import Derived.OpenShut
import Derived.Carry
import Derived.Deep.QuietTactic
import Derived.BigQuiet
import Derived.Deep.LoopGhost
import Derived.Laws.AppendOwnNone
import Derived.Deep.RegionHeld3
import Derived.Deep.DeepCutAuto
import Derived.Test.YtphilljhfdlfdaaZa
import Derived.Test.YtphilljhfdlfdaaZb
import Derived.Test.YtphilljhfdlfdaaZc
set_option linter.all false
open Nat renaming reduceEqDiff → zn1, reduceLT → zn2, reduceLeDiff → zn3, reduceAdd → zn4, reduceMul → zn5, reduceSub → zn6, reduceBEq → zn7
open Int renaming reduceToNat → zi1, reducePow → zi2
namespace Go.Proofs.Ytphilljhfdlfdaa
open Go.RowKit
@[go_sem high] theorem wi64 (n : Int) (h1 : -9223372036854775808 ≤ n) (h2 : n ≤ 9223372036854775807) : IntKind.i64.wrap n = n := IntWalk.i64_in n ⟨h1, h2⟩
@[go_sem high] theorem wi32 (n : Int) (h1 : -2147483648 ≤ n) (h2 : n ≤ 2147483647) : IntKind.i32.wrap n = n := IntWalk.i32_in n ⟨h1, h2⟩
@[go_sem high] theorem wi8 (n : Int) (h1 : -128 ≤ n) (h2 : n ≤ 127) : IntKind.i8.wrap n = n := IntWalk.i8_in n ⟨h1, h2⟩
@[go_sem high] theorem wu64 (n : Int) (h1 : 0 ≤ n) (h2 : n ≤ 18446744073709551615) : IntKind.u64.wrap n = n := IntWalk.u64_in n ⟨h1, h2⟩
@[go_sem high] theorem wu32 (n : Int) (h1 : 0 ≤ n) (h2 : n ≤ 4294967295) : IntKind.u32.wrap n = n := IntWalk.u32_in n ⟨h1, h2⟩
@[go_sem high] theorem wu16 (n : Int) (h1 : 0 ≤ n) (h2 : n ≤ 65535) : IntKind.u16.wrap n = n := IntWalk.u16_in n ⟨h1, h2⟩
@[go_sem high] theorem wu8 (n : Int) (h1 : 0 ≤ n) (h2 : n ≤ 255) : IntKind.u8.wrap n = n := IntWalk.u8_in n ⟨h1, h2⟩
@[go_sem low] theorem wu32m (n : Int) : IntKind.u32.wrap n = n % 4294967296 := IntKind.wrap_u32 n
@[go_sem low] theorem wu8m (n : Int) : IntKind.u8.wrap n = n % 256 := IntKind.wrap_u8 n
@[go_sem] theorem tmod_nn (x y : Int) (h : 0 ≤ x) : x.tmod y = x % y := Int.tmod_eq_emod_of_nonneg h
@[go_sem] theorem tdiv_nn (x y : Int) (h : 0 ≤ x) : x.tdiv y = x / y := Int.tdiv_eq_ediv_of_nonneg h
@[go_sem] theorem bits_u64 : IntKind.u64.bits = 64 := rfl
@[go_sem] theorem bits_i64 : IntKind.i64.bits = 64 := rfl
@[go_sem] theorem bits_u32 : IntKind.u32.bits = 32 := rfl
@[go_sem] theorem bits_u8 : IntKind.u8.bits = 8 := rfl
theorem fdiv_pow (x : Int) (k : Nat) : x.fdiv (2 ^ k) = x / 2 ^ k := Int.fdiv_eq_ediv_of_nonneg _ (Int.le_of_lt (Int.pow_pos (by omega)))
attribute [go_sem] fdiv_pow
@[go_sem] theorem and1_u64 (n : Int) (h0 : 0 ≤ n) (h1 : n ≤ 18446744073709551615) : bits .and .u64 n 1 = n % 2 := and_one_u64 n h0 h1
end Go.Proofs.Ytphilljhfdlfdaa
namespace Go.Proofs.Ytphilljhfdlfdaa
open Go.RowKit
end Go.Proofs.Ytphilljhfdlfdaa
namespace Go.Proofs.Ytphilljhfdlfdaa
end Go.Proofs.Ytphilljhfdlfdaa
namespace Go.Proofs.Ytphilljhfdlfdaa
section lin
variable {K : Type} [Lean.Grind.CommRing K]
def sg (f : Nat → K) : Nat → K
  | 0 => 0
  | n + 1 => sg f n + f n
theorem sg_congr {f g : Nat → K} : ∀ {n : Nat}, (∀ i, i < n → f i = g i) → sg f n = sg g n
  | 0, _ => rfl
  | n + 1, h => by rw [sg, sg, sg_congr fun i hi => h i (by omega), h n (by omega)]
theorem sg_add (f g : Nat → K) : ∀ n : Nat, sg (fun i => f i + g i) n = sg f n + sg g n
  | 0 => by simp only [sg]; grind
  | n + 1 => by rw [sg, sg, sg, sg_add f g n]; grind
theorem sg_mul (a : K) (f : Nat → K) : ∀ n : Nat, sg (fun i => a * f i) n = a * sg f n
  | 0 => by simp only [sg]; grind
  | n + 1 => by rw [sg, sg, sg_mul a f n]; grind
theorem sg_zero : ∀ {n : Nat} {f : Nat → K}, (∀ i, i < n → f i = 0) → sg f n = 0
  | 0, _, _ => rfl
  | n + 1, f, h => by rw [sg, sg_zero fun i hi => h i (by omega), h n (by omega)]; grind
theorem sg_one : ∀ {n k : Nat} {f : Nat → K}, k < n → (∀ i, i < n → i ≠ k → f i = 0) → sg f n = f k
  | 0, k, f, hk, _ => by omega
  | n + 1, k, f, hk, h => by
    rw [sg]
    by_cases e : k = n
    · subst e; rw [sg_zero fun i hi => h i (by omega) (by omega)]; grind
    · rw [sg_one (k := k) (by omega) fun i hi hn => h i (by omega) hn, h n (by omega) (by omega)]; grind
def Sp (n m : Nat) (A : Nat → Nat → K) (v : Nat → K) : Prop := ∃ x : Nat → K, ∀ j, j < m → v j = sg (fun i => x i * A i j) n
variable {n m n' : Nat} {A B : Nat → Nat → K} {u v : Nat → K}
theorem Sp.row {i : Nat} (hi : i < n) : Sp n m A (A i) := ⟨fun k => if k = i then 1 else 0, fun j _ => by
  rw [sg_one (k := i) hi fun k _ hk => by dsimp only; rw [if_neg hk]; grind]
  dsimp only
  rw [if_pos rfl]; grind⟩
theorem Sp.zero (h : ∀ j, j < m → v j = 0) : Sp n m A v := ⟨fun _ => 0, fun j hj => by
  rw [h j hj, sg_zero]; intro i _; grind⟩
theorem Sp.add (h : Sp n m A u) (k : Sp n m A v) : Sp n m A (fun j => u j + v j) := by
  obtain ⟨x, hx⟩ := h
  obtain ⟨y, hy⟩ := k
  refine ⟨fun i => x i + y i, fun j hj => ?_⟩
  dsimp only
  rw [hx j hj, hy j hj, ← sg_add]
  exact sg_congr fun i _ => by grind
theorem Sp.smul (a : K) (h : Sp n m A u) : Sp n m A (fun j => a * u j) := by
  obtain ⟨x, hx⟩ := h
  refine ⟨fun i => a * x i, fun j hj => ?_⟩
  dsimp only
  rw [hx j hj, ← sg_mul]
  exact sg_congr fun i _ => by grind
theorem Sp.congr (h : Sp n m A u) (e : ∀ j, j < m → v j = u j) : Sp n m A v := by
  obtain ⟨x, hx⟩ := h
  exact ⟨x, fun j hj => (e j hj).trans (hx j hj)⟩
theorem Sp.sum {f : Nat → Nat → K} : ∀ {k : Nat}, (∀ i, i < k → Sp n m A (f i)) → Sp n m A (fun j => sg (fun i => f i j) k)
  | 0, _ => Sp.zero fun _ _ => rfl
  | k + 1, h => (Sp.add (Sp.sum fun i hi => h i (by omega)) (h k (by omega))).congr fun _ _ => rfl
theorem Sp.trans (h : ∀ i, i < n' → Sp n m A (B i)) (hv : Sp n' m B v) : Sp n m A v := by
  obtain ⟨y, hy⟩ := hv
  exact (Sp.sum (f := fun i j => y i * B i j) fun i hi => (h i hi).smul (y i)).congr hy
variable {r r' : Nat} {R R' : Nat → Nat → K} {c c' : Nat → Nat}
end lin
end Go.Proofs.Ytphilljhfdlfdaa
namespace Go.Proofs.Ytphilljhfdlfdaa
section lin
variable {K : Type} [Lean.Grind.CommRing K]
variable {n w c k : Nat} {A0 A : Nat → Nat → K} {pv : Nat → Nat}
variable {cols : Nat}
variable {M : Nat → Nat → K}
end lin
end Go.Proofs.Ytphilljhfdlfdaa
namespace Go.Proofs.Ytphilljhfdlfdaa
section fz
variable {p : Nat} [NeZero p]
def fz (p : Nat) [NeZero p] (x : Nat) : Fin p := Fin.ofNat p x
end fz
def ent (M : List (List Nat)) (i j : Nat) : Nat := (M.getD i []).getD j 0
section mv
variable {p n w : Nat} {M : List (List Nat)}
theorem getD_mem {α : Type} {l : List α} {i : Nat} {d : α} (h : i < l.length) : l.getD i d ∈ l := by
  rw [List.getD_eq_getElem?_getD, List.getElem?_eq_getElem h]; exact List.getElem_mem h
theorem getD_set {α : Type} {l : List α} {i k : Nat} {x d : α} (hk : k < l.length) : (l.set k x).getD i d = if i = k then x else l.getD i d := by
  rw [List.getD_eq_getElem?_getD, List.getElem?_set, List.getD_eq_getElem?_getD]
  by_cases e : k = i
  · subst e; rw [if_pos rfl, if_pos rfl, if_pos hk]; rfl
  · rw [if_neg e, if_neg fun e' => e e'.symm]
end mv
section rows
variable {p w : Nat} {a b : List Nat}
end rows
section step
variable {p n w k q c h : Nat} {M : List (List Nat)} {rk : List Nat}
variable [NeZero p]
def fM (p : Nat) [NeZero p] (M : List (List Nat)) (i j : Nat) : Fin p := fz p (ent M i j)
end step
def Same (p w : Nat) [NeZero p] (M R : List (List Nat)) : Prop := (∀ i, i < M.length → Sp R.length w (fM p R) (fM p M i)) ∧ ∀ i, i < R.length → Sp M.length w (fM p M) (fM p R i)
section form
variable {p n w : Nat} {M R R' : List (List Nat)} {pv pv' : List Nat} [NeZero p]
theorem Same.refl : Same p w M M := ⟨fun _ hi => Sp.row hi, fun _ hi => Sp.row hi⟩
theorem Same.symm (h : Same p w M R) : Same p w R M := ⟨h.2, h.1⟩
theorem Same.trans (h : Same p w M R) (h' : Same p w R R') : Same p w M R' := ⟨fun i hi => Sp.trans h'.1 (h.1 i hi), fun i hi => Sp.trans h.2 (h'.2 i hi)⟩
end form
end Go.Proofs.Ytphilljhfdlfdaa
namespace Go.Proofs.Ytphilljhfdlfdaa
section widen
variable {p n w : Nat} {M : List (List Nat)}
variable [NeZero p]
end widen
section left
variable {p n w : Nat} {M L L' : List (List Nat)} [NeZero p]
end left
section left2
variable {p n w : Nat} {M : List (List Nat)} [NeZero p]
end left2
section solv
variable {p n w : Nat} {M : List (List Nat)} {b : List Nat} [NeZero p]
end solv
section turn
variable {p n w : Nat} {M : List (List Nat)}
variable [NeZero p]
end turn
end Go.Proofs.Ytphilljhfdlfdaa
namespace Go.Proofs.Ytphilljhfdlfdaa
open Go.ChangeShapes Go.WideShapes Go.ChangeAt Go.RowKit
section
variable {H : Type} {enc : TypeId × Value → H} {P : Program} {W W' : World}
theorem trodAll_below (hl : laidOutB P = true) (hb : Below W.heap.size W W') : ∀ {ts : List TypeId} {vs : List Value} {ds : List (DataW H)} {ps : List MemPlace}, (ts.all fun t => P.readableRec t && decide (t < P.types.size)) = true → (∀ x ∈ ps, x.block < W.heap.size) →
    DataW.TrodAll enc P W 0 (fun _ => true) true ts vs ds ps → DataW.TrodAll enc P W' 0 (fun b => decide (b < W.heap.size)) true ts vs ds ps
  | [], vs, ds, ps, _, _, h => by obtain ⟨rfl, rfl, rfl⟩ := trodAll_nil h; exact trodAll_mk0
  | t :: ts, vs, ds, ps, hr, hlt, h => by
    obtain ⟨v, vs', d, ds', p, q, rfl, rfl, rfl, h1, h2⟩ := trodAll_cons h
    simp only [List.all_cons, Bool.and_eq_true, decide_eq_true_eq] at hr
    exact trodAll_cons_mk (Below.trod hl hr.1.1 hr.1.2 h1 hb fun x hx => hlt x (List.mem_append.2 (.inl hx))) (trodAll_below hl hb hr.2 (fun x hx => hlt x (List.mem_append.2 (.inr hx))) h2)
theorem law_post {f : Func} {s : ChangeSpec} {args : Array Value} {ds gs : List (DataW H)} {before : List MemPlace} {tb : TypeId} (hl : laidOutB P = true) (hr : (f.params.toList.all fun t => P.readableRec t && decide (t < P.types.size)) = true) (hres : f.resultTypes = #[tb])
    (htb : P.underlying tb = some .bool) (hvars : s.vars = []) (hs : s.fn H ds = { results := [.lit (.bool true)], args := ds }) (hW : DataW.Whole enc P f.params.toList s.vars false W args.toList ds gs before) (hb : Below W.heap.size W W') :
    s.post enc P f false true false false W args (.bool true) W' := by
  have hW' := hW
  obtain ⟨p, q, hA, hV, rfl, hz, hn⟩ := hW
  have hlt := hW'.lt
  rw [hvars] at hV
  obtain ⟨rfl, rfl⟩ := trodVars_none hV
  have e : s.fn H (ds ++ []) = { results := [.lit (.bool true)], args := ds } := by rw [List.append_nil]; exact hs
  refine ⟨ds, [], p ++ [], [], p, [], hW', ?_, ?_, ?_, hb.frame _, fun h => by cases h⟩
  · rw [e, hres]; exact trodAll_mk1 (shut_bool htb true)
  · rw [e]; exact trodAll_below hl hb hr (fun x hx => hlt x (List.mem_append.2 (.inl hx))) hA
  · rw [e, hvars]; exact rfl
theorem Rc.sc (S : Nat → Prop) (w : World) (v : Value) : Rc S w (.sc v) v := R.sc v
theorem Rc.scs (S : Nat → Prop) (w : World) (l : List Value) : Rc S w (.ag (l.map .sc)) (.agg l.toArray) :=
  R.ag (by simp) fun i x u hx hu => by
    rw [List.getElem?_map] at hx
    rw [List.getElem?_toArray] at hu
    rw [hu] at hx
    cases hx; exact .sc _
theorem AllC.nil (S : Nat → Prop) (w : World) : AllC S w [] [] := ⟨rfl, fun i x u hx => by simp at hx⟩
theorem AllC.cons {S : Nat → Prop} {w : World} {x : V} {v : Value} {xs : List V} {vs : List Value} (h : Rc S w x v) (k : AllC S w xs vs) : AllC S w (x :: xs) (v :: vs) :=
  ⟨by simp [k.1], fun i y u hy hu => by
    cases i with
    | zero => simp at hy hu; subst hy; subst hu; exact h
    | succ i => simp at hy hu; exact k.2 i y u hy hu⟩
theorem Spec.law {f : Nat} {xs : List V} {args : Array Value} (h : Spec P f xs (.sc (.bool true))) (ht : TabOK (fun b => b < W.heap.size) W) (ha : AllC (fun b => b < W.heap.size) W xs args.toList) : Calls P f args W fun e W' => e = .returned (.bool true) ∧ Below W.heap.size W W' := by
  refine (h _ W args (fun _ h => h) ht ha).mono ?_
  rintro e W' ⟨v, rfl, hg, hx⟩
  have : v = .bool true := by
    generalize hq : V.sc (.bool true) = q at hx
    cases hx <;> cases hq
    rfl
  exact ⟨by rw [this], hg.os, hg.tape, hg.output, hg.size, hg.block⟩
theorem u8_wf (n : Int) (h : (Lit.int .u8 n).wf = true) : 0 ≤ n ∧ n ≤ (255 : Nat) := by
  have h1 : IntKind.u8.min = 0 := rfl
  have h2 : IntKind.u8.max = 255 := rfl
  simp [Lit.wf] at h
  omega
theorem u32_wf (n : Int) (h : (Lit.int .u32 n).wf = true) : 0 ≤ n ∧ n ≤ (4294967295 : Nat) := by
  have h1 : IntKind.u32.min = 0 := rfl
  have h2 : IntKind.u32.max = 4294967295 := rfl
  simp [Lit.wf] at h
  omega
end
end Go.Proofs.Ytphilljhfdlfdaa
namespace Go.Proofs.Ytphilljhfdlfdaa
open Go.ChangeShapes Go.WideShapes Go.ChangeAt Go.RowKit
inductive Shp where
  | int (k : IntKind) | bool | str
  | arr (n : Nat) (s : Shp)
  | slc (s : Shp)
  | st (l : List Shp)
mutual
/-- the cells of a value of the shape, as trees -/
def Shp.Rep : Shp → List V → Prop
  | .int k, ys => ∃ n : Int, ys = [.sc (.int k n)] ∧ (Lit.int k n).wf = true
  | .bool, ys => ∃ b, ys = [.sc (.bool b)]
  | .str, ys => ∃ s : ByteArray, ys = [.sc (.string s)] ∧ s.size ≤ maxLen
  | .arr n s, ys => ∃ yss : List (List V), yss.length = n ∧ ys = yss.flatten ∧ ∀ z ∈ yss, s.Rep z
  | .slc s, ys => ∃ yss : List (List V), yss.length ≤ maxLen ∧ ys = [.im yss.flatten yss.length] ∧ ∀ z ∈ yss, s.Rep z
  | .st l, ys => Shp.Reps l ys
def Shp.Reps : List Shp → List V → Prop
  | [], ys => ys = []
  | s :: r, ys => ∃ a b, ys = a ++ b ∧ s.Rep a ∧ Shp.Reps r b
end
mutual
/-- the type has the shape -/
def Shp.ok (P : Program) : Shp → TypeId → Bool
  | .int k, t => match P.underlying t with
    | some (.int k') => k' == k && P.cellsOf t == 1
    | _ => false
  | .bool, t => match P.underlying t with
    | some .bool => P.cellsOf t == 1
    | _ => false
  | .str, t => match P.underlying t with
    | some .string => P.cellsOf t == 1
    | _ => false
  | .arr n s, t => match P.underlying t with
    | some (.array m e) => m == n && s.ok P e && P.cellsOf t == n * P.cellsOf e
    | _ => false
  | .slc s, t => match P.underlying t with
    | some (.slice e) => s.ok P e && P.cellsOf t == 1
    | _ => false
  | .st l, t => match P.underlying t with
    | some (.struct fs) => Shp.oks P l fs.toList 0 (P.cellsOf t)
    | _ => false
def Shp.oks (P : Program) : List Shp → List Field → Nat → Nat → Bool
  | [], fs, off, n => fs.isEmpty && off == n
  | s :: r, fs, off, n => match fs with
    | f :: fs => f.offset == off && s.ok P f.type && Shp.oks P r fs (off + P.cellsOf f.type) n
    | [] => false
end
section
variable {S : Nat → Prop} {w : World}
theorem AllC.append {xs ys : List V} {vs us : List Value} (h : AllC S w xs vs) (k : AllC S w ys us) : AllC S w (xs ++ ys) (vs ++ us) := by
  refine ⟨by simp [h.1, k.1], fun i x u hx hu => ?_⟩
  have hl := h.1
  rw [List.getElem?_append] at hx hu
  by_cases hi : i < xs.length
  · rw [if_pos hi] at hx; rw [if_pos (by omega)] at hu
    exact h.2 i x u hx hu
  · rw [if_neg hi] at hx; rw [if_neg (by omega), ← hl] at hu
    exact k.2 _ x u hx hu
theorem AllC.rows {Q : List V → Prop} {sz : Nat} : ∀ (n : Nat) (cs : List Value), cs.length = n * sz → (∀ i, i < n → ∃ ys, Q ys ∧ AllC S w ys ((cs.drop (i * sz)).take sz)) → ∃ yss : List (List V), yss.length = n ∧ (∀ z ∈ yss, Q z) ∧ AllC S w yss.flatten cs
  | 0, cs, hl, _ => by
    have : cs = [] := List.eq_nil_of_length_eq_zero (by simpa using hl)
    subst this
    exact ⟨[], rfl, fun z hz => by simp at hz, AllC.nil _ _⟩
  | n + 1, cs, hl, h => by
    obtain ⟨ys, hq, ha⟩ := h 0 (by omega)
    rw [Nat.zero_mul, List.drop_zero] at ha
    have hl' : cs.length = n * sz + sz := by rw [hl, Nat.add_mul, Nat.one_mul]
    obtain ⟨yss, h1, h2, h3⟩ := AllC.rows (Q := Q) (sz := sz) n (cs.drop sz) (by simp [hl']) fun i hi => by
      obtain ⟨zs, hz, hb⟩ := h (i + 1) (by omega)
      refine ⟨zs, hz, ?_⟩
      rwa [List.drop_drop, show sz + i * sz = (i + 1) * sz by rw [Nat.add_mul]; omega]
    refine ⟨ys :: yss, by simp [h1], fun z hz => ?_, ?_⟩
    · rcases List.mem_cons.1 hz with rfl | hz
      · exact hq
      · exact h2 z hz
    · have := ha.append h3
      rwa [List.take_append_drop] at this
end
theorem addr_add (a : Addr) (i j : Nat) : (a.add i).add j = a.add (i + j) := by
  unfold Addr.add
  by_cases hj : j = 0
  · subst hj; simp
  · by_cases hi : i = 0
    · subst hi; simp
    · rw [if_neg hj, if_neg hi, if_neg (by omega)]; simp; omega
section
variable {H : Type} {enc : TypeId × Value → H} {P : Program} {w : World} {base : Nat} {sp : Nat → Bool} {held : Bool}
mutual
theorem open_rep : ∀ (s : Shp) {t : TypeId} {fuel : Nat} {cs : List Value} {x : DataW H × List MemPlace}, s.ok P t = true → DataW.trod enc P w base sp held fuel t cs = some x → cs.length = P.cellsOf t ∧ ∃ ys, s.Rep ys ∧ AllC (fun b => b < w.heap.size) w ys cs
  | .int k, t, fuel, cs, x, ho, h => by
    simp only [Shp.ok] at ho
    split at ho
    · rename_i k' hu
      simp only [Bool.and_eq_true, beq_iff_eq] at ho
      obtain ⟨rfl, hc⟩ := ho
      obtain ⟨n, rfl, _, hw⟩ := DataW.trod_int hu h
      exact ⟨hc.symm, _, ⟨n, rfl, hw⟩, AllC.cons (Rc.sc _ _ _) (AllC.nil _ _)⟩
    · cases ho
  | .bool, t, fuel, cs, x, ho, h => by
    simp only [Shp.ok] at ho
    split at ho
    · rename_i hu
      simp only [beq_iff_eq] at ho
      obtain ⟨n, rfl, _⟩ := DataW.trod_bool hu h
      exact ⟨ho.symm, _, ⟨n, rfl⟩, AllC.cons (Rc.sc _ _ _) (AllC.nil _ _)⟩
    · cases ho
  | .str, t, fuel, cs, x, ho, h => by
    simp only [Shp.ok] at ho
    split at ho
    · rename_i hu
      simp only [beq_iff_eq] at ho
      obtain ⟨n, rfl, _, hl⟩ := DataW.trod_string hu h
      exact ⟨ho.symm, _, ⟨n, rfl, hl⟩, AllC.cons (Rc.sc _ _ _) (AllC.nil _ _)⟩
    · cases ho
  | .arr n s, t, fuel, cs, x, ho, h => by
    simp only [Shp.ok] at ho
    split at ho
    · rename_i m e hu
      simp only [Bool.and_eq_true, beq_iff_eq] at ho
      obtain ⟨⟨rfl, ho⟩, hc⟩ := ho
      obtain ⟨xs, q, _, _, hl, hn, hel⟩ := DataW.trod_array hu h
      refine ⟨hl, ?_⟩
      obtain ⟨yss, h1, h2, h3⟩ := AllC.rows (S := fun b => b < w.heap.size) (w := w) (Q := s.Rep) m cs (by rw [hl, hc]) fun i hi => by
        have := hel i hi
        rw [List.getElem?_eq_getElem (by omega)] at this
        exact (open_rep s ho this).2
      exact ⟨_, ⟨yss, h1, rfl, h2⟩, h3⟩
    · cases ho
  | .slc s, t, fuel, cs, x, ho, h => by
    simp only [Shp.ok] at ho
    split at ho
    · rename_i e hu
      simp only [Bool.and_eq_true, beq_iff_eq] at ho
      obtain ⟨ho, hc⟩ := ho
      rcases DataW.trod_slice hu h with ⟨rfl, _⟩ | ⟨a, len, cap, elems, rest, n, _, rfl, _, hb, hl, hm, hlen, hel, _, _⟩
      · exact ⟨hc.symm, _, ⟨[], by simp, rfl, fun z hz => by simp at hz⟩, AllC.cons (.im0 (Nat.le_refl _) (by unfold maxLen; omega) (fun _ => rfl)) (AllC.nil _ _)⟩
      · refine ⟨hc.symm, ?_⟩
        obtain ⟨f, hf⟩ : ∃ f : Nat → Value, f = fun i => (w.cell? (a.add i)).getD undef := ⟨_, rfl⟩
        have each : ∀ i, i < len → w.cells? base (a.add (i * P.cellsOf e)) (P.cellsOf e) = some ((((List.range (len * P.cellsOf e)).map f).drop (i * P.cellsOf e)).take (P.cellsOf e)) ∧ ∃ y, DataW.trod enc P w base sp held n e ((((List.range (len * P.cellsOf e)).map f).drop (i * P.cellsOf e)).take (P.cellsOf e)) = some y := by
          intro i hi
          have h1 := hel i hi
          rw [List.getElem?_eq_getElem (by omega), Option.bind_eq_some_iff] at h1
          obtain ⟨cs', h2, h3⟩ := h1
          obtain ⟨_, h4, h5⟩ := World.cells?_some h2
          have hle : i * P.cellsOf e + P.cellsOf e ≤ len * P.cellsOf e := by
            have := Nat.mul_le_mul_right (P.cellsOf e) (show i + 1 ≤ len by omega)
            rwa [Nat.add_mul, Nat.one_mul] at this
          have he : cs' = (((List.range (len * P.cellsOf e)).map f).drop (i * P.cellsOf e)).take (P.cellsOf e) := by
            refine List.ext_getElem? fun j => ?_
            rw [List.getElem?_take]
            split
            · rename_i hj
              have h6 := h5 j hj
              rw [addr_add] at h6
              rw [List.getElem?_drop, List.getElem?_map, List.getElem?_range (by omega), Option.map_some, hf]
              simp only
              rw [h6, List.getElem?_eq_getElem (by omega)]; rfl
            · rw [List.getElem?_eq_none (by omega)]
          rw [← he]
          exact ⟨h2, _, h3⟩
        obtain ⟨yss, h1, h2, h3⟩ := AllC.rows (S := fun b => b < w.heap.size) (w := w) (Q := s.Rep) (sz := P.cellsOf e) len ((List.range (len * P.cellsOf e)).map f) (by simp) fun i hi => by
          obtain ⟨_, y, hy⟩ := each i hi
          exact (open_rep s ho hy).2
        refine ⟨_, ⟨yss, by omega, rfl, h2⟩, AllC.cons ?_ (AllC.nil _ _)⟩
        rw [h1]
        by_cases h0 : yss.flatten = []
        · rw [h0]; exact .im0 hl hm (fun h => by cases h)
        · have hpos : 0 < len * P.cellsOf e := by
            have h4 := h3.1
            simp only [List.length_map, List.length_range] at h4
            rw [← h4]
            exact List.length_pos_iff.2 h0
          have cell : ∀ i, i < len * P.cellsOf e → w.cell? (a.add i) = some (f i) := by
            intro i hi
            have hsz : 0 < P.cellsOf e := Nat.pos_of_ne_zero fun h => by rw [h, Nat.mul_zero] at hpos; omega
            have hd : i / P.cellsOf e < len := (Nat.div_lt_iff_lt_mul hsz).2 hi
            obtain ⟨h4, _⟩ := each (i / P.cellsOf e) hd
            obtain ⟨_, _, h5⟩ := World.cells?_some h4
            have h6 := h5 (i % P.cellsOf e) (Nat.mod_lt _ hsz)
            rw [addr_add, Nat.mul_comm, Nat.div_add_mod, List.getElem?_take, if_pos (Nat.mod_lt _ hsz), List.getElem?_drop, Nat.mul_comm, Nat.mul_comm, List.getElem?_map] at h6
            rw [h6, Nat.div_add_mod, List.getElem?_range hi]; rfl
          have c0 := cell 0 hpos
          rw [show a.add 0 = a by simp [Addr.add]] at c0
          obtain ⟨b, off, spot⟩ := a
          have hsp : spot = none := by
            cases spot with
            | none => rfl
            | some _ =>
              simp only [World.cell?] at c0
              split at c0
              · simp at c0
              · cases c0
          subst hsp
          have hbl : b < w.heap.size := by
            simp only [World.cell?] at c0
            split at c0
            · rename_i hb'; exact (Array.getElem?_eq_some_iff.1 hb').1
            · cases c0
          refine .im1 f hl hm hbl (fun i x hx => ?_) (fun i x hx => ?_)
          · have hi : i < len * P.cellsOf e := by
              have := (List.getElem?_eq_some_iff.1 hx).1
              have h4 := h3.1
              simp only [List.length_map, List.length_range] at h4
              omega
            have := cell i hi
            unfold Addr.add at this
            split at this
            · rename_i hi0; subst hi0; exact this
            · exact this
          · have hi : i < len * P.cellsOf e := by
              have := (List.getElem?_eq_some_iff.1 hx).1
              have h4 := h3.1
              simp only [List.length_map, List.length_range] at h4
              omega
            exact h3.2 i x (f i) hx (by rw [List.getElem?_map, List.getElem?_range hi]; rfl)
    · cases ho
  | .st l, t, fuel, cs, x, ho, h => by
    simp only [Shp.ok] at ho
    split at ho
    · rename_i fs hu
      obtain ⟨xs, n, _, _, hl, hn, hel⟩ := DataW.trod_struct hu h
      refine ⟨hl, ?_⟩
      obtain ⟨ys, h1, h2⟩ := open_reps l (fs := fs.toList) (off := 0) (cs := cs) (n := n) (m := P.cellsOf t) ho hl (fun i f hf => by
        have := hel i f (by simpa using hf)
        have hi := (List.getElem?_eq_some_iff.1 hf).1
        rw [List.getElem?_eq_getElem (by rw [hn]; simpa using hi)] at this
        exact ⟨_, this⟩)
      rw [List.drop_zero] at h2
      exact ⟨ys, h1, h2⟩
    · cases ho
theorem open_reps : ∀ (l : List Shp) {fs : List Field} {off n m : Nat} {cs : List Value}, Shp.oks P l fs off m = true → cs.length = m → (∀ (i : Nat) (f : Field), fs[i]? = some f → ∃ x : DataW H × List MemPlace, DataW.trod enc P w base sp held n f.type ((cs.drop f.offset).take (P.cellsOf f.type)) = some x) →
    ∃ ys, Shp.Reps l ys ∧ AllC (fun b => b < w.heap.size) w ys (cs.drop off)
  | [], fs, off, n, m, cs, ho, hl, h => by
    simp only [Shp.oks, Bool.and_eq_true, beq_iff_eq] at ho
    refine ⟨[], rfl, ?_⟩
    rw [List.drop_of_length_le (by omega)]
    exact AllC.nil _ _
  | s :: r, [], off, n, m, cs, ho, hl, h => by simp [Shp.oks] at ho
  | s :: r, f :: fs, off, n, m, cs, ho, hl, h => by
    simp only [Shp.oks, Bool.and_eq_true, beq_iff_eq] at ho
    obtain ⟨⟨h1, h2⟩, h3⟩ := ho
    obtain ⟨x, hx⟩ := h 0 f rfl
    obtain ⟨hlen, ys, h4, h5⟩ := open_rep s h2 hx
    obtain ⟨zs, h6, h7⟩ := open_reps r h3 hl fun i g hg => h (i + 1) g (by simpa using hg)
    refine ⟨ys ++ zs, ⟨ys, zs, rfl, h4, h6⟩, ?_⟩
    have := h5.append h7
    rwa [h1, ← List.drop_drop, List.take_append_drop] at this
end
def Shp.Val : Shp → V → Prop
  | .arr n s, x => ∃ ys, x = .ag ys ∧ (Shp.arr n s).Rep ys
  | .st l, x => ∃ ys, x = .ag ys ∧ Shp.Reps l ys
  | .int k, x => ∃ n : Int, x = .sc (.int k n) ∧ (Lit.int k n).wf = true
  | .bool, x => ∃ b, x = .sc (.bool b)
  | .str, x => ∃ s : ByteArray, x = .sc (.string s) ∧ s.size ≤ maxLen
  | .slc s, x => ∃ yss : List (List V), yss.length ≤ maxLen ∧ x = .im yss.flatten yss.length ∧ ∀ z ∈ yss, s.Rep z
def Shp.Vals : List Shp → List V → Prop
  | [], xs => xs = []
  | s :: r, xs => ∃ x ys, xs = x :: ys ∧ s.Val x ∧ Shp.Vals r ys
theorem rc_agg {S : Nat → Prop} {ys : List V} {cs : Array Value} (h : AllC S w ys cs.toList) : Rc S w (.ag ys) (.agg cs) :=
  .ag (by have := h.1; simpa using this) fun i x u hx hu => h.2 i x u hx (by simpa using hu)
theorem open_arg (s : Shp) {t : TypeId} {v : Value} {d : DataW H} {ps : List MemPlace} (ho : s.ok P t = true) (hval : Value.okWide P w .any 0 t v) (hd : DataW.Trod enc P w 0 (fun _ => true) true t v d ps) : ∃ x, s.Val x ∧ Rc (fun b => b < w.heap.size) w x v := by
  obtain ⟨fuel, hf⟩ := hd
  obtain ⟨_, ys, h1, h2⟩ := open_rep s ho hf
  have one : ∀ {y : V}, (∀ cs, v ≠ .agg cs) → ys = [y] → Rc (fun b => b < w.heap.size) w y v := by
    intro y hv e
    subst e
    have hc : v.cells.toList = [v] := by cases v <;> first | rfl | exact absurd rfl (hv _)
    rw [hc] at h2
    exact h2.2 0 y v rfl rfl
  cases s with
  | int k =>
    obtain ⟨n, rfl, hw⟩ := h1
    simp only [Shp.ok] at ho
    split at ho
    · rename_i hu
      obtain ⟨m, rfl⟩ := okWide_int hu hval
      exact ⟨_, ⟨n, rfl, hw⟩, one (fun cs e => by cases e) rfl⟩
    · cases ho
  | bool =>
    obtain ⟨b, rfl⟩ := h1
    simp only [Shp.ok] at ho
    split at ho
    · rename_i hu
      obtain ⟨m, rfl⟩ := okWide_bool hu hval
      exact ⟨_, ⟨b, rfl⟩, one (fun cs e => by cases e) rfl⟩
    · cases ho
  | str =>
    obtain ⟨b, rfl, hl⟩ := h1
    simp only [Shp.ok] at ho
    split at ho
    · rename_i hu
      refine ⟨_, ⟨b, rfl, hl⟩, one (fun cs e => ?_) rfl⟩
      subst e
      simp [Value.okWide, Cell.okWide, Cell.ok, hu] at hval
    · cases ho
  | slc s =>
    obtain ⟨yss, h3, rfl, h4⟩ := h1
    simp only [Shp.ok] at ho
    split at ho
    · rename_i hu
      refine ⟨_, ⟨yss, h3, rfl, h4⟩, one (fun cs e => ?_) rfl⟩
      subst e
      simp [Value.okWide, Cell.okWide, Cell.ok, hu] at hval
    · cases ho
  | arr n s =>
    have ho' := ho
    simp only [Shp.ok] at ho
    split at ho
    · rename_i hu
      obtain ⟨cs, rfl, _⟩ : ∃ cs, v = .agg cs ∧ cs.size = P.cellsOf t ∧ Row.okWide P w .any 0 t cs := by simpa [Value.okWide, hu] using hval
      exact ⟨_, ⟨ys, rfl, h1⟩, rc_agg h2⟩
    · cases ho
  | st l =>
    simp only [Shp.ok] at ho
    split at ho
    · rename_i hu
      obtain ⟨cs, rfl, _⟩ : ∃ cs, v = .agg cs ∧ cs.size = P.cellsOf t ∧ Row.okWide P w .any 0 t cs := by simpa [Value.okWide, hu] using hval
      exact ⟨_, ⟨ys, rfl, h1⟩, rc_agg h2⟩
    · cases ho
def Shp.okL (P : Program) : List Shp → List TypeId → Bool
  | [], [] => true
  | s :: r, t :: ts => s.ok P t && Shp.okL P r ts
  | _, _ => false
theorem open_args : ∀ (ss : List Shp) {ts : List TypeId} {vs : List Value} {ds : List (DataW H)} {ps : List MemPlace}, Shp.okL P ss ts = true → (∀ (j : Nat) t v, ts[j]? = some t → vs[j]? = some v → Value.okWide P w .any 0 t v) → DataW.TrodAll enc P w 0 (fun _ => true) true ts vs ds ps →
    ∃ xs, Shp.Vals ss xs ∧ AllC (fun b => b < w.heap.size) w xs vs ∧ ds.length = ts.length
  | [], [], vs, ds, ps, _, _, h => by obtain ⟨rfl, rfl, rfl⟩ := trodAll_nil h; exact ⟨[], rfl, AllC.nil _ _, rfl⟩
  | [], t :: ts, _, _, _, ho, _, _ => by cases ho
  | s :: r, [], _, _, _, ho, _, _ => by cases ho
  | s :: r, t :: ts, vs, ds, ps, ho, hv, h => by
    simp only [Shp.okL, Bool.and_eq_true] at ho
    obtain ⟨v, vs', d, ds', p, q, rfl, rfl, rfl, h1, h2⟩ := trodAll_cons h
    obtain ⟨x, h3, h4⟩ := open_arg s ho.1 (hv 0 t v rfl rfl) h1
    obtain ⟨xs, h5, h6, h7⟩ := open_args r ho.2 (fun j t v a b => hv (j + 1) t v (by simpa using a) (by simpa using b)) h2
    exact ⟨x :: xs, ⟨x, xs, rfl, h3, h5⟩, AllC.cons h4 h6, by simp [h7]⟩
theorem law_calls {f : Nat} {fn : Func} (ss : List Shp) {args : Array Value} {ds : List (DataW H)} {p : List MemPlace} (hok : Shp.okL P ss fn.params.toList = true)
    (hval : ∀ (j : Nat) t v, fn.params[j]? = some t → args[j]? = some v → Value.okWide P w .any 0 t v) (hA : DataW.TrodAll enc P w 0 (fun _ => true) true fn.params.toList args.toList ds p)
    (ht : TabOK (fun b => b < w.heap.size) w) (hs : ∀ xs, Shp.Vals ss xs → Spec P f xs (.sc (.bool true))) : ds.length = fn.params.size ∧ Calls P f args w fun e w' => e = .returned (.bool true) ∧ Below w.heap.size w w' := by
  obtain ⟨xs, h1, h2, h3⟩ := open_args ss hok (fun j t v a b => hval j t v (by simpa using a) (by simpa using b)) hA
  exact ⟨by simpa using h3, Spec.law (hs xs h1) ht h2⟩
theorem reps_ints {k : IntKind} : ∀ {yss : List (List V)}, (∀ z ∈ yss, (Shp.int k).Rep z) → ∃ ns : List Int, yss.flatten = ns.map (fun n => .sc (.int k n)) ∧ ns.length = yss.length ∧ ∀ n ∈ ns, (Lit.int k n).wf = true
  | [], _ => ⟨[], rfl, rfl, fun n hn => by simp at hn⟩
  | y :: r, h => by
    obtain ⟨n, rfl, hw⟩ := h y (by simp)
    obtain ⟨ns, h1, h2, h3⟩ := reps_ints (yss := r) fun z hz => h z (by simp [hz])
    exact ⟨n :: ns, by simp [h1], by simp [h2], fun m hm => by
      rcases List.mem_cons.1 hm with rfl | hm
      · exact hw
      · exact h3 m hm⟩
theorem reps_nats {k : IntKind} {M : Nat} (hk : ∀ n, (Lit.int k n).wf = true → 0 ≤ n ∧ n ≤ M) {yss : List (List V)} (h : ∀ z ∈ yss, (Shp.int k).Rep z) : ∃ ns : List Nat, yss.flatten = ns.map (fun (n : Nat) => .sc (.int k (n : Int))) ∧ ns.length = yss.length ∧ ∀ n ∈ ns, n ≤ M := by
  obtain ⟨ns, h1, h2, h3⟩ := reps_ints h
  refine ⟨ns.map Int.toNat, ?_, by simp [h2], fun n hn => ?_⟩
  · rw [h1, List.map_map]
    refine List.map_congr_left fun n hn => ?_
    have := hk n (h3 n hn)
    simp only [Function.comp, Int.toNat_of_nonneg this.1]
  · obtain ⟨m, hm, rfl⟩ := List.mem_map.1 hn
    have := hk m (h3 m hm)
    omega
theorem wf_nat {k : IntKind} {M : Nat} (hk : ∀ n, (Lit.int k n).wf = true → 0 ≤ n ∧ n ≤ M) {n : Int} (h : (Lit.int k n).wf = true) : ∃ m : Nat, n = m ∧ m ≤ M := by
  obtain ⟨h1, h2⟩ := hk n h
  exact ⟨n.toNat, by omega, by omega⟩
end
end Go.Proofs.Ytphilljhfdlfdaa
namespace Go.Proofs.Ytphilljhfdlfdaa
open Go.RowKit
end Go.Proofs.Ytphilljhfdlfdaa
namespace Go.Proofs.Ytphilljhfdlfdaa
open Go.RowKit
def nv (r : List Nat) : List V := r.map fun (n : Nat) => .sc (.int .u64 n)
theorem nv_clo (r : List Nat) : (nv r).all clo = true := by
  rw [List.all_eq_true]; intro x hx; obtain ⟨n, _, rfl⟩ := List.mem_map.1 hx; rfl
def nR (M : List (List Nat)) : List (List V) := M.map nv
def mv (w : Nat) (M : List (List Nat)) : V := .im (imR w (nR M)) M.length
theorem imR_clo (w : Nat) (rs : List (List V)) : (imR w rs).all clo = true := by
  rw [List.all_eq_true]; intro x hx; obtain ⟨n, _, rfl⟩ := List.mem_map.1 hx; rfl
end Go.Proofs.Ytphilljhfdlfdaa
namespace Go.Proofs.Ytphilljhfdlfdaa
open Go.RowKit
theorem klc {n i : Nat} {k : Blk} {r : List (Nat × Blk)} (h : i < n) (h2 : ∀ id q, hget r id = some q → id < n) : ∀ id q, hget ((i, k) :: r) id = some q → id < n := by
  intro id q hq
  simp only [hget] at hq
  split at hq
  · rename_i e; omega
  · exact h2 id q hq
theorem kln {n : Nat} : ∀ id q, hget [] id = some q → id < n := fun _ _ h => by cases h
end Go.Proofs.Ytphilljhfdlfdaa
namespace Go.Proofs.Ytphilljhfdlfdaa
open Go.RowKit
structure RowsOk (o : Nat) (ids : List Nat) (n lo hi : Nat) : Prop where
  len : ids.length = n
  nod : ids.Nodup
  lt : ∀ i ∈ ids, lo ≤ i ∧ i < hi
  o1 : lo ≤ o ∧ o < hi
  o2 : o ∉ ids
theorem slR_app (z m : Nat) (a b : List Nat) : slR z m a ++ slR z m b = slR z m (a ++ b) := by simp [slR]
theorem setAll_all (cs xs : List V) : ∀ off, off + xs.length ≤ cs.length → setAll cs off xs = cs.take off ++ xs ++ cs.drop (off + xs.length) := by
  induction xs generalizing cs with
  | nil => intro off h; simp [setAll]
  | cons x r ih =>
    intro off h
    simp only [List.length_cons] at h
    rw [setAll, ih (cs.set off x) (off + 1) (by rw [List.length_set]; omega)]
    have e1 : (cs.set off x).take (off + 1) = cs.take off ++ [x] := by
      rw [List.take_set, List.take_add_one, List.set_append_right _ _ (by simp; omega)]
      have : off < cs.length := by omega
      simp [List.getElem?_eq_getElem this, Nat.min_eq_left (by omega : off ≤ cs.length)]
    have e2 : (cs.set off x).drop (off + 1 + r.length) = cs.drop (off + (r.length + 1)) := by
      rw [List.drop_set, if_pos (by omega)]
      congr 1; omega
    rw [e1, e2]; simp
end Go.Proofs.Ytphilljhfdlfdaa
namespace Go.Proofs.Ytphilljhfdlfdaa
open Go.RowKit
def wv (l : List Nat) : List V := l.map fun (n : Nat) => .sc (.int .i64 n)
theorem wv_clo (r : List Nat) : (wv r).all clo = true := by
  rw [List.all_eq_true]; intro x hx; obtain ⟨n, _, rfl⟩ := List.mem_map.1 hx; rfl
end Go.Proofs.Ytphilljhfdlfdaa
namespace Go.Proofs.Ytphilljhfdlfdaa
open Go.RowKit
theorem hid {p : Prop} (h : p) : Hid p := h
def u32s (l : List Nat) : List Value := l.map fun (n : Nat) => Value.int .u32 (n : Int)
@[simp] theorem u32s_length (l : List Nat) : (u32s l).length = l.length := by simp [u32s]
section
variable {P : Program} {ops : Array Oper} {rest : List Oper} {o : Oper} {a : Act} {Q : Exit → Act → World → Prop}
end
end Go.Proofs.Ytphilljhfdlfdaa
namespace Go.Proofs.Ytphilljhfdlfdaa
def val : List Nat → Nat
  | [] => 0
  | x :: l => x + 4294967296 * val l
def limbs (l : List Nat) : Prop := ∀ x ∈ l, x < 4294967296
theorem limbs_cons {x : Nat} {l : List Nat} (h : limbs (x :: l)) : x < 4294967296 ∧ limbs l := ⟨h x (by simp), fun y hy => h y (by simp [hy])⟩
theorem limbs_getD {l : List Nat} (h : limbs l) (i : Nat) : l.getD i 0 < 4294967296 := by
  rw [List.getD_eq_getElem?_getD]
  by_cases hi : i < l.length
  · simp [hi]; exact h _ (List.getElem_mem hi)
  · simp [hi]
theorem val_append (a b : List Nat) : val (a ++ b) = val a + 4294967296 ^ a.length * val b := by
  induction a with
  | nil => simp [val]
  | cons x a ih => simp only [List.cons_append, val, ih, List.length_cons, Nat.pow_succ]; grind
theorem val_lt {l : List Nat} (h : limbs l) : val l < 4294967296 ^ l.length := by
  induction l with
  | nil => simp [val]
  | cons x l ih =>
    obtain ⟨hx, hl⟩ := limbs_cons h
    have := ih hl
    simp only [val, List.length_cons, Nat.pow_succ]
    omega
theorem val_take_succ {l : List Nat} {k : Nat} (h : k < l.length) : val (l.take (k + 1)) = val (l.take k) + 4294967296 ^ k * l.getD k 0 := by
  rw [List.take_succ_eq_append_getElem h, val_append]
  simp [val, h, Nat.min_eq_left (Nat.le_of_lt h)]
theorem limbs_take {l : List Nat} (h : limbs l) (k : Nat) : limbs (l.take k) := fun x hx => h x (List.mem_of_mem_take hx)
theorem val_split (l : List Nat) (k : Nat) (h : k ≤ l.length) : val l = val (l.take k) + 4294967296 ^ k * val (l.drop k) := by
  conv => lhs; rw [← List.take_append_drop k l]
  rw [val_append]; simp [Nat.min_eq_left h]
theorem val_lt_step {a b : List Nat} {k : Nat} (ha : limbs a) (hb : limbs b) (hka : k < a.length) (hkb : k < b.length) :
    (a.getD k 0 = b.getD k 0 → (val (a.take (k + 1)) < val (b.take (k + 1)) ↔ val (a.take k) < val (b.take k))) ∧
    (a.getD k 0 ≠ b.getD k 0 → (val (a.take (k + 1)) < val (b.take (k + 1)) ↔ a.getD k 0 < b.getD k 0)) := by
  have h1 := val_lt (limbs_take ha k)
  have h2 := val_lt (limbs_take hb k)
  rw [List.length_take, Nat.min_eq_left (Nat.le_of_lt hka)] at h1
  rw [List.length_take, Nat.min_eq_left (Nat.le_of_lt hkb)] at h2
  rw [val_take_succ hka, val_take_succ hkb]
  generalize val (a.take k) = x at *
  generalize val (b.take k) = y at *
  generalize a.getD k 0 = c
  generalize b.getD k 0 = d
  generalize 4294967296 ^ k = p at *
  refine ⟨fun h => by subst h; omega, fun h => ?_⟩
  rcases Nat.lt_or_gt_of_ne h with h' | h'
  · have : p * (c + 1) ≤ p * d := Nat.mul_le_mul_left _ h'
    rw [Nat.mul_add] at this
    constructor
    · intro _; exact h'
    · intro _; omega
  · have : p * (d + 1) ≤ p * c := Nat.mul_le_mul_left _ h'
    rw [Nat.mul_add] at this
    constructor
    · intro _; omega
    · intro _; omega
def lessL (a b : List Nat) : Bool := if a.length = b.length then decide (val a < val b) else decide (a.length < b.length)
def canon (l : List Nat) : Prop := ∀ h : l ≠ [], l.getLast h ≠ 0
theorem canon_ge {l : List Nat} (h : canon l) (hn : l ≠ []) : 4294967296 ^ (l.length - 1) ≤ val l := by
  have e := List.dropLast_concat_getLast hn
  have h1 := h hn
  conv => rhs; rw [← e]
  rw [val_append]
  simp only [List.length_dropLast, val]
  have : 4294967296 ^ (l.length - 1) * 1 ≤ 4294967296 ^ (l.length - 1) * (l.getLast hn + 4294967296 * 0) := Nat.mul_le_mul_left _ (by omega)
  omega
theorem lessL_eq {a b : List Nat} (ha : limbs a) (hb : limbs b) (ca : canon a) (cb : canon b) : lessL a b = decide (val a < val b) := by
  unfold lessL
  split
  · rfl
  · rename_i hne
    have key : ∀ {a b : List Nat}, limbs a → canon b → a.length < b.length → val a < val b := by
      intro a b ha cb h
      have h1 := val_lt ha
      have h2 := canon_ge cb (by intro e; subst e; simp at h)
      have h3 : 4294967296 ^ a.length ≤ 4294967296 ^ (b.length - 1) := Nat.pow_le_pow_right (by omega) (by omega)
      omega
    rcases Nat.lt_or_gt_of_ne hne with h | h
    · simp [h, key ha cb h]
    · have := key hb ca h
      rw [Bool.eq_iff_iff]; simp; omega
theorem val_inj {a b : List Nat} (ha : limbs a) (hb : limbs b) (h : a.length = b.length) (e : val a = val b) : a = b := by
  induction a generalizing b with
  | nil => cases b with | nil => rfl | cons => simp at h
  | cons x a ih =>
    cases b with
    | nil => simp at h
    | cons y b =>
      obtain ⟨hx, ha⟩ := limbs_cons ha
      obtain ⟨hy, hb⟩ := limbs_cons hb
      simp only [val] at e
      have h1 : x = y := by omega
      have h2 : val a = val b := by omega
      rw [h1, ih ha hb (by simpa using h) h2]
theorem canon_inj {a b : List Nat} (ha : limbs a) (hb : limbs b) (ca : canon a) (cb : canon b) (e : val a = val b) : a = b := by
  have h1 := lessL_eq ha hb ca cb
  have h2 := lessL_eq hb ha cb ca
  unfold lessL at h1 h2
  have hl : a.length = b.length := by
    by_cases hl : a.length = b.length
    · exact hl
    · rw [if_neg hl] at h1
      rw [if_neg (fun h => hl h.symm)] at h2
      simp [e] at h1 h2
      omega
  exact val_inj ha hb hl e
theorem val_take_succ' (l : List Nat) (k : Nat) : val (l.take (k + 1)) = val (l.take k) + 4294967296 ^ k * l.getD k 0 := by
  by_cases h : k < l.length
  · exact val_take_succ h
  · rw [List.take_of_length_le (by omega), List.take_of_length_le (by omega)]
    simp [List.getD_eq_getElem?_getD, List.getElem?_eq_none (Nat.le_of_not_lt h)]
def sgn (neg : Bool) (m : Nat) : Int := if neg then -(m : Int) else m
theorem sgn_natAbs (neg : Bool) (m : Nat) : (sgn neg m).natAbs = m := by cases neg <;> simp [sgn]
def Fits (K : Nat) (n : Int) : Prop := n.natAbs < 4294967296 ^ K
theorem Fits.mono {K L : Nat} {n : Int} (h : Fits K n) (hl : K ≤ L) : Fits L n := Nat.lt_of_lt_of_le h (Nat.pow_le_pow_right (by omega) hl)
theorem Fits.neg {K : Nat} {n : Int} (h : Fits K n) : Fits K (-n) := by unfold Fits at *; rwa [Int.natAbs_neg]
theorem Fits.add {K : Nat} {a b : Int} (ha : Fits K a) (hb : Fits K b) : Fits (K + 1) (a + b) := by
  unfold Fits at *; rw [Nat.pow_succ]; generalize 4294967296 ^ K = p at *; omega
theorem Fits.sub {K : Nat} {a b : Int} (ha : Fits K a) (hb : Fits K b) : Fits (K + 1) (a - b) := by
  have := Fits.add ha hb.neg; rwa [← Int.sub_eq_add_neg] at this
theorem Fits.mul {K L : Nat} {a b : Int} (ha : Fits K a) (hb : Fits L b) : Fits (K + L) (a * b) := by
  unfold Fits at *; rw [Int.natAbs_mul, Nat.pow_add]; exact Nat.mul_lt_mul'' ha hb
theorem canon_len {l : List Nat} {K : Nat} (hc : canon l) (h : val l < 4294967296 ^ K) : l.length ≤ K := by
  by_cases hn : l = []
  · subst hn; simp
  · have h1 := canon_ge hc hn
    by_cases hk : l.length ≤ K
    · exact hk
    · have h2 : 4294967296 ^ K ≤ 4294967296 ^ (l.length - 1) := Nat.pow_le_pow_right (by omega) (by omega)
      omega
end Go.Proofs.Ytphilljhfdlfdaa
namespace Go.Proofs.Ytphilljhfdlfdaa
end Go.Proofs.Ytphilljhfdlfdaa
namespace Go.Proofs.Ytphilljhfdlfdaa
open Go.RowKit
theorem val_take_all (z : List Nat) {n : Nat} (h : z.length ≤ n) : val (z.take n) = val z := by rw [List.take_of_length_le h]
theorem val_last {z : List Nat} {n : Nat} (h : z.length = n + 1) : val z = val (z.take n) + 4294967296 ^ n * z.getD n 0 := by
  rw [← val_take_succ', val_take_all]; omega
end Go.Proofs.Ytphilljhfdlfdaa
namespace Go.Proofs.Ytphilljhfdlfdaa
open Go.RowKit
def lv (l : List Nat) : List V := l.map fun (n : Nat) => .sc (.int .u32 (n : Int))
theorem lv_len (l : List Nat) : (lv l).length = l.length := by simp [lv]
theorem lv_get {l : List Nat} {i : Nat} (h : i < l.length) : (lv l)[i]? = some (.sc (.int .u32 (l.getD i 0 : Nat))) := by
  simp [lv, h]
theorem lv_take (l : List Nat) (k : Nat) : (lv l).take k = lv (l.take k) := by simp [lv]
theorem lv_append (a b : List Nat) : lv a ++ lv b = lv (a ++ b) := by simp [lv]
theorem lv_all (l : List Nat) : (lv l).all V.one = true := by simp [lv, V.one, Value.oneCell']
theorem lv_clo (l : List Nat) : (lv l).all clo = true := by simp [lv, clo]
def sv (l : List Nat) : V := .im (lv l) l.length
def digs : Nat → Nat → List Nat
  | 0, _ => []
  | f + 1, n => if n = 0 then [] else n % 4294967296 :: digs f (n / 4294967296)
def limbsOf (n : Nat) : List Nat := digs (n + 1) n
def iv (z : Int) : V := .ag [.sc (.bool (decide (z < 0))), sv (limbsOf z.natAbs)]
theorem canon_cons {x : Nat} {r : List Nat} (h1 : r = [] → x ≠ 0) (h2 : canon r) : canon (x :: r) := by
  intro hn
  cases r with
  | nil => simpa using h1 rfl
  | cons a r => rw [List.getLast_cons (by simp)]; exact h2 (by simp)
theorem digs_spec : ∀ (f n : Nat), n < f → val (digs f n) = n ∧ limbs (digs f n) ∧ canon (digs f n)
  | 0, n, h => by omega
  | f + 1, n, h => by
    simp only [digs]
    split
    · rename_i h0; subst h0
      exact ⟨rfl, fun x hx => (by simp at hx), fun hn => absurd rfl hn⟩
    · rename_i h0
      obtain ⟨h1, h2, h3⟩ := digs_spec f (n / 4294967296) (by omega)
      refine ⟨?_, ?_, ?_⟩
      · show n % 4294967296 + 4294967296 * val (digs f (n / 4294967296)) = n
        rw [h1]; omega
      · intro x hx
        rcases List.mem_cons.1 hx with rfl | hx
        · omega
        · exact h2 x hx
      · refine canon_cons (fun e => ?_) h3
        rw [e] at h1
        have : n / 4294967296 = 0 := h1.symm
        omega
theorem limbsOf_val (n : Nat) : val (limbsOf n) = n := (digs_spec _ _ (Nat.lt_succ_self _)).1
theorem limbsOf_limbs (n : Nat) : limbs (limbsOf n) := (digs_spec _ _ (Nat.lt_succ_self _)).2.1
theorem limbsOf_canon (n : Nat) : canon (limbsOf n) := (digs_spec _ _ (Nat.lt_succ_self _)).2.2
theorem limbsOf_eq {l : List Nat} (h : limbs l) (hc : canon l) : limbsOf (val l) = l := canon_inj (limbsOf_limbs _) h (limbsOf_canon _) hc (limbsOf_val _)
theorem limbsOf_zero : limbsOf 0 = [] := rfl
theorem val_take_zeros {l : List Nat} {k : Nat} (h : ∀ i, k ≤ i → l.getD i 0 = 0) : val (l.take k) = val l := by
  have key : ∀ m : List Nat, (∀ i, m.getD i 0 = 0) → val m = 0 := by
    intro m
    induction m with
    | nil => intro _; rfl
    | cons x r ih =>
      intro hm
      have h0 := hm 0
      simp at h0
      have := ih (fun i => by simpa using hm (i + 1))
      simp [val, h0, this]
  rcases Nat.le_total k l.length with hk | hk
  · rw [val_split l k hk, key (l.drop k) (fun i => by have := h (k + i) (by omega); simpa [List.getD_eq_getElem?_getD] using this)]; simp
  · rw [List.take_of_length_le hk]
theorem made_tree {l : List Nat} {k : Nat} {neg : Bool} (hl : limbs l) (h : ∀ i, k ≤ i → l.getD i 0 = 0) (hk : k ≤ l.length) (h0 : k ≠ 0 → l.getD (k - 1) 0 ≠ 0) : limbsOf (sgn neg (val l)).natAbs = l.take k ∧ decide (sgn neg (val l) < 0) = (neg && decide (0 < k)) := by
  have hv := val_take_zeros h
  have hc : canon (l.take k) := by
    intro hn
    have hk0 : k ≠ 0 := by intro e; subst e; simp at hn
    rw [List.getLast_eq_getElem]
    have := h0 hk0
    simp only [List.length_take, Nat.min_eq_left hk, List.getElem_take]
    rwa [List.getD_eq_getElem?_getD, List.getElem?_eq_getElem (by omega)] at this
  have hn : (sgn neg (val l)).natAbs = val l := by unfold sgn; cases neg <;> simp
  refine ⟨by rw [hn, ← hv]; exact limbsOf_eq (limbs_take hl k) hc, ?_⟩
  have hz : val l = 0 ↔ k = 0 := by
    rw [← hv]
    constructor
    · intro e
      have := limbsOf_eq (limbs_take hl k) hc
      rw [e, limbsOf_zero] at this
      have := congrArg List.length this
      simp at this
      omega
    · intro e; subst e; rfl
  unfold sgn
  cases neg with
  | false => simp
  | true =>
    simp only [if_true, Bool.true_and]
    by_cases hk0 : k = 0
    · have := hz.2 hk0; simp [this, hk0]
    · have : val l ≠ 0 := fun e => hk0 (hz.1 e)
      simp; omega
end Go.Proofs.Ytphilljhfdlfdaa
namespace Go.Proofs.Ytphilljhfdlfdaa
open Go.RowKit
theorem made_i (l : List Nat) (neg : Bool) (hl : limbs l) (hm : l.length ≤ 1000000000) : Spec Try.prog 8 [sv l, .sc (.bool neg)] (iv (sgn neg (val l))) := by
  unfold sv
  refine Spec.run Try.func8 rfl Try.ntmps8 (by simp) (by simp (disch := omega) only [go_sem, zn4]; rfl) fun B hB => ?_
  (repeat (first | (with_reducible first | apply oz1 | apply oz2 | apply oz3 | apply oz4 | apply oz5 | apply oz6 | apply oz7 | apply oz8 | apply oz9 | apply ozb | apply ozc | apply oze | apply ozf | apply ozg | apply ozh | apply ozi | apply ozj | apply ozk | refine ozd (by decide) ?_) | ((with_reducible apply SC.region); (focus (simp (disch := omega) only [go_sem, ↓reduceIte, reduceCtorEq]; rfl))) | (with_reducible refine SC.draw Tab.mixed rfl ?_; (repeat (refine DO.run (by simp (disch := omega) only [go_sem, ↓reduceIte, zn1, zn2, zn3, zn4, zn5, zn6, reduceCtorEq, zn7, zi1, zi2, if_pos, if_neg]; rfl) ?_)); refine DO.nil (by kernel_rfl) ?_)))
  refine SC.loop (fun k : Nat => ⟨[(0, .im (lv l) l.length), (1, .sc (.bool neg)), (4, .pt 0 0), (5, .sc (.int .i64 k))], [(0, ⟨31, [.sc (.bool false), .sc (.slice none 0 0)], false⟩)], 1, 31⟩)
    (fun k => k ≤ l.length ∧ ∀ i, k ≤ i → l.getD i 0 = 0) (fun k => k) l.length ?_ ?_ ?_
  · (refine Le.of [] hB (by first | exact ⟨Nat.zero_le _, fun _ _ => Nat.zero_le _⟩ | (constructor <;> (try simp) <;> (try omega))) ?_ ?_ <;> (repeat' (first | exact leSl_nil | exact leHp_nil | refine leSl_cons (by simp (disch := omega) only [go_sem, ↓reduceIte, zn1, reduceCtorEq]; rfl) ?_ ?_ | refine leHp_cons (by simp (disch := omega) only [go_sem, ↓reduceIte]; rfl) ?_ ?_ | exact VLe.junk _ | exact VLe.refl rfl | exact VLe.nil_sl _ _ _ | exact VLe.int (by first | rfl | omega | (dsimp only; omega)) | exact VLe.bool rfl | exact VLe.sl rfl (by first | rfl | omega | (dsimp only; omega) | (simp; done)) | exact VLe.cap rfl (by first | rfl | omega | (dsimp only; omega) | (simp; done)) | exact VLe.im rfl rfl | exact HLe.new rfl | exact HLe.same rfl (LLe.refl rfl) | refine HLe.same rfl ?_ | exact LLe.nil _ | exact LLe.refl rfl | refine LLe.cons ?_ ?_)))
  · exact ⟨Nat.le_refl _, fun i hi => by simp [hi]⟩
  · rintro k ⟨hk, hz⟩ K hK
    have hlen : (l.take k).length = k := by simp; omega
    have h3 : k = 0 ∨ (k ≠ 0 ∧ l.getD (k - 1) 0 ≠ 0) ∨ (k ≠ 0 ∧ l.getD (k - 1) 0 = 0) := by omega
    rcases h3 with h0 | ⟨h0, hx⟩ | ⟨h0, hx⟩
    · subst h0
      (repeat (first | (with_reducible first | apply oz1 | apply oz2 | apply oz3 | apply oz4 | apply oz5 | apply oz6 | apply oz7 | apply oz8 | apply oz9 | apply ozb | apply ozc | apply oze | apply ozf | apply ozg | apply ozh | apply ozi | apply ozj | apply ozk | refine ozd (by decide) ?_) | ((with_reducible apply SC.region); (focus (simp (disch := omega) only [go_sem, ↓reduceIte, zn1, reduceCtorEq]; rfl))) | (with_reducible refine SC.draw Tab.mixed rfl ?_; (repeat (refine DO.run (by simp (disch := omega) only [go_sem, ↓reduceIte, zn1, zn2, zn3, zn4, zn5, zn6, reduceCtorEq, zn7, zi1, zi2, if_pos, if_neg]; rfl) ?_)); refine DO.nil (by kernel_rfl) ?_)))
      refine SC.cond (by simp (disch := omega) only [go_sem, ↓reduceIte, if_neg]; rfl) ?_ ?_
      · intro h; cases h
      intro _
      (repeat (first | (with_reducible first | apply oz1 | apply oz2 | apply oz3 | apply oz4 | apply oz5 | apply oz6 | apply oz7 | apply oz8 | apply oz9 | apply ozb | apply ozc | apply oze | apply ozf | apply ozg | apply ozh | apply ozi | apply ozj | apply ozk | refine ozd (by decide) ?_) | ((with_reducible apply SC.region); (focus (simp (disch := omega) only [go_sem, ↓reduceIte, zn1, reduceCtorEq, if_neg]; rfl))) | (with_reducible refine SC.draw Tab.mixed rfl ?_; (repeat (refine DO.run (by simp (disch := omega) only [go_sem, ↓reduceIte, zn1, zn2, zn3, zn4, zn5, zn6, reduceCtorEq, zn7, zi1, zi2, if_pos, if_neg]; rfl) ?_)); refine DO.nil (by kernel_rfl) ?_)))
      refine SC.weak (by simp) (s' := ⟨[(0, .im (lv l) l.length), (1, .sc (.bool neg)), (4, .pt 0 0), (5, .sc (.int .i64 (0 : Nat)))], [(0, ⟨31, [.sc (.bool false), .sc (.slice none 0 0)], false⟩)], 1, 31⟩) (by (refine Le.of [] hB (by first | exact ⟨Nat.zero_le _, fun _ _ => Nat.zero_le _⟩ | (constructor <;> (try simp) <;> (try omega))) ?_ ?_ <;> (repeat' (first | exact leSl_nil | exact leHp_nil | refine leSl_cons (by simp (disch := omega) only [go_sem, ↓reduceIte, zn1, reduceCtorEq, if_neg]; rfl) ?_ ?_ | refine leHp_cons (by simp (disch := omega) only [go_sem, ↓reduceIte]; rfl) ?_ ?_ | exact VLe.junk _ | exact VLe.refl rfl | exact VLe.nil_sl _ _ _ | exact VLe.int (by first | rfl | omega | (dsimp only; omega)) | exact VLe.bool rfl | exact VLe.sl rfl (by first | rfl | omega | (dsimp only; omega) | (simp; done)) | exact VLe.cap rfl (by first | rfl | omega | (dsimp only; omega) | (simp; done)) | exact VLe.im rfl rfl | exact HLe.new rfl | exact HLe.same rfl (LLe.refl rfl) | refine HLe.same rfl ?_ | exact LLe.nil _ | exact LLe.refl rfl | refine LLe.cons ?_ ?_)))) ?_
      obtain ⟨e1, e2⟩ := made_tree (neg := neg) hl hz hk (fun h => absurd rfl h)
      have e3 : decide ((0 : Int) < ((0 : Nat) : Int)) = decide (0 < 0) := by simp
      cases neg
      all_goals
        refine SC.ops ?_
        (repeat (refine SO.run (by simp (disch := omega) only [go_sem, ↓reduceIte, zn1, zn2, zn3, zn4, reduceCtorEq, if_pos, lv_len, lv_take, Int.toNat_natCast, lv_all]; rfl) ?_))
        (repeat (first | (with_reducible first | apply oz1 | apply oz2 | apply oz3 | apply oz4 | apply oz5 | apply oz6 | apply oz7 | apply oz8 | apply oz9 | apply ozb | apply ozc | apply oze | apply ozf | apply ozg | apply ozh | apply ozi | apply ozj | apply ozk | refine ozd (by decide) ?_) | ((with_reducible apply SC.region); (focus (simp (disch := omega) only [go_sem, ↓reduceIte, zn1, zn2, zn3, zn4, zn5, zn6, reduceCtorEq, zn7, zi1, zi2, if_pos, if_neg]; rfl))) | (with_reducible refine SC.draw Tab.mixed rfl ?_; (repeat (refine DO.run (by simp (disch := omega) only [go_sem, ↓reduceIte, zn1, zn2, zn3, zn4, zn5, zn6, reduceCtorEq, zn7, zi1, zi2, if_pos, if_neg]; rfl) ?_)); refine DO.nil (by kernel_rfl) ?_)))
        refine retQ_ret Try.results8 (by simp (disch := omega) only [go_sem, ↓reduceIte, zn1, zn3, zn4, reduceCtorEq]; rfl) (by simp (disch := omega) only [go_sem, ↓reduceIte, zn3, lv_len, lv_take, lv_clo]; rfl) ?_
        unfold iv sv
        rw [e1, e2]
        simp []
    · have hi : ((k : Int) - 1).toNat = k - 1 := by omega
      have hg := lv_get (l := l) (i := k - 1) (by omega)
      have hd : decide ((k : Int) > 0) = true := by simp; omega
      have hb : (((l.getD (k - 1) 0 : Nat) : Int) == 0) = false := by simp only [beq_eq_false_iff_ne, ne_eq]; omega
      (repeat (first | (with_reducible first | apply oz1 | apply oz2 | apply oz3 | apply oz4 | apply oz5 | apply oz6 | apply oz7 | apply oz8 | apply oz9 | apply ozb | apply ozc | apply oze | apply ozf | apply ozg | apply ozh | apply ozi | apply ozj | apply ozk | refine ozd (by decide) ?_) | ((with_reducible apply SC.region); (focus (simp (disch := omega) only [go_sem, ↓reduceIte, zn1, reduceCtorEq]; rfl))) | (with_reducible refine SC.draw Tab.mixed rfl ?_; (repeat (refine DO.run (by simp (disch := omega) only [go_sem, ↓reduceIte, zn1, zn2, zn3, zn4, zn5, zn6, reduceCtorEq, zn7, zi1, zi2, if_pos, if_neg]; rfl) ?_)); refine DO.nil (by kernel_rfl) ?_)))
      refine SC.ops ?_
      (repeat (refine SO.run (by simp (disch := omega) only [go_sem, ↓reduceIte, zn1, reduceCtorEq, if_pos, hi, hg, hd, hb, lv_len, List.getElem?_drop]; rfl) ?_))
      (repeat (first | (with_reducible first | apply oz1 | apply oz2 | apply oz3 | apply oz4 | apply oz5 | apply oz6 | apply oz7 | apply oz8 | apply oz9 | apply ozb | apply ozc | apply oze | apply ozf | apply ozg | apply ozh | apply ozi | apply ozj | apply ozk | refine ozd (by decide) ?_) | ((with_reducible apply SC.region); (focus (simp (disch := omega) only [go_sem, ↓reduceIte, zn1, zn2, zn3, zn4, zn5, zn6, reduceCtorEq, zn7, zi1, zi2, if_pos, if_neg]; rfl))) | (with_reducible refine SC.draw Tab.mixed rfl ?_; (repeat (refine DO.run (by simp (disch := omega) only [go_sem, ↓reduceIte, zn1, zn2, zn3, zn4, zn5, zn6, reduceCtorEq, zn7, zi1, zi2, if_pos, if_neg]; rfl) ?_)); refine DO.nil (by kernel_rfl) ?_)))
      refine SC.cond (by simp (disch := omega) only [go_sem, ↓reduceIte]; rfl) ?_ ?_
      · intro h; cases h
      intro _
      (repeat (first | (with_reducible first | apply oz1 | apply oz2 | apply oz3 | apply oz4 | apply oz5 | apply oz6 | apply oz7 | apply oz8 | apply oz9 | apply ozb | apply ozc | apply oze | apply ozf | apply ozg | apply ozh | apply ozi | apply ozj | apply ozk | refine ozd (by decide) ?_) | ((with_reducible apply SC.region); (focus (simp (disch := omega) only [go_sem, ↓reduceIte, zn1, reduceCtorEq]; rfl))) | (with_reducible refine SC.draw Tab.mixed rfl ?_; (repeat (refine DO.run (by simp (disch := omega) only [go_sem, ↓reduceIte, zn1, zn2, zn3, zn4, zn5, zn6, reduceCtorEq, zn7, zi1, zi2, if_pos, if_neg]; rfl) ?_)); refine DO.nil (by kernel_rfl) ?_)))
      refine SC.weak (by simp) (s' := ⟨[(0, .im (lv l) l.length), (1, .sc (.bool neg)), (4, .pt 0 0), (5, .sc (.int .i64 (k : Nat)))], [(0, ⟨31, [.sc (.bool false), .sc (.slice none 0 0)], false⟩)], 1, 31⟩) (by (refine Le.of [] hB (by first | exact ⟨Nat.zero_le _, fun _ _ => Nat.zero_le _⟩ | (constructor <;> (try simp) <;> (try omega))) ?_ ?_ <;> (repeat' (first | exact leSl_nil | exact leHp_nil | refine leSl_cons (by simp (disch := omega) only [go_sem, ↓reduceIte, zn1, reduceCtorEq]; rfl) ?_ ?_ | refine leHp_cons (by simp (disch := omega) only [go_sem, ↓reduceIte]; rfl) ?_ ?_ | exact VLe.junk _ | exact VLe.refl rfl | exact VLe.nil_sl _ _ _ | exact VLe.int (by first | rfl | omega | (dsimp only; omega)) | exact VLe.bool rfl | exact VLe.sl rfl (by first | rfl | omega | (dsimp only; omega) | (simp; done)) | exact VLe.cap rfl (by first | rfl | omega | (dsimp only; omega) | (simp; done)) | exact VLe.im rfl rfl | exact HLe.new rfl | exact HLe.same rfl (LLe.refl rfl) | refine HLe.same rfl ?_ | exact LLe.nil _ | exact LLe.refl rfl | refine LLe.cons ?_ ?_)))) ?_
      obtain ⟨e1, e2⟩ := made_tree (neg := neg) hl hz hk (fun _ => hx)
      have e3 : decide ((0 : Int) < ((k : Nat) : Int)) = decide (0 < k) := by simp
      cases neg
      all_goals
        refine SC.ops ?_
        (repeat (refine SO.run (by simp (disch := omega) only [go_sem, ↓reduceIte, zn1, zn2, zn3, zn4, reduceCtorEq, if_pos, lv_len, lv_take, Int.toNat_natCast, hlen, lv_all]; rfl) ?_))
        (repeat (first | (with_reducible first | apply oz1 | apply oz2 | apply oz3 | apply oz4 | apply oz5 | apply oz6 | apply oz7 | apply oz8 | apply oz9 | apply ozb | apply ozc | apply oze | apply ozf | apply ozg | apply ozh | apply ozi | apply ozj | apply ozk | refine ozd (by decide) ?_) | ((with_reducible apply SC.region); (focus (simp (disch := omega) only [go_sem, ↓reduceIte, zn1, zn2, zn3, zn4, zn5, zn6, reduceCtorEq, zn7, zi1, zi2, if_pos, if_neg]; rfl))) | (with_reducible refine SC.draw Tab.mixed rfl ?_; (repeat (refine DO.run (by simp (disch := omega) only [go_sem, ↓reduceIte, zn1, zn2, zn3, zn4, zn5, zn6, reduceCtorEq, zn7, zi1, zi2, if_pos, if_neg]; rfl) ?_)); refine DO.nil (by kernel_rfl) ?_)))
        refine retQ_ret Try.results8 (by simp (disch := omega) only [go_sem, ↓reduceIte, zn1, zn3, zn4, reduceCtorEq]; rfl) (by simp (disch := omega) only [go_sem, ↓reduceIte, if_pos, lv_len, lv_take, hlen, List.take_take, Nat.min_self, lv_clo]; rfl) ?_
        unfold iv sv
        rw [e1, e2]
        simp [hlen]
    · have hi : ((k : Int) - 1).toNat = k - 1 := by omega
      have hg := lv_get (l := l) (i := k - 1) (by omega)
      have hd : decide ((k : Int) > 0) = true := by simp; omega
      have hb : (((l.getD (k - 1) 0 : Nat) : Int) == 0) = true := by simp only [beq_iff_eq]; omega
      (repeat (first | (with_reducible first | apply oz1 | apply oz2 | apply oz3 | apply oz4 | apply oz5 | apply oz6 | apply oz7 | apply oz8 | apply oz9 | apply ozb | apply ozc | apply oze | apply ozf | apply ozg | apply ozh | apply ozi | apply ozj | apply ozk | refine ozd (by decide) ?_) | ((with_reducible apply SC.region); (focus (simp (disch := omega) only [go_sem, ↓reduceIte, zn1, reduceCtorEq]; rfl))) | (with_reducible refine SC.draw Tab.mixed rfl ?_; (repeat (refine DO.run (by simp (disch := omega) only [go_sem, ↓reduceIte, zn1, zn2, zn3, zn4, zn5, zn6, reduceCtorEq, zn7, zi1, zi2, if_pos, if_neg]; rfl) ?_)); refine DO.nil (by kernel_rfl) ?_)))
      refine SC.ops ?_
      (repeat (refine SO.run (by simp (disch := omega) only [go_sem, ↓reduceIte, zn1, reduceCtorEq, if_pos, hi, hg, hd, hb, lv_len, List.getElem?_drop]; rfl) ?_))
      (repeat (first | (with_reducible first | apply oz1 | apply oz2 | apply oz3 | apply oz4 | apply oz5 | apply oz6 | apply oz7 | apply oz8 | apply oz9 | apply ozb | apply ozc | apply oze | apply ozf | apply ozg | apply ozh | apply ozi | apply ozj | apply ozk | refine ozd (by decide) ?_) | ((with_reducible apply SC.region); (focus (simp (disch := omega) only [go_sem, ↓reduceIte, zn1, zn2, zn3, zn4, zn5, zn6, reduceCtorEq, zn7, zi1, zi2, if_pos, if_neg]; rfl))) | (with_reducible refine SC.draw Tab.mixed rfl ?_; (repeat (refine DO.run (by simp (disch := omega) only [go_sem, ↓reduceIte, zn1, zn2, zn3, zn4, zn5, zn6, reduceCtorEq, zn7, zi1, zi2, if_pos, if_neg]; rfl) ?_)); refine DO.nil (by kernel_rfl) ?_)))
      refine SC.cond (by simp (disch := omega) only [go_sem, ↓reduceIte]; rfl) ?_ ?_
      rotate_left
      · intro h; cases h
      intro _
      (repeat (first | (with_reducible first | apply oz1 | apply oz2 | apply oz3 | apply oz4 | apply oz5 | apply oz6 | apply oz7 | apply oz8 | apply oz9 | apply ozb | apply ozc | apply oze | apply ozf | apply ozg | apply ozh | apply ozi | apply ozj | apply ozk | refine ozd (by decide) ?_) | ((with_reducible apply SC.region); (focus (simp (disch := omega) only [go_sem, ↓reduceIte, zn1, reduceCtorEq]; rfl))) | (with_reducible refine SC.draw Tab.mixed rfl ?_; (repeat (refine DO.run (by simp (disch := omega) only [go_sem, ↓reduceIte, zn1, zn2, zn3, zn4, zn5, zn6, reduceCtorEq, zn7, zi1, zi2, if_pos, if_neg]; rfl) ?_)); refine DO.nil (by kernel_rfl) ?_)))
      refine hK _ (k - 1) ?_ ⟨by omega, fun i hi => ?_⟩ (by omega)
      · (refine Le.of [] hB (by first | exact ⟨Nat.zero_le _, fun _ _ => Nat.zero_le _⟩ | (constructor <;> (try simp) <;> (try omega))) ?_ ?_ <;> (repeat' (first | exact leSl_nil | exact leHp_nil | refine leSl_cons (by simp (disch := omega) only [go_sem, ↓reduceIte, zn1, reduceCtorEq]; rfl) ?_ ?_ | refine leHp_cons (by simp (disch := omega) only [go_sem, ↓reduceIte]; rfl) ?_ ?_ | exact VLe.junk _ | exact VLe.refl rfl | exact VLe.nil_sl _ _ _ | exact VLe.int (by first | rfl | omega | (dsimp only; omega)) | exact VLe.bool rfl | exact VLe.sl rfl (by first | rfl | omega | (dsimp only; omega) | (simp; done)) | exact VLe.cap rfl (by first | rfl | omega | (dsimp only; omega) | (simp; done)) | exact VLe.im rfl rfl | exact HLe.new rfl | exact HLe.same rfl (LLe.refl rfl) | refine HLe.same rfl ?_ | exact LLe.nil _ | exact LLe.refl rfl | refine LLe.cons ?_ ?_)))
      · rcases Nat.lt_or_ge i k with h | h
        · rw [show i = k - 1 by omega]; exact hx
        · exact hz i h
end Go.Proofs.Ytphilljhfdlfdaa
namespace Go.Proofs.Ytphilljhfdlfdaa
open Go.RowKit
theorem less_i (a b : List Nat) (ha : limbs a) (hb : limbs b) (hma : a.length ≤ 1000000000) (hmb : b.length ≤ 1000000000) : Spec Try.prog 46 [sv a, sv b] (.sc (.bool (lessL a b))) := by
  unfold sv
  refine Spec.run Try.func46 rfl Try.ntmps46 (by simp) (by simp (disch := omega) only [go_sem, ↓reduceIte, zn1, zn2, zn3, zn4, zn5, zn6, reduceCtorEq, zn7, zi1, zi2, if_pos, if_neg]; rfl) fun B hB => ?_
  by_cases hab : a.length = b.length
  · have h1 : ((a.length : Int) != (b.length : Int)) = false := by rw [hab]; simp
    (repeat (first | (with_reducible first | apply oz1 | apply oz2 | apply oz3 | apply oz4 | apply oz5 | apply oz6 | apply oz7 | apply oz8 | apply oz9 | apply ozb | apply ozc | apply oze | apply ozf | apply ozg | apply ozh | apply ozi | apply ozj | apply ozk | refine ozd (by decide) ?_) | ((with_reducible apply SC.region); (focus (simp (disch := omega) only [go_sem, ↓reduceIte, zn1, zn2, zn3, zn4, zn5, zn6, reduceCtorEq, zn7, zi1, zi2, if_pos, if_neg]; rfl))) | (with_reducible refine SC.draw Tab.mixed rfl ?_; (repeat (refine DO.run (by simp (disch := omega) only [go_sem, ↓reduceIte, zn1, zn2, zn3, zn4, zn5, zn6, reduceCtorEq, zn7, zi1, zi2, if_pos, if_neg]; rfl) ?_)); refine DO.nil (by kernel_rfl) ?_)))
    refine SC.cond (by simp (disch := omega) only [go_sem, ↓reduceIte, zn1, zn2, zn3, zn4, zn5, zn6, reduceCtorEq, zn7, zi1, zi2, if_pos, if_neg, h1]; rfl) ?_ ?_
    · intro h; cases h
    intro _
    (repeat (first | (with_reducible first | apply oz1 | apply oz2 | apply oz3 | apply oz4 | apply oz5 | apply oz6 | apply oz7 | apply oz8 | apply oz9 | apply ozb | apply ozc | apply oze | apply ozf | apply ozg | apply ozh | apply ozi | apply ozj | apply ozk | refine ozd (by decide) ?_) | ((with_reducible apply SC.region); (focus (simp (disch := omega) only [go_sem, ↓reduceIte, zn1, zn2, zn3, zn4, zn5, zn6, reduceCtorEq, zn7, zi1, zi2, if_pos, if_neg]; rfl))) | (with_reducible refine SC.draw Tab.mixed rfl ?_; (repeat (refine DO.run (by simp (disch := omega) only [go_sem, ↓reduceIte, zn1, zn2, zn3, zn4, zn5, zn6, reduceCtorEq, zn7, zi1, zi2, if_pos, if_neg]; rfl) ?_)); refine DO.nil (by kernel_rfl) ?_)))
    refine SC.loop (fun k : Nat => ⟨[(0, .im (lv a) a.length), (1, .im (lv b) b.length), (4, .sc (.bool false)), (5, .sc (.int .i64 ((k : Int) - 1)))], [], 0, 41⟩)
      (fun k => k ≤ a.length ∧ (val a < val b ↔ val (a.take k) < val (b.take k))) (fun k => k) a.length ?_ ?_ ?_
    · (refine Le.of [] hB (by first | exact ⟨Nat.zero_le _, fun _ _ => Nat.zero_le _⟩ | (constructor <;> (try simp) <;> (try omega))) ?_ ?_ <;> (repeat' (first | exact leSl_nil | exact leHp_nil | refine leSl_cons (by simp (disch := omega) only [go_sem, ↓reduceIte, zn1, zn2, zn3, zn4, zn5, zn6, reduceCtorEq, zn7, zi1, zi2, if_pos, if_neg]; rfl) ?_ ?_ | refine leHp_cons (by simp (disch := omega) only [go_sem, ↓reduceIte, zn1, zn2, zn3, zn4, zn5, zn6, reduceCtorEq, zn7, zi1, zi2, if_pos, if_neg]; rfl) ?_ ?_ | exact VLe.junk _ | exact VLe.refl rfl | exact VLe.nil_sl _ _ _ | exact VLe.int (by first | rfl | omega | (dsimp only; omega)) | exact VLe.bool rfl | exact VLe.sl rfl (by first | rfl | omega | (dsimp only; omega) | (simp; done)) | exact VLe.cap rfl (by first | rfl | omega | (dsimp only; omega) | (simp; done)) | exact VLe.im rfl rfl | exact HLe.new rfl | exact HLe.same rfl (LLe.refl rfl) | refine HLe.same rfl ?_ | exact LLe.nil _ | exact LLe.refl rfl | refine LLe.cons ?_ ?_)))
    · exact ⟨Nat.le_refl _, by rw [List.take_length, hab, List.take_length]⟩
    · rintro k ⟨hk, hI⟩ K hK
      by_cases h0 : k = 0
      · subst h0
        (repeat (first | (with_reducible first | apply oz1 | apply oz2 | apply oz3 | apply oz4 | apply oz5 | apply oz6 | apply oz7 | apply oz8 | apply oz9 | apply ozb | apply ozc | apply oze | apply ozf | apply ozg | apply ozh | apply ozi | apply ozj | apply ozk | refine ozd (by decide) ?_) | ((with_reducible apply SC.region); (focus (simp (disch := omega) only [go_sem, ↓reduceIte, zn1, zn2, zn3, zn4, zn5, zn6, reduceCtorEq, zn7, zi1, zi2, if_pos, if_neg]; rfl))) | (with_reducible refine SC.draw Tab.mixed rfl ?_; (repeat (refine DO.run (by simp (disch := omega) only [go_sem, ↓reduceIte, zn1, zn2, zn3, zn4, zn5, zn6, reduceCtorEq, zn7, zi1, zi2, if_pos, if_neg]; rfl) ?_)); refine DO.nil (by kernel_rfl) ?_)))
        refine SC.cond (by simp (disch := omega) only [go_sem, ↓reduceIte, zn1, zn2, zn3, zn4, zn5, zn6, reduceCtorEq, zn7, zi1, zi2, if_pos, if_neg]; rfl) ?_ ?_
        · intro h; simp at h
        intro _
        (repeat (first | (with_reducible first | apply oz1 | apply oz2 | apply oz3 | apply oz4 | apply oz5 | apply oz6 | apply oz7 | apply oz8 | apply oz9 | apply ozb | apply ozc | apply oze | apply ozf | apply ozg | apply ozh | apply ozi | apply ozj | apply ozk | refine ozd (by decide) ?_) | ((with_reducible apply SC.region); (focus (simp (disch := omega) only [go_sem, ↓reduceIte, zn1, zn2, zn3, zn4, zn5, zn6, reduceCtorEq, zn7, zi1, zi2, if_pos, if_neg]; rfl))) | (with_reducible refine SC.draw Tab.mixed rfl ?_; (repeat (refine DO.run (by simp (disch := omega) only [go_sem, ↓reduceIte, zn1, zn2, zn3, zn4, zn5, zn6, reduceCtorEq, zn7, zi1, zi2, if_pos, if_neg]; rfl) ?_)); refine DO.nil (by kernel_rfl) ?_)))
        refine retQ_ret Try.results46 (by simp (disch := omega) only [go_sem, ↓reduceIte, zn1, zn2, zn3, zn4, zn5, zn6, reduceCtorEq, zn7, zi1, zi2, if_pos, if_neg]; rfl) (by simp (disch := omega) only [go_sem, ↓reduceIte, zn1, zn2, zn3, zn4, zn5, zn6, reduceCtorEq, zn7, zi1, zi2, if_pos, if_neg]; rfl) ?_
        unfold lessL
        rw [if_pos hab, decide_eq_false (fun h => by have := hI.1 h; simp [val] at this)]
      · have hi : ((k : Int) - 1).toNat = k - 1 := by omega
        have hga := lv_get (l := a) (i := k - 1) (by omega)
        have hgb := lv_get (l := b) (i := k - 1) (by omega)
        have hd : decide ((k : Int) - 1 ≥ 0) = true := by simp; omega
        (repeat (first | (with_reducible first | apply oz1 | apply oz2 | apply oz3 | apply oz4 | apply oz5 | apply oz6 | apply oz7 | apply oz8 | apply oz9 | apply ozb | apply ozc | apply oze | apply ozf | apply ozg | apply ozh | apply ozi | apply ozj | apply ozk | refine ozd (by decide) ?_) | ((with_reducible apply SC.region); (focus (simp (disch := omega) only [go_sem, ↓reduceIte, zn1, zn2, zn3, zn4, zn5, zn6, reduceCtorEq, zn7, zi1, zi2, if_pos, if_neg]; rfl))) | (with_reducible refine SC.draw Tab.mixed rfl ?_; (repeat (refine DO.run (by simp (disch := omega) only [go_sem, ↓reduceIte, zn1, zn2, zn3, zn4, zn5, zn6, reduceCtorEq, zn7, zi1, zi2, if_pos, if_neg]; rfl) ?_)); refine DO.nil (by kernel_rfl) ?_)))
        refine SC.cond (by simp (disch := omega) only [go_sem, ↓reduceIte, zn1, zn2, zn3, zn4, zn5, zn6, reduceCtorEq, zn7, zi1, zi2, if_pos, if_neg, hd]; rfl) ?_ ?_
        rotate_left
        · intro h; cases h
        intro _
        have hs := val_lt_step (a := a) (b := b) (k := k - 1) ha hb (by omega) (by omega)
        rw [show k - 1 + 1 = k by omega, ← hI] at hs
        by_cases hx : a.getD (k - 1) 0 = b.getD (k - 1) 0
        · have hne : (((a.getD (k - 1) 0 : Nat) : Int) != ((b.getD (k - 1) 0 : Nat) : Int)) = false := by rw [hx]; simp
          (repeat (first | (with_reducible first | apply oz1 | apply oz2 | apply oz3 | apply oz4 | apply oz5 | apply oz6 | apply oz7 | apply oz8 | apply oz9 | apply ozb | apply ozc | apply oze | apply ozf | apply ozg | apply ozh | apply ozi | apply ozj | apply ozk | refine ozd (by decide) ?_) | ((with_reducible apply SC.region); (focus (simp (disch := omega) only [go_sem, ↓reduceIte, zn1, zn2, zn3, zn4, zn5, zn6, reduceCtorEq, zn7, zi1, zi2, if_pos, if_neg, hi, hga, hgb, hd, hne, lv_len, List.getElem?_drop]; rfl))) | (with_reducible refine SC.draw Tab.mixed rfl ?_; (repeat (refine DO.run (by simp (disch := omega) only [go_sem, ↓reduceIte, zn1, zn2, zn3, zn4, zn5, zn6, reduceCtorEq, zn7, zi1, zi2, if_pos, if_neg, hi, hga, hgb, hd, hne, lv_len, List.getElem?_drop]; rfl) ?_)); refine DO.nil (by kernel_rfl) ?_)))
          refine SC.cond (by simp (disch := omega) only [go_sem, ↓reduceIte, zn1, zn2, zn3, zn4, zn5, zn6, reduceCtorEq, zn7, zi1, zi2, if_pos, if_neg]; rfl) ?_ ?_
          · intro h; cases h
          intro _
          (repeat (first | (with_reducible first | apply oz1 | apply oz2 | apply oz3 | apply oz4 | apply oz5 | apply oz6 | apply oz7 | apply oz8 | apply oz9 | apply ozb | apply ozc | apply oze | apply ozf | apply ozg | apply ozh | apply ozi | apply ozj | apply ozk | refine ozd (by decide) ?_) | ((with_reducible apply SC.region); (focus (simp (disch := omega) only [go_sem, ↓reduceIte, zn1, zn2, zn3, zn4, zn5, zn6, reduceCtorEq, zn7, zi1, zi2, if_pos, if_neg]; rfl))) | (with_reducible refine SC.draw Tab.mixed rfl ?_; (repeat (refine DO.run (by simp (disch := omega) only [go_sem, ↓reduceIte, zn1, zn2, zn3, zn4, zn5, zn6, reduceCtorEq, zn7, zi1, zi2, if_pos, if_neg]; rfl) ?_)); refine DO.nil (by kernel_rfl) ?_)))
          refine hK _ (k - 1) ?_ ⟨by omega, hs.1 hx⟩ (by omega)
          (refine Le.of [] hB (by first | exact ⟨Nat.zero_le _, fun _ _ => Nat.zero_le _⟩ | (constructor <;> (try simp) <;> (try omega))) ?_ ?_ <;> (repeat' (first | exact leSl_nil | exact leHp_nil | refine leSl_cons (by simp (disch := omega) only [go_sem, ↓reduceIte, zn1, zn2, zn3, zn4, zn5, zn6, reduceCtorEq, zn7, zi1, zi2, if_pos, if_neg]; rfl) ?_ ?_ | refine leHp_cons (by simp (disch := omega) only [go_sem, ↓reduceIte, zn1, zn2, zn3, zn4, zn5, zn6, reduceCtorEq, zn7, zi1, zi2, if_pos, if_neg]; rfl) ?_ ?_ | exact VLe.junk _ | exact VLe.refl rfl | exact VLe.nil_sl _ _ _ | exact VLe.int (by first | rfl | omega | (dsimp only; omega)) | exact VLe.bool rfl | exact VLe.sl rfl (by first | rfl | omega | (dsimp only; omega) | (simp; done)) | exact VLe.cap rfl (by first | rfl | omega | (dsimp only; omega) | (simp; done)) | exact VLe.im rfl rfl | exact HLe.new rfl | exact HLe.same rfl (LLe.refl rfl) | refine HLe.same rfl ?_ | exact LLe.nil _ | exact LLe.refl rfl | refine LLe.cons ?_ ?_)))
        · have hne : (((a.getD (k - 1) 0 : Nat) : Int) != ((b.getD (k - 1) 0 : Nat) : Int)) = true := by simp only [bne_iff_ne, ne_eq]; omega
          (repeat (first | (with_reducible first | apply oz1 | apply oz2 | apply oz3 | apply oz4 | apply oz5 | apply oz6 | apply oz7 | apply oz8 | apply oz9 | apply ozb | apply ozc | apply oze | apply ozf | apply ozg | apply ozh | apply ozi | apply ozj | apply ozk | refine ozd (by decide) ?_) | ((with_reducible apply SC.region); (focus (simp (disch := omega) only [go_sem, ↓reduceIte, zn1, zn2, zn3, zn4, zn5, zn6, reduceCtorEq, zn7, zi1, zi2, if_pos, if_neg, hi, hga, hgb, hd, hne, lv_len, List.getElem?_drop]; rfl))) | (with_reducible refine SC.draw Tab.mixed rfl ?_; (repeat (refine DO.run (by simp (disch := omega) only [go_sem, ↓reduceIte, zn1, zn2, zn3, zn4, zn5, zn6, reduceCtorEq, zn7, zi1, zi2, if_pos, if_neg, hi, hga, hgb, hd, hne, lv_len, List.getElem?_drop]; rfl) ?_)); refine DO.nil (by kernel_rfl) ?_)))
          refine SC.cond (by simp (disch := omega) only [go_sem, ↓reduceIte, zn1, zn2, zn3, zn4, zn5, zn6, reduceCtorEq, zn7, zi1, zi2, if_pos, if_neg]; rfl) ?_ ?_
          rotate_left
          · intro h; cases h
          intro _
          (repeat (first | (with_reducible first | apply oz1 | apply oz2 | apply oz3 | apply oz4 | apply oz5 | apply oz6 | apply oz7 | apply oz8 | apply oz9 | apply ozb | apply ozc | apply oze | apply ozf | apply ozg | apply ozh | apply ozi | apply ozj | apply ozk | refine ozd (by decide) ?_) | ((with_reducible apply SC.region); (focus (simp (disch := omega) only [go_sem, ↓reduceIte, zn1, zn2, zn3, zn4, zn5, zn6, reduceCtorEq, zn7, zi1, zi2, if_pos, if_neg, hi, hga, hgb, hd, hne, lv_len, List.getElem?_drop]; rfl))) | (with_reducible refine SC.draw Tab.mixed rfl ?_; (repeat (refine DO.run (by simp (disch := omega) only [go_sem, ↓reduceIte, zn1, zn2, zn3, zn4, zn5, zn6, reduceCtorEq, zn7, zi1, zi2, if_pos, if_neg, hi, hga, hgb, hd, hne, lv_len, List.getElem?_drop]; rfl) ?_)); refine DO.nil (by kernel_rfl) ?_)))
          refine retQ_ret Try.results46 (by simp (disch := omega) only [go_sem, ↓reduceIte, zn1, zn2, zn3, zn4, zn5, zn6, reduceCtorEq, zn7, zi1, zi2, if_pos, if_neg]; rfl) (by simp (disch := omega) only [go_sem, ↓reduceIte, zn1, zn2, zn3, zn4, zn5, zn6, reduceCtorEq, zn7, zi1, zi2, if_pos, if_neg]; rfl) ?_
          unfold lessL
          rw [if_pos hab]
          have := hs.2 hx
          exact congrArg (fun t => V.sc (.bool t)) (decide_eq_decide.2 (by rw [this]; omega))
  · have h1 : ((a.length : Int) != (b.length : Int)) = true := by simp only [bne_iff_ne, ne_eq]; omega
    (repeat (first | (with_reducible first | apply oz1 | apply oz2 | apply oz3 | apply oz4 | apply oz5 | apply oz6 | apply oz7 | apply oz8 | apply oz9 | apply ozb | apply ozc | apply oze | apply ozf | apply ozg | apply ozh | apply ozi | apply ozj | apply ozk | refine ozd (by decide) ?_) | ((with_reducible apply SC.region); (focus (simp (disch := omega) only [go_sem, ↓reduceIte, zn1, zn2, zn3, zn4, zn5, zn6, reduceCtorEq, zn7, zi1, zi2, if_pos, if_neg]; rfl))) | (with_reducible refine SC.draw Tab.mixed rfl ?_; (repeat (refine DO.run (by simp (disch := omega) only [go_sem, ↓reduceIte, zn1, zn2, zn3, zn4, zn5, zn6, reduceCtorEq, zn7, zi1, zi2, if_pos, if_neg]; rfl) ?_)); refine DO.nil (by kernel_rfl) ?_)))
    refine SC.cond (by simp (disch := omega) only [go_sem, ↓reduceIte, zn1, zn2, zn3, zn4, zn5, zn6, reduceCtorEq, zn7, zi1, zi2, if_pos, if_neg, h1]; rfl) ?_ ?_
    rotate_left
    · intro h; cases h
    intro _
    (repeat (first | (with_reducible first | apply oz1 | apply oz2 | apply oz3 | apply oz4 | apply oz5 | apply oz6 | apply oz7 | apply oz8 | apply oz9 | apply ozb | apply ozc | apply oze | apply ozf | apply ozg | apply ozh | apply ozi | apply ozj | apply ozk | refine ozd (by decide) ?_) | ((with_reducible apply SC.region); (focus (simp (disch := omega) only [go_sem, ↓reduceIte, zn1, zn2, zn3, zn4, zn5, zn6, reduceCtorEq, zn7, zi1, zi2, if_pos, if_neg]; rfl))) | (with_reducible refine SC.draw Tab.mixed rfl ?_; (repeat (refine DO.run (by simp (disch := omega) only [go_sem, ↓reduceIte, zn1, zn2, zn3, zn4, zn5, zn6, reduceCtorEq, zn7, zi1, zi2, if_pos, if_neg]; rfl) ?_)); refine DO.nil (by kernel_rfl) ?_)))
    refine retQ_ret Try.results46 (by simp (disch := omega) only [go_sem, ↓reduceIte, zn1, zn2, zn3, zn4, zn5, zn6, reduceCtorEq, zn7, zi1, zi2, if_pos, if_neg]; rfl) (by simp (disch := omega) only [go_sem, ↓reduceIte, zn1, zn2, zn3, zn4, zn5, zn6, reduceCtorEq, zn7, zi1, zi2, if_pos, if_neg]; rfl) ?_
    unfold lessL
    rw [if_neg hab]
    exact congrArg (fun t => V.sc (.bool t)) (decide_eq_decide.2 (by omega))
end Go.Proofs.Ytphilljhfdlfdaa
namespace Go.Proofs.Ytphilljhfdlfdaa
open Go.RowKit
def Short (x : Int) : Prop := (limbsOf x.natAbs).length ≤ 1000000000
theorem lessL_limbs (m n : Nat) : lessL (limbsOf m) (limbsOf n) = decide (m < n) := by
  rw [lessL_eq (limbsOf_limbs m) (limbsOf_limbs n) (limbsOf_canon m) (limbsOf_canon n), limbsOf_val, limbsOf_val]
theorem less_n (m n : Nat) (hm : (limbsOf m).length ≤ 1000000000) (hn : (limbsOf n).length ≤ 1000000000) : Spec Try.prog 46 [sv (limbsOf m), sv (limbsOf n)] (.sc (.bool (decide (m < n)))) := by
  have := less_i _ _ (limbsOf_limbs m) (limbsOf_limbs n) hm hn
  rwa [lessL_limbs] at this
theorem same_i (x y : Int) (hx : Short x) (hy : Short y) : Spec Try.prog 17 [iv x, iv y] (.sc (.bool (decide (x = y)))) := by
  have l1 := less_n x.natAbs y.natAbs hx hy
  have l2 := less_n y.natAbs x.natAbs hy hx
  unfold sv at l1 l2
  unfold iv sv
  refine Spec.run Try.func17 rfl Try.ntmps17 (by simp) (by simp (disch := omega) only [go_sem, zn4]; rfl) fun B hB => ?_
  have hsx : (decide (x < 0) == decide (y < 0)) = true ↔ (x < 0 ↔ y < 0) := by simp
  by_cases hs : (decide (x < 0) == decide (y < 0)) = true
  · have hs' := hsx.1 hs
    by_cases h1 : x.natAbs < y.natAbs
    · rw [decide_eq_true h1] at l1
      (repeat (first | (with_reducible first | apply oz1 | apply oz2 | apply oz3 | apply oz4 | apply oz5 | apply oz6 | apply oz7 | apply oz8 | apply oz9 | apply ozb | apply ozc | apply oze | apply ozf | apply ozg | apply ozh | apply ozi | apply ozj | apply ozk | refine ozd (by decide) ?_) | ((with_reducible apply SC.region); (focus (simp (disch := omega) only [go_sem, ↓reduceIte, zn1, zn4, reduceCtorEq]; rfl))) | (with_reducible refine SC.draw Tab.mixed rfl ?_; (repeat (refine DO.run (by simp (disch := omega) only [go_sem, ↓reduceIte, zn1, zn2, zn3, zn4, zn5, zn6, reduceCtorEq, zn7, zi1, zi2, if_pos, if_neg]; rfl) ?_)); refine DO.nil (by kernel_rfl) ?_)))
      refine SC.ops ?_
      (repeat (refine SO.run (by simp (disch := omega) only [go_sem, ↓reduceIte, zn1, reduceCtorEq, hs]; rfl) ?_))
      (refine SO.call Tab.go46 (by simp (disch := omega) only [go_sem, ↓reduceIte, zn1]; rfl) (by simp (disch := omega) only [go_sem, ↓reduceIte, zn1] <;> rfl) ?_)
      (refine SCall.of (l1) (by simp (disch := omega) only [go_sem]; rfl) ?_)
      (repeat (refine SO.run (by simp (disch := omega) only [go_sem, ↓reduceIte, zn1, zn2, reduceCtorEq, Bool.not_true]; rfl) ?_))
      (repeat (first | (with_reducible first | apply oz1 | apply oz2 | apply oz3 | apply oz4 | apply oz5 | apply oz6 | apply oz7 | apply oz8 | apply oz9 | apply ozb | apply ozc | apply oze | apply ozf | apply ozg | apply ozh | apply ozi | apply ozj | apply ozk | refine ozd (by decide) ?_) | ((with_reducible apply SC.region); (focus (simp (disch := omega) only [go_sem, ↓reduceIte, zn1, zn2, zn3, zn4, zn5, zn6, reduceCtorEq, zn7, zi1, zi2, if_pos, if_neg]; rfl))) | (with_reducible refine SC.draw Tab.mixed rfl ?_; (repeat (refine DO.run (by simp (disch := omega) only [go_sem, ↓reduceIte, zn1, zn2, zn3, zn4, zn5, zn6, reduceCtorEq, zn7, zi1, zi2, if_pos, if_neg]; rfl) ?_)); refine DO.nil (by kernel_rfl) ?_)))
      refine retQ_ret Try.results17 (by simp (disch := omega) only [go_sem, ↓reduceIte]; rfl) (by simp (disch := omega) only [go_sem]; rfl) ?_
      rw [decide_eq_false (by omega)]
    · rw [decide_eq_false h1] at l1
      by_cases h2 : y.natAbs < x.natAbs
      · rw [decide_eq_true h2] at l2
        (repeat (first | (with_reducible first | apply oz1 | apply oz2 | apply oz3 | apply oz4 | apply oz5 | apply oz6 | apply oz7 | apply oz8 | apply oz9 | apply ozb | apply ozc | apply oze | apply ozf | apply ozg | apply ozh | apply ozi | apply ozj | apply ozk | refine ozd (by decide) ?_) | ((with_reducible apply SC.region); (focus (simp (disch := omega) only [go_sem, ↓reduceIte, zn1, zn4, reduceCtorEq]; rfl))) | (with_reducible refine SC.draw Tab.mixed rfl ?_; (repeat (refine DO.run (by simp (disch := omega) only [go_sem, ↓reduceIte, zn1, zn2, zn3, zn4, zn5, zn6, reduceCtorEq, zn7, zi1, zi2, if_pos, if_neg]; rfl) ?_)); refine DO.nil (by kernel_rfl) ?_)))
        refine SC.ops ?_
        (repeat (refine SO.run (by simp (disch := omega) only [go_sem, ↓reduceIte, zn1, reduceCtorEq, hs]; rfl) ?_))
        (refine SO.call Tab.go46 (by simp (disch := omega) only [go_sem, ↓reduceIte, zn1]; rfl) (by simp (disch := omega) only [go_sem, ↓reduceIte, zn1] <;> rfl) ?_)
        (refine SCall.of (l1) (by simp (disch := omega) only [go_sem]; rfl) ?_)
        (repeat (refine SO.run (by simp (disch := omega) only [go_sem, ↓reduceIte, zn1, reduceCtorEq, Bool.not_false]; rfl) ?_))
        (refine SO.call Tab.go46 (by simp (disch := omega) only [go_sem, ↓reduceIte, zn1]; rfl) (by simp (disch := omega) only [go_sem, ↓reduceIte, zn1] <;> rfl) ?_)
        (refine SCall.of (l2) (by simp (disch := omega) only [go_sem]; rfl) ?_)
        (repeat (refine SO.run (by simp (disch := omega) only [go_sem, ↓reduceIte, zn1, zn2, Bool.not_true]; rfl) ?_))
        (repeat (first | (with_reducible first | apply oz1 | apply oz2 | apply oz3 | apply oz4 | apply oz5 | apply oz6 | apply oz7 | apply oz8 | apply oz9 | apply ozb | apply ozc | apply oze | apply ozf | apply ozg | apply ozh | apply ozi | apply ozj | apply ozk | refine ozd (by decide) ?_) | ((with_reducible apply SC.region); (focus (simp (disch := omega) only [go_sem, ↓reduceIte, zn1, zn2, zn3, zn4, zn5, zn6, reduceCtorEq, zn7, zi1, zi2, if_pos, if_neg]; rfl))) | (with_reducible refine SC.draw Tab.mixed rfl ?_; (repeat (refine DO.run (by simp (disch := omega) only [go_sem, ↓reduceIte, zn1, zn2, zn3, zn4, zn5, zn6, reduceCtorEq, zn7, zi1, zi2, if_pos, if_neg]; rfl) ?_)); refine DO.nil (by kernel_rfl) ?_)))
        refine retQ_ret Try.results17 (by simp (disch := omega) only [go_sem, ↓reduceIte]; rfl) (by simp (disch := omega) only [go_sem]; rfl) ?_
        rw [decide_eq_false (by omega)]
      · rw [decide_eq_false h2] at l2
        (repeat (first | (with_reducible first | apply oz1 | apply oz2 | apply oz3 | apply oz4 | apply oz5 | apply oz6 | apply oz7 | apply oz8 | apply oz9 | apply ozb | apply ozc | apply oze | apply ozf | apply ozg | apply ozh | apply ozi | apply ozj | apply ozk | refine ozd (by decide) ?_) | ((with_reducible apply SC.region); (focus (simp (disch := omega) only [go_sem, ↓reduceIte, zn1, zn4, reduceCtorEq]; rfl))) | (with_reducible refine SC.draw Tab.mixed rfl ?_; (repeat (refine DO.run (by simp (disch := omega) only [go_sem, ↓reduceIte, zn1, zn2, zn3, zn4, zn5, zn6, reduceCtorEq, zn7, zi1, zi2, if_pos, if_neg]; rfl) ?_)); refine DO.nil (by kernel_rfl) ?_)))
        refine SC.ops ?_
        (repeat (refine SO.run (by simp (disch := omega) only [go_sem, ↓reduceIte, zn1, reduceCtorEq, hs]; rfl) ?_))
        (refine SO.call Tab.go46 (by simp (disch := omega) only [go_sem, ↓reduceIte, zn1]; rfl) (by simp (disch := omega) only [go_sem, ↓reduceIte, zn1] <;> rfl) ?_)
        (refine SCall.of (l1) (by simp (disch := omega) only [go_sem]; rfl) ?_)
        (repeat (refine SO.run (by simp (disch := omega) only [go_sem, ↓reduceIte, zn1, reduceCtorEq, Bool.not_false]; rfl) ?_))
        (refine SO.call Tab.go46 (by simp (disch := omega) only [go_sem, ↓reduceIte, zn1]; rfl) (by simp (disch := omega) only [go_sem, ↓reduceIte, zn1] <;> rfl) ?_)
        (refine SCall.of (l2) (by simp (disch := omega) only [go_sem]; rfl) ?_)
        (repeat (refine SO.run (by simp (disch := omega) only [go_sem, ↓reduceIte, zn1, zn2, Bool.not_false]; rfl) ?_))
        (repeat (first | (with_reducible first | apply oz1 | apply oz2 | apply oz3 | apply oz4 | apply oz5 | apply oz6 | apply oz7 | apply oz8 | apply oz9 | apply ozb | apply ozc | apply oze | apply ozf | apply ozg | apply ozh | apply ozi | apply ozj | apply ozk | refine ozd (by decide) ?_) | ((with_reducible apply SC.region); (focus (simp (disch := omega) only [go_sem, ↓reduceIte, zn1, zn2, zn3, zn4, zn5, zn6, reduceCtorEq, zn7, zi1, zi2, if_pos, if_neg]; rfl))) | (with_reducible refine SC.draw Tab.mixed rfl ?_; (repeat (refine DO.run (by simp (disch := omega) only [go_sem, ↓reduceIte, zn1, zn2, zn3, zn4, zn5, zn6, reduceCtorEq, zn7, zi1, zi2, if_pos, if_neg]; rfl) ?_)); refine DO.nil (by kernel_rfl) ?_)))
        refine retQ_ret Try.results17 (by simp (disch := omega) only [go_sem, ↓reduceIte]; rfl) (by simp (disch := omega) only [go_sem]; rfl) ?_
        rw [decide_eq_true (by omega)]
  · have hs' : ¬ (x < 0 ↔ y < 0) := fun h => hs (hsx.2 h)
    rw [Bool.not_eq_true] at hs
    (repeat (first | (with_reducible first | apply oz1 | apply oz2 | apply oz3 | apply oz4 | apply oz5 | apply oz6 | apply oz7 | apply oz8 | apply oz9 | apply ozb | apply ozc | apply oze | apply ozf | apply ozg | apply ozh | apply ozi | apply ozj | apply ozk | refine ozd (by decide) ?_) | ((with_reducible apply SC.region); (focus (simp (disch := omega) only [go_sem, ↓reduceIte, zn1, zn4, reduceCtorEq]; rfl))) | (with_reducible refine SC.draw Tab.mixed rfl ?_; (repeat (refine DO.run (by simp (disch := omega) only [go_sem, ↓reduceIte, zn1, zn2, zn3, zn4, zn5, zn6, reduceCtorEq, zn7, zi1, zi2, if_pos, if_neg]; rfl) ?_)); refine DO.nil (by kernel_rfl) ?_)))
    refine SC.ops ?_
    (repeat (refine SO.run (by simp (disch := omega) only [go_sem, ↓reduceIte, zn1, zn2, reduceCtorEq, hs]; rfl) ?_))
    (repeat (first | (with_reducible first | apply oz1 | apply oz2 | apply oz3 | apply oz4 | apply oz5 | apply oz6 | apply oz7 | apply oz8 | apply oz9 | apply ozb | apply ozc | apply oze | apply ozf | apply ozg | apply ozh | apply ozi | apply ozj | apply ozk | refine ozd (by decide) ?_) | ((with_reducible apply SC.region); (focus (simp (disch := omega) only [go_sem, ↓reduceIte, zn1, zn2, zn3, zn4, zn5, zn6, reduceCtorEq, zn7, zi1, zi2, if_pos, if_neg]; rfl))) | (with_reducible refine SC.draw Tab.mixed rfl ?_; (repeat (refine DO.run (by simp (disch := omega) only [go_sem, ↓reduceIte, zn1, zn2, zn3, zn4, zn5, zn6, reduceCtorEq, zn7, zi1, zi2, if_pos, if_neg]; rfl) ?_)); refine DO.nil (by kernel_rfl) ?_)))
    refine retQ_ret Try.results17 (by simp (disch := omega) only [go_sem, ↓reduceIte]; rfl) (by simp (disch := omega) only [go_sem]; rfl) ?_
    rw [decide_eq_false (by omega)]
theorem two_limbs {m : Nat} (h : m < 18446744073709551616) : val [m % 4294967296, m / 4294967296] = m ∧ limbs [m % 4294967296, m / 4294967296] := by
  refine ⟨by simp [val]; omega, fun x hx => ?_⟩
  simp at hx
  omega
theorem of_i (n : Int) (h1 : -9223372036854775808 ≤ n) (h2 : n < 9223372036854775808) : Spec Try.prog 31 [.sc (.int .i64 n)] (iv n) := by
  obtain ⟨hv, hl⟩ := two_limbs (m := n.natAbs) (by omega)
  have hm := made_i [n.natAbs % 4294967296, n.natAbs / 4294967296] (decide (n < 0)) hl (by simp)
  rw [hv] at hm
  have hs : sgn (decide (n < 0)) n.natAbs = n := by unfold sgn; split <;> simp_all <;> omega
  rw [hs] at hm
  unfold sv at hm
  rw [show lv [n.natAbs % 4294967296, n.natAbs / 4294967296] = [.sc (.int .u32 ((n.natAbs % 4294967296 : Nat) : Int)), .sc (.int .u32 ((n.natAbs / 4294967296 : Nat) : Int))] from rfl] at hm
  unfold iv sv at hm ⊢
  refine Spec.run Try.func31 rfl Try.ntmps31 (by simp) (by simp (disch := omega) only [go_sem]; rfl) fun B hB => ?_
  obtain ⟨m, hm0⟩ : ∃ m, m = n.natAbs := ⟨_, rfl⟩
  rw [← hm0] at hm
  have w1 : (m : Int) % 4294967296 = ((m % 4294967296 : Nat) : Int) := by simp
  have w2 : (m : Int) / 2 ^ min 32 64 % 4294967296 = ((m / 4294967296 : Nat) : Int) := by
    have : (2 : Int) ^ min 32 64 = 4294967296 := by decide
    rw [this]; omega
  simp only [List.length_cons, List.length_nil, Nat.zero_add, zn4] at hm
  by_cases h0 : n < 0
  · have e1 : IntKind.u64.wrap n = n + 18446744073709551616 := by simp [IntKind.wrap, IntKind.bits, IntKind.signed]; omega
    have e2 : IntKind.u64.wrap (0 - (n + 18446744073709551616)) = (m : Int) := by simp [IntKind.wrap, IntKind.bits, IntKind.signed]; omega
    have hd : decide (n < 0) = true := decide_eq_true h0
    rw [hd] at hm
    (repeat (first | (with_reducible first | apply oz1 | apply oz2 | apply oz3 | apply oz4 | apply oz5 | apply oz6 | apply oz7 | apply oz8 | apply oz9 | apply ozb | apply ozc | apply oze | apply ozf | apply ozg | apply ozh | apply ozi | apply ozj | apply ozk | refine ozd (by decide) ?_) | ((with_reducible apply SC.region); (focus (simp (disch := omega) only [go_sem, ↓reduceIte, reduceCtorEq, e1, hd]; rfl))) | (with_reducible refine SC.draw Tab.mixed rfl ?_; (repeat (refine DO.run (by simp (disch := omega) only [go_sem, ↓reduceIte, zn1, zn2, zn3, zn4, zn5, zn6, reduceCtorEq, zn7, zi1, zi2, if_pos, if_neg, e1, hd]; rfl) ?_)); refine DO.nil (by kernel_rfl) ?_)))
    refine SC.cond (by simp (disch := omega) only [go_sem, ↓reduceIte]; rfl) ?_ ?_
    rotate_left
    · intro h; cases h
    intro _
    (repeat (first | (with_reducible first | apply oz1 | apply oz2 | apply oz3 | apply oz4 | apply oz5 | apply oz6 | apply oz7 | apply oz8 | apply oz9 | apply ozb | apply ozc | apply oze | apply ozf | apply ozg | apply ozh | apply ozi | apply ozj | apply ozk | refine ozd (by decide) ?_) | ((with_reducible apply SC.region); (focus (simp (disch := omega) only [go_sem, ↓reduceIte, zn1, zn2, zn3, zn4, reduceCtorEq, zi1, if_neg, e2, hd]; rfl))) | (with_reducible refine SC.draw Tab.mixed rfl ?_; (repeat (refine DO.run (by simp (disch := omega) only [go_sem, ↓reduceIte, zn1, zn2, zn3, zn4, zn5, zn6, reduceCtorEq, zn7, zi1, zi2, if_pos, if_neg, e1, e2, hd]; rfl) ?_)); refine DO.nil (by kernel_rfl) ?_)))
    refine SC.ops ?_
    (repeat (refine SO.run (by simp (disch := omega) only [go_sem, ↓reduceIte, zn1, zn2, zn3, zn4, reduceCtorEq, zi1, if_neg, hd]; rfl) ?_))
    (refine SO.call Tab.go8 (by simp (disch := omega) only [go_sem, ↓reduceIte, zn1, zn3, zn4]; rfl) (by simp (disch := omega) only [go_sem, zn2] <;> rfl) ?_)
    rw [w1, w2]
    (refine SCall.ofF (hm) (by simp (disch := omega) only [go_sem, ↓reduceIte, zn7]; rfl) ?_)
    (repeat (refine SO.run (by simp (disch := omega) only [go_sem, ↓reduceIte, zn1, zn3, zn4, reduceCtorEq]; rfl) ?_))
    (repeat (first | (with_reducible first | apply oz1 | apply oz2 | apply oz3 | apply oz4 | apply oz5 | apply oz6 | apply oz7 | apply oz8 | apply oz9 | apply ozb | apply ozc | apply oze | apply ozf | apply ozg | apply ozh | apply ozi | apply ozj | apply ozk | refine ozd (by decide) ?_) | ((with_reducible apply SC.region); (focus (simp (disch := omega) only [go_sem, ↓reduceIte, zn1, zn2, zn3, zn4, zn5, zn6, reduceCtorEq, zn7, zi1, zi2, if_pos, if_neg]; rfl))) | (with_reducible refine SC.draw Tab.mixed rfl ?_; (repeat (refine DO.run (by simp (disch := omega) only [go_sem, ↓reduceIte, zn1, zn2, zn3, zn4, zn5, zn6, reduceCtorEq, zn7, zi1, zi2, if_pos, if_neg]; rfl) ?_)); refine DO.nil (by kernel_rfl) ?_)))
    refine retQ_ret Try.results31 (by simp (disch := omega) only [go_sem, ↓reduceIte, zn1, zn3, zn4, reduceCtorEq]; rfl) (by simp (disch := omega) only [go_sem, ↓reduceIte]; rfl) ?_
    rw [hd, ← hm0]
  · have e1 : IntKind.u64.wrap n = (m : Int) := by simp [IntKind.wrap, IntKind.bits, IntKind.signed]; omega
    have hd : decide (n < 0) = false := decide_eq_false h0
    rw [hd] at hm
    (repeat (first | (with_reducible first | apply oz1 | apply oz2 | apply oz3 | apply oz4 | apply oz5 | apply oz6 | apply oz7 | apply oz8 | apply oz9 | apply ozb | apply ozc | apply oze | apply ozf | apply ozg | apply ozh | apply ozi | apply ozj | apply ozk | refine ozd (by decide) ?_) | ((with_reducible apply SC.region); (focus (simp (disch := omega) only [go_sem, ↓reduceIte, reduceCtorEq, e1, hd]; rfl))) | (with_reducible refine SC.draw Tab.mixed rfl ?_; (repeat (refine DO.run (by simp (disch := omega) only [go_sem, ↓reduceIte, zn1, zn2, zn3, zn4, zn5, zn6, reduceCtorEq, zn7, zi1, zi2, if_pos, if_neg, e1, hd]; rfl) ?_)); refine DO.nil (by kernel_rfl) ?_)))
    refine SC.cond (by simp (disch := omega) only [go_sem, ↓reduceIte]; rfl) ?_ ?_
    · intro h; cases h
    intro _
    (repeat (first | (with_reducible first | apply oz1 | apply oz2 | apply oz3 | apply oz4 | apply oz5 | apply oz6 | apply oz7 | apply oz8 | apply oz9 | apply ozb | apply ozc | apply oze | apply ozf | apply ozg | apply ozh | apply ozi | apply ozj | apply ozk | refine ozd (by decide) ?_) | ((with_reducible apply SC.region); (focus (simp (disch := omega) only [go_sem, ↓reduceIte, zn1, zn2, zn3, zn4, reduceCtorEq, zi1, if_neg]; rfl))) | (with_reducible refine SC.draw Tab.mixed rfl ?_; (repeat (refine DO.run (by simp (disch := omega) only [go_sem, ↓reduceIte, zn1, zn2, zn3, zn4, zn5, zn6, reduceCtorEq, zn7, zi1, zi2, if_pos, if_neg]; rfl) ?_)); refine DO.nil (by kernel_rfl) ?_)))
    refine SC.ops ?_
    (repeat (refine SO.run (by simp (disch := omega) only [go_sem, ↓reduceIte, zn1, zn2, zn3, zn4, reduceCtorEq, zi1, if_neg, hd]; rfl) ?_))
    (refine SO.call Tab.go8 (by simp (disch := omega) only [go_sem, ↓reduceIte, zn1, zn3, zn4]; rfl) (by simp (disch := omega) only [go_sem, zn2] <;> rfl) ?_)
    rw [w1, w2]
    (refine SCall.ofF (hm) (by simp (disch := omega) only [go_sem, ↓reduceIte, zn7]; rfl) ?_)
    (repeat (refine SO.run (by simp (disch := omega) only [go_sem, ↓reduceIte, zn1, zn3, zn4, reduceCtorEq]; rfl) ?_))
    (repeat (first | (with_reducible first | apply oz1 | apply oz2 | apply oz3 | apply oz4 | apply oz5 | apply oz6 | apply oz7 | apply oz8 | apply oz9 | apply ozb | apply ozc | apply oze | apply ozf | apply ozg | apply ozh | apply ozi | apply ozj | apply ozk | refine ozd (by decide) ?_) | ((with_reducible apply SC.region); (focus (simp (disch := omega) only [go_sem, ↓reduceIte, zn1, zn2, zn3, zn4, zn5, zn6, reduceCtorEq, zn7, zi1, zi2, if_pos, if_neg]; rfl))) | (with_reducible refine SC.draw Tab.mixed rfl ?_; (repeat (refine DO.run (by simp (disch := omega) only [go_sem, ↓reduceIte, zn1, zn2, zn3, zn4, zn5, zn6, reduceCtorEq, zn7, zi1, zi2, if_pos, if_neg]; rfl) ?_)); refine DO.nil (by kernel_rfl) ?_)))
    refine retQ_ret Try.results31 (by simp (disch := omega) only [go_sem, ↓reduceIte, zn1, zn3, zn4, reduceCtorEq]; rfl) (by simp (disch := omega) only [go_sem, ↓reduceIte]; rfl) ?_
    rw [hd, ← hm0]
end Go.Proofs.Ytphilljhfdlfdaa
namespace Go.Proofs.Ytphilljhfdlfdaa
open Go.RowKit
end Go.Proofs.Ytphilljhfdlfdaa
namespace Go.Proofs.Ytphilljhfdlfdaa
open Go.RowKit
end Go.Proofs.Ytphilljhfdlfdaa
namespace Go.Proofs.Ytphilljhfdlfdaa
open Go.RowKit
theorem lv_ok (ok : Nat → Bool) (l : List Nat) : (lv l).all (okL ok) = true := by simp [lv, okL]
theorem LLe.lv {ok : Nat → Bool} {cs : List V} {l : List Nat} (h : cs = Go.Proofs.Ytphilljhfdlfdaa.lv l) : LLe ok cs (Go.Proofs.Ytphilljhfdlfdaa.lv l) := by subst h; exact LLe.refl (lv_ok _ _)
def dg : Nat → Nat → List Nat
  | 0, _ => []
  | k + 1, n => n % 4294967296 :: dg k (n / 4294967296)
end Go.Proofs.Ytphilljhfdlfdaa
namespace Go.Proofs.Ytphilljhfdlfdaa
open Go.RowKit
end Go.Proofs.Ytphilljhfdlfdaa
namespace Go.Proofs.Ytphilljhfdlfdaa
open Go.RowKit
theorem fits_len {K : Nat} {x : Int} (h : Fits K x) : (limbsOf x.natAbs).length ≤ K := canon_len (limbsOf_canon _) (by rw [limbsOf_val]; exact h)
end Go.Proofs.Ytphilljhfdlfdaa
