/- Texts joined: Sn Gl Op Tb. -/
import Derived.WalkSmall
import Derived.WalkKit
import Derived.ProofKit
import Derived.OpenShut
import Derived.Carry
import Derived.Test.YtpbnhioelmgaiaaDoorRows
import Derived.Test.YtpbnhioelmgaiaaDoorProg
import Derived.Lib.LaidTab
import Derived.KernelRfl
import Derived.ChangeVars
import Derived.LaidLaws
import Derived.Deep.DeepHandedRow
import Derived.Test.YtpbnhioelmgaiaaDoorZa
import Derived.Test.YtpbnhioelmgaiaaDoorZb
set_option linter.all false
open Nat renaming reduceEqDiff → zn1, reduceLT → zn2, reduceLeDiff → zn3, reduceAdd → zn4, reduceMul → zn5, reduceSub → zn6, reduceBEq → zn7
open Int renaming reduceToNat → zi1, reducePow → zi2
namespace Go.Proofs.YtpbnhioelmgaiaaDoor
open Go.RowKit
@[go_sem high] theorem wi64 (n : Int) (h1 : -9223372036854775808 ≤ n) (h2 : n ≤ 9223372036854775807) : IntKind.i64.wrap n = n := IntWalk.i64_in n ⟨h1, h2⟩
@[go_sem high] theorem wi32 (n : Int) (h1 : -2147483648 ≤ n) (h2 : n ≤ 2147483647) : IntKind.i32.wrap n = n := IntWalk.i32_in n ⟨h1, h2⟩
@[go_sem high] theorem wi8 (n : Int) (h1 : -128 ≤ n) (h2 : n ≤ 127) : IntKind.i8.wrap n = n := IntWalk.i8_in n ⟨h1, h2⟩
@[go_sem high] theorem wu64 (n : Int) (h1 : 0 ≤ n) (h2 : n ≤ 18446744073709551615) : IntKind.u64.wrap n = n := IntWalk.u64_in n ⟨h1, h2⟩
@[go_sem high] theorem wu32 (n : Int) (h1 : 0 ≤ n) (h2 : n ≤ 4294967295) : IntKind.u32.wrap n = n := IntWalk.u32_in n ⟨h1, h2⟩
@[go_sem high] theorem wu16 (n : Int) (h1 : 0 ≤ n) (h2 : n ≤ 65535) : IntKind.u16.wrap n = n := IntWalk.u16_in n ⟨h1, h2⟩
@[go_sem high] theorem wu8 (n : Int) (h1 : 0 ≤ n) (h2 : n ≤ 255) : IntKind.u8.wrap n = n := IntWalk.u8_in n ⟨h1, h2⟩
@[go_sem low] theorem wu32m (n : Int) : IntKind.u32.wrap n = n % 4294967296 := IntKind.wrap_u32 n
@[go_sem low] theorem wu8m (n : Int) : IntKind.u8.wrap n = n % 256 := IntKind.wrap_u8 n
@[go_sem] theorem tmod_nn (x y : Int) (h : 0 ≤ x) : x.tmod y = x % y := Int.tmod_eq_emod_of_nonneg h
@[go_sem] theorem tdiv_nn (x y : Int) (h : 0 ≤ x) : x.tdiv y = x / y := Int.tdiv_eq_ediv_of_nonneg h
@[go_sem] theorem bits_u64 : IntKind.u64.bits = 64 := rfl
@[go_sem] theorem bits_i64 : IntKind.i64.bits = 64 := rfl
@[go_sem] theorem bits_u32 : IntKind.u32.bits = 32 := rfl
@[go_sem] theorem bits_u8 : IntKind.u8.bits = 8 := rfl
theorem fdiv_pow (x : Int) (k : Nat) : x.fdiv (2 ^ k) = x / 2 ^ k := Int.fdiv_eq_ediv_of_nonneg _ (Int.le_of_lt (Int.pow_pos (by omega)))
attribute [go_sem] fdiv_pow
@[go_sem] theorem and1_u64 (n : Int) (h0 : 0 ≤ n) (h1 : n ≤ 18446744073709551615) : bits .and .u64 n 1 = n % 2 := and_one_u64 n h0 h1
end Go.Proofs.YtpbnhioelmgaiaaDoor
namespace Go.Proofs.YtpbnhioelmgaiaaDoor
open Go.ChangeShapes Go.WideShapes Go.ChangeAt Go.RowKit
section
variable {H : Type} {enc : TypeId × Value → H} {P : Program} {W W' : World}
theorem trodAll_below (hl : laidOutB P = true) (hb : Below W.heap.size W W') : ∀ {ts : List TypeId} {vs : List Value} {ds : List (DataW H)} {ps : List MemPlace}, (ts.all fun t => P.readableRec t && decide (t < P.types.size)) = true → (∀ x ∈ ps, x.block < W.heap.size) →
    DataW.TrodAll enc P W 0 (fun _ => true) true ts vs ds ps → DataW.TrodAll enc P W' 0 (fun b => decide (b < W.heap.size)) true ts vs ds ps
  | [], vs, ds, ps, _, _, h => by obtain ⟨rfl, rfl, rfl⟩ := trodAll_nil h; exact trodAll_mk0
  | t :: ts, vs, ds, ps, hr, hlt, h => by
    obtain ⟨v, vs', d, ds', p, q, rfl, rfl, rfl, h1, h2⟩ := trodAll_cons h
    simp only [List.all_cons, Bool.and_eq_true, decide_eq_true_eq] at hr
    exact trodAll_cons_mk (Below.trod hl hr.1.1 hr.1.2 h1 hb fun x hx => hlt x (List.mem_append.2 (.inl hx))) (trodAll_below hl hb hr.2 (fun x hx => hlt x (List.mem_append.2 (.inr hx))) h2)
theorem law_post {f : Func} {s : ChangeSpec} {args : Array Value} {ds gs : List (DataW H)} {before : List MemPlace} {tb : TypeId} (hl : laidOutB P = true) (hr : (f.params.toList.all fun t => P.readableRec t && decide (t < P.types.size)) = true) (hres : f.resultTypes = #[tb])
    (htb : P.underlying tb = some .bool) (hvars : s.vars = []) (hs : s.fn H ds = { results := [.lit (.bool true)], args := ds }) (hW : DataW.Whole enc P f.params.toList s.vars false W args.toList ds gs before) (hb : Below W.heap.size W W') :
    s.post enc P f false true false false W args (.bool true) W' := by
  have hW' := hW
  obtain ⟨p, q, hA, hV, rfl, hz, hn⟩ := hW
  have hlt := hW'.lt
  rw [hvars] at hV
  obtain ⟨rfl, rfl⟩ := trodVars_none hV
  have e : s.fn H (ds ++ []) = { results := [.lit (.bool true)], args := ds } := by rw [List.append_nil]; exact hs
  refine ⟨ds, [], p ++ [], [], p, [], hW', ?_, ?_, ?_, hb.frame _, fun h => by cases h⟩
  · rw [e, hres]; exact trodAll_mk1 (shut_bool htb true)
  · rw [e]; exact trodAll_below hl hb hr (fun x hx => hlt x (List.mem_append.2 (.inl hx))) hA
  · rw [e, hvars]; exact rfl
theorem Rc.sc (S : Nat → Prop) (w : World) (v : Value) : Rc S w (.sc v) v := R.sc v
theorem Rc.scs (S : Nat → Prop) (w : World) (l : List Value) : Rc S w (.ag (l.map .sc)) (.agg l.toArray) :=
  R.ag (by simp) fun i x u hx hu => by
    rw [List.getElem?_map] at hx
    rw [List.getElem?_toArray] at hu
    rw [hu] at hx
    cases hx; exact .sc _
theorem AllC.nil (S : Nat → Prop) (w : World) : AllC S w [] [] := ⟨rfl, fun i x u hx => by simp at hx⟩
theorem AllC.cons {S : Nat → Prop} {w : World} {x : V} {v : Value} {xs : List V} {vs : List Value} (h : Rc S w x v) (k : AllC S w xs vs) : AllC S w (x :: xs) (v :: vs) :=
  ⟨by simp [k.1], fun i y u hy hu => by
    cases i with
    | zero => simp at hy hu; subst hy; subst hu; exact h
    | succ i => simp at hy hu; exact k.2 i y u hy hu⟩
theorem Spec.law {f : Nat} {xs : List V} {args : Array Value} (h : Spec P f xs (.sc (.bool true))) (ht : TabOK (fun b => b < W.heap.size) W) (ha : AllC (fun b => b < W.heap.size) W xs args.toList) : Calls P f args W fun e W' => e = .returned (.bool true) ∧ Below W.heap.size W W' := by
  refine (h _ W args (fun _ h => h) ht ha).mono ?_
  rintro e W' ⟨v, rfl, hg, hx⟩
  have : v = .bool true := by
    generalize hq : V.sc (.bool true) = q at hx
    cases hx <;> cases hq
    rfl
  exact ⟨by rw [this], hg.os, hg.tape, hg.output, hg.size, hg.block⟩
theorem u8_wf (n : Int) (h : (Lit.int .u8 n).wf = true) : 0 ≤ n ∧ n ≤ (255 : Nat) := by
  have h1 : IntKind.u8.min = 0 := rfl
  have h2 : IntKind.u8.max = 255 := rfl
  simp [Lit.wf] at h
  omega
end
end Go.Proofs.YtpbnhioelmgaiaaDoor
namespace Go.Proofs.YtpbnhioelmgaiaaDoor
open Go.ChangeShapes Go.WideShapes Go.ChangeAt Go.RowKit
inductive Shp where
  | int (k : IntKind) | bool | str
  | arr (n : Nat) (s : Shp)
  | slc (s : Shp)
  | st (l : List Shp)
mutual
/-- the cells of a value of the shape, as trees -/
def Shp.Rep : Shp → List V → Prop
  | .int k, ys => ∃ n : Int, ys = [.sc (.int k n)] ∧ (Lit.int k n).wf = true
  | .bool, ys => ∃ b, ys = [.sc (.bool b)]
  | .str, ys => ∃ s : ByteArray, ys = [.sc (.string s)] ∧ s.size ≤ maxLen
  | .arr n s, ys => ∃ yss : List (List V), yss.length = n ∧ ys = yss.flatten ∧ ∀ z ∈ yss, s.Rep z
  | .slc s, ys => ∃ yss : List (List V), yss.length ≤ maxLen ∧ ys = [.im yss.flatten yss.length] ∧ ∀ z ∈ yss, s.Rep z
  | .st l, ys => Shp.Reps l ys
def Shp.Reps : List Shp → List V → Prop
  | [], ys => ys = []
  | s :: r, ys => ∃ a b, ys = a ++ b ∧ s.Rep a ∧ Shp.Reps r b
end
mutual
/-- the type has the shape -/
def Shp.ok (P : Program) : Shp → TypeId → Bool
  | .int k, t => match P.underlying t with
    | some (.int k') => k' == k && P.cellsOf t == 1
    | _ => false
  | .bool, t => match P.underlying t with
    | some .bool => P.cellsOf t == 1
    | _ => false
  | .str, t => match P.underlying t with
    | some .string => P.cellsOf t == 1
    | _ => false
  | .arr n s, t => match P.underlying t with
    | some (.array m e) => m == n && s.ok P e && P.cellsOf t == n * P.cellsOf e
    | _ => false
  | .slc s, t => match P.underlying t with
    | some (.slice e) => s.ok P e && P.cellsOf t == 1
    | _ => false
  | .st l, t => match P.underlying t with
    | some (.struct fs) => Shp.oks P l fs.toList 0 (P.cellsOf t)
    | _ => false
def Shp.oks (P : Program) : List Shp → List Field → Nat → Nat → Bool
  | [], fs, off, n => fs.isEmpty && off == n
  | s :: r, fs, off, n => match fs with
    | f :: fs => f.offset == off && s.ok P f.type && Shp.oks P r fs (off + P.cellsOf f.type) n
    | [] => false
end
section
variable {S : Nat → Prop} {w : World}
theorem AllC.append {xs ys : List V} {vs us : List Value} (h : AllC S w xs vs) (k : AllC S w ys us) : AllC S w (xs ++ ys) (vs ++ us) := by
  refine ⟨by simp [h.1, k.1], fun i x u hx hu => ?_⟩
  have hl := h.1
  rw [List.getElem?_append] at hx hu
  by_cases hi : i < xs.length
  · rw [if_pos hi] at hx; rw [if_pos (by omega)] at hu
    exact h.2 i x u hx hu
  · rw [if_neg hi] at hx; rw [if_neg (by omega), ← hl] at hu
    exact k.2 _ x u hx hu
theorem AllC.rows {Q : List V → Prop} {sz : Nat} : ∀ (n : Nat) (cs : List Value), cs.length = n * sz → (∀ i, i < n → ∃ ys, Q ys ∧ AllC S w ys ((cs.drop (i * sz)).take sz)) → ∃ yss : List (List V), yss.length = n ∧ (∀ z ∈ yss, Q z) ∧ AllC S w yss.flatten cs
  | 0, cs, hl, _ => by
    have : cs = [] := List.eq_nil_of_length_eq_zero (by simpa using hl)
    subst this
    exact ⟨[], rfl, fun z hz => by simp at hz, AllC.nil _ _⟩
  | n + 1, cs, hl, h => by
    obtain ⟨ys, hq, ha⟩ := h 0 (by omega)
    rw [Nat.zero_mul, List.drop_zero] at ha
    have hl' : cs.length = n * sz + sz := by rw [hl, Nat.add_mul, Nat.one_mul]
    obtain ⟨yss, h1, h2, h3⟩ := AllC.rows (Q := Q) (sz := sz) n (cs.drop sz) (by simp [hl']) fun i hi => by
      obtain ⟨zs, hz, hb⟩ := h (i + 1) (by omega)
      refine ⟨zs, hz, ?_⟩
      rwa [List.drop_drop, show sz + i * sz = (i + 1) * sz by rw [Nat.add_mul]; omega]
    refine ⟨ys :: yss, by simp [h1], fun z hz => ?_, ?_⟩
    · rcases List.mem_cons.1 hz with rfl | hz
      · exact hq
      · exact h2 z hz
    · have := ha.append h3
      rwa [List.take_append_drop] at this
end
theorem addr_add (a : Addr) (i j : Nat) : (a.add i).add j = a.add (i + j) := by
  unfold Addr.add
  by_cases hj : j = 0
  · subst hj; simp
  · by_cases hi : i = 0
    · subst hi; simp
    · rw [if_neg hj, if_neg hi, if_neg (by omega)]; simp; omega
section
variable {H : Type} {enc : TypeId × Value → H} {P : Program} {w : World} {base : Nat} {sp : Nat → Bool} {held : Bool}
mutual
theorem open_rep : ∀ (s : Shp) {t : TypeId} {fuel : Nat} {cs : List Value} {x : DataW H × List MemPlace}, s.ok P t = true → DataW.trod enc P w base sp held fuel t cs = some x → cs.length = P.cellsOf t ∧ ∃ ys, s.Rep ys ∧ AllC (fun b => b < w.heap.size) w ys cs
  | .int k, t, fuel, cs, x, ho, h => by
    simp only [Shp.ok] at ho
    split at ho
    · rename_i k' hu
      simp only [Bool.and_eq_true, beq_iff_eq] at ho
      obtain ⟨rfl, hc⟩ := ho
      obtain ⟨n, rfl, _, hw⟩ := DataW.trod_int hu h
      exact ⟨hc.symm, _, ⟨n, rfl, hw⟩, AllC.cons (Rc.sc _ _ _) (AllC.nil _ _)⟩
    · cases ho
  | .bool, t, fuel, cs, x, ho, h => by
    simp only [Shp.ok] at ho
    split at ho
    · rename_i hu
      simp only [beq_iff_eq] at ho
      obtain ⟨n, rfl, _⟩ := DataW.trod_bool hu h
      exact ⟨ho.symm, _, ⟨n, rfl⟩, AllC.cons (Rc.sc _ _ _) (AllC.nil _ _)⟩
    · cases ho
  | .str, t, fuel, cs, x, ho, h => by
    simp only [Shp.ok] at ho
    split at ho
    · rename_i hu
      simp only [beq_iff_eq] at ho
      obtain ⟨n, rfl, _, hl⟩ := DataW.trod_string hu h
      exact ⟨ho.symm, _, ⟨n, rfl, hl⟩, AllC.cons (Rc.sc _ _ _) (AllC.nil _ _)⟩
    · cases ho
  | .arr n s, t, fuel, cs, x, ho, h => by
    simp only [Shp.ok] at ho
    split at ho
    · rename_i m e hu
      simp only [Bool.and_eq_true, beq_iff_eq] at ho
      obtain ⟨⟨rfl, ho⟩, hc⟩ := ho
      obtain ⟨xs, q, _, _, hl, hn, hel⟩ := DataW.trod_array hu h
      refine ⟨hl, ?_⟩
      obtain ⟨yss, h1, h2, h3⟩ := AllC.rows (S := fun b => b < w.heap.size) (w := w) (Q := s.Rep) m cs (by rw [hl, hc]) fun i hi => by
        have := hel i hi
        rw [List.getElem?_eq_getElem (by omega)] at this
        exact (open_rep s ho this).2
      exact ⟨_, ⟨yss, h1, rfl, h2⟩, h3⟩
    · cases ho
  | .slc s, t, fuel, cs, x, ho, h => by
    simp only [Shp.ok] at ho
    split at ho
    · rename_i e hu
      simp only [Bool.and_eq_true, beq_iff_eq] at ho
      obtain ⟨ho, hc⟩ := ho
      rcases DataW.trod_slice hu h with ⟨rfl, _⟩ | ⟨a, len, cap, elems, rest, n, _, rfl, _, hb, hl, hm, hlen, hel, _, _⟩
      · exact ⟨hc.symm, _, ⟨[], by simp, rfl, fun z hz => by simp at hz⟩, AllC.cons (.im0 (Nat.le_refl _) (by unfold maxLen; omega) (fun _ => rfl)) (AllC.nil _ _)⟩
      · refine ⟨hc.symm, ?_⟩
        obtain ⟨f, hf⟩ : ∃ f : Nat → Value, f = fun i => (w.cell? (a.add i)).getD undef := ⟨_, rfl⟩
        have each : ∀ i, i < len → w.cells? base (a.add (i * P.cellsOf e)) (P.cellsOf e) = some ((((List.range (len * P.cellsOf e)).map f).drop (i * P.cellsOf e)).take (P.cellsOf e)) ∧ ∃ y, DataW.trod enc P w base sp held n e ((((List.range (len * P.cellsOf e)).map f).drop (i * P.cellsOf e)).take (P.cellsOf e)) = some y := by
          intro i hi
          have h1 := hel i hi
          rw [List.getElem?_eq_getElem (by omega), Option.bind_eq_some_iff] at h1
          obtain ⟨cs', h2, h3⟩ := h1
          obtain ⟨_, h4, h5⟩ := World.cells?_some h2
          have hle : i * P.cellsOf e + P.cellsOf e ≤ len * P.cellsOf e := by
            have := Nat.mul_le_mul_right (P.cellsOf e) (show i + 1 ≤ len by omega)
            rwa [Nat.add_mul, Nat.one_mul] at this
          have he : cs' = (((List.range (len * P.cellsOf e)).map f).drop (i * P.cellsOf e)).take (P.cellsOf e) := by
            refine List.ext_getElem? fun j => ?_
            rw [List.getElem?_take]
            split
            · rename_i hj
              have h6 := h5 j hj
              rw [addr_add] at h6
              rw [List.getElem?_drop, List.getElem?_map, List.getElem?_range (by omega), Option.map_some, hf]
              simp only
              rw [h6, List.getElem?_eq_getElem (by omega)]; rfl
            · rw [List.getElem?_eq_none (by omega)]
          rw [← he]
          exact ⟨h2, _, h3⟩
        obtain ⟨yss, h1, h2, h3⟩ := AllC.rows (S := fun b => b < w.heap.size) (w := w) (Q := s.Rep) (sz := P.cellsOf e) len ((List.range (len * P.cellsOf e)).map f) (by simp) fun i hi => by
          obtain ⟨_, y, hy⟩ := each i hi
          exact (open_rep s ho hy).2
        refine ⟨_, ⟨yss, by omega, rfl, h2⟩, AllC.cons ?_ (AllC.nil _ _)⟩
        rw [h1]
        by_cases h0 : yss.flatten = []
        · rw [h0]; exact .im0 hl hm (fun h => by cases h)
        · have hpos : 0 < len * P.cellsOf e := by
            have h4 := h3.1
            simp only [List.length_map, List.length_range] at h4
            rw [← h4]
            exact List.length_pos_iff.2 h0
          have cell : ∀ i, i < len * P.cellsOf e → w.cell? (a.add i) = some (f i) := by
            intro i hi
            have hsz : 0 < P.cellsOf e := Nat.pos_of_ne_zero fun h => by rw [h, Nat.mul_zero] at hpos; omega
            have hd : i / P.cellsOf e < len := (Nat.div_lt_iff_lt_mul hsz).2 hi
            obtain ⟨h4, _⟩ := each (i / P.cellsOf e) hd
            obtain ⟨_, _, h5⟩ := World.cells?_some h4
            have h6 := h5 (i % P.cellsOf e) (Nat.mod_lt _ hsz)
            rw [addr_add, Nat.mul_comm, Nat.div_add_mod, List.getElem?_take, if_pos (Nat.mod_lt _ hsz), List.getElem?_drop, Nat.mul_comm, Nat.mul_comm, List.getElem?_map] at h6
            rw [h6, Nat.div_add_mod, List.getElem?_range hi]; rfl
          have c0 := cell 0 hpos
          rw [show a.add 0 = a by simp [Addr.add]] at c0
          obtain ⟨b, off, spot⟩ := a
          have hsp : spot = none := by
            cases spot with
            | none => rfl
            | some _ =>
              simp only [World.cell?] at c0
              split at c0
              · simp at c0
              · cases c0
          subst hsp
          have hbl : b < w.heap.size := by
            simp only [World.cell?] at c0
            split at c0
            · rename_i hb'; exact (Array.getElem?_eq_some_iff.1 hb').1
            · cases c0
          refine .im1 f hl hm hbl (fun i x hx => ?_) (fun i x hx => ?_)
          · have hi : i < len * P.cellsOf e := by
              have := (List.getElem?_eq_some_iff.1 hx).1
              have h4 := h3.1
              simp only [List.length_map, List.length_range] at h4
              omega
            have := cell i hi
            unfold Addr.add at this
            split at this
            · rename_i hi0; subst hi0; exact this
            · exact this
          · have hi : i < len * P.cellsOf e := by
              have := (List.getElem?_eq_some_iff.1 hx).1
              have h4 := h3.1
              simp only [List.length_map, List.length_range] at h4
              omega
            exact h3.2 i x (f i) hx (by rw [List.getElem?_map, List.getElem?_range hi]; rfl)
    · cases ho
  | .st l, t, fuel, cs, x, ho, h => by
    simp only [Shp.ok] at ho
    split at ho
    · rename_i fs hu
      obtain ⟨xs, n, _, _, hl, hn, hel⟩ := DataW.trod_struct hu h
      refine ⟨hl, ?_⟩
      obtain ⟨ys, h1, h2⟩ := open_reps l (fs := fs.toList) (off := 0) (cs := cs) (n := n) (m := P.cellsOf t) ho hl (fun i f hf => by
        have := hel i f (by simpa using hf)
        have hi := (List.getElem?_eq_some_iff.1 hf).1
        rw [List.getElem?_eq_getElem (by rw [hn]; simpa using hi)] at this
        exact ⟨_, this⟩)
      rw [List.drop_zero] at h2
      exact ⟨ys, h1, h2⟩
    · cases ho
theorem open_reps : ∀ (l : List Shp) {fs : List Field} {off n m : Nat} {cs : List Value}, Shp.oks P l fs off m = true → cs.length = m → (∀ (i : Nat) (f : Field), fs[i]? = some f → ∃ x : DataW H × List MemPlace, DataW.trod enc P w base sp held n f.type ((cs.drop f.offset).take (P.cellsOf f.type)) = some x) →
    ∃ ys, Shp.Reps l ys ∧ AllC (fun b => b < w.heap.size) w ys (cs.drop off)
  | [], fs, off, n, m, cs, ho, hl, h => by
    simp only [Shp.oks, Bool.and_eq_true, beq_iff_eq] at ho
    refine ⟨[], rfl, ?_⟩
    rw [List.drop_of_length_le (by omega)]
    exact AllC.nil _ _
  | s :: r, [], off, n, m, cs, ho, hl, h => by simp [Shp.oks] at ho
  | s :: r, f :: fs, off, n, m, cs, ho, hl, h => by
    simp only [Shp.oks, Bool.and_eq_true, beq_iff_eq] at ho
    obtain ⟨⟨h1, h2⟩, h3⟩ := ho
    obtain ⟨x, hx⟩ := h 0 f rfl
    obtain ⟨hlen, ys, h4, h5⟩ := open_rep s h2 hx
    obtain ⟨zs, h6, h7⟩ := open_reps r h3 hl fun i g hg => h (i + 1) g (by simpa using hg)
    refine ⟨ys ++ zs, ⟨ys, zs, rfl, h4, h6⟩, ?_⟩
    have := h5.append h7
    rwa [h1, ← List.drop_drop, List.take_append_drop] at this
end
def Shp.Val : Shp → V → Prop
  | .arr n s, x => ∃ ys, x = .ag ys ∧ (Shp.arr n s).Rep ys
  | .st l, x => ∃ ys, x = .ag ys ∧ Shp.Reps l ys
  | .int k, x => ∃ n : Int, x = .sc (.int k n) ∧ (Lit.int k n).wf = true
  | .bool, x => ∃ b, x = .sc (.bool b)
  | .str, x => ∃ s : ByteArray, x = .sc (.string s) ∧ s.size ≤ maxLen
  | .slc s, x => ∃ yss : List (List V), yss.length ≤ maxLen ∧ x = .im yss.flatten yss.length ∧ ∀ z ∈ yss, s.Rep z
def Shp.Vals : List Shp → List V → Prop
  | [], xs => xs = []
  | s :: r, xs => ∃ x ys, xs = x :: ys ∧ s.Val x ∧ Shp.Vals r ys
theorem rc_agg {S : Nat → Prop} {ys : List V} {cs : Array Value} (h : AllC S w ys cs.toList) : Rc S w (.ag ys) (.agg cs) :=
  .ag (by have := h.1; simpa using this) fun i x u hx hu => h.2 i x u hx (by simpa using hu)
theorem open_arg (s : Shp) {t : TypeId} {v : Value} {d : DataW H} {ps : List MemPlace} (ho : s.ok P t = true) (hval : Value.okWide P w .any 0 t v) (hd : DataW.Trod enc P w 0 (fun _ => true) true t v d ps) : ∃ x, s.Val x ∧ Rc (fun b => b < w.heap.size) w x v := by
  obtain ⟨fuel, hf⟩ := hd
  obtain ⟨_, ys, h1, h2⟩ := open_rep s ho hf
  have one : ∀ {y : V}, (∀ cs, v ≠ .agg cs) → ys = [y] → Rc (fun b => b < w.heap.size) w y v := by
    intro y hv e
    subst e
    have hc : v.cells.toList = [v] := by cases v <;> first | rfl | exact absurd rfl (hv _)
    rw [hc] at h2
    exact h2.2 0 y v rfl rfl
  cases s with
  | int k =>
    obtain ⟨n, rfl, hw⟩ := h1
    simp only [Shp.ok] at ho
    split at ho
    · rename_i hu
      obtain ⟨m, rfl⟩ := okWide_int hu hval
      exact ⟨_, ⟨n, rfl, hw⟩, one (fun cs e => by cases e) rfl⟩
    · cases ho
  | bool =>
    obtain ⟨b, rfl⟩ := h1
    simp only [Shp.ok] at ho
    split at ho
    · rename_i hu
      obtain ⟨m, rfl⟩ := okWide_bool hu hval
      exact ⟨_, ⟨b, rfl⟩, one (fun cs e => by cases e) rfl⟩
    · cases ho
  | str =>
    obtain ⟨b, rfl, hl⟩ := h1
    simp only [Shp.ok] at ho
    split at ho
    · rename_i hu
      refine ⟨_, ⟨b, rfl, hl⟩, one (fun cs e => ?_) rfl⟩
      subst e
      simp [Value.okWide, Cell.okWide, Cell.ok, hu] at hval
    · cases ho
  | slc s =>
    obtain ⟨yss, h3, rfl, h4⟩ := h1
    simp only [Shp.ok] at ho
    split at ho
    · rename_i hu
      refine ⟨_, ⟨yss, h3, rfl, h4⟩, one (fun cs e => ?_) rfl⟩
      subst e
      simp [Value.okWide, Cell.okWide, Cell.ok, hu] at hval
    · cases ho
  | arr n s =>
    have ho' := ho
    simp only [Shp.ok] at ho
    split at ho
    · rename_i hu
      obtain ⟨cs, rfl, _⟩ : ∃ cs, v = .agg cs ∧ cs.size = P.cellsOf t ∧ Row.okWide P w .any 0 t cs := by simpa [Value.okWide, hu] using hval
      exact ⟨_, ⟨ys, rfl, h1⟩, rc_agg h2⟩
    · cases ho
  | st l =>
    simp only [Shp.ok] at ho
    split at ho
    · rename_i hu
      obtain ⟨cs, rfl, _⟩ : ∃ cs, v = .agg cs ∧ cs.size = P.cellsOf t ∧ Row.okWide P w .any 0 t cs := by simpa [Value.okWide, hu] using hval
      exact ⟨_, ⟨ys, rfl, h1⟩, rc_agg h2⟩
    · cases ho
def Shp.okL (P : Program) : List Shp → List TypeId → Bool
  | [], [] => true
  | s :: r, t :: ts => s.ok P t && Shp.okL P r ts
  | _, _ => false
theorem open_args : ∀ (ss : List Shp) {ts : List TypeId} {vs : List Value} {ds : List (DataW H)} {ps : List MemPlace}, Shp.okL P ss ts = true → (∀ (j : Nat) t v, ts[j]? = some t → vs[j]? = some v → Value.okWide P w .any 0 t v) → DataW.TrodAll enc P w 0 (fun _ => true) true ts vs ds ps →
    ∃ xs, Shp.Vals ss xs ∧ AllC (fun b => b < w.heap.size) w xs vs ∧ ds.length = ts.length
  | [], [], vs, ds, ps, _, _, h => by obtain ⟨rfl, rfl, rfl⟩ := trodAll_nil h; exact ⟨[], rfl, AllC.nil _ _, rfl⟩
  | [], t :: ts, _, _, _, ho, _, _ => by cases ho
  | s :: r, [], _, _, _, ho, _, _ => by cases ho
  | s :: r, t :: ts, vs, ds, ps, ho, hv, h => by
    simp only [Shp.okL, Bool.and_eq_true] at ho
    obtain ⟨v, vs', d, ds', p, q, rfl, rfl, rfl, h1, h2⟩ := trodAll_cons h
    obtain ⟨x, h3, h4⟩ := open_arg s ho.1 (hv 0 t v rfl rfl) h1
    obtain ⟨xs, h5, h6, h7⟩ := open_args r ho.2 (fun j t v a b => hv (j + 1) t v (by simpa using a) (by simpa using b)) h2
    exact ⟨x :: xs, ⟨x, xs, rfl, h3, h5⟩, AllC.cons h4 h6, by simp [h7]⟩
theorem law_calls {f : Nat} {fn : Func} (ss : List Shp) {args : Array Value} {ds : List (DataW H)} {p : List MemPlace} (hok : Shp.okL P ss fn.params.toList = true)
    (hval : ∀ (j : Nat) t v, fn.params[j]? = some t → args[j]? = some v → Value.okWide P w .any 0 t v) (hA : DataW.TrodAll enc P w 0 (fun _ => true) true fn.params.toList args.toList ds p)
    (ht : TabOK (fun b => b < w.heap.size) w) (hs : ∀ xs, Shp.Vals ss xs → Spec P f xs (.sc (.bool true))) : ds.length = fn.params.size ∧ Calls P f args w fun e w' => e = .returned (.bool true) ∧ Below w.heap.size w w' := by
  obtain ⟨xs, h1, h2, h3⟩ := open_args ss hok (fun j t v a b => hval j t v (by simpa using a) (by simpa using b)) hA
  exact ⟨by simpa using h3, Spec.law (hs xs h1) ht h2⟩
theorem reps_ints {k : IntKind} : ∀ {yss : List (List V)}, (∀ z ∈ yss, (Shp.int k).Rep z) → ∃ ns : List Int, yss.flatten = ns.map (fun n => .sc (.int k n)) ∧ ns.length = yss.length ∧ ∀ n ∈ ns, (Lit.int k n).wf = true
  | [], _ => ⟨[], rfl, rfl, fun n hn => by simp at hn⟩
  | y :: r, h => by
    obtain ⟨n, rfl, hw⟩ := h y (by simp)
    obtain ⟨ns, h1, h2, h3⟩ := reps_ints (yss := r) fun z hz => h z (by simp [hz])
    exact ⟨n :: ns, by simp [h1], by simp [h2], fun m hm => by
      rcases List.mem_cons.1 hm with rfl | hm
      · exact hw
      · exact h3 m hm⟩
theorem wf_nat {k : IntKind} {M : Nat} (hk : ∀ n, (Lit.int k n).wf = true → 0 ≤ n ∧ n ≤ M) {n : Int} (h : (Lit.int k n).wf = true) : ∃ m : Nat, n = m ∧ m ≤ M := by
  obtain ⟨h1, h2⟩ := hk n h
  exact ⟨n.toNat, by omega, by omega⟩
end
end Go.Proofs.YtpbnhioelmgaiaaDoor
namespace Go.Proofs.YtpbnhioelmgaiaaDoor
open Go.ChangeShapes Go.WideShapes Go.ChangeAt Go.RowKit
theorem laid_tail {P : Program} {n : String} {d : DataW Unit} {r : List (String × DataW Unit)} {w : World} (h : laidMet P ((n, d) :: r) w) : laidMet P r w := by
  obtain ⟨ps, ⟨g, t, cs, fuel, p, q, hg, ht, hvar, hd, hr, rfl⟩, hnd, hc⟩ := h
  exact ⟨q, hr, (List.nodup_append.1 hnd).2.1, fun b off hb => hc b off (List.mem_append.2 (.inr hb))⟩
theorem tab_of {P : Program} {W : World} {name : String} {g : Nat} {cs : List Value} {k : IntKind} {zs : List Int} (hg : P.globalNamed name = some g) (h : Lib.TabIs P W name k zs) (e : cs = zs.map fun z => Value.int k z) (hn : 0 < cs.length) : g < W.heap.size ∧ ∀ i v, cs[i]? = some v → W.cell? ⟨g, i, none⟩ = some v := by
  have hc : ∀ i v, cs[i]? = some v → W.cell? ⟨g, i, none⟩ = some v := fun i v hi => by
    subst e; rw [World.var?_cell hg h i, List.getElem?_toArray]; exact hi
  refine ⟨?_, hc⟩
  have := hc 0 cs[0] (List.getElem?_eq_getElem hn)
  simp only [World.cell?] at this
  split at this
  · rename_i hb; exact (Array.getElem?_eq_some_iff.1 hb).1
  · cases this
theorem gTab0 : Tryd.prog.globalNamed "torsion/commit.start" = some 0 := by kernel_rfl
theorem tab0 {W : World} {r : List (String × DataW Unit)} (h : laidMet Tryd.prog (("torsion/commit.start", Rows.laid_torsion_commit_start) :: r) W) : Lib.TabIs Tryd.prog W "torsion/commit.start" .u32 [1779033703, 3144134277, 1013904242, 2773480762, 1359893119, 2600822924, 528734635, 1541459225] :=
  Lib.tabIs_of_head (rest := r) (t := 58) (e := 57) (n := 8) gTab0 (by kernel_rfl) (by kernel_rfl) (by kernel_rfl) (by kernel_rfl) (by kernel_rfl) h
theorem gTab1 : Tryd.prog.globalNamed "torsion/commit.roots" = some 1 := by kernel_rfl
theorem tab1 {W : World} {r : List (String × DataW Unit)} (h : laidMet Tryd.prog (("torsion/commit.roots", Rows.laid_torsion_commit_roots) :: r) W) : Lib.TabIs Tryd.prog W "torsion/commit.roots" .u32 [1116352408, 1899447441, 3049323471, 3921009573, 961987163, 1508970993, 2453635748, 2870763221, 3624381080, 310598401, 607225278, 1426881987, 1925078388, 2162078206, 2614888103, 3248222580, 3835390401, 4022224774, 264347078, 604807628, 770255983, 1249150122, 1555081692, 1996064986, 2554220882, 2821834349, 2952996808, 3210313671, 3336571891, 3584528711, 113926993, 338241895, 666307205, 773529912, 1294757372, 1396182291, 1695183700, 1986661051, 2177026350, 2456956037, 2730485921, 2820302411, 3259730800, 3345764771, 3516065817, 3600352804, 4094571909, 275423344, 430227734, 506948616, 659060556, 883997877, 958139571, 1322822218, 1537002063, 1747873779, 1955562222, 2024104815, 2227730452, 2361852424, 2428436474, 2756734187, 3204031479, 3329325298] :=
  Lib.tabIs_of_head (rest := r) (t := 90) (e := 57) (n := 64) gTab1 (by kernel_rfl) (by kernel_rfl) (by kernel_rfl) (by kernel_rfl) (by kernel_rfl) h
set_option maxRecDepth 100000 in
theorem tabs {W : World} (h : laidMet Tryd.prog [("torsion/commit.start", Rows.laid_torsion_commit_start), ("torsion/commit.roots", Rows.laid_torsion_commit_roots)] W) : TabOK (fun b => b < W.heap.size) W := by
  have t0 := tab_of (cs := [.int .u32 1779033703, .int .u32 3144134277, .int .u32 1013904242, .int .u32 2773480762, .int .u32 1359893119, .int .u32 2600822924, .int .u32 528734635, .int .u32 1541459225]) gTab0 (tab0 h) (by kernel_rfl) (by simp only [List.length_cons]; omega)
  have t1 := tab_of (cs := [.int .u32 1116352408, .int .u32 1899447441, .int .u32 3049323471, .int .u32 3921009573, .int .u32 961987163, .int .u32 1508970993, .int .u32 2453635748, .int .u32 2870763221, .int .u32 3624381080, .int .u32 310598401, .int .u32 607225278, .int .u32 1426881987, .int .u32 1925078388, .int .u32 2162078206, .int .u32 2614888103, .int .u32 3248222580, .int .u32 3835390401, .int .u32 4022224774, .int .u32 264347078, .int .u32 604807628, .int .u32 770255983, .int .u32 1249150122, .int .u32 1555081692, .int .u32 1996064986, .int .u32 2554220882, .int .u32 2821834349, .int .u32 2952996808, .int .u32 3210313671, .int .u32 3336571891, .int .u32 3584528711, .int .u32 113926993, .int .u32 338241895, .int .u32 666307205, .int .u32 773529912, .int .u32 1294757372, .int .u32 1396182291, .int .u32 1695183700, .int .u32 1986661051, .int .u32 2177026350, .int .u32 2456956037, .int .u32 2730485921, .int .u32 2820302411, .int .u32 3259730800, .int .u32 3345764771, .int .u32 3516065817, .int .u32 3600352804, .int .u32 4094571909, .int .u32 275423344, .int .u32 430227734, .int .u32 506948616, .int .u32 659060556, .int .u32 883997877, .int .u32 958139571, .int .u32 1322822218, .int .u32 1537002063, .int .u32 1747873779, .int .u32 1955562222, .int .u32 2024104815, .int .u32 2227730452, .int .u32 2361852424, .int .u32 2428436474, .int .u32 2756734187, .int .u32 3204031479, .int .u32 3329325298]) gTab1 (tab1 (laid_tail h)) (by kernel_rfl) (by simp only [List.length_cons]; omega)
  intro g cs hg
  unfold tabG GT at hg
  unfold tabF at hg
  split at hg
  · rename_i e; subst e; cases hg; exact t0
  unfold tabF at hg
  split at hg
  · rename_i e; subst e; cases hg; exact t1
  cases hg
noncomputable def laidWorld (os : Os) : World := { World.holding Tryd.prog os ⟨#[], #[], []⟩ with heap := (((World.holding Tryd.prog os ⟨#[], #[], []⟩).heap.modify 0 fun | .cells _ t frozen => .cells #[.int .u32 1779033703, .int .u32 3144134277, .int .u32 1013904242, .int .u32 2773480762, .int .u32 1359893119, .int .u32 2600822924, .int .u32 528734635, .int .u32 1541459225] t frozen | o => o).modify 1 fun | .cells _ t frozen => .cells #[.int .u32 1116352408, .int .u32 1899447441, .int .u32 3049323471, .int .u32 3921009573, .int .u32 961987163, .int .u32 1508970993, .int .u32 2453635748, .int .u32 2870763221, .int .u32 3624381080, .int .u32 310598401, .int .u32 607225278, .int .u32 1426881987, .int .u32 1925078388, .int .u32 2162078206, .int .u32 2614888103, .int .u32 3248222580, .int .u32 3835390401, .int .u32 4022224774, .int .u32 264347078, .int .u32 604807628, .int .u32 770255983, .int .u32 1249150122, .int .u32 1555081692, .int .u32 1996064986, .int .u32 2554220882, .int .u32 2821834349, .int .u32 2952996808, .int .u32 3210313671, .int .u32 3336571891, .int .u32 3584528711, .int .u32 113926993, .int .u32 338241895, .int .u32 666307205, .int .u32 773529912, .int .u32 1294757372, .int .u32 1396182291, .int .u32 1695183700, .int .u32 1986661051, .int .u32 2177026350, .int .u32 2456956037, .int .u32 2730485921, .int .u32 2820302411, .int .u32 3259730800, .int .u32 3345764771, .int .u32 3516065817, .int .u32 3600352804, .int .u32 4094571909, .int .u32 275423344, .int .u32 430227734, .int .u32 506948616, .int .u32 659060556, .int .u32 883997877, .int .u32 958139571, .int .u32 1322822218, .int .u32 1537002063, .int .u32 1747873779, .int .u32 1955562222, .int .u32 2024104815, .int .u32 2227730452, .int .u32 2361852424, .int .u32 2428436474, .int .u32 2756734187, .int .u32 3204031479, .int .u32 3329325298] t frozen | o => o) }
end Go.Proofs.YtpbnhioelmgaiaaDoor
