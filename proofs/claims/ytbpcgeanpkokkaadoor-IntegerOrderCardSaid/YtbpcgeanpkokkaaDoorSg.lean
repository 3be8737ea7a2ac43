/- One operation on a symbolic state, and that the machine does as it says. -/
import Derived.Test.YtbpcgeanpkokkaaDoorSf
namespace Go.Proofs.YtbpcgeanpkokkaaDoor
open Go.RowKit

def exMin : V → V → Option V
  | .sc (.int k x), .sc (.int _ y) => some (.sc (.int k (if y < x then y else x)))
  | _, _ => none
def exMax : V → V → Option V
  | .sc (.int k x), .sc (.int _ y) => some (.sc (.int k (if y > x then y else x)))
  | _, _ => none
def exCap : V → Option V
  | .sl _ _ _ _ (some c) => some (.sc (.int .i64 c))
  | _ => none
def exCopy (P : Program) (hp : List (Nat × Blk)) (t : TypeId) (d x : V) : Option (V × Eff) :=
  match d with
  | .sl id off dlen z _ => (slOf P t).bind fun (_, z') => (srcV hp x).bind fun (ys, m) => (hget hp id).bind fun k =>
    if z' = 1 ∧ z = 1 ∧ ys.length = m ∧ k.fz = false ∧ off + dlen ≤ k.cs.length ∧ ys.all V.one = true then some (.sc (.int .i64 (min m dlen : Nat)), .set id ⟨k.ty, setAll k.cs off (ys.take (min m dlen)), false⟩) else none
  | _ => none
/-- the bytes of a string, as cells -/
def bytesT (s : ByteArray) : List Value := s.data.toList.map fun b => .int .u8 b.toNat
def exCopyS (P : Program) (hp : List (Nat × Blk)) (t : TypeId) (d : V) (s : ByteArray) : Option (V × Eff) :=
  match d with
  | .sl id off dlen z _ => (slOf P t).bind fun (_, z') => (hget hp id).bind fun k =>
    if z' = 1 ∧ z = 1 ∧ k.fz = false ∧ 0 < s.size ∧ s.size ≤ dlen ∧ off + dlen ≤ k.cs.length then some (.sc (.int .i64 s.size), .set id ⟨k.ty, setAll k.cs off ((bytesT s).map .sc), false⟩) else none
  | _ => none
def exCopyA (P : Program) (hp : List (Nat × Blk)) (t : TypeId) (d x : V) : Option (V × Eff) :=
  match x with
  | .sc (.string s) => exCopyS P hp t d s
  | _ => exCopy P hp t d x
def exBuiltin (P : Program) (hp : List (Nat × Blk)) (nx : Nat) (b : Builtin) (ts : List TypeId) (xs : List V) : Option (V × Eff) :=
  match b, ts, xs with
  | .len, [t], [x] => (exLen P t x).map (·, .none)
  | .append, [t, t'], [s, x] => if t = t' then exAppend P hp nx t s x else none
  | .copy, [t, _], [d, x] => exCopyA P hp t d x
  | .min, _, [x, y] => (exMin x y).map (·, .none)
  | .max, _, [x, y] => (exMax x y).map (·, .none)
  | _, _, _ => none
def exNil : V → Option V
  | .pt id off => some (.pt id off)
  | .pi cs => some (.pi cs)
  | .fn (.func f) p q => some (.fn (.func f) p q)
  | _ => none
def exPick (c a b : V) : Option V :=
  match c with
  | .sc (.bool t) => some (if t then a else b)
  | _ => none

def exOp (P : Program) (sl : List (Nat × V)) (hp : List (Nat × Blk)) (nx : Nat) (op : Op) : Option (V × Eff) :=
  match op with
  | .move x | .assign x => some (evS sl x, .none)
  | .pick c a b => (exPick (evS sl c) (evS sl a) (evS sl b)).map (·, .none)
  | .alloc t => (exAlloc P t).map (.pt nx 0, .new ·)
  | .box t x => (exBox t (evS sl x)).map (.pt nx 0, .new ·)
  | .build t parts => (exBuild P t (parts.toList.map fun p => (p.1, evS sl p.2))).map (·, .none)
  | .buildSlice t len parts => exBuildSlice P t nx len (parts.toList.map fun p => (p.1, evS sl p.2))
  | .load t a => (exLoad P hp t (evS sl a)).map (·, .none)
  | .store t a x => (exStore P hp t (evS sl a) (evS sl x)).map (.junk, ·)
  | .nilCheck x => (exNil (evS sl x)).map (·, .none)
  | .binOp o t x y _ => (exBin P o t (evS sl x) (evS sl y)).map (·, .none)
  | .unOp o _ x => (exUn o (evS sl x)).map (·, .none)
  | .convert s d x => (exConvH P hp s d (evS sl x)).map (·, .none)
  | .makeFunc f p q => some (.fn f (p.toList.map (evS sl)) (q.toList.map (evS sl)), .none)
  | .makeSlice t l c => exMake P t nx (evS sl l) (evS sl c)
  | .slice t x lo hi mx => (exSlice P hp t (evS sl x) (lo.map (evS sl)) (hi.map (evS sl)) (mx.map (evS sl))).map (·, .none)
  | .fieldAddr t x f => (exFieldAddr P t f (evS sl x)).map (·, .none)
  | .field t x f => (exField P t f (evS sl x)).map (·, .none)
  | .indexAddr t x i => (exIndexAddr P t (evS sl x) (evS sl i)).map (·, .none)
  | .index t x i => (exIndex P t (evS sl x) (evS sl i)).map (·, .none)
  | .extract t i => (exExtract i (evS sl t)).map (·, .none)
  | .call ⟨.builtin b, args, ts⟩ => exBuiltin P hp nx b ts.toList (args.toList.map (evS sl))
  | _ => none

section
variable {P : Program} {w : World} {B : Base} {S : Nat → Prop} {rho : Nat → Nat} {A : Nat → Prop} {hp : List (Nat × Blk)} {nx : Nat}

/-- the outcome of an operation -/
def OutN (B : Base) (S : Nat → Prop) (rho : Nat → Nat) (A : Nat → Prop) (hp : List (Nat × Blk)) (nx : Nat) (w : World) (r : Result Next) (x : V) (e : Eff) : Prop :=
  ∃ v w' rho' A', (r = .ok (.value v) w' ∨ (r = .ok .skip w' ∧ v = undef)) ∧ Mem B S rho' A' (e.heap nx hp) w' ∧ (∀ id, A id → A' id ∧ rho' id = rho id ∧ ∀ n, szAt w (rho id) n → szAt w' (rho id) n) ∧ (∀ id, A' id → A id ∨ id = nx ∧ ∃ k, e = .new k ∨ ∃ i, e = .app i k) ∧
    (∀ b, S b → w'.heap[b]? = w.heap[b]?) ∧ R S rho' w' A' x v

theorem Out.toN {s : Sem Value} {x : V} {e : Eff} (h : Out B S rho A hp nx w (s.run P w) x e) : OutN B S rho A hp nx w ((do pure (.value (← s)) : Sem Next).run P w) x e := by
  obtain ⟨v, w', rho', A', h1, h2⟩ := h
  exact ⟨v, w', rho', A', .inl (by simp [h1]), h2⟩
theorem Out.skip {s : Sem Unit} {x : V} {e : Eff} (h : Out B S rho A hp nx w ((do s; pure undef : Sem Value).run P w) x e) : OutN B S rho A hp nx w ((do s; pure .skip : Sem Next).run P w) x e := by
  obtain ⟨v, w', rho', A', h1, h2⟩ := h
  refine ⟨v, w', rho', A', .inr ?_, h2⟩
  rw [Sem.run_bind] at h1 ⊢
  cases hs : s.run P w with
  | ok u w2 => rw [hs] at h1; simp at h1; simp [h1]
  | halt g w2 => rw [hs] at h1; simp at h1
theorem OutN.val (hm : Mem B S rho A hp w) {r : Result Next} {v : Value} {x : V} (hr : r = .ok (.value v) w) (hx : R S rho w A x v) : OutN B S rho A hp nx w r x .none :=
  ⟨v, w, rho, A, .inl hr, hm, fun _ h => ⟨h, rfl, fun _ h => h⟩, fun _ h => .inl h, fun _ _ => rfl, hx⟩
theorem OutN.of (hm : Mem B S rho A hp w) {s : Sem Value} {x : V} (h : ∃ v, s.run P w = .ok v w ∧ R S rho w A x v) : OutN B S rho A hp nx w ((do pure (.value (← s)) : Sem Next).run P w) x .none := by
  obtain ⟨v, h1, h2⟩ := h
  exact (Out.val hm h1 h2).toN

theorem Option.map_eq {α β : Type} {o : Option α} {f : α → β} {y : β} (h : o.map f = some y) : ∃ x, o = some x ∧ f x = y := by
  cases o with
  | none => cases h
  | some x => exact ⟨x, rfl, by simpa using h⟩

theorem hset_self {l : List (Nat × Blk)} {id : Nat} {k : Blk} (h : hget l id = some k) (i : Nat) (q : Blk) (hq : hget (hset l id k) i = some q) : hget l i = some q := by
  rw [hget_hset] at hq
  split at hq
  · rename_i e; subst e; rw [h] at hq ⊢; simpa using hq
  · exact hq

theorem copy_sound (hm : Mem B S rho A hp w) {t t' ty : TypeId} {d x y : V} {vd vx : Value} {f : Eff} (h : exCopy P hp t d x = some (y, f)) (hd : R S rho w A d vd) (hx : R S rho w A x vx) :
    Out B S rho A hp nx w ((Builtin.copy_ #[t, t'] ty #[vd, vx]).run P w) y f := by
  unfold exCopy at h
  split at h
  · rename_i id off dlen z cap
    cases hs : slOf P t with
    | none => simp [hs] at h
    | some p =>
      obtain ⟨e, z'⟩ := p
      cases hsrc : srcV hp x with
      | none => simp [hs, hsrc] at h
      | some q =>
        obtain ⟨ys, m⟩ := q
        cases hk : hget hp id with
        | none => simp [hs, hsrc, hk] at h
        | some k =>
          simp only [hs, hsrc, hk, Option.bind_some] at h
          split at h
          · rename_i hc
            obtain ⟨rfl, rfl, hyl, hfz, hle, hone⟩ := hc
            simp only [Option.some.injEq, Prod.mk.injEq] at h
            obtain ⟨rfl, rfl⟩ := h
            obtain ⟨hu, hz⟩ := slOf_und hs
            obtain ⟨a, c', us, rfl, hAll, hcell, hmc, hcm, hn0⟩ := src_sound hm hsrc hx
            have hul : us.length = m := by rw [← hAll.1, hyl]
            have same : ∀ (r : Result Value), min m dlen = 0 → r = .ok (.int .i64 0) w → Out B S rho A hp nx w r (.sc (.int .i64 (min m dlen : Nat))) (.set id ⟨k.ty, setAll k.cs off (ys.take (min m dlen)), false⟩) := by
              intro r h0 hr
              rw [h0]
              simp only [List.take_zero, setAll]
              have hk' : (⟨k.ty, k.cs, false⟩ : Blk) = k := by rw [← hfz]
              rw [hk']
              exact ⟨_, w, rho, A, hr, hm.less (hset_self hk), fun _ h => ⟨h, rfl, fun _ h => h⟩, fun _ h => .inl h, fun _ _ => rfl, .sc _⟩
            have zero : ∀ (dst : Option Addr) (dc : Nat), min m dlen = 0 → (Builtin.copy_ #[t, t'] ty #[.slice dst dlen dc, .slice a m c']).run P w = .ok (.int .i64 0) w := by
              intro dst dc h0
              have hf : (Builtin.firstCells 1 0 (.slice a m c')).run P w = .ok #[] w := by
                cases a with
                | none => exact run_firstCells_none (P := P) w 1 0 m c'
                | some ad => exact run_firstCells_some (P := P) w 1 0 ad m c' [] (by simp) (by simp)
              have h0' : m.min dlen = 0 := h0
              cases dst <;> simp [Builtin.copy_, run_underlying hu, Builtin.lenOf, Sem.run_bind, run_sizeOf hz, h0', hf, storeCells, goInt]
            cases hd with
            | sln hcap => exact same _ (by simp) (zero none 0 (by simp))
            | sl hid hl hmx hcap hz0 =>
              rename_i c
              by_cases h0 : min m dlen = 0
              · exact same _ h0 (zero _ _ h0)
              · have hyne : ys ≠ [] := by intro e'; rw [e'] at hyl; simp at hyl; omega
                obtain ⟨ad, rfl, hcd⟩ := hcell hyne
                obtain ⟨cells, c1, c2, c3⟩ := (hm.cells id k hk hid).all
                have h1v : ∀ v ∈ us.take (min m dlen), v.oneCell' = true := by
                  intro v hv
                  obtain ⟨j, hj⟩ := List.mem_iff_getElem?.1 (List.mem_of_mem_take hv)
                  have hlt : j < ys.length := by rw [hAll.1]; exact (List.getElem?_eq_some_iff.1 hj).1
                  exact one_sound (List.all_eq_true.1 hone _ (List.getElem_mem hlt)) (hAll.2 j _ v (List.getElem?_eq_getElem hlt) hj)
                have hlen : (us.take (min m dlen)).length = min m dlen := by simp; omega
                have hr := run_copy_row (P := P) w t t' ty e (rho id) off dlen c ad m c' cells k.ty (us.take (min m dlen)) hu hz c1 (by rw [hlen]) (fun j v hj => by
                  rw [List.getElem?_take] at hj
                  split at hj
                  · exact hcd j v hj
                  · cases hj) (by rw [hlen]; omega) h1v
                rw [hlen] at hr
                have hset := c3.setAll (hAll.take (min m dlen)) (off := off) (by rw [hlen]; simp; omega)
                rw [hlen] at hset
                obtain ⟨m1, m2, m3⟩ := hm.setRow hk hid hfz c1 (cs' := setAll k.cs off (ys.take (min m dlen))) (arr' := cells.toList.take off ++ us.take (min m dlen) ++ cells.toList.drop (off + min m dlen)) (by simp; omega) (fun j y hj => by
                  have hlt : j < k.cs.length := by rw [← setAll_length (ys.take (min m dlen)) k.cs off]; exact (List.getElem?_eq_some_iff.1 hj).1
                  have hs2 : j < ((cells.toList.take k.cs.length).take off ++ us.take (min m dlen) ++ (cells.toList.take k.cs.length).drop (off + min m dlen)).length := by
                    rw [← hset.1, setAll_length]; exact hlt
                  refine ⟨_, ?_, hset.2 j y _ hj (List.getElem?_eq_getElem hs2)⟩
                  rw [← List.getElem?_eq_getElem hs2]
                  simp only [List.getElem?_append, List.getElem?_take, List.getElem?_drop, List.length_append, List.length_take, List.take_take]
                  simp only [Array.length_toList]
                  have e2 : min off cells.size = off := by omega
                  have e3 : min off k.cs.length = off := by omega
                  have e4 : min (min m dlen) us.length = min m dlen := by omega
                  simp only [e2, e3, e4]
                  by_cases hi : j < off + min m dlen
                  · simp only [hi, if_true]
                  · simp only [hi, if_false]
                    rw [if_pos (by omega)])
                exact ⟨_, _, rho, A, hr, m1, m3, fun _ h => .inl h, m2, .sc _⟩
          · cases h
  · cases h

theorem bytesT_len (s : ByteArray) : (bytesT s).length = s.size := by simp only [bytesT, List.length_map, Array.length_toList]; rfl
theorem run_copyS (w : World) (dT sT ty elem : TypeId) (g o dLen dCap : Nat) (s : ByteArray) (cur : Array Value) (t : TypeId) (hu : P.underlying dT = some (.slice elem)) (hz : szOf P elem = some 1) (hg : w.heap[g]? = some (.cells cur t (0, 0))) (hle : s.size ≤ dLen) (hfit : o + s.size ≤ cur.size) :
    (Builtin.copy_ #[dT, sT] ty #[.slice (some ⟨g, o, none⟩) dLen dCap, .string s]).run P w = .ok (goInt s.size) (w.setRow g (cur.toList.take o ++ bytesT s ++ cur.toList.drop (o + s.size)).toArray) := by
  have hst := run_storeCells_at P g o t (bytesT s) 0 cur w hg (by rw [bytesT_len]; simpa using hfit) (fun v hv => by obtain ⟨b, _, rfl⟩ := List.mem_map.1 hv; rfl)
  rw [bytesT_len] at hst
  simp only [Nat.add_zero] at hst
  have hmin : Nat.min s.size dLen = s.size := Nat.min_eq_left hle
  have hcells : ((s.extract 0 s.size).data.map fun b : UInt8 => Value.int .u8 (b.toNat : Int)).toList = bytesT s := by
    simp [bytesT]
  simp only [Builtin.copy_, List.getElem?_toArray, List.getElem?_cons_zero, List.getElem?_cons_succ, Sem.run_bind, run_underlying hu, Builtin.lenOf, Sem.run_pure, Result.andThen_ok, run_sizeOf hz, Builtin.firstCells, Nat.mul_one, hmin, hcells, hst]
theorem copyS_sound (hm : Mem B S rho A hp w) {t t' ty : TypeId} {d y : V} {vd : Value} {s : ByteArray} {f : Eff} (h : exCopyS P hp t d s = some (y, f)) (hd : R S rho w A d vd) :
    Out B S rho A hp nx w ((Builtin.copy_ #[t, t'] ty #[vd, .string s]).run P w) y f := by
  unfold exCopyS at h
  split at h
  · rename_i id off dlen z cap
    cases hs : slOf P t with
    | none => simp [hs] at h
    | some p =>
      obtain ⟨e, z'⟩ := p
      cases hk : hget hp id with
      | none => simp [hs, hk] at h
      | some k =>
        simp only [hs, hk, Option.bind_some] at h
        split at h
        · rename_i hc
          obtain ⟨rfl, rfl, hfz, hpos, hsd, hle⟩ := hc
          simp only [Option.some.injEq, Prod.mk.injEq] at h
          obtain ⟨rfl, rfl⟩ := h
          obtain ⟨hu, hz⟩ := slOf_und hs
          cases hd with
          | sln hcap => omega
          | sl hid hl hmx hcap hz0 =>
            rename_i c
            obtain ⟨cells, c1, c2, c3⟩ := (hm.cells id k hk hid).all
            have hlen := bytesT_len s
            have hr := run_copyS (P := P) w t t' ty e (rho id) off dlen c s cells k.ty hu hz c1 hsd (by omega)
            have hAll : All S rho A w ((bytesT s).map .sc) (bytesT s) := ⟨by simp, fun i x u hx hu => by
              rw [List.getElem?_map, hu] at hx
              cases hx; exact .sc _⟩
            have hset := c3.setAll hAll (off := off) (by rw [hlen]; simp; omega)
            rw [hlen] at hset
            obtain ⟨m1, m2, m3⟩ := hm.setRow hk hid hfz c1 (cs' := setAll k.cs off ((bytesT s).map .sc)) (arr' := cells.toList.take off ++ bytesT s ++ cells.toList.drop (off + s.size)) (by simp [hlen]; omega) (fun j y hj => by
              have hlt : j < k.cs.length := by rw [← setAll_length ((bytesT s).map .sc) k.cs off]; exact (List.getElem?_eq_some_iff.1 hj).1
              have hs2 : j < ((cells.toList.take k.cs.length).take off ++ bytesT s ++ (cells.toList.take k.cs.length).drop (off + s.size)).length := by
                rw [← hset.1, setAll_length]; exact hlt
              refine ⟨_, ?_, hset.2 j y _ hj (List.getElem?_eq_getElem hs2)⟩
              rw [← List.getElem?_eq_getElem hs2]
              simp only [List.getElem?_append, List.getElem?_take, List.getElem?_drop, List.length_append, List.length_take, hlen]
              simp only [Array.length_toList]
              have e2 : min off cells.size = off := by omega
              have e3 : min off (min k.cs.length cells.size) = off := by omega
              simp only [e2, e3]
              by_cases hi : j < off + s.size
              · simp only [hi, if_true]
                by_cases hj2 : j < off
                · simp only [hj2, if_true]; rw [if_pos hlt]
                · simp only [hj2, if_false]
              · simp only [hi, if_false]
                rw [if_pos (by omega)])
            exact ⟨_, _, rho, A, hr, m1, m3, fun _ h => .inl h, m2, .sc _⟩
        · cases h
  · cases h

theorem min_run (ts : Array TypeId) (t : TypeId) (k k' : IntKind) (x y : Int) : (Builtin.min_ ts t #[.int k x, .int k' y]).run P w = .ok (.int k (if y < x then y else x)) w := by
  simp [Builtin.min_, Builtin.min2]
theorem max_run (ts : Array TypeId) (t : TypeId) (k k' : IntKind) (x y : Int) : (Builtin.max_ ts t #[.int k x, .int k' y]).run P w = .ok (.int k (if y > x then y else x)) w := by
  simp [Builtin.max_, Builtin.max2]

theorem glob_sound (ht : TabOK S w) (g : Nat) : R S rho w A (globV g) (.pointer (some ⟨g, 0, none⟩)) := by
  unfold globV
  split
  · rename_i cs hg
    obtain ⟨h1, h2⟩ := ht g cs hg
    refine .pi (fun i => cs.getD i undef) h1 (fun i x hx => ?_) (fun i x hx => ?_)
    · rw [List.getElem?_map] at hx
      cases hc : cs[i]? with
      | none => simp [hc] at hx
      | some v => rw [Nat.zero_add, h2 i v hc]; simp [List.getD_eq_getElem?_getD, hc]
    · rw [List.getElem?_map] at hx
      cases hc : cs[i]? with
      | none => simp [hc] at hx
      | some v =>
        simp only [hc, Option.map_some, Option.some.injEq] at hx
        subst hx
        have : cs.getD i undef = v := by simp [List.getD_eq_getElem?_getD, hc]
        rw [this]; exact .sc _
  · exact .sc _
theorem ev_sound {sl : List (Nat × V)} {a : Act} (ht : TabOK S w) (hs : ∀ t, R S rho w A (get sl t) (a.eval (.tmp t))) (x : Operand) : R S rho w A (evS sl x) (a.eval x) := by
  cases x with
  | tmp t => exact hs t
  | const v => exact R.ofV v
  | global g => exact glob_sound ht g
  | func f => exact .sc _

theorem All.ev {sl : List (Nat × V)} {a : Act} (ht : TabOK S w) (hs : ∀ t, R S rho w A (get sl t) (a.eval (.tmp t))) (l : List Operand) : All S rho A w (l.map (evS sl)) (l.map a.eval) := by
  refine ⟨by simp, fun i x u hx hu => ?_⟩
  rw [List.getElem?_map] at hx hu
  cases hl : l[i]? with
  | none => simp [hl] at hx
  | some o => simp [hl] at hx hu; subst hx; subst hu; exact ev_sound ht hs o

theorem okO.ev {sl : List (Nat × V)} {a : Act} (ht : TabOK S w) (hs : ∀ t, R S rho w A (get sl t) (a.eval (.tmp t))) (o : Option Operand) : okO S rho A w (o.map (evS sl)) (o.map a.eval) := by
  cases o with
  | none => exact .inl ⟨rfl, rfl⟩
  | some x => exact .inr ⟨_, _, rfl, rfl, ev_sound ht hs x⟩

theorem builtin_sound (hm : Mem B S rho A hp w) (hnx : ¬ A nx) {b : Builtin} {ts : List TypeId} {ty : TypeId} {cs : Array Bool} {xs : List V} {vs : List Value} {x : V} {f : Eff} (h : exBuiltin P hp nx b ts xs = some (x, f)) (hx : All S rho A w xs vs) :
    OutN B S rho A hp nx w ((builtin b ts.toArray ty cs vs.toArray).run P w) x f := by
  have h1 : ∀ {a : V}, xs = [a] → ∃ u, vs = [u] ∧ R S rho w A a u := by
    intro a e; subst e
    match vs, hx with
    | [u], hx => exact ⟨u, rfl, hx.2 0 a u rfl rfl⟩
    | [], hx => have := hx.1; simp at this
    | _ :: _ :: _, hx => have := hx.1; simp at this
  have h2 : ∀ {a b : V}, xs = [a, b] → ∃ u v, vs = [u, v] ∧ R S rho w A a u ∧ R S rho w A b v := by
    intro a b e; subst e
    match vs, hx with
    | [u, v], hx => exact ⟨u, v, rfl, hx.2 0 a u rfl rfl, hx.2 1 b v rfl rfl⟩
    | [], hx => have := hx.1; simp at this
    | [_], hx => have := hx.1; simp at this
    | _ :: _ :: _ :: _, hx => have := hx.1; simp at this
  unfold exBuiltin at h
  split at h
  · obtain ⟨u, rfl, hu⟩ := h1 rfl
    obtain ⟨y, hy, e⟩ := Option.map_eq h
    cases e
    exact OutN.of hm (len_sound hy hu)
  · obtain ⟨u, v, rfl, hu, hv⟩ := h2 rfl
    split at h
    · rename_i ht; subst ht
      exact (append_sound hm hnx h hu hv).toN
    · cases h
  · obtain ⟨u, v, rfl, hu, hv⟩ := h2 rfl
    unfold exCopyA at h
    split at h
    · cases hv; exact (copyS_sound hm h hu).toN
    · exact (copy_sound hm h hu hv).toN
  · obtain ⟨u, v, rfl, hu, hv⟩ := h2 rfl
    obtain ⟨y, hy, e⟩ := Option.map_eq h
    cases e
    unfold exMin at hy
    split at hy
    · cases hy; cases hu; cases hv
      exact OutN.of hm ⟨_, min_run _ _ _ _ _ _, .sc _⟩
    · cases hy
  · obtain ⟨u, v, rfl, hu, hv⟩ := h2 rfl
    obtain ⟨y, hy, e⟩ := Option.map_eq h
    cases e
    unfold exMax at hy
    split at hy
    · cases hy; cases hu; cases hv
      exact OutN.of hm ⟨_, max_run _ _ _ _ _ _, .sc _⟩
    · cases hy
  · cases h

theorem op_sound {sl : List (Nat × V)} {a : Act} {o : Oper} {x : V} {f : Eff} (hm : Mem B S rho A hp w) (hs : ∀ t, R S rho w A (get sl t) (a.eval (.tmp t))) (hnx : ¬ A nx) (h : exOp P sl hp nx o.op = some (x, f)) :
    OutN B S rho A hp nx w ((execOp a.eval o).run P w) x f := by
  have ev := ev_sound hm.tab hs
  obtain ⟨dst, op, ty, pos, after, guard⟩ := o
  have parts : ∀ (ps : Array (Nat × Operand)), (ps.toList.map fun p => (p.1, evS sl p.2)).map (·.1) = (ps.map fun (i, x) => (i, a.eval x)).toList.map (·.1) ∧ All S rho A w ((ps.toList.map fun p => (p.1, evS sl p.2)).map (·.2)) ((ps.map fun (i, x) => (i, a.eval x)).toList.map (·.2)) := by
    intro ps
    have e1 : (ps.toList.map fun p => (p.1, evS sl p.2)).map (·.2) = (ps.toList.map (·.2)).map (evS sl) := by simp
    have e2 : (ps.map fun (i, x) => (i, a.eval x)).toList.map (·.2) = (ps.toList.map (·.2)).map a.eval := by simp
    refine ⟨by simp, ?_⟩
    rw [e1, e2]
    exact All.ev hm.tab hs _
  cases op <;> simp only [exOp] at h <;> try (cases h; done)
  case move y => cases h; exact OutN.val hm rfl (ev y)
  case assign y => cases h; exact OutN.val hm rfl (ev y)
  case pick c p q =>
    obtain ⟨y, hy, e⟩ := Option.map_eq h
    cases e
    unfold exPick at hy
    split at hy
    · rename_i t hc
      cases hy
      have hcv := ev c
      rw [hc] at hcv
      cases t
      · refine OutN.val hm ?_ (ev q)
        simp only [execOp]
        generalize a.eval c = u at hcv ⊢
        cases hcv; rfl
      · refine OutN.val hm ?_ (ev p)
        simp only [execOp]
        generalize a.eval c = u at hcv ⊢
        cases hcv; rfl
    · cases hy
  case alloc t =>
    obtain ⟨k, hk, e⟩ := Option.map_eq h
    cases e
    exact (alloc_sound hm hnx hk).toN
  case box t y =>
    obtain ⟨k, hk, e⟩ := Option.map_eq h
    cases e
    exact (box_sound hm hnx hk (ev y)).toN
  case build t ps =>
    obtain ⟨y, hy, e⟩ := Option.map_eq h
    cases e
    exact OutN.of hm (build_sound hy (parts ps).1 (parts ps).2)
  case buildSlice t len ps => exact (buildSlice_sound hm hnx h (parts ps).1 (parts ps).2).toN
  case load t y =>
    obtain ⟨z, hz, e⟩ := Option.map_eq h
    cases e
    exact OutN.of hm (load_sound hm hz (ev y))
  case store t y z =>
    obtain ⟨k, hk, e⟩ := Option.map_eq h
    cases e
    exact (store_sound hm hk (ev y) (ev z)).skip
  case nilCheck y =>
    obtain ⟨z, hz, e⟩ := Option.map_eq h
    cases e
    have hy := ev y
    unfold exNil at hz
    split at hz
    · rename_i hc; cases hz
      rw [hc] at hy
      refine OutN.val hm (v := a.eval y) ?_ hy
      simp only [execOp]
      generalize a.eval y = u at hy ⊢
      cases hy; rfl
    · rename_i hc; cases hz
      rw [hc] at hy
      refine OutN.val hm (v := a.eval y) ?_ hy
      simp only [execOp]
      generalize a.eval y = u at hy ⊢
      cases hy; rfl
    · rename_i hc; cases hz
      rw [hc] at hy
      refine OutN.val hm (v := a.eval y) ?_ hy
      simp only [execOp]
      generalize a.eval y = u at hy ⊢
      cases hy; rfl
    · cases hz
  case binOp o t y z _ =>
    obtain ⟨r, hr, e⟩ := Option.map_eq h
    cases e
    exact OutN.of hm (bin_sound hr (ev y) (ev z))
  case unOp o _ y =>
    obtain ⟨r, hr, e⟩ := Option.map_eq h
    cases e
    exact OutN.of hm (un_sound hr (ev y))
  case convert s d y =>
    obtain ⟨r, hr, e⟩ := Option.map_eq h
    cases e
    exact OutN.of hm (convH_sound hm hr (ev y))
  case makeFunc fn p q =>
    cases h
    have hp' := All.ev (w := w) (S := S) (rho := rho) (A := A) hm.tab hs p.toList
    have hq' := All.ev (w := w) (S := S) (rho := rho) (A := A) hm.tab hs q.toList
    refine OutN.val hm (v := .func fn (p.map a.eval) (q.map a.eval)) rfl (.fn (by simp) (by simp) (fun i x u hx hu => hp'.2 i x u hx ?_) (fun i x u hx hu => hq'.2 i x u hx ?_))
    · rw [← Array.toList_map, Array.getElem?_toList]; exact hu
    · rw [← Array.toList_map, Array.getElem?_toList]; exact hu
  case makeSlice t l c => exact (make_sound hm hnx h (ev l) (ev c)).toN
  case slice t y lo hi mx =>
    obtain ⟨r, hr, e⟩ := Option.map_eq h
    cases e
    exact OutN.of hm (slice_sound hm hr (ev y) (okO.ev hm.tab hs lo) (okO.ev hm.tab hs hi) (okO.ev hm.tab hs mx))
  case fieldAddr t y f' =>
    obtain ⟨r, hr, e⟩ := Option.map_eq h
    cases e
    exact OutN.of hm (fieldAddr_sound hr (ev y))
  case field t y f' =>
    obtain ⟨r, hr, e⟩ := Option.map_eq h
    cases e
    exact OutN.of hm (field_sound hr (ev y))
  case indexAddr t y i =>
    obtain ⟨r, hr, e⟩ := Option.map_eq h
    cases e
    exact OutN.of hm (indexAddr_sound hr (ev y) (ev i))
  case index t y i =>
    obtain ⟨r, hr, e⟩ := Option.map_eq h
    cases e
    exact OutN.of hm (index_sound hr (ev y) (ev i))
  case extract t i =>
    obtain ⟨r, hr, e⟩ := Option.map_eq h
    cases e
    exact OutN.of hm (extract_sound hr (ev t))
  case call c =>
    obtain ⟨callee, args, ts⟩ := c
    cases callee <;> simp only at h <;> try (cases h; done)
    rename_i b
    have hb := fun cs => builtin_sound (ty := ty) (cs := cs) hm hnx h (All.ev hm.tab hs args.toList)
    have e : (args.toList.map a.eval).toArray = args.map a.eval := by apply Array.ext'; simp
    rw [e] at hb
    simp only [execOp, resolve, invoke, Sem.run_bind, Sem.run_pure, Result.andThen_ok]
    simpa using hb _
end
end Go.Proofs.YtbpcgeanpkokkaaDoor
