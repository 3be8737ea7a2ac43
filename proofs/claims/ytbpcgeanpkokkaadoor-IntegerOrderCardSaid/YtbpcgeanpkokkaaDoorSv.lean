/- Closed calls: the symbolic machine as a program, and that what it says holds. -/
import Derived.Test.YtbpcgeanpkokkaaDoorSu
namespace Go.Proofs.YtbpcgeanpkokkaaDoor
open Go.RowKit

abbrev HP := List (Nat × Blk)
/-! ### words that have their argument reckoned first -/
def forceN {R : Type} (n : Nat) (k : Nat → R) : R :=
  match n with
  | .zero => k .zero
  | .succ m => k (.succ m)
theorem forceN_eq {R : Type} (n : Nat) (k : Nat → R) : forceN n k = k n := by cases n <;> rfl
def forceV {R : Type} (x : V) (k : V → R) : R :=
  match x with
  | .sc v => match v with
    | .int kd n => match n with
      | .ofNat m => forceN m fun m => k (.sc (.int kd (.ofNat m)))
      | .negSucc m => forceN m fun m => k (.sc (.int kd (.negSucc m)))
    | .bool b => match b with
      | true => k (.sc (.bool true))
      | false => k (.sc (.bool false))
    | v => k (.sc v)
  | .pt id off => forceN id fun id => forceN off fun off => k (.pt id off)
  | .sl id off len z c => forceN id fun id => forceN off fun off => forceN len fun len => k (.sl id off len z c)
  | x => k x
theorem forceV_eq {R : Type} (x : V) (k : V → R) : forceV x k = k x := by
  unfold forceV
  split
  · split
    · split <;> simp only [forceN_eq]
    · split <;> rfl
    · rfl
  · simp only [forceN_eq]
  · simp only [forceN_eq]
  · rfl
def spine {α R : Type} : List α → (List α → R) → R
  | [], k => k []
  | x :: r, k => spine r fun r' => k (x :: r')
theorem spine_eq {α R : Type} : ∀ (l : List α) (k : List α → R), spine l k = k l
  | [], k => rfl
  | x :: r, k => by rw [spine, spine_eq r]
def delS (t : Nat) : List (Nat × V) → List (Nat × V)
  | [] => []
  | (k, x) :: r => if k = t then r else (k, x) :: delS t r
def delK {R : Type} (t : Nat) : List (Nat × V) → (List (Nat × V) → R) → R
  | [], c => c []
  | (k, x) :: r, c => match Nat.beq k t with
    | true => c r
    | false => delK t r fun r' => c ((k, x) :: r')
theorem delK_eq {R : Type} (t : Nat) : ∀ (l : List (Nat × V)) (c : List (Nat × V) → R), delK t l c = c (delS t l)
  | [], c => rfl
  | (k, x) :: r, c => by
    rw [delK, delS]
    split
    · rename_i h; rw [if_pos (Nat.eq_of_beq_eq_true h)]
    · rename_i h; rw [if_neg (Nat.ne_of_beq_eq_false h), delK_eq t r]
def putT (sl : List (Nat × V)) (d : Option Nat) (x : V) : List (Nat × V) :=
  match d with
  | some d => (d, x) :: delS d sl
  | none => sl
def putK {R : Type} (sl : List (Nat × V)) (d : Option Nat) (x : V) (k : List (Nat × V) → R) : R :=
  match d with
  | some d => forceV x fun x => delK d sl fun r => k ((d, x) :: r)
  | none => k sl
theorem putK_eq {R : Type} (sl : List (Nat × V)) (d : Option Nat) (x : V) (k : List (Nat × V) → R) : putK sl d x k = k (putT sl d x) := by
  cases d with
  | none => rfl
  | some d => simp only [putK, putT, forceV_eq, delK_eq]
def blkK {R : Type} (b : Blk) (k : Blk → R) : R :=
  match b with
  | ⟨ty, cs, fz⟩ => spine cs fun cs => k ⟨ty, cs, fz⟩
theorem blkK_eq {R : Type} (b : Blk) (k : Blk → R) : blkK b k = k b := by cases b; simp only [blkK, spine_eq]
def hsetK {R : Type} : HP → Nat → Blk → (HP → R) → R
  | [], _, _, k => k []
  | (i, q) :: r, t, y, k => match Nat.beq t i with
    | true => k ((i, y) :: r)
    | false => hsetK r t y fun r' => k ((i, q) :: r')
theorem hsetK_eq {R : Type} : ∀ (l : HP) (t : Nat) (y : Blk) (k : HP → R), hsetK l t y k = k (hset l t y)
  | [], t, y, k => rfl
  | (i, q) :: r, t, y, k => by
    rw [hsetK, hset]
    split
    · rename_i h
      have := Nat.eq_of_beq_eq_true h
      subst this; rw [if_pos rfl]
    · rename_i h; rw [if_neg (Nat.ne_of_beq_eq_false h), hsetK_eq r]
def effK {R : Type} (f : Eff) (nx : Nat) (hp : HP) (k : HP → Nat → R) : R :=
  match f with
  | .none => k hp nx
  | .new b => blkK b fun b => forceN nx.succ fun n => k ((nx, b) :: hp) n
  | .set id b => blkK b fun b => hsetK hp id b fun hp' => k hp' nx
  | .app id b => blkK b fun b => spine (hdel hp id) fun hp' => forceN nx.succ fun n => k ((nx, b) :: hp') n
theorem effK_eq {R : Type} (f : Eff) (nx : Nat) (hp : HP) (k : HP → Nat → R) : effK f nx hp k = k (f.heap nx hp) (f.next nx) := by
  cases f <;> simp only [effK, blkK_eq, hsetK_eq, spine_eq, forceN_eq, Eff.heap, Eff.next]
theorem get_delS (t t' : Nat) (h : t' ≠ t) : ∀ l : List (Nat × V), get (delS t l) t' = get l t'
  | [] => rfl
  | (k, x) :: r => by
    simp only [delS]
    split
    · rename_i e; subst e; simp only [get]; rw [if_neg h]
    · simp only [get]; rw [get_delS t t' h r]
theorem get_putT (sl : List (Nat × V)) (d : Option Nat) (x : V) (t : Nat) : get (putT sl d x) t = get (putS sl d x) t := by
  cases d with
  | none => rfl
  | some d =>
    simp only [putT, putS, get]
    by_cases e : t = d
    · rw [if_pos e, if_pos e]
    · rw [if_neg e, if_neg e, get_delS d t e]
/-- the same state, but for slots that lie behind others -/
def SameS (s s' : SS) : Prop := (∀ t, get s.sl t = get s'.sl t) ∧ s.hp = s'.hp ∧ s.nx = s'.nx ∧ s.nt = s'.nt
def SS.putX {R : Type} (s : SS) (d : Option Nat) (x : V) (f : Eff) (k : SS → R) : R :=
  match s with
  | ⟨sl, hp, nx, nt⟩ => putK sl d x fun sl => effK f nx hp fun hp nx => k ⟨sl, hp, nx, nt⟩
theorem putX_eq {R : Type} (s : SS) (d : Option Nat) (x : V) (f : Eff) : ∃ s', SameS s' (s.put d x f) ∧ ∀ k : SS → R, s.putX d x f k = k s' := by
  obtain ⟨sl, hp, nx, nt⟩ := s
  exact ⟨⟨putT sl d x, f.heap nx hp, f.next nx, nt⟩, ⟨fun t => get_putT sl d x t, rfl, rfl, rfl⟩, fun k => by simp only [SS.putX, putK_eq, effK_eq]⟩
def SS.calledX {R : Type} (s : SS) (d : Option Nat) (x : V) (ids : List Nat) (k : SS → R) : R :=
  match s with
  | ⟨sl, hp, nx, nt⟩ => putK sl d x fun sl => match flat x with
    | true => k ⟨sl, hp, nx, nt⟩
    | false => spine (fzHp hp ids) fun hp => k ⟨sl, hp, nx, nt⟩
theorem calledX_eq {R : Type} (s : SS) (d : Option Nat) (x : V) (ids : List Nat) : ∃ s', SameS s' (s.called d x ids) ∧ ∀ k : SS → R, s.calledX d x ids k = k s' := by
  obtain ⟨sl, hp, nx, nt⟩ := s
  refine ⟨⟨putT sl d x, if flat x then hp else fzHp hp ids, nx, nt⟩, ⟨fun t => get_putT sl d x t, rfl, rfl, rfl⟩, fun k => ?_⟩
  simp only [SS.calledX, putK_eq, spine_eq]
  cases flat x <;> rfl
/-- with all that was put -/
def SS.putY {R : Type} (s : SS) (d : Option Nat) (x : V) (f : Eff) (k : SS → R) : R :=
  match s with
  | ⟨sl, hp, nx, nt⟩ => forceV x fun x => effK f nx hp fun hp nx => k ⟨putS sl d x, hp, nx, nt⟩
theorem putY_eq {R : Type} (s : SS) (d : Option Nat) (x : V) (f : Eff) (k : SS → R) : s.putY d x f k = k (s.put d x f) := by
  obtain ⟨sl, hp, nx, nt⟩ := s
  simp only [SS.putY, forceV_eq, effK_eq]; rfl
def SS.calledY {R : Type} (s : SS) (d : Option Nat) (x : V) (ids : List Nat) (k : SS → R) : R :=
  match s with
  | ⟨sl, hp, nx, nt⟩ => match flat x with
    | true => k ⟨putS sl d x, hp, nx, nt⟩
    | false => spine (fzHp hp ids) fun hp => k ⟨putS sl d x, hp, nx, nt⟩
theorem calledY_eq {R : Type} (s : SS) (d : Option Nat) (x : V) (ids : List Nat) (k : SS → R) : s.calledY d x ids k = k (s.called d x ids) := by
  obtain ⟨sl, hp, nx, nt⟩ := s
  simp only [SS.calledY, spine_eq, SS.called]
  cases flat x <;> rfl
def stK {R : Type} : Nat → List V → (List (Nat × V) → R) → R
  | _, [], k => k []
  | n, x :: r, k => forceN n.succ fun m => stK m r fun l => k ((n, x) :: l)
theorem stK_eq {R : Type} : ∀ (n : Nat) (l : List V) (k : List (Nat × V) → R), stK n l k = k (stSl n l)
  | _, [], k => rfl
  | n, x :: r, k => by rw [stK, forceN_eq, stK_eq, stSl]

section
variable (P : Program) (K : Nat → List V → Option V) (inl : Nat → Bool)

def isEnd : Exit → Bool
  | .normal | .ret => true
  | _ => false
/-- a function's run with these own blocks -/
def runF (run : Code → SS → Option (Exit × SS)) (f : Nat) (ys : List V) (hp : HP) (nx : Nat) : Option (V × HP × Nat) :=
  match P.funcs[f]? with
  | some fn =>
    match fn.body with
    | some c =>
      match Nat.ble ys.length fn.ntmps with
      | true =>
        match stK 0 ys fun sl => run c ⟨sl, hp, nx, fn.ntmps⟩ with
        | some (e, s') => match isEnd e with
          | true => (resV P fn s').map fun x => (x, s'.hp, s'.nx)
          | false => none
        | none => none
      | false => none
    | none => none
  | none => none
/-- a function's run by value -/
def runV (run : Code → SS → Option (Exit × SS)) (f : Nat) (ys : List V) : Option V :=
  match K f ys with
  | some x => some x
  | none => match runF P run f ys [] 0 with
    | some (x, hp, _) => (frz 8 hp x).map (·.1)
    | none => none
def callX {R : Type} (run : Code → SS → Option (Exit × SS)) (f : Nat) (ys : List V) (s : SS) (d : Option Nat) (k : SS → Option R) : Option R :=
  match isGo P f with
  | true =>
    match (if inl f then none else frzAll (frz 8 s.hp) ys) with
    | some (zs, ids) => match runV P K run f zs with
      | some x => s.calledX d x ids k
      | none => none
    | none => match runF P run f ys s.hp s.nx with
      | some (x, hp', nx') => putK s.sl d x fun sl => k ⟨sl, hp', nx', s.nt⟩
      | none => none
  | false => none
def runX {R : Type} (ops : Array Oper) (s : SS) (o : Oper) (k : SS → Option R) : Option R :=
  match dstOk o.dst s.nt with
  | true => match guardV ops s.sl o.guard with
    | some true => match exOp P s.sl s.hp s.nx o.op with
      | some (x, f) => s.putX o.dst x f k
      | none => none
    | some false => s.putX o.dst (.tu []) .none k
    | none => none
  | false => none
def opX {R : Type} (run : Code → SS → Option (Exit × SS)) (ops : Array Oper) (s : SS) (o : Oper) (k : SS → Option R) : Option R :=
  match o.op with
  | .call ⟨.value g, args, _⟩ =>
    match dstOk o.dst s.nt with
    | true => match guardV ops s.sl o.guard with
      | some true => match fnOf (evS s.sl g) with
        | some (f, p, q) => callX P K inl run f (p ++ args.toList.map (evS s.sl) ++ q) s o.dst k
        | none => none
      | some false => s.putX o.dst (.tu []) .none k
      | none => none
    | false => none
  | _ => runX P ops s o k
def opsX (run : Code → SS → Option (Exit × SS)) (ops : Array Oper) : List Oper → SS → Option SS
  | [], s => some s
  | o :: l, s => opX P K inl run ops s o (opsX run ops l)
/-- the same in a region that draws its order: calls by value alone -/
def opD {R : Type} (run : Code → SS → Option (Exit × SS)) (ops : Array Oper) (s : SS) (o : Oper) (k : Option Nat × List Nat → V → SS → Option R) : Option R :=
  match dstOk o.dst s.nt with
  | true => match guardV ops s.sl o.guard with
    | some true => match o.op with
      | .call ⟨.value (.func f), args, _⟩ => match isGo P f with
        | true => match frzAll (frz 8 s.hp) (args.toList.map (evS s.sl)) with
          | some (zs, ids) => match runV P K run f zs with
            | some x => s.calledY o.dst x ids (k (none, ids) x)
            | none => none
          | none => none
        | false => none
      | op => match okOp op with
        | true => match exOp P s.sl s.hp s.nx op with
          | some (x, f) => match noApp f with
            | true => s.putY o.dst x f (k (tgE f, rdOf s.sl op ++ crE f s.nx) x)
            | false => none
          | none => none
        | false => none
    | some false => s.putY o.dst (.tu []) .none (k (none, []) (.tu []))
    | none => none
  | false => none
def opsD (run : Code → SS → Option (Exit × SS)) (full : List Oper) : List Oper → List (Option Nat × List Nat) → List (Nat × V) → SS → Option SS
  | [], tr, sl, s => match chkD full tr.reverse with
    | true => some ⟨sl, s.hp, s.nx, s.nt⟩
    | false => none
  | o :: l, tr, sl, s => opD P K run full.toArray s o fun t x s' => putK sl o.dst x fun sl' => opsD run full l (t :: tr) sl' s'
def stepX (ih : Code → SS → Option (Exit × SS)) : Code → SS → Option (Exit × SS)
  | .skip, s => some (.normal, s)
  | .region _ ops false, s => (opsX P K inl ih ops ops.toList s).map (.normal, ·)
  | .region _ ops true, s => if P.follows .mixedOrders && klB s.hp s.nx then (opsD P K ih ops.toList ops.toList [] s.sl s).map (.normal, ·) else none
  | .seq a b, s => match ih a s with
    | some (.normal, s') => ih b s'
    | r => r
  | .cond c x y, s => match evS s.sl c with
    | .sc (.bool b) => match b with
      | true => ih x s
      | false => ih y s
    | _ => none
  | .block id c, s => match ih c s with
    | some (.exit i, s') => if i = id then some (.normal, s') else some (.exit i, s')
    | r => r
  | .loop c, s => match ih c s with
    | some (.normal, s') => ih (.loop c) s'
    | r => r
  | .exit id, s => some (.exit id, s)
  | .scope c, s => match ih c s with
    | some (.goto _, _) => none
    | r => r
  | .label _, s => some (.normal, s)
  | .ret, s => some (.ret, s)
  | _, _ => none
def exX (n : Nat) : Code → SS → Option (Exit × SS) := Nat.rec (fun _ _ => none) (fun _ ih => stepX P K inl ih) n
theorem exX_zero (c : Code) (s : SS) : exX P K inl 0 c s = none := rfl
theorem exX_succ (n : Nat) : exX P K inl (n + 1) = stepX P K inl (exX P K inl n) := rfl
end

section
variable {P : Program} {K : Nat → List V → Option V} {inl : Nat → Bool}

theorem SameS.rel {B : Base} {S : Nat → Prop} {rho : Nat → Nat} {A : Nat → Prop} {s s' : SS} {a : Act} {w : World} (e : SameS s' s) (h : Rel B S rho A s a w) : Rel B S rho A s' a w := by
  obtain ⟨e1, e2, e3, e4⟩ := e
  exact ⟨fun t => by rw [e1]; exact h.slots t, by rw [e2]; exact h.mem, fun id hid => by rw [e3]; exact h.alt id hid, by rw [e4]; exact h.nt, h.defs⟩
theorem SameS.sops {B : Base} {ops : Array Oper} {l : List Oper} {Q : Exit → SS → Prop} {s s' : SS} (e : SameS s' s) (h : SOps P B ops l Q s') : SOps P B ops l Q s := fun S rho A a w hr => h S rho A a w (e.rel hr)
theorem SameS.swp {B : Base} {c : Code} {Q : Exit → SS → Prop} {s s' : SS} (e : SameS s' s) (h : SWp P B c Q s') : SWp P B c Q s := fun S rho A a w hr => h S rho A a w (e.rel hr)

/-- what a run says -/
def Sound (P : Program) (run : Code → SS → Option (Exit × SS)) : Prop := ∀ c s e s', run c s = some (e, s') → ∀ B, SWp P B c (fun e1 s1 => e1 = e ∧ s1 = s') s
def KSound (P : Program) (K : Nat → List V → Option V) : Prop := ∀ f ys x, K f ys = some x → Spec P f ys x

variable {run : Code → SS → Option (Exit × SS)}
theorem runF_parts {f : Nat} {ys : List V} {hp hp' : HP} {nx nx' : Nat} {x : V} (h : runF P run f ys hp nx = some (x, hp', nx')) : ∃ fn c e s', P.funcs[f]? = some fn ∧ fn.body = some c ∧ ys.length ≤ fn.ntmps ∧
    run c ⟨stSl 0 ys, hp, nx, fn.ntmps⟩ = some (e, s') ∧ isEnd e = true ∧ resV P fn s' = some x ∧ s'.hp = hp' ∧ s'.nx = nx' := by
  unfold runF at h
  split at h
  · rename_i fn hf
    split at h
    · rename_i c hb
      split at h
      · rename_i hn
        rw [stK_eq] at h
        split at h
        · rename_i e s' hrun
          split at h
          · rename_i he
            obtain ⟨y, hy, e1⟩ := Option.map_eq h
            simp only [Prod.mk.injEq] at e1
            obtain ⟨rfl, rfl, rfl⟩ := e1
            exact ⟨fn, c, e, s', hf, hb, Nat.le_of_ble_eq_true hn, hrun, he, hy, rfl, rfl⟩
          · cases h
        · cases h
      · cases h
    · cases h
  · cases h
theorem runF_sound (hr : Sound P run) {f : Nat} {ys : List V} {hp hp' : HP} {nx nx' : Nat} {x : V} (h : runF P run f ys hp nx = some (x, hp', nx')) : Inl P f ys hp nx x hp' nx' := by
  obtain ⟨fn, c, e, s', hf, hb, hn, hrun, he, hy, rfl, rfl⟩ := runF_parts h
  refine ⟨fn, c, hf, hb, hn, fun B _ => (hr c _ e s' hrun B).mono ?_⟩
  rintro e1 s1 ⟨rfl, rfl⟩
  cases e1 <;> first | exact ⟨x, hy, Le.refl _ _⟩ | cases he
theorem runV_sound (hr : Sound P run) (hK : KSound P K) {f : Nat} {ys : List V} {x : V} (h : runV P K run f ys = some x) : Spec P f ys x := by
  unfold runV at h
  split at h
  · rename_i hk; cases h; exact hK f ys _ hk
  · split at h
    · rename_i y hp nx' hF
      obtain ⟨⟨z, ids⟩, hz, e⟩ := Option.map_eq h
      cases e
      obtain ⟨fn, c, e, s', hf, hb, hn, hrun, he, hy, rfl, rfl⟩ := runF_parts hF
      refine Spec.of hf hb hn fun B _ => (hr c _ e s' hrun B).mono ?_
      rintro e1 s1 ⟨rfl, rfl⟩
      cases e1 <;> first | exact ⟨y, ids, hy, hz⟩ | cases he
    · cases h

theorem SOps.callV {B : Base} {s : SS} {ops : Array Oper} {Q : Exit → SS → Prop} {o : Oper} {l : List Oper} {g : Operand} {f : Nat} {p q : List V} {args : Array Operand} {ts : Array TypeId} {ys : List V} {ids : List Nat} {x : V} (ho : o.op = .call ⟨.value g, args, ts⟩) (hg : guardV ops s.sl o.guard = some true)
    (hd : dstOk o.dst s.nt = true) (hfn : fnOf (evS s.sl g) = some (f, p, q)) (hgo : isGo P f = true) (hf : frzAll (frz 8 s.hp) (p ++ args.toList.map (evS s.sl) ++ q) = some (ys, ids)) (hs : Spec P f ys x) (k : SOps P B ops l Q (s.called o.dst x ids)) : SOps P B ops (o :: l) Q s := by
  intro S rho A a w hr
  have hw := guard_sound hr.slots hg
  refine wpList_step fun K hK => ?_
  rw [if_pos hw]
  obtain ⟨ps, qs, he, hps, hqs⟩ := fn_sound hfn (ev_sound hr.mem.tab hr.slots g)
  have hall := (hps.append (All.ev hr.mem.tab hr.slots args.toList)).append hqs
  obtain ⟨h1, h2⟩ := frzAll_sound (frz_sound hr.mem 8) hf hall
  have hmf := hr.mem.freeze ids h2
  have hrun : (execOp a.eval o).run P w = .ok (.enter f (ps ++ args.map a.eval ++ qs)) w := by
    simp only [execOp, ho, resolve, he, Deferred.ofValue, Sem.run_bind, Sem.run_pure, Result.andThen_ok, invoke]
    exact callFunc_go hgo _ w
  have hvl : (ps ++ args.map a.eval ++ qs).toList = ps.toList ++ args.toList.map a.eval ++ qs.toList := by simp
  unfold Oper.wp
  rw [hrun]
  refine (hs (addS S rho A ids) w (ps ++ args.map a.eval ++ qs) hmf.slt hmf.tab ⟨by rw [hvl]; exact h1.1, fun i y u hy hu => (h1.2 i y u hy (by rw [← hvl]; exact hu)).rho⟩).mono ?_
  rintro e w' ⟨v, rfl, g, hx⟩
  refine hK _ _ ?_
  have hA : ∀ id, A id → A id ∧ rho id = rho id ∧ ∀ n, szAt w (rho id) n → szAt w' (rho id) n := fun id h => ⟨h, rfl, fun _ => g.szAt⟩
  by_cases hfl : flat x = true
  · have hm' := hr.mem.came g
    refine k (fun b => S b ∨ (w.heap.size ≤ b ∧ b < w'.heap.size)) rho A _ _ ⟨slots_put hr.slots (by rw [hr.nt]; exact hd) (fun b hb => ⟨.inl hb, g.block b (hr.mem.slt b hb)⟩) hA (flat_sound hfl hx.rho.open), ?_, hr.alt, by rw [put_size]; exact hr.nt, by rw [put_defers]; exact hr.defs⟩
    show Mem B _ rho A (if flat x then s.hp else fzHp s.hp ids) w'
    rw [if_pos hfl]; exact hm'
  · have hm' := hmf.came g
    refine k (fun b => addS S rho A ids b ∨ (w.heap.size ≤ b ∧ b < w'.heap.size)) rho A _ _ ⟨slots_put hr.slots (by rw [hr.nt]; exact hd) (fun b hb => ⟨.inl (.inl hb), g.block b (hr.mem.slt b hb)⟩) hA hx.rho.open, ?_, hr.alt, by rw [put_size]; exact hr.nt, by rw [put_defers]; exact hr.defs⟩
    show Mem B _ rho A (if flat x then s.hp else fzHp s.hp ids) w'
    rw [if_neg hfl]; exact hm'

theorem runX_sound {R : Type} {B : Base} {ops : Array Oper} {s : SS} {o : Oper} {l : List Oper} {Q : Exit → SS → Prop} {k : SS → Option R} {r : R} (h : runX P ops s o k = some r) (hk : ∀ s', k s' = some r → SOps P B ops l Q s') : SOps P B ops (o :: l) Q s := by
  unfold runX at h
  split at h
  · rename_i hd
    split at h
    · rename_i hg
      split at h
      · rename_i x f hx
        obtain ⟨s', e1, e2⟩ := putX_eq (R := Option R) s o.dst x f
        rw [e2] at h
        exact SOps.run1 (s' := s.put o.dst x f) (by unfold run1; rw [if_pos hd, hg]; simp only [hx, Option.map_some]) (e1.sops (hk s' h))
      · cases h
    · rename_i hg
      obtain ⟨s', e1, e2⟩ := putX_eq (R := Option R) s o.dst (.tu []) .none
      rw [e2] at h
      exact SOps.run1 (s' := s.put o.dst (.tu []) .none) (by unfold run1; rw [if_pos hd, hg]) (e1.sops (hk s' h))
    · cases h
  · cases h
theorem opX_sound {R : Type} (hr : Sound P run) (hK : KSound P K) {B : Base} {ops : Array Oper} {s : SS} {o : Oper} {l : List Oper} {Q : Exit → SS → Prop} {k : SS → Option R} {r : R} (h : opX P K inl run ops s o k = some r) (hk : ∀ s', k s' = some r → SOps P B ops l Q s') : SOps P B ops (o :: l) Q s := by
  unfold opX at h
  split at h
  · rename_i g args ts ho
    split at h
    · rename_i hd
      split at h
      · rename_i hg
        split at h
        · rename_i f p q hfn
          unfold callX at h
          split at h
          · rename_i hgo
            split at h
            · rename_i zs ids hz
              split at hz
              · cases hz
              · split at h
                · rename_i x hx
                  obtain ⟨s', e1, e2⟩ := calledX_eq (R := Option R) s o.dst x ids
                  rw [e2] at h
                  exact SOps.callV ho hg hd hfn hgo hz (runV_sound hr hK hx) (e1.sops (hk s' h))
                · cases h
            · split at h
              · rename_i x hp' nx' hx
                rw [putK_eq] at h
                exact SOps.inl ho hg hd hfn hgo (runF_sound hr hx) (SameS.sops (s' := ⟨putT s.sl o.dst x, hp', nx', s.nt⟩) ⟨fun t => get_putT s.sl o.dst x t, rfl, rfl, rfl⟩ (hk _ h))
              · cases h
          · cases h
        · cases h
      · rename_i hg
        obtain ⟨s', e1, e2⟩ := putX_eq (R := Option R) s o.dst (.tu []) .none
        rw [e2] at h
        exact SOps.run1 (s' := s.put o.dst (.tu []) .none) (by unfold run1; rw [if_pos hd, hg]) (e1.sops (hk s' h))
      · cases h
    · cases h
  · exact runX_sound h hk

theorem opsX_sound (hr : Sound P run) (hK : KSound P K) {B : Base} {ops : Array Oper} {Q : Exit → SS → Prop} : ∀ {l : List Oper} {s s' : SS}, opsX P K inl run ops l s = some s' → Q .normal s' → SOps P B ops l Q s
  | [], s, s', h, k => by simp only [opsX, Option.some.injEq] at h; subst h; exact SOps.nil k
  | o :: l, s, s', h, k => by
    simp only [opsX] at h
    exact opX_sound hr hK h fun s1 h1 => opsX_sound hr hK h1 k

theorem opD_sound {R : Type} (hr : Sound P run) (hK : KSound P K) {ops : Array Oper} {s : SS} {o : Oper} {k : Option Nat × List Nat → V → SS → Option R} {r : R} (h : opD P K run ops s o k = some r) : ∃ e s', DStep P ops o s e s' ∧ k (pr e) e.x s' = some r := by
  unfold opD at h
  split at h
  · rename_i hd
    split at h
    · rename_i hg
      split at h
      · rename_i f args ts ho
        split at h
        · rename_i hgo
          split at h
          · rename_i zs ids hz
            split at h
            · rename_i x hx
              rw [calledY_eq] at h
              exact ⟨⟨x, none, ids⟩, _, ⟨hd, .inr (.inr ⟨f, args, ts, zs, ho, hg, hgo, hz, runV_sound hr hK hx, rfl, rfl⟩)⟩, h⟩
            · cases h
          · cases h
        · cases h
      · split at h
        · rename_i hok
          split at h
          · rename_i x f hx
            split at h
            · rename_i hna
              rw [putY_eq] at h
              exact ⟨⟨x, tgE f, rdOf s.sl o.op ++ crE f s.nx⟩, _, ⟨hd, .inl ⟨f, hg, hok, hx, rfl, rfl, rfl, hna⟩⟩, h⟩
            · cases h
          · cases h
        · cases h
    · rename_i hg
      rw [putY_eq] at h
      exact ⟨⟨.tu [], none, []⟩, _, ⟨hd, .inr (.inl ⟨hg, rfl, rfl, rfl, rfl⟩)⟩, h⟩
    · cases h
  · cases h
theorem SWp.conv {B : Base} {c : Code} {Q Q' : Exit → SS → Prop} {s : SS} (h : SWp P B c Q s) (hq : ∀ e s1, Q e s1 → ∃ s2, SameS s2 s1 ∧ Q' e s2) : SWp P B c Q' s := by
  intro S rho A a w hr
  refine wp_mono (h S rho A a w hr) ?_
  rintro e a w ⟨S, rho, A, s1, h1, h2⟩
  obtain ⟨s2, h3, h4⟩ := hq e s1 h1
  exact ⟨S, rho, A, s2, h4, h3.rel h2⟩
theorem opsD_sound (hr : Sound P run) (hK : KSound P K) {full : List Oper} : ∀ {l : List Oper} {tr : List (Option Nat × List Nat)} {sl : List (Nat × V)} {s s' : SS}, opsD P K run full l tr sl s = some s' → (∀ t, get sl t = get s.sl t) →
    ∃ es s1, DTr P full.toArray s l es s1 ∧ chkD full (tr.reverse ++ es.map pr) = true ∧ SameS s' s1
  | [], tr, sl, s, s', h, e => by
    simp only [opsD] at h
    split at h
    · rename_i hc; cases h
      exact ⟨[], s, ⟨rfl, rfl⟩, by simpa using hc, e, rfl, rfl, rfl⟩
    · cases h
  | o :: l, tr, sl, s, s', h, e => by
    simp only [opsD] at h
    obtain ⟨en, s1, h1, h2⟩ := opD_sound hr hK h
    rw [putK_eq] at h2
    obtain ⟨es, s2, h3, h4, h5⟩ := opsD_sound hr hK h2 (fun t => by
      rw [get_putT, h1.sl.1]
      cases o.dst with
      | none => exact e t
      | some d => simp only [putS, get]; rw [e])
    exact ⟨en :: es, s2, ⟨en, es, s1, rfl, h1, h3⟩, by simpa using h4, h5⟩

theorem exX_sound (hK : KSound P K) : ∀ n, Sound P (exX P K inl n)
  | 0 => fun c s e s' h => by cases h
  | n + 1 => by
    have ih := exX_sound hK n
    intro c s e s' h B
    rw [exX_succ] at h
    cases c with
    | skip => simp only [stepX, Option.some.injEq, Prod.mk.injEq] at h; obtain ⟨rfl, rfl⟩ := h; exact SWp.skip ⟨rfl, rfl⟩
    | region id ops d =>
      cases d with
      | false =>
        obtain ⟨s1, h1, e1⟩ := Option.map_eq h
        cases e1
        exact SWp.region (l := ops.toList) (opsX_sound ih hK h1 ⟨rfl, rfl⟩)
      | true =>
        simp only [stepX] at h
        split at h
        · rename_i hc
          rw [Bool.and_eq_true] at hc
          obtain ⟨s1, h1, e1⟩ := Option.map_eq h
          cases e1
          obtain ⟨es, s1, k1, k2, k3⟩ := opsD_sound ih hK h1 (fun _ => rfl)
          obtain ⟨st, en, k4, k5, k6⟩ := chk_run (klB_sound hc.2) k1 (by simpa using k2)
          exact SWp.conv (region_draw (id := id) (B := B) (Q := fun e2 s2 => e2 = .normal ∧ s2 = s1) k4 k5 hc.1 ⟨rfl, k6⟩) (by rintro e2 s2 ⟨rfl, rfl⟩; exact ⟨_, k3, rfl, rfl⟩)
        · cases h
    | seq a b =>
      simp only [stepX] at h
      split at h
      · rename_i s1 h1
        refine SWp.seq fun K1 hK1 => (ih a s _ _ h1 B).mono ?_
        rintro e1 s2 ⟨rfl, rfl⟩
        exact hK1 _ (ih b _ _ _ h B)
      · rename_i hne
        refine SWp.seq fun K1 hK1 => (ih a s _ _ h B).mono ?_
        rintro e1 s2 ⟨rfl, rfl⟩
        cases e1 <;> first | exact ⟨rfl, rfl⟩ | exact absurd h (hne _)
    | cond c x y =>
      simp only [stepX] at h
      split at h
      · rename_i b hc
        cases b with
        | true => exact SWp.cond hc (fun _ => ih x s _ _ h B) (fun h => by cases h)
        | false => exact SWp.cond hc (fun h => by cases h) (fun _ => ih y s _ _ h B)
      · cases h
    | block id c =>
      simp only [stepX] at h
      split at h
      · rename_i i s1 h1
        refine SWp.block ((ih c s _ _ h1 B).mono ?_)
        rintro e1 s2 ⟨rfl, rfl⟩
        simp only [blockQ]
        split at h
        · rename_i hi; rw [if_pos hi]; cases h; exact ⟨rfl, rfl⟩
        · rename_i hi; rw [if_neg hi]; cases h; exact ⟨rfl, rfl⟩
      · rename_i hne
        refine SWp.block ((ih c s _ _ h B).mono ?_)
        rintro e1 s2 ⟨rfl, rfl⟩
        cases e1 <;> first | exact ⟨rfl, rfl⟩ | exact absurd h (hne _ _)
    | loop c =>
      refine SWp.loop (α := Nat × SS) (fun x => x.2) (fun x => x.1 ≤ n + 1 ∧ exX P K inl x.1 (.loop c) x.2 = some (e, s')) (fun x => x.1) (n + 1, s) (Le.refl _ _) ⟨Nat.le_refl _, h⟩ ?_
      rintro ⟨m, s1⟩ ⟨hm, hx⟩ K1 hK1
      cases m with
      | zero => cases hx
      | succ m =>
        have ihm : Sound P (exX P K inl m) := by
          rcases Nat.lt_or_eq_of_le (Nat.le_of_succ_le_succ hm) with hlt | heq
          · exact exX_sound hK m
          · rw [heq]; exact ih
        simp only [exX_succ, stepX] at hx
        split at hx
        · rename_i s2 h1
          refine (ihm c s1 _ _ h1 B).mono ?_
          rintro e1 s3 ⟨rfl, rfl⟩
          exact hK1 _ (m, s3) (Le.refl _ _) ⟨by simp only at hm ⊢; omega, hx⟩ (by simp)
        · rename_i hne
          refine (ihm c s1 _ _ hx B).mono ?_
          rintro e1 s3 ⟨rfl, rfl⟩
          cases e1 <;> first | exact ⟨rfl, rfl⟩ | exact absurd hx (hne _)
    | exit id => simp only [stepX, Option.some.injEq, Prod.mk.injEq] at h; obtain ⟨rfl, rfl⟩ := h; exact SWp.exit ⟨rfl, rfl⟩
    | scope c =>
      simp only [stepX] at h
      split at h
      · cases h
      · rename_i hne
        refine SWp.scope ((ih c s _ _ h B).mono ?_)
        rintro e1 s2 ⟨rfl, rfl⟩
        cases e1 <;> first | exact ⟨rfl, rfl⟩ | exact absurd h (hne _ _)
    | label l => simp only [stepX, Option.some.injEq, Prod.mk.injEq] at h; obtain ⟨rfl, rfl⟩ := h; exact SWp.label ⟨rfl, rfl⟩
    | ret => simp only [stepX, Option.some.injEq, Prod.mk.injEq] at h; obtain ⟨rfl, rfl⟩ := h; exact SWp.ret ⟨rfl, rfl⟩
    | _ => cases h

/-- a closed call -/
theorem Spec.eval (hK : KSound P K) (n : Nat) (inl : Nat → Bool) {f : Nat} {ys : List V} {x : V} (h : runV P (fun _ _ => none) (exX P K inl n) f ys = some x) : Spec P f ys x := by
  exact runV_sound (K := fun _ _ => none) (exX_sound hK n) (fun _ _ _ h => by cases h) h
end
end Go.Proofs.YtbpcgeanpkokkaaDoor
