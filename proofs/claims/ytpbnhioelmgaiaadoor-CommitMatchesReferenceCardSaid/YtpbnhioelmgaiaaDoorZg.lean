/- Texts joined: Ck Cl Cm Cn. -/
import Derived.Test.YtpbnhioelmgaiaaDoorZc
import Derived.Test.YtpbnhioelmgaiaaDoorZc
import Derived.Test.YtpbnhioelmgaiaaDoorZf
set_option linter.all false
open Nat renaming reduceEqDiff → zn1, reduceLT → zn2, reduceLeDiff → zn3, reduceAdd → zn4, reduceMul → zn5, reduceSub → zn6, reduceBEq → zn7
open Int renaming reduceToNat → zi1, reducePow → zi2
namespace Go.Proofs.YtpbnhioelmgaiaaDoor
open Go.RowKit
def Wd (x : Int) (n : Nat) : Prop := x = (n : Int) ∧ n < 4294967296
theorem bv32 {n : Nat} (h : n < 4294967296) : (BitVec.ofInt 32 (n : Int)).toNat = n := by
  rw [BitVec.ofInt_natCast, BitVec.toNat_ofNat]; exact Nat.mod_eq_of_lt h
theorem wr32 {n : Nat} (h : n < 4294967296) : IntKind.u32.wrap (n : Int) = n := by
  rw [IntKind.wrap_u32]; omega
def nX (a b : Nat) : Nat := Nat.xor a b
def nA (a b : Nat) : Nat := Nat.land a b
def nO (a b : Nat) : Nat := Nat.lor a b
def nP (a b : Nat) : Nat := Nat.mod (Nat.add a b) 4294967296
def nN (a : Nat) : Nat := Nat.xor 4294967295 a
def nR (n x : Nat) : Nat := Nat.lor (Nat.mod (Nat.mul x (Nat.pow 2 (Nat.sub 32 n))) 4294967296) (Nat.div x (Nat.pow 2 n))
def nS (k x : Nat) : Nat := Nat.div x (Nat.pow 2 k)
def nR3 (i j k x : Nat) : Nat := nX (nX (nR i x) (nR j x)) (nR k x)
def nR2 (i j k x : Nat) : Nat := nX (nX (nR i x) (nR j x)) (nS k x)
section
variable {x y : Int} {m n : Nat}
theorem Wd.xor (hx : Wd x m) (hy : Wd y n) : Wd (bits .xor .u32 x y) (nX m n) := by
  obtain ⟨rfl, hm⟩ := hx; obtain ⟨rfl, hn⟩ := hy
  have hl : m ^^^ n < 2 ^ 32 := Nat.xor_lt_two_pow hm hn
  refine ⟨?_, hl⟩
  show IntKind.u32.wrap ((BitVec.ofInt 32 (m : Int) ^^^ BitVec.ofInt 32 (n : Int)).toNat : Int) = ((m ^^^ n : Nat) : Int)
  rw [BitVec.toNat_xor, bv32 hm, bv32 hn]; exact wr32 hl
theorem Wd.and (hx : Wd x m) (hy : Wd y n) : Wd (bits .and .u32 x y) (nA m n) := by
  obtain ⟨rfl, hm⟩ := hx; obtain ⟨rfl, hn⟩ := hy
  have hl : m &&& n < 2 ^ 32 := Nat.and_lt_two_pow m hn
  refine ⟨?_, hl⟩
  show IntKind.u32.wrap ((BitVec.ofInt 32 (m : Int) &&& BitVec.ofInt 32 (n : Int)).toNat : Int) = ((m &&& n : Nat) : Int)
  rw [BitVec.toNat_and, bv32 hm, bv32 hn]; exact wr32 hl
theorem Wd.or (hx : Wd x m) (hy : Wd y n) : Wd (bits .or .u32 x y) (nO m n) := by
  obtain ⟨rfl, hm⟩ := hx; obtain ⟨rfl, hn⟩ := hy
  have hl : m ||| n < 2 ^ 32 := Nat.or_lt_two_pow hm hn
  refine ⟨?_, hl⟩
  show IntKind.u32.wrap ((BitVec.ofInt 32 (m : Int) ||| BitVec.ofInt 32 (n : Int)).toNat : Int) = ((m ||| n : Nat) : Int)
  rw [BitVec.toNat_or, bv32 hm, bv32 hn]; exact wr32 hl
theorem Wd.add (hx : Wd x m) (hy : Wd y n) : Wd (wP x y) (nP m n) := by
  obtain ⟨rfl, hm⟩ := hx; obtain ⟨rfl, hn⟩ := hy
  refine ⟨?_, Nat.mod_lt _ (by decide)⟩
  show ((m : Int) + n) % 4294967296 = (((m + n) % 4294967296 : Nat) : Int)
  omega
theorem Wd.max : Wd 4294967295 4294967295 := ⟨rfl, by decide⟩
theorem Wd.shr (hx : Wd x m) (k : Nat) : Wd (x / 2 ^ k) (nS k m) := by
  obtain ⟨rfl, hm⟩ := hx
  refine ⟨?_, Nat.lt_of_le_of_lt (Nat.div_le_self _ _) hm⟩
  show (m : Int) / 2 ^ k = ((m / 2 ^ k : Nat) : Int)
  rw [Int.natCast_ediv, Int.natCast_pow]; rfl
theorem Wd.ror (hx : Wd x m) (k : Nat) : Wd (ror k x) (nR k m) := by
  refine Wd.or ?_ (hx.shr k)
  obtain ⟨rfl, hm⟩ := hx
  refine ⟨?_, Nat.mod_lt _ (by decide)⟩
  show (m : Int) * 2 ^ (32 - k) % 4294967296 = ((m * 2 ^ (32 - k) % 4294967296 : Nat) : Int)
  rw [Int.natCast_emod, Int.natCast_mul, Int.natCast_pow]; rfl
theorem Wd.r3 (hx : Wd x m) (i j k : Nat) : Wd (rot3 i j k x) (nR3 i j k m) := ((hx.ror i).xor (hx.ror j)).xor (hx.ror k)
theorem Wd.r2 (hx : Wd x m) (i j k : Nat) : Wd (rot2s i j k x) (nR2 i j k m) := ((hx.ror i).xor (hx.ror j)).xor (hx.shr k)
end
structure N8 where
  a : Nat
  b : Nat
  c : Nat
  d : Nat
  e : Nat
  f : Nat
  g : Nat
  h : Nat
structure W8 (s : St8) (n : N8) : Prop where
  a : Wd s.a n.a
  b : Wd s.b n.b
  c : Wd s.c n.c
  d : Wd s.d n.d
  e : Wd s.e n.e
  f : Wd s.f n.f
  g : Wd s.g n.g
  h : Wd s.h n.h
def rndF {R : Type} (s : N8) (c w : Nat) (k : N8 → R) : R :=
  forceN (nP (nP (nP (nP s.h (nR3 6 11 25 s.e)) (nX (nA s.e s.f) (nA (nN s.e) s.g))) c) w) fun u =>
  forceN (nP (nR3 2 13 22 s.a) (nX (nX (nA s.a s.b) (nA s.a s.c)) (nA s.b s.c))) fun v =>
  forceN (nP u v) fun a => forceN (nP s.d u) fun e => k ⟨a, s.a, s.b, s.c, e, s.e, s.f, s.g⟩
theorem rndF_s {R : Type} {s : St8} {n : N8} {x y : Int} {c w : Nat} (h : W8 s n) (hx : Wd x c) (hy : Wd y w) (k : N8 → R) : ∃ n', rndF n c w k = k n' ∧ W8 (rnd s x y) n' := by
  simp only [rndF, forceN_eq]
  refine ⟨_, rfl, ?_⟩
  have hu : Wd (tU s x y) (nP (nP (nP (nP n.h (nR3 6 11 25 n.e)) (nX (nA n.e n.f) (nA (nN n.e) n.g))) c) w) := (((h.h.add (h.e.r3 6 11 25)).add ((h.e.and h.f).xor ((Wd.max.xor h.e).and h.g))).add hx).add hy
  have hv : Wd (tV s) (nP (nR3 2 13 22 n.a) (nX (nX (nA n.a n.b) (nA n.a n.c)) (nA n.b n.c))) := (h.a.r3 2 13 22).add (((h.a.and h.b).xor (h.a.and h.c)).xor (h.b.and h.c))
  exact ⟨hu.add hv, h.a, h.b, h.c, h.d.add hu, h.e, h.f, h.g⟩
def be4N (a b c d : Nat) : Nat := nO (nO (nO (Nat.mul a 16777216) (Nat.mul b 65536)) (Nat.mul c 256)) d
def wordF (b w : List Nat) (t : Nat) : Nat :=
  match Nat.blt t 16 with
  | true => be4N (b.getD (Nat.mul 4 t) 0) (b.getD (Nat.add (Nat.mul 4 t) 1) 0) (b.getD (Nat.add (Nat.mul 4 t) 2) 0) (b.getD (Nat.add (Nat.mul 4 t) 3) 0)
  | false => nP (nP (nP (w.getD 15 0) (nR2 7 18 3 (w.getD 14 0))) (w.getD 6 0)) (nR2 17 19 10 (w.getD 1 0))
def zs (l : List Nat) : List Int := l.map fun n : Nat => (n : Int)
theorem zs_getD (l : List Nat) (i : Nat) : (zs l).getD i 0 = ((l.getD i 0 : Nat) : Int) := by
  unfold zs
  rw [List.getD_eq_getElem?_getD, List.getD_eq_getElem?_getD, List.getElem?_map]
  cases l[i]? <;> rfl
theorem getD_lt {l : List Nat} {m : Nat} (h : ∀ n ∈ l, n < m) (hm : 0 < m) (i : Nat) : l.getD i 0 < m := by
  by_cases hi : i < l.length
  · exact h _ (getDm hi)
  · rw [List.getD_eq_getElem?_getD, List.getElem?_eq_none (by omega)]; exact hm
theorem sch_pre (b : List Int) : ∀ n t, t < n → (sch b n).getD t 0 = schN b (sch b t) t
  | n + 1, t, h => by
    rw [sch]
    by_cases e : t < n
    · rw [← sch_pre b n t e, List.getD_eq_getElem?_getD, List.getElem?_append_left (by rw [sch_len]; exact e), List.getD_eq_getElem?_getD]
    · have e2 : t = n := by omega
      subst e2
      rw [List.getD_eq_getElem?_getD, List.getElem?_append_right (by rw [sch_len]; omega), sch_len, Nat.sub_self]; rfl
def kTn : List Nat := kT.map Int.toNat
theorem kTn_zs : zs kTn = kT := by decide +kernel
theorem kTn_lt : ∀ n ∈ kTn, n < 4294967296 := by decide +kernel
def goF {R : Type} (b : List Nat) (k : N8 → R) : List Nat → Nat → List Nat → N8 → R
  | [], _, _, s => k s
  | c :: K, t, w, s => forceN (wordF b w t) fun x => rndF s c x fun s => forceN t.succ fun t => goF b k K t (x :: w) s
theorem wordF_s {b w : List Nat} {t : Nat} (hb : ∀ n ∈ b, n < 256) (hw : zs w = (sch (zs b) t).reverse) (hw2 : ∀ n ∈ w, n < 4294967296) : Wd (schN (zs b) (sch (zs b) t) t) (wordF b w t) := by
  unfold schN wordF
  have hr : ∀ i, i < t → (sch (zs b) t).getD (t - (i + 1)) 0 = ((w.getD i 0 : Nat) : Int) := by
    intro i hi
    rw [← zs_getD, hw, List.getD_eq_getElem?_getD, List.getD_eq_getElem?_getD, List.getElem?_reverse (by rw [sch_len]; exact hi), sch_len, show t - 1 - i = t - (i + 1) by omega]
  by_cases h : t < 16
  · rw [if_pos h, show Nat.blt t 16 = true by rw [Nat.blt_eq]; exact h]
    have hg := getD_lt hb (by decide)
    simp only [zs_getD]
    have w1 : ∀ i, Wd ((b.getD i 0 : Nat) : Int) (b.getD i 0) := fun i => ⟨rfl, Nat.lt_trans (hg i) (by decide)⟩
    have w2 : ∀ i c : Nat, c * 256 ≤ 4294967296 → Wd (((b.getD i 0 : Nat) : Int) * (c : Int)) (Nat.mul (b.getD i 0) c) := fun i c hc => ⟨by rw [← Int.natCast_mul]; rfl, by
      show b.getD i 0 * c < _
      have h1 := hg i
      have h2 : b.getD i 0 * c ≤ 255 * c := Nat.mul_le_mul_right c (by omega)
      omega⟩
    exact (((w2 _ 16777216 (by omega)).or (w2 _ 65536 (by omega))).or (w2 _ 256 (by omega))).or (w1 _)
  · rw [if_neg h, show Nat.blt t 16 = false by rw [← Bool.not_eq_true, Nat.blt_eq]; exact h]
    have hg := getD_lt hw2 (by decide)
    rw [hr 15 (by omega), hr 14 (by omega), hr 6 (by omega), hr 1 (by omega)]
    have w1 : ∀ i, Wd ((w.getD i 0 : Nat) : Int) (w.getD i 0) := fun i => ⟨rfl, hg i⟩
    exact ((((w1 15).add ((w1 14).r2 7 18 3)).add (w1 6)).add ((w1 1).r2 17 19 10))
theorem goF_s {R : Type} {b : List Nat} (hb : ∀ n ∈ b, n < 256) (s0 : St8) (k : N8 → R) : ∀ (K : List Nat) (t : Nat) (w : List Nat) (s : N8), K = kTn.drop t → t + K.length = 64 → zs w = (sch (zs b) t).reverse → (∀ n ∈ w, n < 4294967296) → W8 (rnds kT (sch (zs b) 64) s0 t) s →
    ∃ s', goF b k K t w s = k s' ∧ W8 (rnds kT (sch (zs b) 64) s0 64) s'
  | [], t, w, s, _, h2, _, _, h5 => ⟨s, rfl, by rw [List.length_nil] at h2; rw [show t = 64 by omega] at h5; exact h5⟩
  | c :: K, t, w, s, h1, h2, h3, h4, h5 => by
    rw [List.length_cons] at h2
    have hx := wordF_s hb h3 h4
    have hc : kTn.getD t 0 = c := by
      rw [List.getD_eq_getElem?_getD]
      have : (kTn.drop t)[0]? = some c := by rw [← h1]; rfl
      rw [List.getElem?_drop, Nat.add_zero] at this
      rw [this]; rfl
    have hcw : Wd (kT.getD t 0) c := by
      rw [← kTn_zs, zs_getD, hc]
      exact ⟨rfl, by rw [← hc]; exact getD_lt kTn_lt (by decide) t⟩
    simp only [goF, forceN_eq]
    obtain ⟨s1, e1, e2⟩ := rndF_s h5 hcw hx fun s => goF b k K t.succ (wordF b w t :: w) s
    rw [e1]
    refine goF_s hb s0 k K (t + 1) _ s1 ?_ (by omega) ?_ ?_ ?_
    · rw [← List.tail_drop, ← h1]; rfl
    · rw [sch, List.reverse_append]
      show ((wordF b w t : Nat) : Int) :: zs w = _
      rw [h3, hx.1]; rfl
    · intro n hn
      rcases List.mem_cons.1 hn with rfl | hn
      · exact hx.2
      · exact h4 n hn
    · rw [rnds, sch_pre _ 64 t (by omega)]; exact e2
def addF {R : Type} (s r : N8) (k : N8 → R) : R :=
  forceN (nP s.a r.a) fun a => forceN (nP s.b r.b) fun b => forceN (nP s.c r.c) fun c => forceN (nP s.d r.d) fun d => forceN (nP s.e r.e) fun e => forceN (nP s.f r.f) fun f => forceN (nP s.g r.g) fun g => forceN (nP s.h r.h) fun h => k ⟨a, b, c, d, e, f, g, h⟩
def blkF {R : Type} (b : List Nat) (h : N8) (k : N8 → R) : R := goF b (fun r => addF h r k) kTn 0 [] h
theorem blkF_s {R : Type} {b : List Nat} {s : St8} {h : N8} (hb : ∀ n ∈ b, n < 256) (hh : W8 s h) (k : N8 → R) : ∃ h', blkF b h k = k h' ∧ W8 (cmp8 (zs b) s) h' := by
  obtain ⟨r, e1, e2⟩ := goF_s hb s (fun r => addF h r k) kTn 0 [] h rfl rfl rfl (fun n hn => by cases hn) hh
  refine ⟨_, e1.trans (by simp only [addF, forceN_eq]; rfl), ?_⟩
  exact ⟨hh.a.add e2.a, hh.b.add e2.b, hh.c.add e2.c, hh.d.add e2.d, hh.e.add e2.e, hh.f.add e2.f, hh.g.add e2.g, hh.h.add e2.h⟩
def hashF {R : Type} (k : N8 → R) : Nat → List Nat → N8 → R
  | 0, _, h => k h
  | m + 1, P, h => spine (P.take 64) fun b => blkF b h fun h => spine (P.drop 64) fun P => hashF k m P h
theorem hashF_s {R : Type} (k : N8 → R) {P : List Nat} (hP : ∀ n ∈ P, n < 256) : ∀ (m i : Nat) (h : N8), W8 (hashN (zs P) i) h → ∃ h', hashF k m (P.drop (64 * i)) h = k h' ∧ W8 (hashN (zs P) (i + m)) h'
  | 0, i, h, hh => ⟨h, rfl, hh⟩
  | m + 1, i, h, hh => by
    simp only [hashF, spine_eq]
    obtain ⟨h1, e1, e2⟩ := blkF_s (b := (P.drop (64 * i)).take 64) (fun n hn => hP n (List.mem_of_mem_drop (List.mem_of_mem_take hn))) hh fun h => hashF k m ((P.drop (64 * i)).drop 64) h
    rw [e1]
    have e3 : zs ((P.drop (64 * i)).take 64) = blockAt (zs P) i := by unfold zs blockAt; rw [List.map_take, List.map_drop]
    rw [e3] at e2
    have e4 : (P.drop (64 * i)).drop 64 = P.drop (64 * (i + 1)) := by rw [List.drop_drop, show 64 * i + 64 = 64 * (i + 1) by omega]
    rw [e4]
    obtain ⟨h2, f1, f2⟩ := hashF_s k hP m (i + 1) h1 e2
    exact ⟨h2, f1, by rw [show i + (m + 1) = i + 1 + m by omega]; exact f2⟩
def st0N : N8 := ⟨1779033703, 3144134277, 1013904242, 2773480762, 1359893119, 2600822924, 528734635, 1541459225⟩
theorem st0N_s : W8 st0 st0N := ⟨⟨rfl, by decide⟩, ⟨rfl, by decide⟩, ⟨rfl, by decide⟩, ⟨rfl, by decide⟩, ⟨rfl, by decide⟩, ⟨rfl, by decide⟩, ⟨rfl, by decide⟩, ⟨rfl, by decide⟩⟩
def w4F {R : Type} (x : Nat) (k : List Nat → R) : R :=
  forceN (Nat.mod (Nat.div x 16777216) 256) fun a => forceN (Nat.mod (Nat.div x 65536) 256) fun b => forceN (Nat.mod (Nat.div x 256) 256) fun c => forceN (Nat.mod x 256) fun d => k [a, b, c, d]
theorem w4F_s {R : Type} (x : Nat) (k : List Nat → R) : ∃ l, w4F x k = k l ∧ zs l = w4 (x : Int) := by
  simp only [w4F, forceN_eq]
  refine ⟨_, rfl, ?_⟩
  show [(((x / 16777216 % 256 : Nat)) : Int), ((x / 65536 % 256 : Nat) : Int), ((x / 256 % 256 : Nat) : Int), ((x % 256 : Nat) : Int)] = [_, _, _, _]
  simp only [List.cons.injEq, and_true]
  refine ⟨?_, ?_, ?_, ?_⟩ <;> omega
theorem zs_app (a b : List Nat) : zs (a ++ b) = zs a ++ zs b := by simp [zs]
def digF {R : Type} (s : N8) (k : List Nat → R) : R :=
  w4F s.a fun a => w4F s.b fun b => w4F s.c fun c => w4F s.d fun d => w4F s.e fun e => w4F s.f fun f => w4F s.g fun g => w4F s.h fun h => spine (a ++ b ++ c ++ d ++ e ++ f ++ g ++ h) k
theorem digF_s {R : Type} {s : St8} {n : N8} (hh : W8 s n) (k : List Nat → R) : ∃ l, digF n k = k l ∧ zs l = digL s := by
  unfold digF
  obtain ⟨a, e1, f1⟩ := w4F_s n.a fun a => w4F n.b fun b => w4F n.c fun c => w4F n.d fun d => w4F n.e fun e => w4F n.f fun f => w4F n.g fun g => w4F n.h fun h => spine (a ++ b ++ c ++ d ++ e ++ f ++ g ++ h) k
  rw [e1]
  obtain ⟨b, e2, f2⟩ := w4F_s n.b fun b => w4F n.c fun c => w4F n.d fun d => w4F n.e fun e => w4F n.f fun f => w4F n.g fun g => w4F n.h fun h => spine (a ++ b ++ c ++ d ++ e ++ f ++ g ++ h) k
  rw [e2]
  obtain ⟨c, e3, f3⟩ := w4F_s n.c fun c => w4F n.d fun d => w4F n.e fun e => w4F n.f fun f => w4F n.g fun g => w4F n.h fun h => spine (a ++ b ++ c ++ d ++ e ++ f ++ g ++ h) k
  rw [e3]
  obtain ⟨d, e4, f4⟩ := w4F_s n.d fun d => w4F n.e fun e => w4F n.f fun f => w4F n.g fun g => w4F n.h fun h => spine (a ++ b ++ c ++ d ++ e ++ f ++ g ++ h) k
  rw [e4]
  obtain ⟨e, e5, f5⟩ := w4F_s n.e fun e => w4F n.f fun f => w4F n.g fun g => w4F n.h fun h => spine (a ++ b ++ c ++ d ++ e ++ f ++ g ++ h) k
  rw [e5]
  obtain ⟨f, e6, f6⟩ := w4F_s n.f fun f => w4F n.g fun g => w4F n.h fun h => spine (a ++ b ++ c ++ d ++ e ++ f ++ g ++ h) k
  rw [e6]
  obtain ⟨g, e7, f7⟩ := w4F_s n.g fun g => w4F n.h fun h => spine (a ++ b ++ c ++ d ++ e ++ f ++ g ++ h) k
  rw [e7]
  obtain ⟨h, e8, f8⟩ := w4F_s n.h fun h => spine (a ++ b ++ c ++ d ++ e ++ f ++ g ++ h) k
  rw [e8, spine_eq]
  refine ⟨_, rfl, ?_⟩
  simp only [zs_app, f1, f2, f3, f4, f5, f6, f7, f8, ← hh.a.1, ← hh.b.1, ← hh.c.1, ← hh.d.1, ← hh.e.1, ← hh.f.1, ← hh.g.1, ← hh.h.1]
  rfl
def padN (b : List Nat) (p : List Nat) : List Nat := b ++ [128] ++ List.replicate (padZ b.length) 0 ++ p
def sumF {R : Type} (b : List Nat) (k : List Nat → R) : R :=
  w4F (Nat.div (Nat.mul 8 b.length) 4294967296) fun p => w4F (Nat.mod (Nat.mul 8 b.length) 4294967296) fun q => spine (padN b (p ++ q)) fun P => forceN (Nat.div P.length 64) fun m => hashF (fun h => digF h k) m P st0N
theorem sumF_s {R : Type} {b : List Nat} (hb : ∀ n ∈ b, n < 256) (k : List Nat → R) : ∃ l, sumF b k = k l ∧ zs l = sumL (zs b) := by
  unfold sumF
  obtain ⟨p, e1, f1⟩ := w4F_s (Nat.div (Nat.mul 8 b.length) 4294967296) fun p => w4F (Nat.mod (Nat.mul 8 b.length) 4294967296) fun q => spine (padN b (p ++ q)) fun P => forceN (Nat.div P.length 64) fun m => hashF (fun h => digF h k) m P st0N
  rw [e1]
  obtain ⟨q, e2, f2⟩ := w4F_s (Nat.mod (Nat.mul 8 b.length) 4294967296) fun q => spine (padN b (p ++ q)) fun P => forceN (Nat.div P.length 64) fun m => hashF (fun h => digF h k) m P st0N
  rw [e2]
  simp only [spine_eq, forceN_eq]
  have hlz : (zs b).length = b.length := by simp [zs]
  have hpad : zs (padN b (p ++ q)) = padL (zs b) := by
    unfold padN padL n8b
    rw [hlz]
    have g1 : ((Nat.div (Nat.mul 8 b.length) 4294967296 : Nat) : Int) = 8 * (b.length : Int) / 4294967296 := by
      show ((8 * b.length / 4294967296 : Nat) : Int) = _
      omega
    have g2 : ((Nat.mod (Nat.mul 8 b.length) 4294967296 : Nat) : Int) = 8 * (b.length : Int) % 4294967296 := by
      show ((8 * b.length % 4294967296 : Nat) : Int) = _
      omega
    rw [zs_app, zs_app, zs_app, zs_app, f1, f2, g1, g2]
    congr 2
    unfold zs; rw [List.map_replicate]; rfl
  have hlt : ∀ n ∈ padN b (p ++ q), n < 256 := by
    intro n hn
    have : (n : Int) ∈ padL (zs b) := by rw [← hpad]; exact List.mem_map.2 ⟨n, hn, rfl⟩
    have hu : U8s (zs b) := by
      intro x hx
      obtain ⟨m, hm, rfl⟩ := List.mem_map.1 hx
      have := hb m hm
      omega
    have := padL_u8 hu _ this
    omega
  generalize padN b (p ++ q) = P at *
  have hlP : P.length = (padL (zs b)).length := by rw [← hpad]; simp [zs]
  obtain ⟨h, e3, f3⟩ := hashF_s (fun h => digF h k) hlt (Nat.div P.length 64) 0 st0N st0N_s
  rw [Nat.mul_zero, List.drop_zero] at e3
  rw [e3]
  obtain ⟨l, e4, f4⟩ := digF_s f3 k
  refine ⟨l, e4, ?_⟩
  rw [f4, Nat.zero_add, hpad]
  unfold sumL
  rw [← hlP]; rfl
example : sumF [97, 98, 99] (fun l => l) = [0xba, 0x78, 0x16, 0xbf, 0x8f, 0x01, 0xcf, 0xea, 0x41, 0x41, 0x40, 0xde, 0x5d, 0xae, 0x22, 0x23, 0xb0, 0x03, 0x61, 0xa3, 0x96, 0x17, 0x7a, 0x9c, 0xb4, 0x10, 0xff, 0x61, 0xf2, 0x00, 0x15, 0xad] := by kernel_rfl
end Go.Proofs.YtpbnhioelmgaiaaDoor
namespace Go.Proofs.YtpbnhioelmgaiaaDoor
open Go.RowKit
def unB : List V → Option (List Nat)
  | .sc (.int .u8 (.ofNat n)) :: r => match Nat.blt n 256 with
    | true => (unB r).map fun l => n :: l
    | false => none
  | [] => some []
  | _ => none
theorem unB_s : ∀ {cs : List V} {l : List Nat}, unB cs = some l → cs = bw (zs l) ∧ ∀ n ∈ l, n < 256 := by
  intro cs
  induction cs using unB.induct with
  | case1 n r hn ih =>
    intro l h
    rw [unB, hn] at h
    cases hr : unB r with
    | none => rw [hr] at h; cases h
    | some t =>
      rw [hr] at h
      cases h
      obtain ⟨h1, h2⟩ := ih hr
      refine ⟨by rw [h1]; rfl, fun m hm => ?_⟩
      rcases List.mem_cons.1 hm with rfl | hm
      · rw [Nat.blt_eq] at hn; exact hn
      · exact h2 m hm
  | case2 n r hn =>
    intro l h
    rw [unB, hn] at h; cases h
  | case3 => intro l h; cases h; exact ⟨rfl, fun _ h => by cases h⟩
  | case4 t h1 h2 =>
    intro l h
    rw [unB] at h
    · cases h
    · exact h1
    · exact h2
def sanK (f : Nat) (ys : List V) : Option V :=
  match Nat.beq f 7 with
  | true => match ys with
    | [.im cs n] => match unB cs with
      | some b => match Nat.beq n b.length && Nat.ble n 10000 with
        | true => sumF b fun l => spine (bw (zs l)) fun cs => some (.ag cs)
        | false => none
      | none => none
    | _ => none
  | false => none
theorem sanK_s : KSound Tryd.prog sanK := by
  intro f ys x h
  unfold sanK at h
  split at h
  · rename_i e
    have e := Nat.eq_of_beq_eq_true e
    subst e
    split at h
    · rename_i cs n
      split at h
      · rename_i b hb
        obtain ⟨rfl, hlt⟩ := unB_s hb
        split at h
        · rename_i hc
          rw [Bool.and_eq_true] at hc
          have e1 := Nat.eq_of_beq_eq_true hc.1
          have e2 := Nat.le_of_ble_eq_true hc.2
          obtain ⟨l, h1, h2⟩ := sumF_s hlt fun l => spine (bw (zs l)) fun cs => some (V.ag cs)
          rw [h1, spine_eq, h2] at h
          cases h
          have hz : (zs b).length = b.length := by simp [zs]
          have := sum_s (b := zs b) (by omega) (fun x hx => by
            obtain ⟨m, hm, rfl⟩ := List.mem_map.1 hx
            have := hlt m hm
            omega)
          rw [hz, ← e1] at this
          exact this
        · cases h
      · cases h
    · cases h
  · cases h
def sanI (f : Nat) : Bool := [22, 38, 29, 30, 40, 41, 66].contains f
end Go.Proofs.YtpbnhioelmgaiaaDoor
namespace Go.Proofs.YtpbnhioelmgaiaaDoor
open Go.RowKit
theorem isIntT3 : isIntT Tryd.prog 3 = true := by kernel_rfl
set_option maxHeartbeats 4000000 in
theorem grow_q {n : Int} (nx : Nat) (h0 : 0 < n) (h1 : n ≤ 1000000) : InlQ Tryd.prog 66 [.sc (.slice none 0 0), .sc (.int .i64 n)] [] nx (fun y hp' nx' => ∃ C, C.all clo = true ∧ y = .sl nx 0 0 1 none ∧ hp' = [(nx, ⟨5, C, false⟩)] ∧ nx' = nx + 1) := by
  have q1 : decide (n < 0) = false := decide_eq_false (by omega)
  have q2 : decide (n > 0) = true := decide_eq_true h0
  have q3 : decide (0 < n) = true := decide_eq_true h0
  have i3 := isIntT3
  have z0 : (0 : Int) - ((0 : Nat) : Int) = 0 := rfl
  have z1 : ((0 : Nat) : Int) = 0 := rfl
  have hl : n.toNat ≠ 0 := by omega
  refine InlQ.run Tryd.func66 rfl Tryd.ntmps66 (by simp) (by simp (disch := omega) only [go_sem, ↓reduceIte, zn1, zn2, zn3, zn4, zn5, zn6, reduceCtorEq, zn7, zi1, zi2, if_pos, if_neg]; rfl) fun B hB => ?_
  (repeat (first | refine DO.nil (by kernel_rfl) ?_ | (with_reducible first | apply oz1 | apply oz2 | apply oz3 | apply oz4 | apply oz5 | apply oz6 | apply oz7 | apply oz8 | apply oz9 | apply ozb | apply ozc | apply oze | apply ozf | apply ozg | apply ozh | apply ozi | apply ozj | apply ozk | refine ozd (by decide) ?_) | ((first | apply SO.call | apply DO.call); (iterate 3 (focus (simp (disch := omega) only [go_sem, ↓reduceIte, zn1, zn2, zn3, zn4, zn5, zn6, reduceCtorEq, zn7, zi1, zi2, if_pos, if_neg, q1, q2, q3, i3, z0, z1, Int.toNat_zero, Int.sub_zero, reps_one, Nat.mul_one, Nat.one_mul, Int.one_mul, List.length_replicate] <;> rfl))); (first | apply SCall.ofX | apply DCall.ofX); (focus (first | assumption)); (focus (simp (disch := omega) only [go_sem, ↓reduceIte, zn1, zn2, zn3, zn4, zn5, zn6, reduceCtorEq, zn7, zi1, zi2, if_pos, if_neg, q1, q2, q3, i3, z0, z1, Int.toNat_zero, Int.sub_zero, reps_one, Nat.mul_one, Nat.one_mul, Int.one_mul, List.length_replicate] <;> rfl))) | ((with_reducible first | apply SC.condB | apply SC.region | apply SO.run | apply DO.run); (focus (simp (disch := omega) only [go_sem, ↓reduceIte, zn1, zn2, zn3, zn4, zn5, zn6, reduceCtorEq, zn7, zi1, zi2, if_pos, if_neg, q1, q2, q3, i3, z0, z1, Int.toNat_zero, Int.sub_zero, reps_one, Nat.mul_one, Nat.one_mul, Int.one_mul, List.length_replicate] <;> rfl)); (first | refine pickT ?_ | refine pickF ?_ | fail_if_success with_reducible refine pickA ?_)) | ((with_reducible refine SC.draw Tab.mixed ?_ ?_); (focus (first | rfl | simp (disch := omega) only [go_sem, ↓reduceIte, zn1, zn2, zn3, zn4, zn5, zn6, reduceCtorEq, zn7, zi1, zi2, if_pos, if_neg, q1, q2, q3, i3, z0, z1, Int.toNat_zero, Int.sub_zero, reps_one, Nat.mul_one, Nat.one_mul, Int.one_mul, List.length_replicate]))) | (with_reducible apply SC.ops) | (with_reducible apply SR.next) | refine SC.loopN 4 ?_))
  refine retIQ_ret (.sl nx 0 0 1 none) [(nx, ⟨5, List.replicate n.toNat (.sc (.int .u8 0)), false⟩)] (nx + 1) Tryd.results66 (by simp (disch := omega) only [go_sem, ↓reduceIte, zn1, zn2, zn3, zn4, zn5, zn6, reduceCtorEq, zn7, zi1, zi2, if_pos, if_neg]; rfl) ⟨_, by simp [clo], rfl, rfl, rfl⟩ ?_
  (refine Le.slots ?_ ?_ ?_ <;> (repeat' (first | (exact fun _ _ h => h) | exact Nat.le_refl _ | exact leSl_nil | refine leSl_cons (by simp (disch := omega) only [go_sem, ↓reduceIte, zn1, zn2, zn3, zn4, zn5, zn6, reduceCtorEq, zn7, zi1, zi2, if_pos, if_neg] <;> rfl) ?_ ?_ | exact VLe.junk _ | exact VLe.refl rfl | exact VLe.nil_sl _ _ _ | exact VLe.int (by first | rfl | omega | (dsimp only; omega)) | exact VLe.bool rfl | exact VLe.sl rfl (by first | rfl | omega) | exact VLe.cap rfl (by first | rfl | omega) | exact VLe.im rfl rfl | omega | (refine fun id k h => ?_; simp only [hget] at h ⊢; (repeat' (split at h)) <;> first | (cases h; done) | (simp (disch := omega) only [if_pos, if_neg]; exact h)))))
theorem bw_fl1 (l : List Int) : (bw l).all fl1 = true := List.all_eq_true.2 fun y hy => by
  obtain ⟨z, _, rfl⟩ := List.mem_map.1 hy
  rfl
theorem z32 : bw (List.replicate 32 0) = [V.sc (.int .u8 0), V.sc (.int .u8 0), V.sc (.int .u8 0), V.sc (.int .u8 0), V.sc (.int .u8 0), V.sc (.int .u8 0), V.sc (.int .u8 0), V.sc (.int .u8 0), V.sc (.int .u8 0), V.sc (.int .u8 0), V.sc (.int .u8 0), V.sc (.int .u8 0), V.sc (.int .u8 0), V.sc (.int .u8 0), V.sc (.int .u8 0), V.sc (.int .u8 0), V.sc (.int .u8 0), V.sc (.int .u8 0), V.sc (.int .u8 0), V.sc (.int .u8 0), V.sc (.int .u8 0), V.sc (.int .u8 0), V.sc (.int .u8 0), V.sc (.int .u8 0), V.sc (.int .u8 0), V.sc (.int .u8 0), V.sc (.int .u8 0), V.sc (.int .u8 0), V.sc (.int .u8 0), V.sc (.int .u8 0), V.sc (.int .u8 0), V.sc (.int .u8 0)] := rfl
theorem numA {id n : Nat} {cap : Option Nat} {C : List Int} (x : Int) (hn : n = C.length) (hn2 : n ≤ 900000000) (hx : 0 ≤ x) (hx2 : x ≤ 9223372036854775807) : AppC Tryd.prog 38 [.sl id 0 n 1 cap, .sc (.int .i64 x)] id ⟨5, bw C, false⟩ 0 (n + 8) 1 none ⟨5, bw (C ++ n8b x), false⟩ := by
  have gb := bw_len C
  refine AppC.of (by omega) rfl (fun y hy => ?_) fun nx hnx => ?_
  · obtain ⟨z, _, rfl⟩ := List.mem_map.1 hy
    exact ⟨_, rfl⟩
  · have h := num_q (cap := cap) (C := bw C) (n := n) x hnx (by omega) hn2 hx hx2 (bw_clo C)
    refine InlQ.mono h fun y hp' nx' hq => ?_
    obtain ⟨q, _, h2, rfl, rfl⟩ := hq
    refine ⟨q, h2, rfl, ?_⟩
    rw [List.take_of_length_le (by omega), bw_app]
set_option maxHeartbeats 4000000 in
theorem root_s {rows cols : Int} {t : List Int} (ht : t.length = 32) (htu : U8s t) (h0 : 0 ≤ rows) (h1 : rows ≤ 9223372036854775807) (h2 : 0 ≤ cols) (h3 : cols ≤ 9223372036854775807) :
    Spec Tryd.prog 35 [.sc (.int .i64 rows), .sc (.int .i64 cols), .ag (bw t)] (.ag (bw (sumL ([2] ++ n8b rows ++ n8b cols ++ t)))) := by
  have hu : U8s ([2] ++ n8b rows ++ n8b cols ++ t) := by
    refine U8s.app (U8s.app (U8s.app ?_ (n8b_u8 _)) (n8b_u8 _)) htu
    intro x hx; rw [List.mem_singleton.1 hx]; omega
  have c1 := sum_s (b := [2] ++ n8b rows ++ n8b cols ++ t) (by simp [ht, n8b, w4]) hu
  have hl : ([2] ++ n8b rows ++ n8b cols ++ t : List Int).length = 49 := by simp [ht, n8b, w4]
  rw [hl] at c1
  have a1 := numA (id := 2) (n := 1) (cap := some 1) (C := [2]) rows rfl (by omega) h0 h1
  have a2 := numA (id := 3) (n := 9) (cap := none) (C := [2] ++ n8b rows) cols rfl (by omega) h2 h3
  have g1 := bw_one t
  have g2 : (bw t).length = 32 := by rw [bw_len, ht]
  have g3 := bw_clo ([2] ++ n8b rows ++ n8b cols ++ t)
  have g4 : bw ([2] ++ n8b rows ++ n8b cols ++ t) = bw ([2] ++ n8b rows ++ n8b cols) ++ bw t := bw_app _ _
  have g5 : (bw ([2] ++ n8b rows ++ n8b cols)).length = 17 := rfl
  have g6 : bw [2] = [.sc (.int .u8 2)] := rfl
  rw [g6] at a1
  generalize hD : sumL ([2] ++ n8b rows ++ n8b cols ++ t) = D at *
  have gD : (bw D).length = 32 := by rw [← hD]; rfl
  rw [g4] at c1 g3
  generalize bw ([2] ++ n8b rows ++ n8b cols) = X2 at *
  generalize bw ([2] ++ n8b rows) = X1 at *
  generalize bw t = T at *
  have g7 : T.take 32 = T := List.take_of_length_le (by omega)
  have g8 : X2.take 17 = X2 := List.take_of_length_le (by omega)
  have g9 : (X2 ++ T).length = 49 := by rw [List.length_append]; omega
  have ga : (X2 ++ T).take 49 = X2 ++ T := List.take_of_length_le (by omega)
  have gc := bw_clo D
  have gd := bw_one D
  have gf := bw_fl1 D
  have gg : (bw D).take 32 = bw D := List.take_of_length_le (by omega)
  have gh := setAll_full D (by rw [← bw_len, gD])
  rw [z32] at gh
  refine Spec.run Tryd.func35 rfl Tryd.ntmps35 (by simp) (by simp (disch := omega) only [go_sem, ↓reduceIte, zn1, zn2, zn3, zn4, zn5, zn6, reduceCtorEq, zn7, zi1, zi2, if_pos, if_neg]; rfl) fun B hB => ?_
  (repeat (first | refine DO.nil (by kernel_rfl) ?_ | (with_reducible first | apply oz1 | apply oz2 | apply oz3 | apply oz4 | apply oz5 | apply oz6 | apply oz7 | apply oz8 | apply oz9 | apply ozb | apply ozc | apply oze | apply ozf | apply ozg | apply ozh | apply ozi | apply ozj | apply ozk | refine ozd (by decide) ?_) | ((first | apply SO.call | apply DO.call); (iterate 3 (focus (simp (disch := omega) only [go_sem, ↓reduceIte, zn1, zn2, zn3, zn4, zn5, zn6, reduceCtorEq, zn7, zi1, zi2, if_pos, if_neg, g1, g2] <;> rfl))); (first | apply SCall.ofX | apply DCall.ofX); (focus (first | assumption)); (focus (simp (disch := omega) only [go_sem, ↓reduceIte, zn1, zn2, zn3, zn4, zn5, zn6, reduceCtorEq, zn7, zi1, zi2, if_pos, if_neg, g1, g2] <;> rfl))) | ((with_reducible first | apply SC.condB | apply SC.region | apply SO.run | apply DO.run); (focus (simp (disch := omega) only [go_sem, ↓reduceIte, zn1, zn2, zn3, zn4, zn5, zn6, reduceCtorEq, zn7, zi1, zi2, if_pos, if_neg, g1, g2] <;> rfl)); (first | refine pickT ?_ | refine pickF ?_ | fail_if_success with_reducible refine pickA ?_)) | ((with_reducible refine SC.draw Tab.mixed ?_ ?_); (focus (first | rfl | simp (disch := omega) only [go_sem, ↓reduceIte, zn1, zn2, zn3, zn4, zn5, zn6, reduceCtorEq, zn7, zi1, zi2, if_pos, if_neg, g1, g2]))) | (with_reducible apply SC.ops) | (with_reducible apply SR.next) | refine SC.loopN 4 ?_))
  (first | refine SO.callA Tab.go38 (by simp (disch := omega) only [go_sem, ↓reduceIte, zn1, zn2, zn3, zn4, zn5, zn6, reduceCtorEq, zn7, zi1, zi2, if_pos, if_neg] <;> rfl) (by simp (disch := omega) only [go_sem, ↓reduceIte, zn1, zn2, zn3, zn4, zn5, zn6, reduceCtorEq, zn7, zi1, zi2, if_pos, if_neg] <;> rfl) (SApp.of (a1) (by simp (disch := omega) only [go_sem, ↓reduceIte, zn1, zn2, zn3, zn4, zn5, zn6, reduceCtorEq, zn7, zi1, zi2, if_pos, if_neg] <;> rfl) rfl (by simp (disch := omega) only [go_sem, ↓reduceIte, zn1, zn2, zn3, zn4, zn5, zn6, reduceCtorEq, zn7, zi1, zi2, if_pos, if_neg] <;> rfl) ?_) | refine DO.callA Tab.go38 (by simp (disch := omega) only [go_sem, ↓reduceIte, zn1, zn2, zn3, zn4, zn5, zn6, reduceCtorEq, zn7, zi1, zi2, if_pos, if_neg] <;> rfl) (by simp (disch := omega) only [go_sem, ↓reduceIte, zn1, zn2, zn3, zn4, zn5, zn6, reduceCtorEq, zn7, zi1, zi2, if_pos, if_neg] <;> rfl) (DApp.of (a1) (by simp (disch := omega) only [go_sem, ↓reduceIte, zn1, zn2, zn3, zn4, zn5, zn6, reduceCtorEq, zn7, zi1, zi2, if_pos, if_neg] <;> rfl) rfl (by simp (disch := omega) only [go_sem, ↓reduceIte, zn1, zn2, zn3, zn4, zn5, zn6, reduceCtorEq, zn7, zi1, zi2, if_pos, if_neg] <;> rfl) ?_))
  (repeat (first | refine DO.nil (by kernel_rfl) ?_ | (with_reducible first | apply oz1 | apply oz2 | apply oz3 | apply oz4 | apply oz5 | apply oz6 | apply oz7 | apply oz8 | apply oz9 | apply ozb | apply ozc | apply oze | apply ozf | apply ozg | apply ozh | apply ozi | apply ozj | apply ozk | refine ozd (by decide) ?_) | ((first | apply SO.call | apply DO.call); (iterate 3 (focus (simp (disch := omega) only [go_sem, ↓reduceIte, zn1, zn2, zn3, zn4, zn5, zn6, reduceCtorEq, zn7, zi1, zi2, if_pos, if_neg, g1, g2] <;> rfl))); (first | apply SCall.ofX | apply DCall.ofX); (focus (first | assumption)); (focus (simp (disch := omega) only [go_sem, ↓reduceIte, zn1, zn2, zn3, zn4, zn5, zn6, reduceCtorEq, zn7, zi1, zi2, if_pos, if_neg, g1, g2] <;> rfl))) | ((with_reducible first | apply SC.condB | apply SC.region | apply SO.run | apply DO.run); (focus (simp (disch := omega) only [go_sem, ↓reduceIte, zn1, zn2, zn3, zn4, zn5, zn6, reduceCtorEq, zn7, zi1, zi2, if_pos, if_neg, g1, g2] <;> rfl)); (first | refine pickT ?_ | refine pickF ?_ | fail_if_success with_reducible refine pickA ?_)) | ((with_reducible refine SC.draw Tab.mixed ?_ ?_); (focus (first | rfl | simp (disch := omega) only [go_sem, ↓reduceIte, zn1, zn2, zn3, zn4, zn5, zn6, reduceCtorEq, zn7, zi1, zi2, if_pos, if_neg, g1, g2]))) | (with_reducible apply SC.ops) | (with_reducible apply SR.next) | refine SC.loopN 4 ?_))
  (first | refine SO.callA Tab.go38 (by simp (disch := omega) only [go_sem, ↓reduceIte, zn1, zn2, zn3, zn4, zn5, zn6, reduceCtorEq, zn7, zi1, zi2, if_pos, if_neg] <;> rfl) (by simp (disch := omega) only [go_sem, ↓reduceIte, zn1, zn2, zn3, zn4, zn5, zn6, reduceCtorEq, zn7, zi1, zi2, if_pos, if_neg] <;> rfl) (SApp.of (a2) (by simp (disch := omega) only [go_sem, ↓reduceIte, zn1, zn2, zn3, zn4, zn5, zn6, reduceCtorEq, zn7, zi1, zi2, if_pos, if_neg] <;> rfl) rfl (by simp (disch := omega) only [go_sem, ↓reduceIte, zn1, zn2, zn3, zn4, zn5, zn6, reduceCtorEq, zn7, zi1, zi2, if_pos, if_neg] <;> rfl) ?_) | refine DO.callA Tab.go38 (by simp (disch := omega) only [go_sem, ↓reduceIte, zn1, zn2, zn3, zn4, zn5, zn6, reduceCtorEq, zn7, zi1, zi2, if_pos, if_neg] <;> rfl) (by simp (disch := omega) only [go_sem, ↓reduceIte, zn1, zn2, zn3, zn4, zn5, zn6, reduceCtorEq, zn7, zi1, zi2, if_pos, if_neg] <;> rfl) (DApp.of (a2) (by simp (disch := omega) only [go_sem, ↓reduceIte, zn1, zn2, zn3, zn4, zn5, zn6, reduceCtorEq, zn7, zi1, zi2, if_pos, if_neg] <;> rfl) rfl (by simp (disch := omega) only [go_sem, ↓reduceIte, zn1, zn2, zn3, zn4, zn5, zn6, reduceCtorEq, zn7, zi1, zi2, if_pos, if_neg] <;> rfl) ?_))
  (repeat (first | refine DO.nil (by kernel_rfl) ?_ | (with_reducible first | apply oz1 | apply oz2 | apply oz3 | apply oz4 | apply oz5 | apply oz6 | apply oz7 | apply oz8 | apply oz9 | apply ozb | apply ozc | apply oze | apply ozf | apply ozg | apply ozh | apply ozi | apply ozj | apply ozk | refine ozd (by decide) ?_) | ((first | apply SO.call | apply DO.call); (iterate 3 (focus (simp (disch := omega) only [go_sem, ↓reduceIte, zn1, zn2, zn3, zn4, zn5, zn6, reduceCtorEq, zn7, zi1, zi2, if_pos, if_neg, g1, g2, g3, g5, g7, g8, g9, ga, gc, gd, gf, gg, gD, List.drop_zero, Nat.mul_one] <;> rfl))); (first | apply SCall.ofX | apply DCall.ofX); (focus (first | assumption)); (focus (simp (disch := omega) only [go_sem, ↓reduceIte, zn1, zn2, zn3, zn4, zn5, zn6, reduceCtorEq, zn7, zi1, zi2, if_pos, if_neg, g1, g2, g3, g5, g7, g8, g9, ga, gc, gd, gf, gg, gD, List.drop_zero, Nat.mul_one] <;> rfl))) | ((with_reducible first | apply SC.condB | apply SC.region | apply SO.run | apply DO.run); (focus (simp (disch := omega) only [go_sem, ↓reduceIte, zn1, zn2, zn3, zn4, zn5, zn6, reduceCtorEq, zn7, zi1, zi2, if_pos, if_neg, g1, g2, g3, g5, g7, g8, g9, ga, gc, gd, gf, gg, gD, List.drop_zero, Nat.mul_one] <;> rfl)); (first | refine pickT ?_ | refine pickF ?_ | fail_if_success with_reducible refine pickA ?_)) | ((with_reducible refine SC.draw Tab.mixed ?_ ?_); (focus (first | rfl | simp (disch := omega) only [go_sem, ↓reduceIte, zn1, zn2, zn3, zn4, zn5, zn6, reduceCtorEq, zn7, zi1, zi2, if_pos, if_neg, g1, g2, g3, g5, g7, g8, g9, ga, gc, gd, gf, gg, gD, List.drop_zero, Nat.mul_one]))) | (with_reducible apply SC.ops) | (with_reducible apply SR.next) | refine SC.loopN 4 ?_))
  exact retQ_ret Tryd.results35 (by simp (disch := omega) only [go_sem, ↓reduceIte, zn1, zn2, zn3, zn4, zn5, zn6, reduceCtorEq, zn7, zi1, zi2, if_pos, if_neg, gh, gg, gD, gc, List.drop_zero] <;> rfl) (by simp (disch := omega) only [go_sem, ↓reduceIte, zn1, zn2, zn3, zn4, zn5, zn6, reduceCtorEq, zn7, zi1, zi2, if_pos, if_neg, gh, gg, gD, gc, List.drop_zero] <;> rfl) rfl
set_option maxHeartbeats 4000000 in
theorem concat_s {a b c : List Int} (ha : 0 < a.length) (hl : a.length + b.length + c.length ≤ 1000000) : Spec Tryd.prog 61 [.im [.im (bw a) a.length, .im (bw b) b.length, .im (bw c) c.length] 3] (.im (bw (a ++ b ++ c)) (a.length + b.length + c.length)) := by
  have l1 := bw_len a
  have l2 := bw_len b
  have l3 := bw_len c
  have o1 := bw_one a
  have o2 := bw_one b
  have o3 := bw_one c
  have e : bw (a ++ b ++ c) = bw a ++ bw b ++ bw c := by rw [bw_app, bw_app]
  have hc := bw_clo (a ++ b ++ c)
  rw [e] at hc ⊢
  generalize a.length = m at *
  generalize b.length = n at *
  generalize c.length = k at *
  generalize bw a = X at *
  generalize bw b = Y at *
  generalize bw c = Z at *
  have t1 : X.take m = X := List.take_of_length_le (by omega)
  have t2 : Y.take n = Y := List.take_of_length_le (by omega)
  have t3 : Z.take k = Z := List.take_of_length_le (by omega)
  have k1 : (X ++ Y).take (m + n) = X ++ Y := List.take_of_length_le (by rw [List.length_append]; omega)
  have k2 : (X ++ Y ++ Z).take (m + n + k) = X ++ Y ++ Z := List.take_of_length_le (by rw [List.length_append, List.length_append]; omega)
  have k3 : (X ++ Y).length = m + n := by rw [List.length_append]; omega
  have k4 : (X ++ Y ++ Z).length = m + n + k := by rw [List.length_append, List.length_append]; omega
  refine Spec.run Tryd.func61 rfl Tryd.ntmps61 (by simp) (by simp (disch := omega) only [go_sem, ↓reduceIte, zn1, zn2, zn3, zn4, zn5, zn6, reduceCtorEq, zn7, zi1, zi2, if_pos, if_neg]; rfl) fun B hB => ?_
  (repeat (first | refine DO.nil (by kernel_rfl) ?_ | (with_reducible first | apply oz1 | apply oz2 | apply oz3 | apply oz4 | apply oz5 | apply oz6 | apply oz7 | apply oz8 | apply oz9 | apply ozb | apply ozc | apply oze | apply ozf | apply ozg | apply ozh | apply ozi | apply ozj | apply ozk | refine ozd (by decide) ?_) | ((first | apply SO.call | apply DO.call); (iterate 3 (focus (simp (disch := omega) only [go_sem, ↓reduceIte, zn1, zn2, zn3, zn4, zn5, zn6, reduceCtorEq, zn7, zi1, zi2, if_pos, if_neg, t1, t2, t3] <;> rfl))); (first | apply SCall.ofX | apply DCall.ofX); (focus (first | assumption)); (focus (simp (disch := omega) only [go_sem, ↓reduceIte, zn1, zn2, zn3, zn4, zn5, zn6, reduceCtorEq, zn7, zi1, zi2, if_pos, if_neg, t1, t2, t3] <;> rfl))) | ((with_reducible first | apply SC.condB | apply SC.region | apply SO.run | apply DO.run); (focus (simp (disch := omega) only [go_sem, ↓reduceIte, zn1, zn2, zn3, zn4, zn5, zn6, reduceCtorEq, zn7, zi1, zi2, if_pos, if_neg, t1, t2, t3] <;> rfl)); (first | refine pickT ?_ | refine pickF ?_ | fail_if_success with_reducible refine pickA ?_)) | ((with_reducible refine SC.draw Tab.mixed ?_ ?_); (focus (first | rfl | simp (disch := omega) only [go_sem, ↓reduceIte, zn1, zn2, zn3, zn4, zn5, zn6, reduceCtorEq, zn7, zi1, zi2, if_pos, if_neg, t1, t2, t3]))) | (with_reducible apply SC.ops) | (with_reducible apply SR.next) | refine SC.loopN 4 ?_))
  refine SO.inlQ (by simp (disch := omega) only [go_sem, ↓reduceIte, zn1, zn2, zn3, zn4, zn5, zn6, reduceCtorEq, zn7, zi1, zi2, if_pos, if_neg] <;> rfl) Tab.go66 (by simp (disch := omega) only [go_sem, ↓reduceIte, zn1, zn2, zn3, zn4, zn5, zn6, reduceCtorEq, zn7, zi1, zi2, if_pos, if_neg] <;> rfl) (by simp (disch := omega) only [go_sem, ↓reduceIte, zn1, zn2, zn3, zn4, zn5, zn6, reduceCtorEq, zn7, zi1, zi2, if_pos, if_neg] <;> rfl) (SInlQ.newR (grow_q 0 (by omega) (by omega)) (fun id k h => by cases h) (fun y hp' nx' h => ?_) ?_)
  · obtain ⟨C, _, rfl, rfl, _⟩ := h
    exact ⟨.sl (Nat.zero_le _), ⟨fun y hy => Only.clo (List.all_eq_true.1 ‹_› y hy), trivial⟩, fun id k hk => Nat.zero_le _⟩
  rintro y hp' nx1 ⟨C, hC, rfl, rfl, rfl⟩
  simp only [List.nil_append]
  (repeat (first | refine DO.nil (by kernel_rfl) ?_ | (with_reducible first | apply oz1 | apply oz2 | apply oz3 | apply oz4 | apply oz5 | apply oz6 | apply oz7 | apply oz8 | apply oz9 | apply ozb | apply ozc | apply oze | apply ozf | apply ozg | apply ozh | apply ozi | apply ozj | apply ozk | refine ozd (by decide) ?_) | ((first | apply SO.call | apply DO.call); (iterate 3 (focus (simp (disch := omega) only [go_sem, ↓reduceIte, zn1, zn2, zn3, zn4, zn5, zn6, reduceCtorEq, zn7, zi1, zi2, if_pos, if_neg, t1, t2, t3, l1, l2, l3, o1, o2, o3, k1, k2, k3, k4, List.drop_zero, Nat.mul_one] <;> rfl))); (first | apply SCall.ofX | apply DCall.ofX); (focus (first | assumption)); (focus (simp (disch := omega) only [go_sem, ↓reduceIte, zn1, zn2, zn3, zn4, zn5, zn6, reduceCtorEq, zn7, zi1, zi2, if_pos, if_neg, t1, t2, t3, l1, l2, l3, o1, o2, o3, k1, k2, k3, k4, List.drop_zero, Nat.mul_one] <;> rfl))) | ((with_reducible first | apply SC.condB | apply SC.region | apply SO.run | apply DO.run); (focus (simp (disch := omega) only [go_sem, ↓reduceIte, zn1, zn2, zn3, zn4, zn5, zn6, reduceCtorEq, zn7, zi1, zi2, if_pos, if_neg, t1, t2, t3, l1, l2, l3, o1, o2, o3, k1, k2, k3, k4, List.drop_zero, Nat.mul_one] <;> rfl)); (first | refine pickT ?_ | refine pickF ?_ | fail_if_success with_reducible refine pickA ?_)) | ((with_reducible refine SC.draw Tab.mixed ?_ ?_); (focus (first | rfl | simp (disch := omega) only [go_sem, ↓reduceIte, zn1, zn2, zn3, zn4, zn5, zn6, reduceCtorEq, zn7, zi1, zi2, if_pos, if_neg, t1, t2, t3, l1, l2, l3, o1, o2, o3, k1, k2, k3, k4, List.drop_zero, Nat.mul_one]))) | (with_reducible apply SC.ops) | (with_reducible apply SR.next) | refine SC.loopN 4 ?_))
  exact retQ_ret Tryd.results61 (by simp (disch := omega) only [go_sem, ↓reduceIte, zn1, zn2, zn3, zn4, zn5, zn6, reduceCtorEq, zn7, zi1, zi2, if_pos, if_neg, hc, k4, k2, List.drop_zero, Nat.mul_one] <;> rfl) (by simp (disch := omega) only [go_sem, ↓reduceIte, zn1, zn2, zn3, zn4, zn5, zn6, reduceCtorEq, zn7, zi1, zi2, if_pos, if_neg, hc, k4, k2, List.drop_zero, Nat.mul_one] <;> rfl) rfl
set_option maxHeartbeats 4000000 in
theorem join_s {a b : List Int} (ha : a.length = 32) (hb : b.length = 32) (hau : U8s a) (hbu : U8s b) : Spec Tryd.prog 42 [.ag (bw a), .ag (bw b)] (.ag (bw (sumL ([1] ++ a ++ b)))) := by
  have hu : U8s ([1] ++ a ++ b) := by
    refine U8s.app (U8s.app ?_ hau) hbu
    intro x hx; rw [List.mem_singleton.1 hx]; omega
  have c0 := concat_s (a := [1]) (b := a) (c := b) (by decide) (by simp [ha, hb])
  have c1 := sum_s (b := [1] ++ a ++ b) (by simp [ha, hb]) hu
  have hl : ([1] ++ a ++ b : List Int).length = 65 := by simp [ha, hb]
  rw [hl] at c1
  rw [ha, hb, show ([1] : List Int).length + 32 + 32 = 65 from rfl, show ([1] : List Int).length = 1 from rfl, show bw [1] = [.sc (.int .u8 1)] from rfl] at c0
  generalize hD : sumL ([1] ++ a ++ b) = D at *
  have gD : (bw D).length = 32 := by rw [← hD]; rfl
  have gc := bw_clo D
  have gd := bw_one D
  have gf := bw_fl1 D
  have gg : (bw D).take 32 = bw D := List.take_of_length_le (by omega)
  have gh := setAll_full D (by rw [← bw_len, gD])
  rw [z32] at gh
  generalize bw ([1] ++ a ++ b) = X at *
  have la : (bw a).length = 32 := by rw [bw_len, ha]
  have lb : (bw b).length = 32 := by rw [bw_len, hb]
  have ta : (bw a).take 32 = bw a := List.take_of_length_le (by omega)
  have tb : (bw b).take 32 = bw b := List.take_of_length_le (by omega)
  have ca := bw_clo a
  have cb := bw_clo b
  generalize bw a = Y at *
  generalize bw b = Z at *
  refine Spec.run Tryd.func42 rfl Tryd.ntmps42 (by simp) (by simp (disch := omega) only [go_sem, ↓reduceIte, zn1, zn2, zn3, zn4, zn5, zn6, reduceCtorEq, zn7, zi1, zi2, if_pos, if_neg]; rfl) fun B hB => ?_
  (repeat (first | refine DO.nil (by kernel_rfl) ?_ | (with_reducible first | apply oz1 | apply oz2 | apply oz3 | apply oz4 | apply oz5 | apply oz6 | apply oz7 | apply oz8 | apply oz9 | apply ozb | apply ozc | apply oze | apply ozf | apply ozg | apply ozh | apply ozi | apply ozj | apply ozk | refine ozd (by decide) ?_) | ((first | apply SO.call | apply DO.call); (iterate 3 (focus (simp (disch := omega) only [go_sem, ↓reduceIte, zn1, zn2, zn3, zn4, zn5, zn6, reduceCtorEq, zn7, zi1, zi2, if_pos, if_neg, la, lb, ta, tb, ca, cb, gD, gc, gd, gf, gg, List.drop_zero, Nat.mul_one] <;> rfl))); (first | apply SCall.ofX | apply DCall.ofX); (focus (first | assumption)); (focus (simp (disch := omega) only [go_sem, ↓reduceIte, zn1, zn2, zn3, zn4, zn5, zn6, reduceCtorEq, zn7, zi1, zi2, if_pos, if_neg, la, lb, ta, tb, ca, cb, gD, gc, gd, gf, gg, List.drop_zero, Nat.mul_one] <;> rfl))) | ((with_reducible first | apply SC.condB | apply SC.region | apply SO.run | apply DO.run); (focus (simp (disch := omega) only [go_sem, ↓reduceIte, zn1, zn2, zn3, zn4, zn5, zn6, reduceCtorEq, zn7, zi1, zi2, if_pos, if_neg, la, lb, ta, tb, ca, cb, gD, gc, gd, gf, gg, List.drop_zero, Nat.mul_one] <;> rfl)); (first | refine pickT ?_ | refine pickF ?_ | fail_if_success with_reducible refine pickA ?_)) | ((with_reducible refine SC.draw Tab.mixed ?_ ?_); (focus (first | rfl | simp (disch := omega) only [go_sem, ↓reduceIte, zn1, zn2, zn3, zn4, zn5, zn6, reduceCtorEq, zn7, zi1, zi2, if_pos, if_neg, la, lb, ta, tb, ca, cb, gD, gc, gd, gf, gg, List.drop_zero, Nat.mul_one]))) | (with_reducible apply SC.ops) | (with_reducible apply SR.next) | refine SC.loopN 4 ?_))
  exact retQ_ret Tryd.results42 (by simp (disch := omega) only [go_sem, ↓reduceIte, zn1, zn2, zn3, zn4, zn5, zn6, reduceCtorEq, zn7, zi1, zi2, if_pos, if_neg, gh, gg, gD, gc, List.drop_zero] <;> rfl) (by simp (disch := omega) only [go_sem, ↓reduceIte, zn1, zn2, zn3, zn4, zn5, zn6, reduceCtorEq, zn7, zi1, zi2, if_pos, if_neg, gh, gg, gD, gc, List.drop_zero] <;> rfl) rfl
end Go.Proofs.YtpbnhioelmgaiaaDoor
namespace Go.Proofs.YtpbnhioelmgaiaaDoor
open Go.RowKit
theorem zs_len (l : List Nat) : (zs l).length = l.length := by simp [zs]
theorem zs_u8 {l : List Nat} (h : ∀ n ∈ l, n < 256) : U8s (zs l) := fun x hx => by
  obtain ⟨m, hm, rfl⟩ := List.mem_map.1 hx
  have := h m hm
  omega
def n8F {R : Type} (x : Nat) (k : List Nat → R) : R := w4F (Nat.div x 4294967296) fun p => w4F (Nat.mod x 4294967296) fun q => k (p ++ q)
theorem n8F_s {R : Type} (x : Nat) (k : List Nat → R) : ∃ l, n8F x k = k l ∧ zs l = n8b (x : Int) := by
  unfold n8F
  obtain ⟨p, e1, f1⟩ := w4F_s (Nat.div x 4294967296) fun p => w4F (Nat.mod x 4294967296) fun q => k (p ++ q)
  rw [e1]
  obtain ⟨q, e2, f2⟩ := w4F_s (Nat.mod x 4294967296) fun q => k (p ++ q)
  rw [e2]
  refine ⟨_, rfl, ?_⟩
  rw [zs_app, f1, f2]
  unfold n8b
  have g1 : ((Nat.div x 4294967296 : Nat) : Int) = (x : Int) / 4294967296 := by
    show ((x / 4294967296 : Nat) : Int) = _
    omega
  have g2 : ((Nat.mod x 4294967296 : Nat) : Int) = (x : Int) % 4294967296 := by
    show ((x % 4294967296 : Nat) : Int) = _
    omega
  rw [g1, g2]
def agF (b : List Nat) : Option V := sumF b fun l => spine (bw (zs l)) fun cs => some (.ag cs)
theorem agF_s {b : List Nat} (hb : ∀ n ∈ b, n < 256) {x : V} (h : agF b = some x) : x = .ag (bw (sumL (zs b))) := by
  unfold agF at h
  obtain ⟨l, h1, h2⟩ := sumF_s hb fun l => spine (bw (zs l)) fun cs => some (V.ag cs)
  rw [h1, spine_eq, h2] at h
  cases h; rfl
def K2 (f : Nat) (ys : List V) : Option V :=
  match Nat.beq f 42 with
  | true => match ys with
    | [.ag cs, .ag ds] => match unB cs, unB ds with
      | some a, some b => match Nat.beq a.length 32 && Nat.beq b.length 32 with
        | true => spine ([1] ++ a ++ b) agF
        | false => none
      | _, _ => none
    | _ => none
  | false => match Nat.beq f 35 with
    | true => match ys with
      | [.sc (.int .i64 (.ofNat m)), .sc (.int .i64 (.ofNat n)), .ag ds] => match unB ds with
        | some b => match Nat.beq b.length 32 && Nat.ble m 9223372036854775807 && Nat.ble n 9223372036854775807 with
          | true => n8F m fun p => n8F n fun q => spine ([2] ++ p ++ q ++ b) agF
          | false => none
        | none => none
      | _ => none
    | false => sanK f ys
theorem K2_s : KSound Tryd.prog K2 := by
  intro f ys x h
  unfold K2 at h
  split at h
  · rename_i e
    have e := Nat.eq_of_beq_eq_true e
    subst e
    split at h
    · rename_i cs ds
      split at h
      · rename_i a b ha hb
        obtain ⟨rfl, hla⟩ := unB_s ha
        obtain ⟨rfl, hlb⟩ := unB_s hb
        split at h
        · rename_i hc
          rw [Bool.and_eq_true] at hc
          have e1 := Nat.eq_of_beq_eq_true hc.1
          have e2 := Nat.eq_of_beq_eq_true hc.2
          rw [spine_eq] at h
          have := agF_s (b := [1] ++ a ++ b) (fun n hn => by
            rcases List.mem_append.1 hn with hn | hn
            · rcases List.mem_append.1 hn with hn | hn
              · rw [List.mem_singleton.1 hn]; decide
              · exact hla n hn
            · exact hlb n hn) h
          rw [this, zs_app, zs_app]
          exact join_s (by rw [zs_len, e1]) (by rw [zs_len, e2]) (zs_u8 hla) (zs_u8 hlb)
        · cases h
      · cases h
    · cases h
  · split at h
    · rename_i e
      have e := Nat.eq_of_beq_eq_true e
      subst e
      split at h
      · rename_i m n ds
        split at h
        · rename_i b hb
          obtain ⟨rfl, hlb⟩ := unB_s hb
          split at h
          · rename_i hc
            rw [Bool.and_eq_true, Bool.and_eq_true] at hc
            have e1 := Nat.eq_of_beq_eq_true hc.1.1
            have e2 := Nat.le_of_ble_eq_true hc.1.2
            have e3 := Nat.le_of_ble_eq_true hc.2
            obtain ⟨p, a1, a2⟩ := n8F_s m fun p => n8F n fun q => spine ([2] ++ p ++ q ++ b) agF
            rw [a1] at h
            obtain ⟨q, b1, b2⟩ := n8F_s n fun q => spine ([2] ++ p ++ q ++ b) agF
            rw [b1, spine_eq] at h
            have hp : ∀ {l : List Nat} {z : Int}, zs l = n8b z → ∀ n ∈ l, n < 256 := by
              intro l z hz n hn
              have : (n : Int) ∈ n8b z := by rw [← hz]; exact List.mem_map.2 ⟨n, hn, rfl⟩
              have := n8b_u8 _ _ this
              omega
            have := agF_s (b := [2] ++ p ++ q ++ b) (fun n hn => by
              rcases List.mem_append.1 hn with hn | hn
              · rcases List.mem_append.1 hn with hn | hn
                · rcases List.mem_append.1 hn with hn | hn
                  · rw [List.mem_singleton.1 hn]; decide
                  · exact hp a2 n hn
                · exact hp b2 n hn
              · exact hlb n hn) h
            rw [this, zs_app, zs_app, zs_app, a2, b2]
            exact root_s (by rw [zs_len, e1]) (zs_u8 hlb) (Int.natCast_nonneg m) (by show (m : Int) ≤ _; omega) (Int.natCast_nonneg n) (by show (n : Int) ≤ _; omega)
          · cases h
        · cases h
      · cases h
    · exact sanK_s f ys x h
set_option maxRecDepth 100000 in
theorem sanity_s : Spec Tryd.prog 6 [] (.sc (.bool true)) := Spec.eval K2_s 300 sanI (by kernel_rfl)
end Go.Proofs.YtpbnhioelmgaiaaDoor
