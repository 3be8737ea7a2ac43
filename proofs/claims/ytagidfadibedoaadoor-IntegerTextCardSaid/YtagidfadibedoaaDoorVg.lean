/- Texts joined: Qg Qh Qi. -/
import Derived.Test.YtagidfadibedoaaDoorVb
import Derived.Test.YtagidfadibedoaaDoorVc
import Derived.Test.YtagidfadibedoaaDoorVe
import Derived.Test.YtagidfadibedoaaDoorVf
set_option linter.all false
/- The program's division: bits.Len32, LeadingZeros32, shift. -/
namespace Go.Proofs.YtagidfadibedoaaDoor
open Go.RowKit
def bl (x : Nat) : Nat := if x = 0 then 0 else x.log2 + 1
theorem bl_lt (x : Nat) : x < 2 ^ bl x := by
  unfold bl; split
  · omega
  · exact Nat.lt_log2_self
theorem bl_le {x : Nat} (h : x ≠ 0) : 2 ^ (bl x - 1) ≤ x ∧ 1 ≤ bl x := by
  unfold bl; rw [if_neg h]
  exact ⟨Nat.log2_self_le h, by omega⟩
theorem bl_eq {x L : Nat} (h1 : x < 2 ^ L) (h2 : 2 ^ (L - 1) ≤ x) (h3 : 1 ≤ L) : bl x = L := by
  have hx : x ≠ 0 := by have := Nat.pow_pos (a := 2) (n := L - 1) (by omega); omega
  obtain ⟨a, b⟩ := bl_le hx
  have c := bl_lt x
  have e1 : bl x - 1 < L := (Nat.pow_lt_pow_iff_right (a := 2) (by omega)).1 (by omega)
  have e2 : L - 1 < bl x := (Nat.pow_lt_pow_iff_right (a := 2) (by omega)).1 (by omega)
  omega
theorem bl_div {x k : Nat} (h : x / 2 ^ k ≠ 0) : bl x = bl (x / 2 ^ k) + k := by
  obtain ⟨a, b⟩ := bl_le h
  have c := bl_lt (x / 2 ^ k)
  generalize bl (x / 2 ^ k) = L at *
  refine bl_eq ?_ ?_ (by omega)
  · rw [Nat.pow_add]; exact (Nat.div_lt_iff_lt_mul (Nat.pow_pos (by omega))).1 c
  · rw [show L + k - 1 = (L - 1) + k by omega, Nat.pow_add]; exact (Nat.le_div_iff_mul_le (Nat.pow_pos (by omega))).1 a
theorem bl_le_of {x k : Nat} (h : x < 2 ^ k) : bl x ≤ k := by
  by_cases hx : x = 0
  · subst hx; unfold bl; simp
  · obtain ⟨a, b⟩ := bl_le hx
    have : bl x - 1 < k := (Nat.pow_lt_pow_iff_right (a := 2) (by omega)).1 (by omega)
    omega
def strIx (s : ByteArray) (n : Int) : Option V := if 0 ≤ n then (s[n.toNat]?).map fun b => .sc (.int .u8 b.toNat) else none
section
variable {P : Program}
@[go_sem] theorem exIndex_str (T : Nat) (s : ByteArray) (k : IntKind) (n : Int) : exIndex P T (.sc (.string s)) (.sc (.int k n)) = if isStr P T = true then strIx s n else none := by
  simp only [exIndex, strIx]
  by_cases h1 : isStr P T = true <;> by_cases h2 : 0 ≤ n <;> simp [h1, h2]
end
def tabOk (s : ByteArray) : Bool := (List.range 256).all fun y => match s[y]? with | some b => b.toNat == bl y | none => false
theorem strIx_tab {s : ByteArray} {y : Nat} (hy : y < 256) (h : tabOk s = true) : strIx s (y : Int) = some (.sc (.int .u8 (bl y : Nat))) := by
  have := List.all_eq_true.1 h y (List.mem_range.2 hy)
  unfold strIx
  rw [if_pos (by omega), Int.toNat_natCast]
  split at this
  · rename_i b hb
    rw [hb]
    have e : b.toNat = bl y := by simpa using this
    simp [e]
  · cases this
theorem mi16 : min 16 32 = 16 := rfl
theorem mi8 : min 8 32 = 8 := rfl
theorem mi32 : min 32 64 = 32 := rfl
section
variable {P : Program} {B : Base}
theorem retI_r {fn : Func} {x y : V} {sl : List (Nat × V)} {hp hp' : List (Nat × Blk)} {nx nx' nt : Nat} {rs : List ResultVar} (hr : fn.results = rs.toArray) (h1 : resG P ⟨sl, hp, nx, nt⟩ rs = some y) (h2 : Le B ⟨[(0, y)], hp, nx, 1⟩ ⟨[(0, x)], hp', nx', 1⟩) : retI P fn B x hp' nx' .ret ⟨sl, hp, nx, nt⟩ := retI_ret hr h1 h2
end
end Go.Proofs.YtagidfadibedoaaDoor

/- The program's division: a digit of the quotient. -/
namespace Go.Proofs.YtagidfadibedoaaDoor
open Go.RowKit
section
variable {U z : List Nat} {i j x : Nat}
end
theorem or_up (r u : Nat) (hr : r < 4294967296) (hu : u < 4294967296) : bits BinOp.or IntKind.u64 ((r : Int) * 4294967296) (u : Int) = ((r * 4294967296 + u : Nat) : Int) := by
  have h := u64_or_nat (r * 4294967296) u (by omega) (by omega)
  have e : r * 4294967296 ||| u = r * 4294967296 + u := by
    have := Nat.shiftLeft_add_eq_or_of_lt (b := u) (i := 32) (by omega) r
    rw [Nat.shiftLeft_eq] at this
    exact this.symm
  rw [e] at h
  rw [← h]; simp
end Go.Proofs.YtagidfadibedoaaDoor

/- The program's division: short, divide. -/
namespace Go.Proofs.YtagidfadibedoaaDoor
open Go.RowKit
theorem Spec.le {P : Program} {f : Nat} {args : List V} {x y : V} (h : Spec P f args y) (hv : VLe (fun _ => true) y x) : Spec P f args x := by
  intro S w vs hS hT ha
  refine (h S w vs hS hT ha).mono ?_
  rintro e w' ⟨v, h1, h2, h3⟩
  exact ⟨v, h1, h2, (hv _ _ _ _ _ h3).mono (fun _ h => ⟨h, rfl⟩) (fun _ h => h.1.elim)⟩
theorem VLe.tu {ok : Nat → Bool} {cs ds : List V} (h : LLe ok cs ds) (hl : cs.length = ds.length) : VLe ok (.tu cs) (.tu ds) := by
  intro S rho A w v hr
  cases hr with
  | tu h1 h2 =>
    refine .tu (by omega) fun i x u hx hu => ?_
    have hi := (List.getElem?_eq_some_iff.1 hx).1
    have hy : cs[i]? = some cs[i] := List.getElem?_eq_getElem (by omega)
    exact h.2 i _ x hy hx _ _ _ _ _ (h2 i _ u hy hu)
theorem pshort_i (a : List Nat) (d : Nat) (ha : limbs a) (hm : a.length ≤ 1000000000000) (hd : 0 < d) (hd2 : d < 4294967296) : Spec Tryd.prog 26 [sv a, .sc (.int .u32 d)] (.tu [sv (dg a.length (val a / d)), .sc (.int .u32 (val a % d : Nat))]) := by
  unfold sv
  refine Spec.run Tryd.func26 rfl Tryd.ntmps26 (by simp) (by simp (disch := omega) only [go_sem, ↓reduceIte, Nat.reduceEqDiff, Nat.reduceLT, Nat.reduceLeDiff, Nat.reduceAdd, Nat.reduceMul, Nat.reduceSub, reduceCtorEq, Nat.reduceBEq, Int.reduceToNat, Int.reducePow, if_pos, if_neg]; rfl) fun B hB => ?_
  (repeat (first | refine DO.nil (by kernel_rfl) ?_ | (with_reducible refine SC.condB (by simp (disch := omega) only [go_sem, ↓reduceIte, Nat.reduceEqDiff, Nat.reduceLT, Nat.reduceLeDiff, Nat.reduceAdd, Nat.reduceMul, Nat.reduceSub, reduceCtorEq, Nat.reduceBEq, Int.reduceToNat, Int.reducePow, if_pos, if_neg, lv_len]; rfl) ?_; first | with_reducible refine pickT ?_ | with_reducible refine pickF ?_) | (with_reducible refine oz (by constructor <;> decide) ?_) | ((with_reducible apply SC.region); (focus (simp (disch := omega) only [go_sem, ↓reduceIte, Nat.reduceEqDiff, Nat.reduceLT, Nat.reduceLeDiff, Nat.reduceAdd, Nat.reduceMul, Nat.reduceSub, reduceCtorEq, Nat.reduceBEq, Int.reduceToNat, Int.reducePow, if_pos, if_neg, lv_len]; rfl))) | (with_reducible refine SC.draw Tab.mixed rfl ?_; (repeat (refine DO.run (by simp (disch := omega) only [go_sem, ↓reduceIte, Nat.reduceEqDiff, Nat.reduceLT, Nat.reduceLeDiff, Nat.reduceAdd, Nat.reduceMul, Nat.reduceSub, reduceCtorEq, Nat.reduceBEq, Int.reduceToNat, Int.reducePow, if_pos, if_neg, lv_len]; rfl) ?_)); refine DO.nil (by kernel_rfl) ?_)))
  refine SC.loop (fun x : Nat × Nat × List Nat => ⟨[(0, .im (lv a) a.length), (1, .sc (.int .u32 d)), (6, .sl 0 0 a.length 1 none), (7, .sc (.int .u64 x.2.1)), (8, .sc (.int .i64 ((x.1 : Int) - 1)))], [(0, ⟨46, lv x.2.2, false⟩)], 1, 42⟩)
    (fun x => x.1 ≤ a.length ∧ shortInv a d x.1 x.2.1 x.2.2) (fun x => x.1) (a.length, 0, List.replicate a.length 0) ?_ ?_ ?_
  · (refine Le.of [] hB (by first | exact ⟨Nat.zero_le _, fun _ _ => Nat.zero_le _⟩ | (constructor <;> (try simp) <;> (try omega))) ?_ ?_ <;> (repeat' (first | exact leSl_nil | exact leHp_nil | refine leSl_cons (by simp (disch := omega) only [go_sem, ↓reduceIte, Nat.reduceEqDiff, Nat.reduceLT, Nat.reduceLeDiff, Nat.reduceAdd, Nat.reduceMul, Nat.reduceSub, reduceCtorEq, Nat.reduceBEq, Int.reduceToNat, Int.reducePow, if_pos, if_neg]; rfl) ?_ ?_ | refine leHp_cons (by simp (disch := omega) only [go_sem, ↓reduceIte, Nat.reduceEqDiff, Nat.reduceLT, Nat.reduceLeDiff, Nat.reduceAdd, Nat.reduceMul, Nat.reduceSub, reduceCtorEq, Nat.reduceBEq, Int.reduceToNat, Int.reducePow, if_pos, if_neg]; rfl) ?_ ?_ | exact VLe.junk _ | exact VLe.refl rfl | exact VLe.nil_sl _ _ _ | exact VLe.int (by first | rfl | omega | (dsimp only; omega)) | exact VLe.bool rfl | exact VLe.sl rfl (by first | rfl | omega | (dsimp only; omega) | (simp; done)) | exact VLe.cap rfl (by first | rfl | omega | (dsimp only; omega) | (simp; done)) | exact VLe.im rfl rfl | exact HLe.new rfl | exact HLe.same rfl (LLe.refl rfl) | refine HLe.same rfl ?_ | exact LLe.nil _ | exact LLe.refl rfl | refine LLe.cons ?_ ?_)))
    exact LLe.lv (lv_rep _)
  · exact ⟨Nat.le_refl _, by simp, limbs_replicate _, hd, by simp [val]⟩
  · rintro ⟨k, r, z⟩ ⟨hk, hI⟩ K hK
    simp only at hk hI ⊢
    have hz : z.length = a.length := hI.1
    by_cases h0 : k = 0
    · subst h0
      have q1 : decide ((0 : Int) ≤ ((0 : Nat) : Int) - 1) = false := by simp
      have hdn := hI.done
      have he := dg_eq hI.2.1
      rw [hdn.1, hz] at he
      have ht : z.take a.length = z := by rw [← hz]; exact List.take_length
      (repeat (first | refine DO.nil (by kernel_rfl) ?_ | (with_reducible refine SC.condB (by simp (disch := omega) only [go_sem, ↓reduceIte, Nat.reduceEqDiff, Nat.reduceLT, Nat.reduceLeDiff, Nat.reduceAdd, Nat.reduceMul, Nat.reduceSub, reduceCtorEq, Nat.reduceBEq, Int.reduceToNat, Int.reducePow, if_pos, if_neg, q1]; rfl) ?_; first | with_reducible refine pickT ?_ | with_reducible refine pickF ?_) | (with_reducible refine oz (by constructor <;> decide) ?_) | ((with_reducible apply SC.region); (focus (simp (disch := omega) only [go_sem, ↓reduceIte, Nat.reduceEqDiff, Nat.reduceLT, Nat.reduceLeDiff, Nat.reduceAdd, Nat.reduceMul, Nat.reduceSub, reduceCtorEq, Nat.reduceBEq, Int.reduceToNat, Int.reducePow, if_pos, if_neg, q1]; rfl))) | (with_reducible refine SC.draw Tab.mixed rfl ?_; (repeat (refine DO.run (by simp (disch := omega) only [go_sem, ↓reduceIte, Nat.reduceEqDiff, Nat.reduceLT, Nat.reduceLeDiff, Nat.reduceAdd, Nat.reduceMul, Nat.reduceSub, reduceCtorEq, Nat.reduceBEq, Int.reduceToNat, Int.reducePow, if_pos, if_neg, q1]; rfl) ?_)); refine DO.nil (by kernel_rfl) ?_)))
      refine retQ_ret Tryd.results26 (by simp (disch := omega) only [go_sem, ↓reduceIte, Nat.reduceEqDiff, Nat.reduceLT, Nat.reduceLeDiff, Nat.reduceAdd, Nat.reduceMul, Nat.reduceSub, reduceCtorEq, Nat.reduceBEq, Int.reduceToNat, Int.reducePow, if_pos, if_neg]; rfl) (by simp (disch := omega) only [go_sem, ↓reduceIte, Nat.reduceEqDiff, Nat.reduceLT, Nat.reduceLeDiff, Nat.reduceAdd, Nat.reduceMul, Nat.reduceSub, reduceCtorEq, Nat.reduceBEq, Int.reduceToNat, Int.reducePow, if_pos, if_neg, lv_len, lv_take, lv_clo, ht]; rfl) ?_
      have h3 := hI.2.2.1
      rw [he, hz, ← hdn.2]
      have : (r : Int) % 4294967296 = r := by omega
      rw [this]
    · obtain ⟨j, rfl⟩ : ∃ j, k = j + 1 := ⟨k - 1, by omega⟩
      have q1 : decide ((0 : Int) ≤ ((j + 1 : Nat) : Int) - 1) = true := by simp
      have hi : (((j + 1 : Nat) : Int) - 1).toNat = j := by omega
      have hj : j < a.length := by omega
      have la := limbs_getD ha j
      have ga := lv_get hj
      obtain ⟨hst, hq⟩ := hI.step hj rfl la
      have h3 := hI.2.2.1
      generalize a.getD j 0 = x at *
      have hor := or_up r x (by omega) la
      have h4 : ((r * 4294967296 + x : Nat) : Int).tdiv (d : Int) = (((r * 4294967296 + x) / d : Nat) : Int) := (Int.ofNat_tdiv _ _).symm
      have h5 : ((r * 4294967296 + x : Nat) : Int).tmod (d : Int) = (((r * 4294967296 + x) % d : Nat) : Int) := (Int.ofNat_tmod _ _).symm
      have h4' : ((r * 4294967296 + x : Nat) : Int) / (d : Int) = (((r * 4294967296 + x) / d : Nat) : Int) := by simp
      have h5' : ((r * 4294967296 + x : Nat) : Int) % (d : Int) = (((r * 4294967296 + x) % d : Nat) : Int) := by simp
      have h6 : (r * 4294967296 + x) % d < d := Nat.mod_lt _ hd
      generalize (r * 4294967296 + x) / d = Q at *
      generalize (r * 4294967296 + x) % d = M at *
      (repeat (first | refine DO.nil (by kernel_rfl) ?_ | (with_reducible refine SC.condB (by simp (disch := omega) only [go_sem, ↓reduceIte, Nat.reduceEqDiff, Nat.reduceLT, Nat.reduceLeDiff, Nat.reduceAdd, Nat.reduceMul, Nat.reduceSub, reduceCtorEq, Nat.reduceBEq, Int.reduceToNat, Int.reducePow, if_pos, if_neg, q1, hi, ga, hor, h4, h5, h4', h5', mi32, lv_len, List.getElem?_drop]; rfl) ?_; first | with_reducible refine pickT ?_ | with_reducible refine pickF ?_) | (with_reducible refine oz (by constructor <;> decide) ?_) | ((with_reducible apply SC.region); (focus (simp (disch := omega) only [go_sem, ↓reduceIte, Nat.reduceEqDiff, Nat.reduceLT, Nat.reduceLeDiff, Nat.reduceAdd, Nat.reduceMul, Nat.reduceSub, reduceCtorEq, Nat.reduceBEq, Int.reduceToNat, Int.reducePow, if_pos, if_neg, q1, hi, ga, hor, h4, h5, h4', h5', mi32, lv_len, List.getElem?_drop]; rfl))) | (with_reducible refine SC.draw Tab.mixed rfl ?_; (repeat (refine DO.run (by simp (disch := omega) only [go_sem, ↓reduceIte, Nat.reduceEqDiff, Nat.reduceLT, Nat.reduceLeDiff, Nat.reduceAdd, Nat.reduceMul, Nat.reduceSub, reduceCtorEq, Nat.reduceBEq, Int.reduceToNat, Int.reducePow, if_pos, if_neg, q1, hi, ga, hor, h4, h5, h4', h5', mi32, lv_len, List.getElem?_drop]; rfl) ?_)); refine DO.nil (by kernel_rfl) ?_)))
      refine hK _ (j, M, z.set j Q) ?_ ⟨by simp only; omega, hst⟩ (by simp only; omega)
      (refine Le.of [] hB (by first | exact ⟨Nat.zero_le _, fun _ _ => Nat.zero_le _⟩ | (constructor <;> (try simp) <;> (try omega))) ?_ ?_ <;> (repeat' (first | exact leSl_nil | exact leHp_nil | refine leSl_cons (by simp (disch := omega) only [go_sem, ↓reduceIte, Nat.reduceEqDiff, Nat.reduceLT, Nat.reduceLeDiff, Nat.reduceAdd, Nat.reduceMul, Nat.reduceSub, reduceCtorEq, Nat.reduceBEq, Int.reduceToNat, Int.reducePow, if_pos, if_neg]; rfl) ?_ ?_ | refine leHp_cons (by simp (disch := omega) only [go_sem, ↓reduceIte, Nat.reduceEqDiff, Nat.reduceLT, Nat.reduceLeDiff, Nat.reduceAdd, Nat.reduceMul, Nat.reduceSub, reduceCtorEq, Nat.reduceBEq, Int.reduceToNat, Int.reducePow, if_pos, if_neg]; rfl) ?_ ?_ | exact VLe.junk _ | exact VLe.refl rfl | exact VLe.nil_sl _ _ _ | exact VLe.int (by first | rfl | omega | (dsimp only; omega)) | exact VLe.bool rfl | exact VLe.sl rfl (by first | rfl | omega | (dsimp only; omega) | (simp; done)) | exact VLe.cap rfl (by first | rfl | omega | (dsimp only; omega) | (simp; done)) | exact VLe.im rfl rfl | exact HLe.new rfl | exact HLe.same rfl (LLe.refl rfl) | refine HLe.same rfl ?_ | exact LLe.nil _ | exact LLe.refl rfl | refine LLe.cons ?_ ?_)))
      exact LLe.lv (lv_set (by omega))
theorem nat_lt_of_len {m n : Nat} (h : (limbsOf m).length < (limbsOf n).length) : m < n := by
  have h1 := val_lt (limbsOf_limbs m)
  have h2 := canon_ge (limbsOf_canon n) (by intro e; rw [e] at h; simp at h)
  rw [limbsOf_val] at h1 h2
  have h3 : 4294967296 ^ (limbsOf m).length ≤ 4294967296 ^ ((limbsOf n).length - 1) := Nat.pow_le_pow_right (by omega) (by omega)
  omega
theorem len_le_of {m n : Nat} (h : m ≤ n) : (limbsOf m).length ≤ (limbsOf n).length := by
  refine Nat.le_of_not_lt fun hlt => ?_
  have := nat_lt_of_len hlt
  omega
end Go.Proofs.YtagidfadibedoaaDoor
