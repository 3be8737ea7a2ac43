/- Texts joined: Zi Zj Zk Zl Zm Zn. -/
import Derived.Test.YtpodnbcdddcdmaaGreatDoorVd
import Derived.Test.YtpodnbcdddcdmaaGreatDoorVe
import Derived.Test.YtpodnbcdddcdmaaGreatDoorVg
import Derived.Test.YtpodnbcdddcdmaaGreatDoorVi
set_option linter.all false
/- integer.canonical. -/
namespace Go.Proofs.YtpodnbcdddcdmaaGreatDoor
open Go.RowKit
end Go.Proofs.YtpodnbcdddcdmaaGreatDoor

/- integer.Text. -/
namespace Go.Proofs.YtpodnbcdddcdmaaGreatDoor
open Go.RowKit
section
variable {P : Program} {hp : List (Nat × Blk)}
def cpSG (id off dlen z z' : Nat) (s : ByteArray) : Option Blk → Option (V × Eff)
  | some k => if z' = 1 ∧ z = 1 ∧ k.fz = false ∧ 0 < s.size ∧ s.size ≤ dlen ∧ off + dlen ≤ k.cs.length then some (.sc (.int .i64 s.size), .set id ⟨k.ty, setAll k.cs off ((bytesT s).map .sc), false⟩) else none
  | none => none
@[go_sem] theorem cpSG_some (id off dlen z z' ty : Nat) (cs : List V) (s : ByteArray) : cpSG id off dlen z z' s (some ⟨ty, cs, false⟩) = if z' = 1 ∧ z = 1 ∧ 0 < s.size ∧ s.size ≤ dlen ∧ off + dlen ≤ cs.length then some (.sc (.int .i64 s.size), .set id ⟨ty, setAll cs off ((bytesT s).map .sc), false⟩) else none := by
  simp [cpSG]
@[go_sem] theorem exCopyA_str (t id off dlen z : Nat) (c : Option Nat) (s : ByteArray) : exCopyA P hp t (.sl id off dlen z c) (.sc (.string s)) = (slOf P t).bind fun (_, z') => cpSG id off dlen z z' s (hget hp id) := by
  show exCopyS P hp t (.sl id off dlen z c) s = _
  unfold exCopyS
  cases slOf P t with
  | none => rfl
  | some p =>
    obtain ⟨e, z'⟩ := p
    simp only [Option.bind_some]
    cases hget hp id with
    | none => rfl
    | some k => rfl
end
theorem bytesT_st {l : List Nat} (h : ∀ x ∈ l, x < 256) : (bytesT (st l)).map V.sc = bN l := by
  unfold bytesT bN st
  simp only [List.map_map]
  apply List.map_congr_left
  intro x hx
  simp only [Function.comp, UInt8.toNat_ofNat_of_lt' (h x hx)]
theorem strB_st (a b : List Nat) (h : a.length + b.length < 1000000) : strB .add (st a) (st b) = some (.string (st (a ++ b))) := by
  have e : st a ++ st b = st (a ++ b) := by apply ByteArray.ext; simp [st, ByteArray.data_append]
  unfold strB
  simp only
  rw [if_neg (by rw [st_size, st_size]; omega), e]
theorem bN_app (a b : List Nat) : bN (a ++ b) = bN a ++ bN b := List.map_append
@[simp] theorem bN_len (a : List Nat) : (bN a).length = a.length := List.length_map _
theorem digs_lt {l : List Nat} (h : Digs l) : ∀ x ∈ l, x < 256 := fun x hx => by have := h x hx; omega
theorem digs_app {a b : List Nat} (ha : Digs a) (hb : Digs b) : Digs (a ++ b) := fun x hx => (List.mem_append.1 hx).elim (ha x) (hb x)
theorem digs_rep (n : Nat) : Digs (List.replicate n 48) := fun x hx => by rw [(List.mem_replicate.1 hx).2]; omega
def buf (N : Nat) (D : List Nat) : List V := List.replicate (N - D.length) (.sc (.int .u8 0)) ++ bN D
theorem buf_len {N : Nat} {D : List Nat} (h : D.length ≤ N) : (buf N D).length = N := by simp [buf]; omega
theorem buf_put {N : Nat} {D p : List Nat} (h : p.length + D.length ≤ N) : setAll (buf N D) (N - (p ++ D).length) (bN p) = buf N (p ++ D) := by
  have e : buf N D = List.replicate (N - (p ++ D).length) (.sc (.int .u8 0)) ++ (List.replicate p.length (.sc (.int .u8 0)) ++ bN D) := by
    unfold buf
    rw [← List.append_assoc, List.replicate_append_replicate, List.length_append, show N - (p.length + D.length) + p.length = N - D.length by omega]
  have := setAll_mid (bN p) (List.replicate p.length (.sc (.int .u8 0))) (List.replicate (N - (p ++ D).length) (.sc (.int .u8 0))) (bN D) (by simp)
  rw [List.length_replicate] at this
  rw [e, this]
  unfold buf
  rw [bN_app, List.append_assoc]
theorem buf_ok (ok : Nat → Bool) (N : Nat) (D : List Nat) : (buf N D).all (okL ok) = true := by
  rw [List.all_eq_true]
  intro x hx
  rcases List.mem_append.1 hx with h | h
  · rw [(List.mem_replicate.1 h).2]; rfl
  · unfold bN at h; obtain ⟨y, _, rfl⟩ := List.mem_map.1 h; rfl
theorem conv_buf' {N : Nat} {D : List Nat} (H : List (Nat × Blk)) (hD : ∀ x ∈ D, x < 256) (h : D.length ≤ N) : exConvH Tryz.prog ((1, ⟨5, buf N D, false⟩) :: H) 71 9 (.sl 1 (N - D.length) (N - (N - D.length)) 1 (some (N - (N - D.length)))) = some (.sc (.string (st D))) := by
  show bytesH _ _ _ _ _ = _
  unfold bytesH
  have t1 : isStr Tryz.prog 9 = true := by kernel_rfl
  have t2 : isBytes Tryz.prog 71 = true := by kernel_rfl
  rw [if_pos ⟨t1, t2⟩, show N - (N - D.length) = D.length by omega]
  have e : srcV ((1, ⟨5, buf N D, false⟩) :: H) (.sl 1 (N - D.length) D.length 1 (some D.length)) = some (bN D, D.length) := by
    have h1 := buf_len h
    have h2 : (buf N D).drop (N - D.length) = bN D := by unfold buf; rw [List.drop_left' (by simp)]
    have h3 : (bN D).take D.length = bN D := List.take_of_length_le (by simp)
    simp [srcV, hget, h1, h2, h3]; omega
  rw [e]
  simp only [Option.bind_some]
  rw [if_pos (bN_len D), bytesV_bN]; rfl
theorem conv_buf {N : Nat} {D : List Nat} (H : List (Nat × Blk)) (hD : Digs D) (h : D.length ≤ N) : exConvH Tryz.prog ((1, ⟨5, buf N D, false⟩) :: H) 71 9 (.sl 1 (N - D.length) (N - (N - D.length)) 1 (some (N - (N - D.length)))) = some (.sc (.string (st D))) := conv_buf' H (digs_lt hD) h
def txt (z : Int) : List Nat := (if z < 0 then [45] else []) ++ dec z.natAbs
theorem dec_len_limbs (n : Nat) (h : n ≠ 0) : (dec n).length ≤ 10 * (limbsOf n).length := by
  have h1 : n < 4294967296 ^ (limbsOf n).length := by
    have := val_lt (limbsOf_limbs n); rwa [limbsOf_val] at this
  have h2 : 4294967296 ^ (limbsOf n).length ≤ 10 ^ (10 * (limbsOf n).length) := by
    rw [Nat.pow_mul]; exact Nat.pow_le_pow_left (by decide) _
  have h3 : 1 ≤ (limbsOf n).length := by
    rcases Nat.eq_zero_or_pos (limbsOf n).length with e | e
    · exact absurd (limbsOf_nil.1 (List.eq_nil_of_length_eq_zero e)) h
    · exact e
  have := dec_len_le (n := n) (w := 10 * (limbsOf n).length - 1) (by rw [show 10 * (limbsOf n).length - 1 + 1 = 10 * (limbsOf n).length by omega]; omega)
  omega
def TxI (n m : Nat) (D : List Nat) : Prop := dec n = (if m = 0 then D else dec m ++ D) ∧ m ≤ n ∧ Digs D
theorem TxI.start {n : Nat} (h : n ≠ 0) : TxI n n [] := ⟨by rw [if_neg h, List.append_nil], Nat.le_refl _, fun x hx => by cases hx⟩
theorem TxI.last {n m : Nat} {D : List Nat} (h : TxI n m D) (h0 : m ≠ 0) (hq : m / 1000000000 = 0) : TxI n 0 (dec (m % 1000000000) ++ D) := by
  refine ⟨?_, Nat.zero_le _, digs_app (dec_digs _) h.2.2⟩
  rw [h.1, if_neg h0, if_pos rfl, Nat.mod_eq_of_lt (by omega)]
theorem TxI.more {n m : Nat} {D : List Nat} (h : TxI n m D) (hq : m / 1000000000 ≠ 0) : TxI n (m / 1000000000) ((List.replicate (9 - (dec (m % 1000000000)).length) 48 ++ dec (m % 1000000000)) ++ D) := by
  refine ⟨?_, Nat.le_trans (Nat.div_le_self _ _) h.2.1, digs_app (digs_app (digs_rep _) (dec_digs _)) h.2.2⟩
  rw [h.1, if_neg (show m ≠ 0 by omega), if_neg hq, dec_step 8 (m := m) (q := m / 1000000000) (r := m % 1000000000) (by omega) (by omega) (by omega), List.append_assoc]
theorem TxI.len {n m : Nat} {D : List Nat} (h : TxI n m D) : D.length ≤ (dec n).length := by
  rw [h.1]; split
  · exact Nat.le_refl _
  · simp
theorem text_zero : Spec Tryz.prog 43 [iv 0] (.sc (.string (st (txt 0)))) := by
  have e1 : limbsOf 0 = [] := limbsOf_nil.2 rfl
  have e0 : limbsOf (Int.natAbs 0) = [] := e1
  have c1 := trim_n 0 (by rw [e1]; simp)
  have et : st (txt 0) = ⟨#[48]⟩ := by unfold txt; rw [dec_lt (by decide)]; rfl
  rw [et]
  unfold iv sv at *
  rw [e0]; rw [e1] at c1
  refine Spec.run Tryz.func43 rfl Tryz.ntmps43 (by simp) (by simp (disch := omega) only [go_sem]; rfl) fun B hB => ?_
  (repeat (first | refine DO.nil (by kernel_rfl) ?_ | (with_reducible refine oz (by constructor <;> decide) ?_) | ((first | apply SO.call | apply DO.call); (iterate 3 (focus (simp (disch := omega) only [go_sem, ↓reduceIte] <;> rfl))); (first | apply SCall.ofX | apply DCall.ofX); (focus (first | assumption)); (focus (simp (disch := omega) only [go_sem] <;> rfl))) | ((with_reducible first | apply SC.condB | apply SC.region | apply SO.run | apply DO.run); (focus (simp (disch := omega) only [go_sem, ↓reduceIte, Nat.reduceEqDiff, reduceCtorEq] <;> rfl)); (first | refine pickT ?_ | refine pickF ?_ | fail_if_success with_reducible refine pickA ?_)) | ((with_reducible refine SC.draw Tab.mixed ?_ ?_); (focus rfl)) | (with_reducible apply SC.ops)))
  exact retQ_ret Tryz.results43 (by simp (disch := omega) only [go_sem, ↓reduceIte]; rfl) (by simp (disch := omega) only [go_sem]; rfl) rfl
theorem text_s (z : Int) (K : Nat) (hz : Fits K z) (hK : K ≤ 1000) : Spec Tryz.prog 43 [iv z] (.sc (.string (st (txt z)))) := by
  by_cases h0 : z = 0
  · subst h0; exact text_zero
  have hl : (limbsOf z.natAbs).length ≤ K := fits_len hz
  have hn0 : z.natAbs ≠ 0 := by omega
  have hdl := dec_len_limbs z.natAbs hn0
  have c1 := trim_n z.natAbs (by omega)
  have hne : 1 ≤ (limbsOf z.natAbs).length := by
    rcases Nat.eq_zero_or_pos (limbsOf z.natAbs).length with e | e
    · exact absurd (limbsOf_nil.1 (List.eq_nil_of_length_eq_zero e)) hn0
    · exact e
  have q1 : (((limbsOf z.natAbs).length : Int) == 0) = false := by rw [beq_eq_false_iff_ne]; omega
  have hN : (10 * ((limbsOf z.natAbs).length : Int) + 1).toNat = 10 * (limbsOf z.natAbs).length + 1 := by omega
  have ht : txt z = (if z < 0 then [45] else []) ++ dec z.natAbs := rfl
  generalize hn : z.natAbs = n at *
  generalize hs : decide (z < 0) = neg at *
  generalize hNN : 10 * (limbsOf n).length + 1 = N at *
  have hNb : N ≤ 10001 := by omega
  unfold iv sv at *
  rw [hn, hs]
  refine Spec.run Tryz.func43 rfl Tryz.ntmps43 (by simp) (by simp (disch := omega) only [go_sem]; rfl) fun B hB => ?_
  (repeat (first | refine DO.nil (by kernel_rfl) ?_ | (with_reducible refine oz (by constructor <;> decide) ?_) | ((first | apply SO.call | apply DO.call); (iterate 3 (focus (simp (disch := omega) only [go_sem, ↓reduceIte] <;> rfl))); (first | apply SCall.ofX | apply DCall.ofX); (focus (first | assumption)); (focus (simp (disch := omega) only [go_sem] <;> rfl))) | ((with_reducible first | apply SC.condB | apply SC.region | apply SO.run | apply DO.run); (focus (simp (disch := omega) only [go_sem, ↓reduceIte, Nat.reduceEqDiff, Nat.reduceAdd, reduceCtorEq, if_pos, q1, hN] <;> rfl)); (first | refine pickT ?_ | refine pickF ?_ | fail_if_success with_reducible refine pickA ?_)) | ((with_reducible refine SC.draw Tab.mixed ?_ ?_); (focus rfl)) | (with_reducible apply SC.ops)))
  refine SC.loop (fun x : Nat × List Nat => ⟨[(3, .im (lv (limbsOf x.1)) (limbsOf x.1).length), (4, .sl 1 0 N 1 (some N)), (5, .sc (.int .i64 ((N : Int) - x.2.length))), (1, .pt 0 0)], [(1, ⟨5, buf N x.2, false⟩), (0, ⟨27, [.sc (.bool neg), .im (lv (limbsOf n)) (limbsOf n).length], false⟩)], 2, 64⟩) (fun x => TxI n x.1 x.2) (fun x => x.1) (n, []) ?_ ?_ ?_
  · (refine Le.of [] hB (by first | exact ⟨Nat.zero_le _, fun _ _ => Nat.zero_le _⟩ | (constructor <;> (try simp) <;> (try omega))) ?_ ?_ <;> (repeat' (first | exact leSl_nil | exact leHp_nil | refine leSl_cons (by simp (disch := omega) only [go_sem, ↓reduceIte, Nat.reduceEqDiff]; rfl) ?_ ?_ | refine leHp_cons (by simp (disch := omega) only [go_sem, ↓reduceIte, reduceCtorEq]; rfl) ?_ ?_ | exact VLe.junk _ | exact VLe.refl rfl | exact VLe.nil_sl _ _ _ | exact VLe.int (by first | rfl | omega | (dsimp only; omega)) | exact VLe.bool rfl | exact VLe.sl rfl (by first | rfl | omega | (dsimp only; omega) | (simp; done)) | exact VLe.cap rfl (by first | rfl | omega | (dsimp only; omega) | (simp; done)) | exact VLe.im rfl rfl | exact HLe.new rfl | exact HLe.same rfl (LLe.refl rfl) | refine HLe.same rfl ?_ | exact LLe.nil _ | exact LLe.refl rfl | refine LLe.cons ?_ ?_)))
    have e0 : buf N (n, ([] : List Nat)).2 = List.replicate N (.sc (.int .u8 0)) := by simp [buf, bN]
    have := buf_ok (okN 2 []) N []
    rw [show buf N [] = List.replicate N (.sc (.int .u8 0)) by simp [buf, bN]] at this
    rw [e0]
    exact LLe.refl this
  · exact TxI.start hn0
  · rintro ⟨m, D⟩ hI K hK
    simp only at hI ⊢
    have hDl := hI.len
    have hm2 := len_le_of hI.2.1
    have hdp0 := dec_length_pos n
    have hbl := buf_len (N := N) (D := D) (by omega)
    by_cases hm : m = 0
    · subst hm
      have e1 : limbsOf 0 = [] := limbsOf_nil.2 rfl
      have hd : dec n = D := by have := hI.1; rwa [if_pos rfl] at this
      have hD := hI.2.2
      subst hd
      rw [e1]
      have g1 : ((N : Int) - ((dec n).length : Nat)).toNat = N - (dec n).length := by omega
      cases neg with
      | false =>
        have hz0 : ¬ z < 0 := of_decide_eq_false hs
        rw [if_neg hz0, List.nil_append] at ht
        rw [ht]
        have ec := fun H => conv_buf (N := N) (D := dec n) H hD (by omega)
        (repeat (first | refine DO.nil (by kernel_rfl) ?_ | (with_reducible refine oz (by constructor <;> decide) ?_) | ((with_reducible first | apply SC.condB | apply SC.region | apply SO.run | apply DO.run); (focus (simp (disch := omega) only [go_sem, ↓reduceIte, Nat.reduceEqDiff, Nat.reduceLT, reduceCtorEq, if_pos, g1, ec] <;> rfl)); (first | refine pickT ?_ | refine pickF ?_ | fail_if_success with_reducible refine pickA ?_)) | ((with_reducible refine SC.draw Tab.mixed ?_ ?_); (focus rfl)) | (with_reducible apply SC.ops)))
        exact retQ_ret Tryz.results43 (by simp (disch := omega) only [go_sem, ↓reduceIte]; rfl) (by simp (disch := omega) only [go_sem]; rfl) rfl
      | true =>
        have hz0 : z < 0 := of_decide_eq_true hs
        rw [if_pos hz0] at ht
        rw [ht]
        have g2 : ((N : Int) - ((dec n).length : Nat) - 1).toNat = N - ([45] ++ dec n).length := by rw [List.length_append, List.length_singleton]; omega
        have hp1 : setAll (buf N (dec n)) (N - ([45] ++ dec n).length) (bN [45]) = buf N ([45] ++ dec n) := buf_put (by simp; omega)
        have hp2 : (buf N (dec n)).set (N - ([45] ++ dec n).length) (.sc (.int .u8 45)) = buf N ([45] ++ dec n) := hp1
        have ec := fun H => conv_buf' (N := N) (D := [45] ++ dec n) H (by intro x hx; rcases List.mem_append.1 hx with h | h; · simp at h; omega
                                                                          · exact digs_lt hD x h) (by simp; omega)
        have hbl2 := buf_len (N := N) (D := [45] ++ dec n) (by simp; omega)
        have hl2 : ([45] ++ dec n).length = (dec n).length + 1 := by simp
        generalize [45] ++ dec n = D2 at *
        (repeat (first | refine DO.nil (by kernel_rfl) ?_ | (with_reducible refine oz (by constructor <;> decide) ?_) | ((with_reducible first | apply SC.condB | apply SC.region | apply SO.run | apply DO.run); (focus (simp (disch := omega) only [go_sem, ↓reduceIte, Nat.reduceEqDiff, Nat.reduceLT, reduceCtorEq, if_pos, g2, ec, hp2, hbl] <;> rfl)); (first | refine pickT ?_ | refine pickF ?_ | fail_if_success with_reducible refine pickA ?_)) | ((with_reducible refine SC.draw Tab.mixed ?_ ?_); (focus rfl)) | (with_reducible apply SC.ops)))
        exact retQ_ret Tryz.results43 (by simp (disch := omega) only [go_sem, ↓reduceIte]; rfl) (by simp (disch := omega) only [go_sem]; rfl) rfl
    · have q2 : decide (((limbsOf m).length : Int) > 0) = true := by
        have : (limbsOf m).length ≠ 0 := fun e => hm (limbsOf_nil.1 (List.eq_nil_of_length_eq_zero e))
        simp; omega
      have c2 := pshort_i (limbsOf m) 1000000000 (limbsOf_limbs m) (by omega) (by decide) (by decide)
      have gm := val_lt (limbsOf_limbs m)
      rw [limbsOf_val] at c2 gm
      have c3 := trim_i (dg (limbsOf m).length (m / 1000000000)) (dg_limbs _ _) (by rw [dg_len]; omega)
      rw [dg_val _ _ (Nat.lt_of_le_of_lt (Nat.div_le_self _ _) gm)] at c3
      have hr : m % 1000000000 < 1000000000 := Nat.mod_lt _ (by decide)
      have c4 := format_s (m % 1000000000) hr
      have q3 : ((m % 1000000000 : Nat) : Int) % 18446744073709551616 = ((m % 1000000000 : Nat) : Int) := by omega
      have hdr := (decP_pad (w := 8) hr).1
      have hdp := dec_length_pos (m % 1000000000)
      have s1 := st_size (dec (m % 1000000000))
      have hR := dec_digs (m % 1000000000)
      unfold sv at *
      by_cases hq : m / 1000000000 = 0
      · have hI2 := hI.last hm hq
        rw [hq] at c2 c3
        have e1 : limbsOf 0 = [] := limbsOf_nil.2 rfl
        rw [e1] at c3
        have hl2 := hI2.len
        rw [List.length_append] at hl2
        generalize dec (m % 1000000000) = R at *
        have g2 : ((N : Int) - (D.length : Nat) - (R.length : Nat)).toNat = N - (R ++ D).length := by rw [List.length_append]; omega
        have hp1 : setAll (buf N D) (N - (R ++ D).length) (bN R) = buf N (R ++ D) := buf_put (by omega)
        have g3 : N - (N - (R ++ D).length) = R.length + D.length := by rw [List.length_append]; omega
        have eb := bytesT_st (digs_lt hR)
        have hl3 : (R ++ D).length = R.length + D.length := List.length_append
        (repeat (first | refine DO.nil (by kernel_rfl) ?_ | (with_reducible refine oz (by constructor <;> decide) ?_) | ((first | apply SO.call | apply DO.call); (iterate 3 (focus (simp (disch := omega) only [go_sem, ↓reduceIte] <;> rfl))); (first | apply SCall.ofX | apply DCall.ofX); (focus (first | assumption)); (focus (simp (disch := omega) only [go_sem] <;> rfl))) | ((with_reducible first | apply SC.condB | apply SC.region | apply SO.run | apply DO.run); (focus (simp (disch := omega) only [go_sem, ↓reduceIte, Nat.reduceEqDiff, if_pos, q2, s1, g2, g3, hp1, eb, hbl] <;> rfl)); (first | refine pickT ?_ | refine pickF ?_ | fail_if_success with_reducible refine pickA ?_)) | ((with_reducible refine SC.draw Tab.mixed ?_ ?_); (focus rfl)) | (with_reducible apply SC.ops)))
        refine hK _ (0, R ++ D) ?_ hI2 (by simp only; omega)
        (refine Le.of [] hB (by first | exact ⟨Nat.zero_le _, fun _ _ => Nat.zero_le _⟩ | (constructor <;> (try simp) <;> (try omega))) ?_ ?_ <;> (repeat' (first | exact leSl_nil | exact leHp_nil | refine leSl_cons (by simp (disch := omega) only [go_sem, ↓reduceIte, Nat.reduceEqDiff]; rfl) ?_ ?_ | refine leHp_cons (by simp (disch := omega) only [go_sem, ↓reduceIte, reduceCtorEq]; rfl) ?_ ?_ | exact VLe.junk _ | exact VLe.refl rfl | exact VLe.nil_sl _ _ _ | exact VLe.int (by first | rfl | omega | (dsimp only; omega)) | exact VLe.bool rfl | exact VLe.sl rfl (by first | rfl | omega | (dsimp only; omega) | (simp; done)) | exact VLe.cap rfl (by first | rfl | omega | (dsimp only; omega) | (simp; done)) | exact VLe.im rfl rfl | exact HLe.new rfl | exact HLe.same rfl (LLe.refl rfl) | refine HLe.same rfl ?_ | exact LLe.nil _ | exact LLe.refl rfl | refine LLe.cons ?_ ?_)))
        exact LLe.refl (buf_ok _ _ _)
      · have hI2 := hI.more hq
        have q4 : decide (((limbsOf (m / 1000000000)).length : Int) > 0) = true := by
          have : (limbsOf (m / 1000000000)).length ≠ 0 := fun e => hq (limbsOf_nil.1 (List.eq_nil_of_length_eq_zero e))
          simp; omega
        have hl2 := hI2.len
        have c5 := rep_s (9 - (dec (m % 1000000000)).length) (by omega)
        have q5 : (9 : Int) - ((dec (m % 1000000000)).length : Nat) = ((9 - (dec (m % 1000000000)).length : Nat) : Int) := by omega
        rw [List.length_append] at hl2
        have hm3 : m / 1000000000 < m := by omega
        generalize dec (m % 1000000000) = R at *
        have s2 := strB_st (List.replicate (9 - R.length) 48) R (by simp; omega)
        have hZ : List.replicate (9 - R.length) 48 ++ R = List.replicate (9 - R.length) 48 ++ R := rfl
        have hR2 : Digs (List.replicate (9 - R.length) 48 ++ R) := digs_app (digs_rep _) hR
        have hRl : (List.replicate (9 - R.length) 48 ++ R).length = 9 := by simp; omega
        have s3 := st_size (List.replicate (9 - R.length) 48 ++ R)
        generalize List.replicate (9 - R.length) 48 ++ R = R2 at *
        have g2 : ((N : Int) - (D.length : Nat) - (R2.length : Nat)).toNat = N - (R2 ++ D).length := by rw [List.length_append]; omega
        have hp1 : setAll (buf N D) (N - (R2 ++ D).length) (bN R2) = buf N (R2 ++ D) := buf_put (by omega)
        have g3 : N - (N - (R2 ++ D).length) = R2.length + D.length := by rw [List.length_append]; omega
        have eb := bytesT_st (digs_lt hR2)
        have hl3 : (R2 ++ D).length = R2.length + D.length := List.length_append
        (repeat (first | refine DO.nil (by kernel_rfl) ?_ | (with_reducible refine oz (by constructor <;> decide) ?_) | ((first | apply SO.call | apply DO.call); (iterate 3 (focus (simp (disch := omega) only [go_sem, ↓reduceIte] <;> rfl))); (first | apply SCall.ofX | apply DCall.ofX); (focus (first | assumption)); (focus (simp (disch := omega) only [go_sem] <;> rfl))) | ((with_reducible first | apply SC.condB | apply SC.region | apply SO.run | apply DO.run); (focus (simp (disch := omega) only [go_sem, ↓reduceIte, Nat.reduceEqDiff, if_pos, q2, q4, q5, s1, s2, s3, g2, g3, hp1, eb, hbl] <;> rfl)); (first | refine pickT ?_ | refine pickF ?_ | fail_if_success with_reducible refine pickA ?_)) | ((with_reducible refine SC.draw Tab.mixed ?_ ?_); (focus rfl)) | (with_reducible apply SC.ops)))
        refine hK _ (m / 1000000000, R2 ++ D) ?_ hI2 (by simp only; omega)
        (refine Le.of [] hB (by first | exact ⟨Nat.zero_le _, fun _ _ => Nat.zero_le _⟩ | (constructor <;> (try simp) <;> (try omega))) ?_ ?_ <;> (repeat' (first | exact leSl_nil | exact leHp_nil | refine leSl_cons (by simp (disch := omega) only [go_sem, ↓reduceIte, Nat.reduceEqDiff]; rfl) ?_ ?_ | refine leHp_cons (by simp (disch := omega) only [go_sem, ↓reduceIte, reduceCtorEq]; rfl) ?_ ?_ | exact VLe.junk _ | exact VLe.refl rfl | exact VLe.nil_sl _ _ _ | exact VLe.int (by first | rfl | omega | (dsimp only; omega)) | exact VLe.bool rfl | exact VLe.sl rfl (by first | rfl | omega | (dsimp only; omega) | (simp; done)) | exact VLe.cap rfl (by first | rfl | omega | (dsimp only; omega) | (simp; done)) | exact VLe.im rfl rfl | exact HLe.new rfl | exact HLe.same rfl (LLe.refl rfl) | refine HLe.same rfl ?_ | exact LLe.nil _ | exact LLe.refl rfl | refine LLe.cons ?_ ?_)))
        exact LLe.refl (buf_ok _ _ _)
end Go.Proofs.YtpodnbcdddcdmaaGreatDoor

/- integer.Read. -/
namespace Go.Proofs.YtpodnbcdddcdmaaGreatDoor
open Go.RowKit
end Go.Proofs.YtpodnbcdddcdmaaGreatDoor

/- The reference's Text. -/
namespace Go.Proofs.YtpodnbcdddcdmaaGreatDoor
open Go.RowKit
def TxJ (n m : Nat) (D : List Nat) : Prop := (m = 0 ∧ D ≠ [] ∧ dec n = D) ∨ ((0 < m ∨ D = []) ∧ dec n = dec m ++ D)
theorem TxJ.step {n m : Nat} {D : List Nat} (h : TxJ n m D) (hc : 0 < m ∨ D = []) : TxJ n (m / 10) ((48 + m % 10) :: D) := by
  have h2 : dec n = dec m ++ D := by
    rcases h with ⟨h1, h2, _⟩ | h
    · rcases hc with h | h
      · omega
      · exact absurd h h2
    · exact h.2
  by_cases hm : m < 10
  · rw [dec_lt (n := m) hm] at h2
    exact .inl ⟨by omega, by simp, by rw [h2, Nat.mod_eq_of_lt hm]; rfl⟩
  · rw [dec_ge (n := m) (by omega)] at h2
    exact .inr ⟨.inl (by omega), by rw [h2]; simp⟩
theorem TxJ.done {n m : Nat} {D : List Nat} (h : TxJ n m D) (hc : ¬ (0 < m ∨ D = [])) : dec n = D := by
  rcases h with h | h
  · exact h.2.2
  · exact absurd h.1 hc
theorem TxJ.len {n m : Nat} {D : List Nat} (h : TxJ n m D) : D.length ≤ (dec n).length := by
  rcases h with h | h
  · rw [h.2.2]; exact Nat.le_refl _
  · rw [h.2]; simp
theorem dec_len_10 (n K : Nat) (h : n < 4294967296 ^ K) : (dec n).length ≤ 10 * K + 1 := by
  have h2 : 4294967296 ^ K ≤ 10 ^ (10 * K) := by
    rw [Nat.pow_mul]; exact Nat.pow_le_pow_left (by decide) _
  exact dec_len_le (w := 10 * K) (Nat.lt_of_lt_of_le h (Nat.le_trans h2 (Nat.pow_le_pow_right (by decide) (by omega))))
theorem ivn (m : Nat) : iv (m : Int) = .ag [.sc (.bool false), .im (lv (limbsOf m)) (limbsOf m).length] := by
  unfold iv sv; rw [decide_eq_false (show ¬ (m : Int) < 0 by omega), Int.natAbs_natCast]
theorem smallI_lt (m : Nat) (h : m < 10) : smallI (m : Int) = m := by
  unfold smallI
  rw [Int.natAbs_natCast, if_pos]
  · unfold IntKind.wrap; simp [IntKind.bits, IntKind.signed]; omega
  · have := fits_len' (n := m) (K := 1) (by omega); omega
theorem smallB_lt (m : Nat) (h : m < 10) : smallB (m : Int) = true := by
  unfold smallB; simp; omega
theorem bN_one (l : List Nat) : (bN l).all V.one = true := by
  rw [List.all_eq_true]; intro x hx; unfold bN at hx; obtain ⟨y, _, rfl⟩ := List.mem_map.1 hx; rfl
theorem bN_ok (ok : Nat → Bool) (l : List Nat) : (bN l).all (okL ok) = true := by
  rw [List.all_eq_true]; intro x hx; unfold bN at hx; obtain ⟨y, _, rfl⟩ := List.mem_map.1 hx; rfl
theorem bN_ren (f : Nat → Nat) (l : List Nat) : V.renL f (bN l) = bN l := by
  induction l with
  | nil => rfl
  | cons x l ih => rw [bN_cons, V.renL, ih]; rfl
theorem conv_at (l : List Nat) (H : List (Nat × Blk)) (h : hget H 1 = some ⟨5, bN l, false⟩) : exConvH Tryz.prog H 71 9 (.sl 1 0 l.length 1 none) = some (.sc (.string (st l))) := by
  show bytesH _ _ _ _ _ = _
  unfold bytesH
  have t1 : isStr Tryz.prog 9 = true := by kernel_rfl
  have t2 : isBytes Tryz.prog 71 = true := by kernel_rfl
  rw [if_pos ⟨t1, t2⟩]
  have e : srcV H (.sl 1 0 l.length 1 none) = some (bN l, l.length) := by
    rw [srcV_sl, h, srcG_some, if_pos (by simp), List.drop_zero, List.take_of_length_le (by simp)]
  rw [e]
  simp only [Option.bind_some]
  rw [if_pos (bN_len l), bytesV_bN]; rfl
theorem rtext_s (z : Int) (K : Nat) (hz : Fits K z) (hK : K ≤ 1000) : Spec Tryz.prog 67 [iv z] (.sc (.string (st (txt z)))) := by
  have hl : (limbsOf z.natAbs).length ≤ K := fits_len hz
  have c1 := made_nat z.natAbs (by omega)
  have c2 := of_i 10 (by decide) (by decide)
  have hf10 : Fits 1 (10 : Int) := fits_one (by decide)
  have ht : txt z = (if z < 0 then [45] else []) ++ dec z.natAbs := rfl
  have hnK : z.natAbs < 4294967296 ^ K := hz
  have hdl := dec_len_10 _ _ hnK
  generalize hn : z.natAbs = n at *
  generalize hs : decide (z < 0) = neg at *
  have cS := fun (m : Nat) (h : m ≤ n) => sign_i (m : Int) K (by unfold Fits; rw [Int.natAbs_natCast]; omega) (by omega)
  have cD := fun (m : Nat) (h : m ≤ n) => divmod_i (m : Int) 10 (K + 1) (Fits.mono (K := K) (by unfold Fits; rw [Int.natAbs_natCast]; omega) (by omega)) (hf10.mono (by omega)) (by omega) (by decide)
  have cM := fun (m : Nat) (h : m ≤ n) => small_i ((m % 10 : Nat) : Int) 1 (fits_one (by omega)) (by decide)
  rw [ivn] at c1
  simp only [ivn] at cS cM
  have cD' : ∀ m : Nat, m ≤ n → Spec Tryz.prog 48 [iv (m : Int), iv 10] (.tu [iv ((m / 10 : Nat) : Int), iv ((m % 10 : Nat) : Int), .sc (.int .i64 0)]) := cD
  clear cD
  simp only [ivn] at cD'
  unfold iv sv at *
  rw [hn, hs]
  generalize limbsOf (Int.natAbs 10) = T at *
  generalize decide ((10 : Int) < 0) = bT at *
  refine Spec.run Tryz.func67 rfl Tryz.ntmps67 (by simp) (by simp (disch := omega) only [go_sem]; rfl) fun B hB => ?_
  (repeat (first | refine DO.nil (by kernel_rfl) ?_ | (with_reducible refine oz (by constructor <;> decide) ?_) | ((first | apply SO.call | apply DO.call); (iterate 3 (focus (simp (disch := omega) only [go_sem, ↓reduceIte] <;> rfl))); (first | apply SCall.ofX | apply DCall.ofX); (focus (first | assumption)); (focus (simp (disch := omega) only [go_sem] <;> rfl))) | ((with_reducible first | apply SC.condB | apply SC.region | apply SO.run | apply DO.run); (focus (simp (disch := omega) only [go_sem, ↓reduceIte, Nat.reduceEqDiff, Nat.reduceLeDiff, Nat.reduceAdd, reduceCtorEq] <;> rfl)); (first | refine pickT ?_ | refine pickF ?_ | fail_if_success with_reducible refine pickA ?_)) | ((with_reducible refine SC.draw Tab.mixed ?_ ?_); (focus rfl)) | (with_reducible apply SC.ops)))
  refine SC.loop (fun x : Nat × List Nat => ⟨[(3, .sl 1 0 x.2.length 1 none), (5, .pt 3 0), (4, .pt 2 0), (1, .pt 0 0)], [(3, ⟨27, [.sc (.bool bT), .im (lv T) T.length], false⟩), (2, ⟨27, [.sc (.bool false), .im (lv (limbsOf x.1)) (limbsOf x.1).length], false⟩), (1, ⟨5, bN x.2, false⟩), (0, ⟨27, [.sc (.bool neg), .im (lv (limbsOf n)) (limbsOf n).length], false⟩)], 4, 52⟩) (fun x => TxJ n x.1 x.2 ∧ x.1 ≤ n) (fun x => x.1 + (if x.2 = [] then 1 else 0)) (n, []) ?_ ?_ ?_
  · (refine Le.of [] hB (by first | exact ⟨Nat.zero_le _, fun _ _ => Nat.zero_le _⟩ | (constructor <;> (try simp) <;> (try omega))) ?_ ?_ <;> (repeat' (first | exact leSl_nil | exact leHp_nil | refine leSl_cons (by simp (disch := omega) only [go_sem, ↓reduceIte, Nat.reduceEqDiff]; rfl) ?_ ?_ | refine leHp_cons (by simp (disch := omega) only [go_sem, ↓reduceIte, Nat.reduceEqDiff, reduceCtorEq]; rfl) ?_ ?_ | exact VLe.junk _ | exact VLe.refl rfl | exact VLe.nil_sl _ _ _ | exact VLe.int (by first | rfl | omega | (dsimp only; omega)) | exact VLe.bool rfl | exact VLe.sl rfl (by first | rfl | omega | (dsimp only; omega) | (simp; done)) | exact VLe.cap rfl (by first | rfl | omega | (dsimp only; omega) | (simp; done)) | exact VLe.im rfl rfl | exact HLe.new rfl | exact HLe.same rfl (LLe.refl rfl) | refine HLe.same rfl ?_ | exact LLe.nil _ | exact LLe.refl rfl | refine LLe.cons ?_ ?_)))
  · exact ⟨.inr ⟨.inr rfl, by simp⟩, Nat.le_refl _⟩
  · rintro ⟨m, D⟩ ⟨hI, hmn⟩ K hK
    simp only at hI hmn ⊢
    have c3 := cS m hmn
    have c4 := cD' m hmn
    have c5 := cM m hmn
    have hDl := hI.len
    clear cS cD' cM
    by_cases hc : 0 < m ∨ D = []
    · have hst := hI.step hc
      have hsl := hst.len
      rw [smallI_lt _ (by omega), smallB_lt _ (by omega)] at c5
      have hr : m % 10 < 10 := Nat.mod_lt _ (by decide)
      have hq : m / 10 ≤ m := Nat.div_le_self _ _
      have hbl := bN_len D
      have htk : (bN D).take D.length = bN D := List.take_of_length_le (by simp)
      have hone := bN_one D
      by_cases hm : 0 < m
      · rw [Int.sign_eq_one_of_pos (by omega)] at c3
        have hlt : m / 10 < m := by omega
        generalize m % 10 = r at *
        generalize m / 10 = q at *
        (repeat (first | refine DO.nil (by kernel_rfl) ?_ | (with_reducible refine oz (by constructor <;> decide) ?_) | ((first | apply SO.call | apply DO.call); (iterate 3 (focus (simp (disch := omega) only [go_sem, ↓reduceIte, Nat.reduceEqDiff] <;> rfl))); (first | apply SCall.ofX | apply DCall.ofX); (focus (first | assumption)); (focus (simp (disch := omega) only [go_sem] <;> rfl))) | ((with_reducible first | apply SC.condB | apply SC.region | apply SO.run | apply DO.run); (focus (simp (disch := omega) only [go_sem, ↓reduceIte, Nat.reduceEqDiff, Nat.reduceLeDiff, Nat.reduceAdd, reduceCtorEq, if_pos, hbl, htk, hone] <;> rfl)); (first | refine pickT ?_ | refine pickF ?_ | fail_if_success with_reducible refine pickA ?_)) | ((with_reducible refine SC.draw Tab.mixed ?_ ?_); (focus rfl)) | (with_reducible apply SC.ops)))
        rw [Nat.add_comm 1 D.length]
        refine hK _ (q, (48 + r) :: D) (Le.swap 1 7 hB (by omega) (by omega) ?_) ⟨hst, by simp only; omega⟩ (by simp; omega)
        (refine Le.of [] hB (by first | exact ⟨Nat.zero_le _, fun _ _ => Nat.zero_le _⟩ | (constructor <;> (try simp) <;> (try omega))) ?_ ?_ <;> (repeat' (first | exact leSl_nil | exact leHp_nil | refine leSl_cons (by simp (disch := omega) only [go_sem, ↓reduceIte, Nat.reduceEqDiff, reduceCtorEq]; rfl) ?_ ?_ | refine leHp_cons (by simp (disch := omega) only [go_sem, ↓reduceIte, Nat.reduceEqDiff, reduceCtorEq]; rfl) ?_ ?_ | exact VLe.junk _ | exact VLe.refl rfl | exact VLe.nil_sl _ _ _ | exact VLe.int (by first | rfl | omega | (dsimp only; omega)) | exact VLe.bool rfl | exact VLe.sl rfl (by first | rfl | omega | (dsimp only; omega) | (simp; done)) | exact VLe.cap rfl (by first | rfl | omega | (dsimp only; omega) | (simp; done)) | exact VLe.im rfl rfl | exact HLe.new rfl | exact HLe.same rfl (LLe.refl rfl) | refine HLe.same rfl ?_ | exact LLe.nil _ | exact LLe.refl rfl | refine LLe.cons ?_ ?_)))
        all_goals rw [bN_ren]
        all_goals exact LLe.refl (bN_ok _ _)
      · have hD : D = [] := hc.resolve_left hm
        subst hD
        have hm0 : m = 0 := by omega
        subst hm0
        rw [show ((0 : Nat) : Int).sign = 0 from rfl] at c3
        generalize hr0 : 0 % 10 = r at *
        generalize hq0 : 0 / 10 = q at *
        have e0 : bN [] = [] := rfl
        (repeat (first | refine DO.nil (by kernel_rfl) ?_ | (with_reducible refine oz (by constructor <;> decide) ?_) | ((first | apply SO.call | apply DO.call); (iterate 3 (focus (simp (disch := omega) only [go_sem, ↓reduceIte, Nat.reduceEqDiff] <;> rfl))); (first | apply SCall.ofX | apply DCall.ofX); (focus (first | assumption)); (focus (simp (disch := omega) only [go_sem] <;> rfl))) | ((with_reducible first | apply SC.condB | apply SC.region | apply SO.run | apply DO.run); (focus (simp (disch := omega) only [go_sem, ↓reduceIte, Nat.reduceEqDiff, Nat.reduceLeDiff, Nat.reduceAdd, reduceCtorEq, if_neg, hbl] <;> rfl)); (first | refine pickT ?_ | refine pickF ?_ | fail_if_success with_reducible refine pickA ?_)) | ((with_reducible refine SC.draw Tab.mixed ?_ ?_); (focus rfl)) | (with_reducible apply SC.ops)))
        refine hK _ (q, [48 + r]) (Le.swap 1 7 hB (by omega) (by omega) ?_) ⟨hst, by simp only; omega⟩ (by simp; omega)
        (refine Le.of [] hB (by first | exact ⟨Nat.zero_le _, fun _ _ => Nat.zero_le _⟩ | (constructor <;> (try simp) <;> (try omega))) ?_ ?_ <;> (repeat' (first | exact leSl_nil | exact leHp_nil | refine leSl_cons (by simp (disch := omega) only [go_sem, ↓reduceIte, Nat.reduceEqDiff, reduceCtorEq]; rfl) ?_ ?_ | refine leHp_cons (by simp (disch := omega) only [go_sem, ↓reduceIte, Nat.reduceEqDiff, reduceCtorEq]; rfl) ?_ ?_ | exact VLe.junk _ | exact VLe.refl rfl | exact VLe.nil_sl _ _ _ | exact VLe.int (by first | rfl | omega | (dsimp only; omega)) | exact VLe.bool rfl | exact VLe.sl rfl (by first | rfl | omega | (dsimp only; omega) | (simp; done)) | exact VLe.cap rfl (by first | rfl | omega | (dsimp only; omega) | (simp; done)) | exact VLe.im rfl rfl | exact HLe.new rfl | exact HLe.same rfl (LLe.refl rfl) | refine HLe.same rfl ?_ | exact LLe.nil _ | exact LLe.refl rfl | refine LLe.cons ?_ ?_)))
    · have hd := hI.done hc
      have hm0 : m = 0 := by omega
      subst hm0
      rw [show ((0 : Nat) : Int).sign = 0 from rfl] at c3
      have hD : D.length ≠ 0 := fun e => hc (.inr (List.eq_nil_of_length_eq_zero e))
      have q1 : ((D.length : Int) == 0) = false := by rw [beq_eq_false_iff_ne]; omega
      have e2 : ∀ X Y Z : List V, exConvH Tryz.prog [(3, ⟨27, X, false⟩), (2, ⟨27, Y, false⟩), (1, ⟨5, bN D, false⟩), (0, ⟨27, Z, false⟩)] 71 9 (.sl 1 0 D.length 1 none) = some (.sc (.string (st D))) := fun X Y Z => conv_at D _ (by rfl)
      have e3 : strB .add ⟨#[45]⟩ (st D) = some (.string (st ([45] ++ D))) := strB_st [45] D (by simp; omega)
      cases neg with
      | false =>
        have hz0 : ¬ z < 0 := of_decide_eq_false hs
        rw [if_neg hz0, List.nil_append, hd] at ht
        rw [ht]
        (repeat (first | refine DO.nil (by kernel_rfl) ?_ | (with_reducible refine oz (by constructor <;> decide) ?_) | ((first | apply SO.call | apply DO.call); (iterate 3 (focus (simp (disch := omega) only [go_sem, ↓reduceIte] <;> rfl))); (first | apply SCall.ofX | apply DCall.ofX); (focus (first | assumption)); (focus (simp (disch := omega) only [go_sem] <;> rfl))) | ((with_reducible first | apply SC.condB | apply SC.region | apply SO.run | apply DO.run); (focus (simp (disch := omega) only [go_sem, ↓reduceIte, Nat.reduceEqDiff, Nat.reduceLT, Nat.reduceLeDiff, Nat.reduceAdd, reduceCtorEq, if_neg, q1, e2] <;> rfl)); (first | refine pickT ?_ | refine pickF ?_ | fail_if_success with_reducible refine pickA ?_)) | ((with_reducible refine SC.draw Tab.mixed ?_ ?_); (focus rfl)) | (with_reducible apply SC.ops)))
        exact retQ_ret Tryz.results67 (by simp (disch := omega) only [go_sem, ↓reduceIte]; rfl) (by simp (disch := omega) only [go_sem]; rfl) rfl
      | true =>
        have hz0 : z < 0 := of_decide_eq_true hs
        rw [if_pos hz0, hd] at ht
        rw [ht]
        (repeat (first | refine DO.nil (by kernel_rfl) ?_ | (with_reducible refine oz (by constructor <;> decide) ?_) | ((first | apply SO.call | apply DO.call); (iterate 3 (focus (simp (disch := omega) only [go_sem, ↓reduceIte] <;> rfl))); (first | apply SCall.ofX | apply DCall.ofX); (focus (first | assumption)); (focus (simp (disch := omega) only [go_sem] <;> rfl))) | ((with_reducible first | apply SC.condB | apply SC.region | apply SO.run | apply DO.run); (focus (simp (disch := omega) only [go_sem, ↓reduceIte, Nat.reduceEqDiff, Nat.reduceLeDiff, Nat.reduceAdd, reduceCtorEq, if_neg, q1, e2, e3] <;> rfl)); (first | refine pickT ?_ | refine pickF ?_ | fail_if_success with_reducible refine pickA ?_)) | ((with_reducible refine SC.draw Tab.mixed ?_ ?_); (focus rfl)) | (with_reducible apply SC.ops)))
        exact retQ_ret Tryz.results67 (by simp (disch := omega) only [go_sem, ↓reduceIte]; rfl) (by simp (disch := omega) only [go_sem]; rfl) rfl
end Go.Proofs.YtpodnbcdddcdmaaGreatDoor

/- The reference's Read. -/
namespace Go.Proofs.YtpodnbcdddcdmaaGreatDoor
open Go.RowKit
end Go.Proofs.YtpodnbcdddcdmaaGreatDoor

/- Texts and integers, back and forth: the plain law; strings compared. -/
namespace Go.Proofs.YtpodnbcdddcdmaaGreatDoor
open Go.RowKit
theorem txt_lt (z : Int) : ∀ x ∈ txt z, x < 256 := by
  intro x hx
  unfold txt at hx
  rcases List.mem_append.1 hx with h | h
  · split at h
    · simp at h; omega
    · cases h
  · exact digs_lt (dec_digs _) x h
theorem txt_len (z : Int) (K : Nat) (h : Fits K z) : (txt z).length ≤ 10 * K + 2 := by
  have := dec_len_10 z.natAbs K h
  unfold txt; split <;> simp <;> omega
theorem dec_notM (n : Nat) : (dec n).head? ≠ some 45 := by
  intro h
  have h2 := dec_digs n
  cases hd : dec n with
  | nil => exact dec_ne n hd
  | cons x l =>
    rw [hd] at h h2
    have := h2 x (by simp)
    simp at h; omega
theorem isM_txt (z : Int) : isM (txt z) = decide (z < 0) := by
  unfold isM txt
  by_cases h : z < 0
  · rw [if_pos h, decide_eq_true h]; rfl
  · rw [if_neg h, decide_eq_false h, List.nil_append]; exact decide_eq_false (dec_notM _)
theorem unM_txt (z : Int) : unM (txt z) = dec z.natAbs := by
  unfold unM txt
  by_cases h : z < 0
  · rw [if_pos h]; rfl
  · rw [if_neg h, List.nil_append, if_neg (dec_notM _)]
theorem fits_zeroT (K : Nat) : Fits K 0 := Nat.pow_pos (by decide)
end Go.Proofs.YtpodnbcdddcdmaaGreatDoor
