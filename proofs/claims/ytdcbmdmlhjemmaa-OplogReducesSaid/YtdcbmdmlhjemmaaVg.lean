/- Texts joined: Tab Sn Qa Base Val Ja Jb Jc Jd. -/
import Derived.Test.YtdcbmdmlhjemmaaProg
import Derived.KernelRfl
import Derived.WalkSmall
import Derived.WalkKit
import Derived.Deep.QuietTactic
import Derived.BigQuiet
import Derived.Deep.LoopGhost
import Derived.Laws.AppendOwnNone
import Derived.Deep.RegionHeld3
import Derived.Deep.DeepCutAuto
import Derived.Test.YtdcbmdmlhjemmaaVd
import Derived.Test.YtdcbmdmlhjemmaaVf
set_option linter.all false
open Nat renaming reduceEqDiff → zn1, reduceLT → zn2, reduceLeDiff → zn3, reduceAdd → zn4, reduceMul → zn5, reduceSub → zn6, reduceBEq → zn7, mul_one → zn8, zero_add → zn9, one_mul → zna, le_refl → znb, zero_le → znc, add_sub_cancel_left → znd, sub_eq_zero_of_le → zne, add_assoc → znf
open Int renaming reduceToNat → zi1, reducePow → zi2
open List renaming length_append → zl1, drop_zero → zl2, take_succ_cons → zl3, take_zero → zl4, getElem?_drop → zl5, append_assoc → zl6, nil_append → zl7, cons_append → zl8, drop_succ_cons → zl9, take_of_length_le → zla, getElem?_eq_getElem → zlb, getElem?_eq_some_iff → zlc, map_cons → zld, map_nil → zle, all_eq_true → zlf
namespace Go.Proofs.Ytdcbmdmlhjemmaa
open Go.RowKit
@[go_sem] theorem Tab.has2 : hasT Try.prog 2 = true := by kernel_rfl
@[go_sem] theorem Tab.int2 : intOf' Try.prog 2 = some .i64 := by kernel_rfl
@[go_sem] theorem Tab.agg3 : aggOf Try.prog 3 = some false := by kernel_rfl
@[go_sem] theorem Tab.sz3 : szOf Try.prog 3 = some 1 := by kernel_rfl
@[go_sem] theorem Tab.int3 : intOf' Try.prog 3 = some .i64 := by kernel_rfl
@[go_sem] theorem Tab.agg4 : aggOf Try.prog 4 = some false := by kernel_rfl
@[go_sem] theorem Tab.sz4 : szOf Try.prog 4 = some 1 := by kernel_rfl
@[go_sem] theorem Tab.bool4 : isBool Try.prog 4 = true := by kernel_rfl
@[go_sem] theorem Tab.agg5 : aggOf Try.prog 5 = some false := by kernel_rfl
@[go_sem] theorem Tab.sz5 : szOf Try.prog 5 = some 1 := by kernel_rfl
@[go_sem] theorem Tab.has5 : hasT Try.prog 5 = true := by kernel_rfl
@[go_sem] theorem Tab.int5 : intOf' Try.prog 5 = some .u8 := by kernel_rfl
@[go_sem] theorem Tab.str9 : isStr Try.prog 9 = true := by kernel_rfl
@[go_sem] theorem Tab.agg22 : aggOf Try.prog 22 = some false := by kernel_rfl
@[go_sem] theorem Tab.sz22 : szOf Try.prog 22 = some 1 := by kernel_rfl
@[go_sem] theorem Tab.sl22 : slOf Try.prog 22 = some (85, 1) := by kernel_rfl
@[go_sem] theorem Tab.agg24 : aggOf Try.prog 24 = some true := by kernel_rfl
@[go_sem] theorem Tab.sz24 : szOf Try.prog 24 = some 3 := by kernel_rfl
@[go_sem] theorem Tab.fld24_0 : fldOf Try.prog 24 0 = some (0, 5, 1) := by kernel_rfl
@[go_sem] theorem Tab.fld24_1 : fldOf Try.prog 24 1 = some (1, 5, 1) := by kernel_rfl
@[go_sem] theorem Tab.fld24_2 : fldOf Try.prog 24 2 = some (2, 22, 1) := by kernel_rfl
@[go_sem] theorem Tab.agg26 : aggOf Try.prog 26 = some false := by kernel_rfl
@[go_sem] theorem Tab.sz26 : szOf Try.prog 26 = some 1 := by kernel_rfl
@[go_sem] theorem Tab.zero26 : zeroOf Try.prog 26 = some (.slice none 0 0) := by kernel_rfl
@[go_sem] theorem Tab.sl26 : slOf Try.prog 26 = some (73, 1) := by kernel_rfl
@[go_sem] theorem Tab.mk26 : mkOf Try.prog 26 = some (73, 24, [.slice none 0 0]) := by kernel_rfl
@[go_sem] theorem Tab.agg28 : aggOf Try.prog 28 = some true := by kernel_rfl
@[go_sem] theorem Tab.sz28 : szOf Try.prog 28 = some 3 := by kernel_rfl
@[go_sem] theorem Tab.zero28 : zeroOf Try.prog 28 = some (.agg #[.int .i64 0, .int .i64 0, .slice none 0 0]) := by kernel_rfl
@[go_sem] theorem Tab.fld28_0 : fldOf Try.prog 28 0 = some (0, 3, 1) := by kernel_rfl
@[go_sem] theorem Tab.fld28_1 : fldOf Try.prog 28 1 = some (1, 3, 1) := by kernel_rfl
@[go_sem] theorem Tab.fld28_2 : fldOf Try.prog 28 2 = some (2, 26, 1) := by kernel_rfl
@[go_sem] theorem Tab.pl28 : plOf Try.prog 28 = some ([.int .i64 0, .int .i64 0, .slice none 0 0], .st [(0, 1), (1, 1), (2, 1)]) := by kernel_rfl
@[go_sem] theorem Tab.agg30 : aggOf Try.prog 30 = some false := by kernel_rfl
@[go_sem] theorem Tab.sz30 : szOf Try.prog 30 = some 1 := by kernel_rfl
@[go_sem] theorem Tab.zero30 : zeroOf Try.prog 30 = some (.slice none 0 0) := by kernel_rfl
@[go_sem] theorem Tab.sl30 : slOf Try.prog 30 = some (45, 5) := by kernel_rfl
@[go_sem] theorem Tab.mk30 : mkOf Try.prog 30 = some (45, 56, [.int .i64 0, .int .i64 0, .int .i64 0, .bool false, .slice none 0 0]) := by kernel_rfl
@[go_sem] theorem Tab.agg38 : aggOf Try.prog 38 = some true := by kernel_rfl
@[go_sem] theorem Tab.sz38 : szOf Try.prog 38 = some 9 := by kernel_rfl
@[go_sem] theorem Tab.zero38 : zeroOf Try.prog 38 = some (.agg #[.int .i64 0, .int .i64 0, .slice none 0 0, .int .i64 0, .int .i64 0, .slice none 0 0, .int .i64 0, .int .i64 0, .slice none 0 0]) := by kernel_rfl
@[go_sem] theorem Tab.fld38_0 : fldOf Try.prog 38 0 = some (0, 28, 3) := by kernel_rfl
@[go_sem] theorem Tab.pl38 : plOf Try.prog 38 = some ([.int .i64 0, .int .i64 0, .slice none 0 0, .int .i64 0, .int .i64 0, .slice none 0 0, .int .i64 0, .int .i64 0, .slice none 0 0], .st [(0, 3), (3, 3), (6, 3)]) := by kernel_rfl
@[go_sem] theorem Tab.agg41 : aggOf Try.prog 41 = some false := by kernel_rfl
@[go_sem] theorem Tab.sz41 : szOf Try.prog 41 = some 1 := by kernel_rfl
@[go_sem] theorem Tab.isSl41 : isSl Try.prog 41 = true := by kernel_rfl
@[go_sem] theorem Tab.sl41 : slOf Try.prog 41 = some (80, 1) := by kernel_rfl
@[go_sem] theorem Tab.mk41 : mkOf Try.prog 41 = some (80, 4, [.int .u32 0]) := by kernel_rfl
@[go_sem] theorem Tab.agg43 : aggOf Try.prog 43 = some true := by kernel_rfl
@[go_sem] theorem Tab.sz43 : szOf Try.prog 43 = some 2 := by kernel_rfl
@[go_sem] theorem Tab.zero43 : zeroOf Try.prog 43 = some (.agg #[.bool false, .slice none 0 0]) := by kernel_rfl
@[go_sem] theorem Tab.fld43_0 : fldOf Try.prog 43 0 = some (0, 4, 1) := by kernel_rfl
@[go_sem] theorem Tab.fld43_1 : fldOf Try.prog 43 1 = some (1, 41, 1) := by kernel_rfl
@[go_sem] theorem Tab.pl43 : plOf Try.prog 43 = some ([.bool false, .slice none 0 0], .st [(0, 1), (1, 1)]) := by kernel_rfl
@[go_sem] theorem Tab.agg45 : aggOf Try.prog 45 = some true := by kernel_rfl
@[go_sem] theorem Tab.sz45 : szOf Try.prog 45 = some 5 := by kernel_rfl
@[go_sem] theorem Tab.zero45 : zeroOf Try.prog 45 = some (.agg #[.int .i64 0, .int .i64 0, .int .i64 0, .bool false, .slice none 0 0]) := by kernel_rfl
@[go_sem] theorem Tab.fld45_0 : fldOf Try.prog 45 0 = some (0, 3, 1) := by kernel_rfl
@[go_sem] theorem Tab.fld45_1 : fldOf Try.prog 45 1 = some (1, 3, 1) := by kernel_rfl
@[go_sem] theorem Tab.fld45_2 : fldOf Try.prog 45 2 = some (2, 3, 1) := by kernel_rfl
@[go_sem] theorem Tab.fld45_3 : fldOf Try.prog 45 3 = some (3, 43, 2) := by kernel_rfl
@[go_sem] theorem Tab.pl45 : plOf Try.prog 45 = some ([.int .i64 0, .int .i64 0, .int .i64 0, .bool false, .slice none 0 0], .st [(0, 1), (1, 1), (2, 1), (3, 2)]) := by kernel_rfl
@[go_sem] theorem Tab.agg59 : aggOf Try.prog 59 = some true := by kernel_rfl
@[go_sem] theorem Tab.sz59 : szOf Try.prog 59 = some 4 := by kernel_rfl
@[go_sem] theorem Tab.zero59 : zeroOf Try.prog 59 = some (.agg #[.nilFunc, .nilFunc, .nilFunc, .nilFunc]) := by kernel_rfl
@[go_sem] theorem Tab.ar59 : arOf Try.prog 59 = some (4, 58, 1) := by kernel_rfl
@[go_sem] theorem Tab.pl59 : plOf Try.prog 59 = some ([.nilFunc, .nilFunc, .nilFunc, .nilFunc], .ar 1) := by kernel_rfl
@[go_sem] theorem Tab.fld71_0 : fldOf Try.prog 71 0 = some (0, 28, 3) := by kernel_rfl
@[go_sem] theorem Tab.fld71_1 : fldOf Try.prog 71 1 = some (3, 28, 3) := by kernel_rfl
@[go_sem] theorem Tab.fld71_2 : fldOf Try.prog 71 2 = some (6, 28, 3) := by kernel_rfl
@[go_sem] theorem Tab.pl71 : plOf Try.prog 71 = some ([.int .i64 0, .int .i64 0, .slice none 0 0, .int .i64 0, .int .i64 0, .slice none 0 0, .int .i64 0, .int .i64 0, .slice none 0 0], .st [(0, 3), (3, 3), (6, 3)]) := by kernel_rfl
@[go_sem] theorem Tab.agg73 : aggOf Try.prog 73 = some false := by kernel_rfl
@[go_sem] theorem Tab.sz73 : szOf Try.prog 73 = some 1 := by kernel_rfl
@[go_sem] theorem Tab.isSl73 : isSl Try.prog 73 = true := by kernel_rfl
@[go_sem] theorem Tab.sl73 : slOf Try.prog 73 = some (43, 2) := by kernel_rfl
@[go_sem] theorem Tab.mk73 : mkOf Try.prog 73 = some (43, 32, [.bool false, .slice none 0 0]) := by kernel_rfl
@[go_sem] theorem Tab.agg80 : aggOf Try.prog 80 = some false := by kernel_rfl
@[go_sem] theorem Tab.sz80 : szOf Try.prog 80 = some 1 := by kernel_rfl
@[go_sem] theorem Tab.has80 : hasT Try.prog 80 = true := by kernel_rfl
@[go_sem] theorem Tab.int80 : intOf' Try.prog 80 = some .u32 := by kernel_rfl
@[go_sem] theorem Tab.agg85 : aggOf Try.prog 85 = some false := by kernel_rfl
@[go_sem] theorem Tab.sz85 : szOf Try.prog 85 = some 1 := by kernel_rfl
@[go_sem] theorem Tab.has85 : hasT Try.prog 85 = true := by kernel_rfl
@[go_sem] theorem Tab.sl93 : slOf Try.prog 93 = some (43, 2) := by kernel_rfl
@[go_sem] theorem Tab.has97 : hasT Try.prog 97 = true := by kernel_rfl
@[go_sem] theorem Tab.int97 : intOf' Try.prog 97 = some .u64 := by kernel_rfl
@[go_sem] theorem Tab.go4 : isGo Try.prog 4 = true := by kernel_rfl
@[go_sem] theorem Tab.go5 : isGo Try.prog 5 = true := by kernel_rfl
@[go_sem] theorem Tab.go6 : isGo Try.prog 6 = true := by kernel_rfl
@[go_sem] theorem Tab.go7 : isGo Try.prog 7 = true := by kernel_rfl
@[go_sem] theorem Tab.go8 : isGo Try.prog 8 = true := by kernel_rfl
@[go_sem] theorem Tab.go9 : isGo Try.prog 9 = true := by kernel_rfl
@[go_sem] theorem Tab.go10 : isGo Try.prog 10 = true := by kernel_rfl
@[go_sem] theorem Tab.go11 : isGo Try.prog 11 = true := by kernel_rfl
@[go_sem] theorem Tab.go12 : isGo Try.prog 12 = true := by kernel_rfl
@[go_sem] theorem Tab.go19 : isGo Try.prog 19 = true := by kernel_rfl
@[go_sem] theorem Tab.go22 : isGo Try.prog 22 = true := by kernel_rfl
@[go_sem] theorem Tab.go23 : isGo Try.prog 23 = true := by kernel_rfl
@[go_sem] theorem Tab.go24 : isGo Try.prog 24 = true := by kernel_rfl
@[go_sem] theorem Tab.go25 : isGo Try.prog 25 = true := by kernel_rfl
@[go_sem] theorem Tab.go26 : isGo Try.prog 26 = true := by kernel_rfl
@[go_sem] theorem Tab.go27 : isGo Try.prog 27 = true := by kernel_rfl
@[go_sem] theorem Tab.go28 : isGo Try.prog 28 = true := by kernel_rfl
@[go_sem] theorem Tab.go29 : isGo Try.prog 29 = true := by kernel_rfl
@[go_sem] theorem Tab.go30 : isGo Try.prog 30 = true := by kernel_rfl
@[go_sem] theorem Tab.go31 : isGo Try.prog 31 = true := by kernel_rfl
@[go_sem] theorem Tab.go32 : isGo Try.prog 32 = true := by kernel_rfl
@[go_sem] theorem Tab.go33 : isGo Try.prog 33 = true := by kernel_rfl
@[go_sem] theorem Tab.go34 : isGo Try.prog 34 = true := by kernel_rfl
@[go_sem] theorem Tab.go35 : isGo Try.prog 35 = true := by kernel_rfl
@[go_sem] theorem Tab.go36 : isGo Try.prog 36 = true := by kernel_rfl
@[go_sem] theorem Tab.go37 : isGo Try.prog 37 = true := by kernel_rfl
@[go_sem] theorem Tab.go38 : isGo Try.prog 38 = true := by kernel_rfl
@[go_sem] theorem Tab.go39 : isGo Try.prog 39 = true := by kernel_rfl
@[go_sem] theorem Tab.go40 : isGo Try.prog 40 = true := by kernel_rfl
@[go_sem] theorem Tab.go42 : isGo Try.prog 42 = true := by kernel_rfl
@[go_sem] theorem Tab.go44 : isGo Try.prog 44 = true := by kernel_rfl
@[go_sem] theorem Tab.go45 : isGo Try.prog 45 = true := by kernel_rfl
@[go_sem] theorem Tab.go46 : isGo Try.prog 46 = true := by kernel_rfl
@[go_sem] theorem Tab.go47 : isGo Try.prog 47 = true := by kernel_rfl
@[go_sem] theorem Tab.go48 : isGo Try.prog 48 = true := by kernel_rfl
@[go_sem] theorem Tab.go49 : isGo Try.prog 49 = true := by kernel_rfl
@[go_sem] theorem Tab.go53 : isGo Try.prog 53 = true := by kernel_rfl
@[go_sem] theorem Tab.go54 : isGo Try.prog 54 = true := by kernel_rfl
@[go_sem] theorem Tab.go55 : isGo Try.prog 55 = true := by kernel_rfl
@[go_sem] theorem Tab.go56 : isGo Try.prog 56 = true := by kernel_rfl
@[go_sem] theorem Tab.go57 : isGo Try.prog 57 = true := by kernel_rfl
@[go_sem] theorem Tab.go59 : isGo Try.prog 59 = true := by kernel_rfl
@[go_sem] theorem Tab.go60 : isGo Try.prog 60 = true := by kernel_rfl
@[go_sem] theorem Tab.go61 : isGo Try.prog 61 = true := by kernel_rfl
@[go_sem] theorem Tab.go62 : isGo Try.prog 62 = true := by kernel_rfl
@[go_sem] theorem Tab.go63 : isGo Try.prog 63 = true := by kernel_rfl
@[go_sem] theorem Tab.go64 : isGo Try.prog 64 = true := by kernel_rfl
@[go_sem] theorem Tab.go65 : isGo Try.prog 65 = true := by kernel_rfl
@[go_sem] theorem Tab.go66 : isGo Try.prog 66 = true := by kernel_rfl
@[go_sem] theorem Tab.go67 : isGo Try.prog 67 = true := by kernel_rfl
@[go_sem] theorem Tab.go68 : isGo Try.prog 68 = true := by kernel_rfl
@[go_sem] theorem Tab.go69 : isGo Try.prog 69 = true := by kernel_rfl
@[go_sem] theorem Tab.go70 : isGo Try.prog 70 = true := by kernel_rfl
@[go_sem] theorem Tab.go71 : isGo Try.prog 71 = true := by kernel_rfl
@[go_sem] theorem Tab.go72 : isGo Try.prog 72 = true := by kernel_rfl
@[go_sem] theorem Tab.go73 : isGo Try.prog 73 = true := by kernel_rfl
@[go_sem] theorem Tab.go74 : isGo Try.prog 74 = true := by kernel_rfl
@[go_sem] theorem Tab.go75 : isGo Try.prog 75 = true := by kernel_rfl
@[go_sem] theorem Tab.go76 : isGo Try.prog 76 = true := by kernel_rfl
@[go_sem] theorem Tab.go78 : isGo Try.prog 78 = true := by kernel_rfl
@[go_sem] theorem Tab.go79 : isGo Try.prog 79 = true := by kernel_rfl
@[go_sem] theorem Tab.go80 : isGo Try.prog 80 = true := by kernel_rfl
@[go_sem] theorem Tab.go81 : isGo Try.prog 81 = true := by kernel_rfl
@[go_sem] theorem Tab.go82 : isGo Try.prog 82 = true := by kernel_rfl
@[go_sem] theorem Tab.go83 : isGo Try.prog 83 = true := by kernel_rfl
@[go_sem] theorem Tab.go84 : isGo Try.prog 84 = true := by kernel_rfl
@[go_sem] theorem Tab.go85 : isGo Try.prog 85 = true := by kernel_rfl
@[go_sem] theorem Tab.go86 : isGo Try.prog 86 = true := by kernel_rfl
@[go_sem] theorem Tab.go87 : isGo Try.prog 87 = true := by kernel_rfl
@[go_sem] theorem Tab.go88 : isGo Try.prog 88 = true := by kernel_rfl
@[go_sem] theorem Tab.go89 : isGo Try.prog 89 = true := by kernel_rfl
@[go_sem] theorem Tab.go90 : isGo Try.prog 90 = true := by kernel_rfl
@[go_sem] theorem Tab.go91 : isGo Try.prog 91 = true := by kernel_rfl
@[go_sem] theorem Tab.go92 : isGo Try.prog 92 = true := by kernel_rfl
@[go_sem] theorem Tab.go93 : isGo Try.prog 93 = true := by kernel_rfl
@[go_sem] theorem Tab.go94 : isGo Try.prog 94 = true := by kernel_rfl
@[go_sem] theorem Tab.go95 : isGo Try.prog 95 = true := by kernel_rfl
@[go_sem] theorem Tab.go96 : isGo Try.prog 96 = true := by kernel_rfl
theorem Tab.mixed : Try.prog.follows .mixedOrders = true := by kernel_rfl
@[go_sem high] theorem wi64 (n : Int) (h1 : -9223372036854775808 ≤ n) (h2 : n ≤ 9223372036854775807) : IntKind.i64.wrap n = n := IntWalk.i64_in n ⟨h1, h2⟩
@[go_sem high] theorem wi32 (n : Int) (h1 : -2147483648 ≤ n) (h2 : n ≤ 2147483647) : IntKind.i32.wrap n = n := IntWalk.i32_in n ⟨h1, h2⟩
@[go_sem high] theorem wi8 (n : Int) (h1 : -128 ≤ n) (h2 : n ≤ 127) : IntKind.i8.wrap n = n := IntWalk.i8_in n ⟨h1, h2⟩
@[go_sem high] theorem wu64 (n : Int) (h1 : 0 ≤ n) (h2 : n ≤ 18446744073709551615) : IntKind.u64.wrap n = n := IntWalk.u64_in n ⟨h1, h2⟩
@[go_sem high] theorem wu32 (n : Int) (h1 : 0 ≤ n) (h2 : n ≤ 4294967295) : IntKind.u32.wrap n = n := IntWalk.u32_in n ⟨h1, h2⟩
@[go_sem high] theorem wu16 (n : Int) (h1 : 0 ≤ n) (h2 : n ≤ 65535) : IntKind.u16.wrap n = n := IntWalk.u16_in n ⟨h1, h2⟩
@[go_sem high] theorem wu8 (n : Int) (h1 : 0 ≤ n) (h2 : n ≤ 255) : IntKind.u8.wrap n = n := IntWalk.u8_in n ⟨h1, h2⟩
@[go_sem low] theorem wu32m (n : Int) : IntKind.u32.wrap n = n % 4294967296 := IntKind.wrap_u32 n
@[go_sem low] theorem wu8m (n : Int) : IntKind.u8.wrap n = n % 256 := IntKind.wrap_u8 n
@[go_sem] theorem tmod_nn (x y : Int) (h : 0 ≤ x) : x.tmod y = x % y := Int.tmod_eq_emod_of_nonneg h
@[go_sem] theorem tdiv_nn (x y : Int) (h : 0 ≤ x) : x.tdiv y = x / y := Int.tdiv_eq_ediv_of_nonneg h
theorem fdiv_pow (x : Int) (k : Nat) : x.fdiv (2 ^ k) = x / 2 ^ k := Int.fdiv_eq_ediv_of_nonneg _ (Int.le_of_lt (Int.pow_pos (by omega)))
attribute [go_sem] fdiv_pow
theorem clone_s (cs : List V) (hc : cs.all clo = true) (h1 : cs.all V.one = true) (hn : cs.length ≤ 1000000000000) : Spec Try.prog 38 [.im cs cs.length] (.im cs cs.length) := by
 refine Spec.run Try.func38 rfl Try.ntmps38 (by simp) sF fun B hB => ?_
 (repeat (first | (with_reducible refine oA ?_) | ((with_reducible apply SC.region); (focus (simp (disch := omega) only [go_sem, ↓reduceIte, reduceCtorEq]; rfl)))))
 refine SC.ops ?_
 refine SO.run sF ?_
 by_cases h0 : cs.length = 0
 ·have hnil : cs = [] := List.eq_nil_of_length_eq_zero h0
  subst hnil
  refine SO.nilq (by simp (disch := omega) only [go_sem]) sF (by simp (disch := omega) only [go_sem]) ⟨by simp (disch := omega) only [go_sem], by simp (disch := omega) only [go_sem]⟩ fun b => ?_
  cases b
  ·(repeat (first | (with_reducible refine SC.condB sF ?_; with_reducible refine pickF ?_) | (with_reducible refine oA ?_) | ((with_reducible apply SC.region); (focus (simp (disch := omega) only [go_sem, ↓reduceIte, zn1, zn2, zn3, zn4, reduceCtorEq]; rfl)))))
   exact retQ_ret Try.results38 sF sF rfl
  ·(repeat (first | (with_reducible refine SC.condB sF ?_; with_reducible refine pickT ?_) | (with_reducible refine oA ?_) | ((with_reducible apply SC.region); (focus (simp (disch := omega) only [go_sem, ↓reduceIte]; rfl)))))
   exact retQ_ret Try.results38 sF sF rfl
 ·(repeat (refine SO.run sF ?_))
  (repeat (first | (with_reducible refine SC.condB sF ?_; with_reducible refine pickF ?_) | (with_reducible refine oA ?_) | ((with_reducible apply SC.region); (focus (simp (disch := omega) only [go_sem, ↓reduceIte, zn1, zn2, zn3, zn4, reduceCtorEq, if_pos, h1]; rfl)))))
  exact retQ_ret Try.results38 sF (by simp (disch := omega) only [go_sem, ↓reduceIte, if_pos, hc, List.take_length]; rfl) rfl
theorem hid {p : Prop} (h : p) : Hid p := h
def u32s (l : List Nat) : List Value := l.map fun (n : Nat) => Value.int .u32 (n : Int)
@[simp] theorem u32s_length (l : List Nat) : (u32s l).length = l.length := by simp [u32s]
section
variable {P : Program} {ops : Array Oper} {rest : List Oper} {o : Oper} {a : Act} {Q : Exit → Act → World → Prop}
end
end Go.Proofs.Ytdcbmdmlhjemmaa
namespace Go.Proofs.Ytdcbmdmlhjemmaa
def val : List Nat → Nat
 | [] => 0
 | x :: l => x + 4294967296 * val l
def limbs (l : List Nat) : Prop := ∀ x ∈ l, x < 4294967296
theorem limbs_cons {x : Nat} {l : List Nat} (h : limbs (x :: l)) : x < 4294967296 ∧ limbs l := ⟨h x (by simp), fun y hy => h y (by simp [hy])⟩
theorem limbs_getD {l : List Nat} (h : limbs l) (i : Nat) : l.getD i 0 < 4294967296 := by
 rw [List.getD_eq_getElem?_getD]
 by_cases hi : i < l.length
 ·simp [hi]; exact h _ (List.getElem_mem hi)
 ·simp [hi]
theorem val_append (a b : List Nat) : val (a ++ b) = val a + 4294967296 ^ a.length * val b := by
 induction a with
 | nil => simp [val]
 | cons x a ih => simp only [zl8, val, ih, List.length_cons, Nat.pow_succ]; grind
theorem val_lt {l : List Nat} (h : limbs l) : val l < 4294967296 ^ l.length := by
 induction l with
 | nil => simp [val]
 | cons x l ih =>
  obtain ⟨hx, hl⟩ := limbs_cons h
  have := ih hl
  simp only [val, List.length_cons, Nat.pow_succ]
  omega
theorem val_take_succ {l : List Nat} {k : Nat} (h : k < l.length) : val (l.take (k + 1)) = val (l.take k) + 4294967296 ^ k * l.getD k 0 := by
 rw [List.take_succ_eq_append_getElem h, val_append]
 simp [val, h, Nat.min_eq_left (Nat.le_of_lt h)]
theorem limbs_take {l : List Nat} (h : limbs l) (k : Nat) : limbs (l.take k) := fun x hx => h x (List.mem_of_mem_take hx)
theorem limbs_drop {l : List Nat} (h : limbs l) (k : Nat) : limbs (l.drop k) := fun x hx => h x (List.mem_of_mem_drop hx)
theorem val_split (l : List Nat) (k : Nat) (h : k ≤ l.length) : val l = val (l.take k) + 4294967296 ^ k * val (l.drop k) := by
 conv => lhs; rw [← List.take_append_drop k l]
 rw [val_append]; simp [Nat.min_eq_left h]
theorem val_lt_step {a b : List Nat} {k : Nat} (ha : limbs a) (hb : limbs b) (hka : k < a.length) (hkb : k < b.length) :
  (a.getD k 0 = b.getD k 0 → (val (a.take (k + 1)) < val (b.take (k + 1)) ↔ val (a.take k) < val (b.take k))) ∧
  (a.getD k 0 ≠ b.getD k 0 → (val (a.take (k + 1)) < val (b.take (k + 1)) ↔ a.getD k 0 < b.getD k 0)) := by
 have h1 := val_lt (limbs_take ha k)
 have h2 := val_lt (limbs_take hb k)
 rw [List.length_take, Nat.min_eq_left (Nat.le_of_lt hka)] at h1
 rw [List.length_take, Nat.min_eq_left (Nat.le_of_lt hkb)] at h2
 rw [val_take_succ hka, val_take_succ hkb]
 generalize val (a.take k) = x at *
 generalize val (b.take k) = y at *
 generalize a.getD k 0 = c
 generalize b.getD k 0 = d
 generalize 4294967296 ^ k = p at *
 refine ⟨fun h => by subst h; omega, fun h => ?_⟩
 rcases Nat.lt_or_gt_of_ne h with h' | h'
 ·have : p * (c + 1) ≤ p * d := Nat.mul_le_mul_left _ h'
  rw [Nat.mul_add] at this
  constructor
  ·intro _; exact h'
  ·intro _; omega
 ·have : p * (d + 1) ≤ p * c := Nat.mul_le_mul_left _ h'
  rw [Nat.mul_add] at this
  constructor
  ·intro _; omega
  ·intro _; omega
def lessL (a b : List Nat) : Bool := if a.length = b.length then decide (val a < val b) else decide (a.length < b.length)
def canon (l : List Nat) : Prop := ∀ h : l ≠ [], l.getLast h ≠ 0
theorem canon_ge {l : List Nat} (h : canon l) (hn : l ≠ []) : 4294967296 ^ (l.length - 1) ≤ val l := by
 have e := List.dropLast_concat_getLast hn
 have h1 := h hn
 conv => rhs; rw [← e]
 rw [val_append]
 simp only [List.length_dropLast, val]
 have : 4294967296 ^ (l.length - 1) * 1 ≤ 4294967296 ^ (l.length - 1) * (l.getLast hn + 4294967296 * 0) := Nat.mul_le_mul_left _ (by omega)
 omega
theorem lessL_eq {a b : List Nat} (ha : limbs a) (hb : limbs b) (ca : canon a) (cb : canon b) : lessL a b = decide (val a < val b) := by
 unfold lessL
 split
 ·rfl
 ·rename_i hne
  have key : ∀ {a b : List Nat}, limbs a → canon b → a.length < b.length → val a < val b := by
   intro a b ha cb h
   have h1 := val_lt ha
   have h2 := canon_ge cb (by intro e; subst e; simp at h)
   have h3 : 4294967296 ^ a.length ≤ 4294967296 ^ (b.length - 1) := Nat.pow_le_pow_right (by omega) (by omega)
   omega
  rcases Nat.lt_or_gt_of_ne hne with h | h
  ·simp [h, key ha cb h]
  ·have := key hb ca h
   rw [Bool.eq_iff_iff]; simp; omega
theorem val_inj {a b : List Nat} (ha : limbs a) (hb : limbs b) (h : a.length = b.length) (e : val a = val b) : a = b := by
 induction a generalizing b with
 | nil => cases b with | nil => rfl | cons => simp at h
 | cons x a ih =>
  cases b with
  | nil => simp at h
  | cons y b =>
   obtain ⟨hx, ha⟩ := limbs_cons ha
   obtain ⟨hy, hb⟩ := limbs_cons hb
   simp only [val] at e
   have h1 : x = y := by omega
   have h2 : val a = val b := by omega
   rw [h1, ih ha hb (by simpa using h) h2]
theorem canon_inj {a b : List Nat} (ha : limbs a) (hb : limbs b) (ca : canon a) (cb : canon b) (e : val a = val b) : a = b := by
 have h1 := lessL_eq ha hb ca cb
 have h2 := lessL_eq hb ha cb ca
 unfold lessL at h1 h2
 have hl : a.length = b.length := by
  by_cases hl : a.length = b.length
  ·exact hl
  ·rw [if_neg hl] at h1
   rw [if_neg (fun h => hl h.symm)] at h2
   simp [e] at h1 h2
   omega
 exact val_inj ha hb hl e
theorem val_take_succ' (l : List Nat) (k : Nat) : val (l.take (k + 1)) = val (l.take k) + 4294967296 ^ k * l.getD k 0 := by
 by_cases h : k < l.length
 ·exact val_take_succ h
 ·rw [zla (by omega), zla (by omega)]
  simp [List.getD_eq_getElem?_getD, List.getElem?_eq_none (Nat.le_of_not_lt h)]
theorem getD_ge {l : List Nat} {k : Nat} (h : ¬ k < l.length) : l.getD k 0 = 0 := by
 simp [List.getD_eq_getElem?_getD, List.getElem?_eq_none (Nat.le_of_not_lt h)]
theorem limbs_snoc {l : List Nat} (h : limbs l) {x : Nat} (hx : x < 4294967296) : limbs (l ++ [x]) := by
 intro y hy
 rcases List.mem_append.1 hy with hy | hy
 ·exact h y hy
 ·simp at hy; omega
def plusInv (a b : List Nat) (k c : Nat) (l : List Nat) : Prop := l.length = k ∧ limbs l ∧ val l + 4294967296 ^ k * c = val (a.take k) + val (b.take k)
theorem plusInv.step {a b l : List Nat} {k c : Nat} (h : plusInv a b k c l) (x y : Nat) (hx : a.getD k 0 = x) (hy : b.getD k 0 = y) : plusInv a b (k + 1) ((c + x + y) / 4294967296) (l ++ [(c + x + y) % 4294967296]) := by
 obtain ⟨h1, h2, h3⟩ := h
 refine ⟨by simp [h1], limbs_snoc h2 (by omega), ?_⟩
 rw [val_take_succ', val_take_succ', val_append, hx, hy, h1, Nat.pow_succ]
 simp only [val]
 have hd := Nat.div_add_mod (c + x + y) 4294967296
 generalize 4294967296 ^ k = p at *
 generalize (c + x + y) / 4294967296 = d at *
 generalize (c + x + y) % 4294967296 = m at *
 have : p * (c + x + y) = p * (4294967296 * d + m) := by rw [hd]
 grind
theorem plusInv.done {a b l : List Nat} {k : Nat} (h : plusInv a b k 0 l) (ha : a.length ≤ k) (hb : b.length ≤ k) : val l = val a + val b := by
 obtain ⟨h1, h2, h3⟩ := h
 rw [zla ha, zla hb] at h3
 simpa using h3
theorem val_set {z : List Nat} {j : Nat} (h : j < z.length) (x : Nat) : val (z.set j x) + 4294967296 ^ j * z.getD j 0 = val z + 4294967296 ^ j * x := by
 induction z generalizing j with
 | nil => simp at h
 | cons y z ih =>
  cases j with
  | zero => simp [val]; omega
  | succ j =>
   have := ih (j := j) (by simpa using h)
   simp only [List.set_cons_succ, val, List.getD_cons_succ, Nat.pow_succ] at *
   grind
theorem limbs_set {z : List Nat} (h : limbs z) (j : Nat) {x : Nat} (hx : x < 4294967296) : limbs (z.set j x) := by
 intro y hy
 rcases List.mem_or_eq_of_mem_set hy with hy | rfl
 ·exact h y hy
 ·exact hx
theorem limbs_replicate (n : Nat) : limbs (List.replicate n 0) := by intro x hx; simp at hx; omega
theorem val_replicate (n : Nat) : val (List.replicate n 0) = 0 := by induction n with | zero => rfl | succ n ih => simp [List.replicate_succ, val, ih]
def mulInv (a b : List Nat) (i k c : Nat) (z : List Nat) : Prop :=
 z.length = a.length + b.length + 1 ∧ limbs z ∧ val z + 4294967296 ^ (i + k) * c = val (a.take i) * val b + 4294967296 ^ i * (a.getD i 0 * val (b.take k))
theorem mulInv.step {a b z : List Nat} {i k c : Nat} (h : mulInv a b i k c z) (hj : i + k < z.length) (x y t : Nat) (hx : a.getD i 0 = x) (hy : b.getD k 0 = y) (ht : z.getD (i + k) 0 = t) :
  mulInv a b i (k + 1) ((c + t + x * y) / 4294967296) (z.set (i + k) ((c + t + x * y) % 4294967296)) := by
 obtain ⟨h1, h2, h3⟩ := h
 refine ⟨by simp [h1], limbs_set h2 _ (by omega), ?_⟩
 have h4 := val_set hj ((c + t + x * y) % 4294967296)
 rw [val_take_succ', hx, hy] at *
 rw [ht] at h4
 have hd := Nat.div_add_mod (c + t + x * y) 4294967296
 rw [show i + (k + 1) = i + k + 1 from rfl, Nat.pow_succ]
 generalize hD : (c + t + x * y) / 4294967296 = d at *
 generalize hM : (c + t + x * y) % 4294967296 = m at *
 generalize val (z.set (i + k) m) = V at *
 have e1 : 4294967296 ^ (i + k) = 4294967296 ^ i * 4294967296 ^ k := Nat.pow_add _ _ _
 generalize 4294967296 ^ (i + k) = p at *
 generalize 4294967296 ^ i = q at *
 generalize 4294967296 ^ k = r at *
 subst e1
 have : q * r * (c + t + x * y) = q * r * (4294967296 * d + m) := by rw [hd]
 grind
theorem mulInv.noCarry {a b z : List Nat} {i c : Nat} (h : mulInv a b i (b.length + 1) c z) (ha : limbs a) (hb : limbs b) (hi : i < a.length) : c = 0 := by
 obtain ⟨h1, h2, h3⟩ := h
 rw [zla (l := b) (by omega)] at h3
 have e : val (a.take (i + 1)) * val b = val (a.take i) * val b + 4294967296 ^ i * (a.getD i 0 * val b) := by
  rw [val_take_succ', Nat.add_mul, Nat.mul_assoc]
 have hA := val_lt (limbs_take ha (i + 1))
 have hB := val_lt hb
 rw [List.length_take, Nat.min_eq_left hi] at hA
 have hP : val (a.take (i + 1)) * val b < 4294967296 ^ (i + (b.length + 1)) := by
  rw [show i + (b.length + 1) = (i + 1) + b.length by omega, Nat.pow_add]
  exact Nat.mul_lt_mul'' hA hB
 rcases Nat.eq_zero_or_pos c with h0 | h0
 ·exact h0
 ·have : 4294967296 ^ (i + (b.length + 1)) * 1 ≤ 4294967296 ^ (i + (b.length + 1)) * c := Nat.mul_le_mul_left _ h0
  omega
theorem mulInv.row {a b z : List Nat} {i k : Nat} (h : mulInv a b i k 0 z) (hk : b.length ≤ k) : mulInv a b (i + 1) 0 0 z := by
 obtain ⟨h1, h2, h3⟩ := h
 refine ⟨h1, h2, ?_⟩
 rw [zla (l := b) hk, Nat.mul_zero, Nat.add_zero] at h3
 rw [val_take_succ', Nat.add_mul, h3, Nat.mul_zero, zl4, Nat.mul_assoc, show val [] = 0 from rfl, Nat.mul_zero, Nat.mul_zero]
theorem mulInv.done {a b z : List Nat} {i : Nat} (h : mulInv a b i 0 0 z) (hi : a.length ≤ i) : val z = val a * val b := by
 obtain ⟨h1, h2, h3⟩ := h
 rw [zla (l := a) hi, Nat.mul_zero, zl4, show val [] = 0 from rfl, Nat.mul_zero, Nat.mul_zero] at h3
 exact h3
def minusInv (a b : List Nat) (k c : Nat) (l : List Nat) : Prop := l.length = k ∧ limbs l ∧ val l + val (b.take k) = val (a.take k) + 4294967296 ^ k * c
theorem minusInv.step {a b l : List Nat} {k c : Nat} (h : minusInv a b k c l) (x y d c' : Nat) (hx : a.getD k 0 = x) (hy : b.getD k 0 = y) (hd : d < 4294967296) (he : (d : Int) = x - c - y + 4294967296 * c') : minusInv a b (k + 1) c' (l ++ [d]) := by
 obtain ⟨h1, h2, h3⟩ := h
 refine ⟨by simp [h1], limbs_snoc h2 hd, ?_⟩
 rw [val_take_succ', val_take_succ', val_append, hx, hy, h1, Nat.pow_succ]
 simp only [val]
 have he' : d + c + y = x + 4294967296 * c' := by omega
 generalize 4294967296 ^ k = p at *
 have : p * (d + c + y) = p * (x + 4294967296 * c') := by rw [he']
 grind
theorem minusInv.done {a b l : List Nat} {c : Nat} (h : minusInv a b a.length c l) (hc : c ≤ 1) (ha : limbs a) (hb : b.length ≤ a.length) (hab : val b ≤ val a) : val l = val a - val b := by
 obtain ⟨h1, h2, h3⟩ := h
 rw [zla (znb _), zla hb] at h3
 have h4 := val_lt h2
 rw [h1] at h4
 have h5 := val_lt ha
 have : c = 0 := by
  rcases Nat.lt_or_ge c 1 with hh | hh
  ·omega
  ·have : c = 1 := by omega
   subst this
   omega
 subst this
 omega
def sgn (neg : Bool) (m : Nat) : Int := if neg then -(m : Int) else m
def Fits (K : Nat) (n : Int) : Prop := n.natAbs < 4294967296 ^ K
theorem Fits.mono {K L : Nat} {n : Int} (h : Fits K n) (hl : K ≤ L) : Fits L n := Nat.lt_of_lt_of_le h (Nat.pow_le_pow_right (by omega) hl)
theorem Fits.neg {K : Nat} {n : Int} (h : Fits K n) : Fits K (-n) := by unfold Fits at *; rwa [Int.natAbs_neg]
theorem Fits.add {K : Nat} {a b : Int} (ha : Fits K a) (hb : Fits K b) : Fits (K + 1) (a + b) := by
 unfold Fits at *; rw [Nat.pow_succ]; generalize 4294967296 ^ K = p at *; omega
theorem Fits.sub {K : Nat} {a b : Int} (ha : Fits K a) (hb : Fits K b) : Fits (K + 1) (a - b) := by
 have := Fits.add ha hb.neg; rwa [← Int.sub_eq_add_neg] at this
theorem Fits.mul {K L : Nat} {a b : Int} (ha : Fits K a) (hb : Fits L b) : Fits (K + L) (a * b) := by
 unfold Fits at *; rw [Int.natAbs_mul, Nat.pow_add]; exact Nat.mul_lt_mul'' ha hb
theorem Fits.of_natAbs_le {K : Nat} {a b : Int} (h : Fits K b) (hl : a.natAbs ≤ b.natAbs) : Fits K a := Nat.lt_of_le_of_lt hl h
theorem fits_one {n : Int} (h : n.natAbs < 4294967296) : Fits 1 n := by simpa [Fits] using h
theorem canon_len {l : List Nat} {K : Nat} (hc : canon l) (h : val l < 4294967296 ^ K) : l.length ≤ K := by
 by_cases hn : l = []
 ·subst hn; simp
 ·have h1 := canon_ge hc hn
  by_cases hk : l.length ≤ K
  ·exact hk
  ·have h2 : 4294967296 ^ K ≤ 4294967296 ^ (l.length - 1) := Nat.pow_le_pow_right (by omega) (by omega)
   omega
def lv (l : List Nat) : List V := l.map fun (n : Nat) => .sc (.int .u32 (n : Int))
theorem lv_len (l : List Nat) : (lv l).length = l.length := by simp [lv]
theorem lv_get {l : List Nat} {i : Nat} (h : i < l.length) : (lv l)[i]? = some (.sc (.int .u32 (l.getD i 0 : Nat))) := by
 simp [lv, h]
theorem lv_take (l : List Nat) (k : Nat) : (lv l).take k = lv (l.take k) := by simp [lv]
theorem lv_all (l : List Nat) : (lv l).all V.one = true := by simp [lv, V.one, Value.oneCell']
theorem lv_clo (l : List Nat) : (lv l).all clo = true := by simp [lv, clo]
def sv (l : List Nat) : V := .im (lv l) l.length
def digs : Nat → Nat → List Nat
 | 0, _ => []
 | f + 1, n => if n = 0 then [] else n % 4294967296 :: digs f (n / 4294967296)
def limbsOf (n : Nat) : List Nat := digs (n + 1) n
def iv (z : Int) : V := .ag [.sc (.bool (decide (z < 0))), sv (limbsOf z.natAbs)]
theorem canon_cons {x : Nat} {r : List Nat} (h1 : r = [] → x ≠ 0) (h2 : canon r) : canon (x :: r) := by
 intro hn
 cases r with
 | nil => simpa using h1 rfl
 | cons a r => rw [List.getLast_cons (by simp)]; exact h2 (by simp)
theorem digs_spec : ∀ (f n : Nat), n < f → val (digs f n) = n ∧ limbs (digs f n) ∧ canon (digs f n)
 | 0, n, h => by omega
 | f + 1, n, h => by
  simp only [digs]
  split
  ·rename_i h0; subst h0
   exact ⟨rfl, fun x hx => (by simp at hx), fun hn => absurd rfl hn⟩
  ·rename_i h0
   obtain ⟨h1, h2, h3⟩ := digs_spec f (n / 4294967296) (by omega)
   refine ⟨?_, ?_, ?_⟩
   ·show n % 4294967296 + 4294967296 * val (digs f (n / 4294967296)) = n
    rw [h1]; omega
   ·intro x hx
    rcases List.mem_cons.1 hx with rfl | hx
    ·omega
    ·exact h2 x hx
   ·refine canon_cons (fun e => ?_) h3
    rw [e] at h1
    have : n / 4294967296 = 0 := h1.symm
    omega
theorem limbsOf_val (n : Nat) : val (limbsOf n) = n := (digs_spec _ _ (Nat.lt_succ_self _)).1
theorem limbsOf_limbs (n : Nat) : limbs (limbsOf n) := (digs_spec _ _ (Nat.lt_succ_self _)).2.1
theorem limbsOf_canon (n : Nat) : canon (limbsOf n) := (digs_spec _ _ (Nat.lt_succ_self _)).2.2
theorem limbsOf_eq {l : List Nat} (h : limbs l) (hc : canon l) : limbsOf (val l) = l := canon_inj (limbsOf_limbs _) h (limbsOf_canon _) hc (limbsOf_val _)
theorem limbsOf_zero : limbsOf 0 = [] := rfl
theorem limbsOf_nil {n : Nat} : limbsOf n = [] ↔ n = 0 := ⟨fun h => by have := limbsOf_val n; rw [h] at this; exact this.symm, fun h => by subst h; rfl⟩
theorem val_take_zeros {l : List Nat} {k : Nat} (h : ∀ i, k ≤ i → l.getD i 0 = 0) : val (l.take k) = val l := by
 have key : ∀ m : List Nat, (∀ i, m.getD i 0 = 0) → val m = 0 := by
  intro m
  induction m with
  | nil => intro _; rfl
  | cons x r ih =>
   intro hm
   have h0 := hm 0
   simp at h0
   have := ih (fun i => by simpa using hm (i + 1))
   simp [val, h0, this]
 rcases Nat.le_total k l.length with hk | hk
 ·rw [val_split l k hk, key (l.drop k) (fun i => by have := h (k + i) (by omega); simpa [List.getD_eq_getElem?_getD] using this)]; simp
 ·rw [zla hk]
theorem made_tree {l : List Nat} {k : Nat} {neg : Bool} (hl : limbs l) (h : ∀ i, k ≤ i → l.getD i 0 = 0) (hk : k ≤ l.length) (h0 : k ≠ 0 → l.getD (k - 1) 0 ≠ 0) : limbsOf (sgn neg (val l)).natAbs = l.take k ∧ decide (sgn neg (val l) < 0) = (neg && decide (0 < k)) := by
 have hv := val_take_zeros h
 have hc : canon (l.take k) := by
  intro hn
  have hk0 : k ≠ 0 := by intro e; subst e; simp at hn
  rw [List.getLast_eq_getElem]
  have := h0 hk0
  simp only [List.length_take, Nat.min_eq_left hk, List.getElem_take]
  rwa [List.getD_eq_getElem?_getD, zlb (by omega)] at this
 have hn : (sgn neg (val l)).natAbs = val l := by unfold sgn; cases neg <;> simp
 refine ⟨by rw [hn, ← hv]; exact limbsOf_eq (limbs_take hl k) hc, ?_⟩
 have hz : val l = 0 ↔ k = 0 := by
  rw [← hv]
  constructor
  ·intro e
   have := limbsOf_eq (limbs_take hl k) hc
   rw [e, limbsOf_zero] at this
   have := congrArg List.length this
   simp at this
   omega
  ·intro e; subst e; rfl
 unfold sgn
 cases neg with
 | false => simp
 | true =>
  simp only [if_true, Bool.true_and]
  by_cases hk0 : k = 0
  ·have := hz.2 hk0; simp [this, hk0]
  ·have : val l ≠ 0 := fun e => hk0 (hz.1 e)
   simp; omega
theorem made_i (l : List Nat) (neg : Bool) (hl : limbs l) (hm : l.length ≤ 1000000000000) : Spec Try.prog 62 [sv l, .sc (.bool neg)] (iv (sgn neg (val l))) := by
 unfold sv
 refine Spec.run Try.func62 rfl Try.ntmps62 (by simp) sF fun B hB => ?_
 (repeat (first | (with_reducible refine oA ?_) | ((with_reducible apply SC.region); (focus (simp (disch := omega) only [go_sem, ↓reduceIte, zn1, zn2, zn3, zn4, zn5, zn6, reduceCtorEq, zn7, zi1, zi2, if_pos, if_neg]; rfl))) | (with_reducible refine SC.draw Tab.mixed rfl ?_; (repeat (refine DO.run sF ?_)); refine DO.nil (by kernel_rfl) ?_)))
 refine SC.loop (fun k : Nat => ⟨[(0, .im (lv l) l.length), (1, .sc (.bool neg)), (4, .pt 0 0), (5, .sc (.int .i64 k))], [(0, ⟨43, [.sc (.bool false), .sc (.slice none 0 0)], false⟩)], 1, 31⟩)
  (fun k => k ≤ l.length ∧ ∀ i, k ≤ i → l.getD i 0 = 0) (fun k => k) l.length ?_ ?_ ?_
 ·(refine Le.of [] hB (by first | exact ⟨znc _, fun _ _ => znc _⟩ | (constructor <;> (try simp) <;> (try omega))) ?_ ?_ <;> (repeat' (first | exact leSl_nil | exact leHp_nil | refine leSl_cons sF ?_ ?_ | refine leHp_cons sF ?_ ?_ | exact VLe.junk _ | exact VLe.refl rfl | exact VLe.nil_sl _ _ _ | exact VLe.int (by first | rfl | omega | (dsimp only; omega)) | exact VLe.bool rfl | exact VLe.sl rfl (by first | rfl | omega | (dsimp only; omega) | (simp; done)) | exact VLe.cap rfl (by first | rfl | omega | (dsimp only; omega) | (simp; done)) | exact VLe.im rfl rfl | exact HLe.new rfl | exact HLe.same rfl (LLe.refl rfl) | refine HLe.same rfl ?_ | exact LLe.nil _ | exact LLe.refl rfl | refine LLe.cons ?_ ?_)))
 ·exact ⟨znb _, fun i hi => by simp [hi]⟩
 ·rintro k ⟨hk, hz⟩ K hK
  have hlen : (l.take k).length = k := by simp; omega
  have h3 : k = 0 ∨ (k ≠ 0 ∧ l.getD (k - 1) 0 ≠ 0) ∨ (k ≠ 0 ∧ l.getD (k - 1) 0 = 0) := by omega
  rcases h3 with h0 | ⟨h0, hx⟩ | ⟨h0, hx⟩
  ·subst h0
   (repeat (first | (with_reducible refine oA ?_) | ((with_reducible apply SC.region); (focus (simp (disch := omega) only [go_sem, ↓reduceIte, zn1, zn2, zn3, zn4, zn5, zn6, reduceCtorEq, zn7, zi1, zi2, if_pos, if_neg]; rfl))) | (with_reducible refine SC.draw Tab.mixed rfl ?_; (repeat (refine DO.run sF ?_)); refine DO.nil (by kernel_rfl) ?_)))
   refine SC.cond sF ?_ ?_
   ·intro h; cases h
   intro _
   (repeat (first | (with_reducible refine oA ?_) | ((with_reducible apply SC.region); (focus (simp (disch := omega) only [go_sem, ↓reduceIte, zn1, zn2, zn3, zn4, zn5, zn6, reduceCtorEq, zn7, zi1, zi2, if_pos, if_neg]; rfl))) | (with_reducible refine SC.draw Tab.mixed rfl ?_; (repeat (refine DO.run sF ?_)); refine DO.nil (by kernel_rfl) ?_)))
   refine SC.weak (by simp) (s' := ⟨[(0, .im (lv l) l.length), (1, .sc (.bool neg)), (4, .pt 0 0), (5, .sc (.int .i64 (0 : Nat)))], [(0, ⟨43, [.sc (.bool false), .sc (.slice none 0 0)], false⟩)], 1, 31⟩) (by (refine Le.of [] hB (by first | exact ⟨znc _, fun _ _ => znc _⟩ | (constructor <;> (try simp) <;> (try omega))) ?_ ?_ <;> (repeat' (first | exact leSl_nil | exact leHp_nil | refine leSl_cons sF ?_ ?_ | refine leHp_cons sF ?_ ?_ | exact VLe.junk _ | exact VLe.refl rfl | exact VLe.nil_sl _ _ _ | exact VLe.int (by first | rfl | omega | (dsimp only; omega)) | exact VLe.bool rfl | exact VLe.sl rfl (by first | rfl | omega | (dsimp only; omega) | (simp; done)) | exact VLe.cap rfl (by first | rfl | omega | (dsimp only; omega) | (simp; done)) | exact VLe.im rfl rfl | exact HLe.new rfl | exact HLe.same rfl (LLe.refl rfl) | refine HLe.same rfl ?_ | exact LLe.nil _ | exact LLe.refl rfl | refine LLe.cons ?_ ?_)))) ?_
   obtain ⟨e1, e2⟩ := made_tree (neg := neg) hl hz hk (fun h => absurd rfl h)
   have e3 : decide ((0 : Int) < ((0 : Nat) : Int)) = decide (0 < 0) := by simp
   cases neg
   all_goals
    refine SC.ops ?_
    (repeat (refine SO.run (by simp (disch := omega) only [go_sem, ↓reduceIte, zn1, zn2, zn3, zn4, zn5, zn6, reduceCtorEq, zn7, zi1, zi2, if_pos, if_neg, lv_len, lv_take, Int.toNat_natCast, hlen, lv_all, List.replicate_zero]; rfl) ?_))
    (repeat (first | (with_reducible refine oA ?_) | ((with_reducible apply SC.region); (focus (simp (disch := omega) only [go_sem, ↓reduceIte, zn1, zn2, zn3, zn4, zn5, zn6, reduceCtorEq, zn7, zi1, zi2, if_pos, if_neg]; rfl))) | (with_reducible refine SC.draw Tab.mixed rfl ?_; (repeat (refine DO.run sF ?_)); refine DO.nil (by kernel_rfl) ?_)))
    refine retQ_ret Try.results62 sF (by simp (disch := omega) only [go_sem, ↓reduceIte, zn1, zn2, zn3, zn4, zn5, zn6, reduceCtorEq, zn7, zi1, zi2, if_pos, if_neg, lv_len, lv_take, hlen, List.take_take, Nat.min_self, lv_clo]; rfl) ?_
    unfold iv sv
    rw [e1, e2]
    simp [hlen]
  ·have hi : ((k : Int) - 1).toNat = k - 1 := by omega
   have hg := lv_get (l := l) (i := k - 1) (by omega)
   have hd : decide ((k : Int) > 0) = true := by simp; omega
   have hb : (((l.getD (k - 1) 0 : Nat) : Int) == 0) = false := by simp only [beq_eq_false_iff_ne, ne_eq]; omega
   (repeat (first | (with_reducible refine oA ?_) | ((with_reducible apply SC.region); (focus (simp (disch := omega) only [go_sem, ↓reduceIte, zn1, zn2, zn3, zn4, zn5, zn6, reduceCtorEq, zn7, zi1, zi2, if_pos, if_neg]; rfl))) | (with_reducible refine SC.draw Tab.mixed rfl ?_; (repeat (refine DO.run sF ?_)); refine DO.nil (by kernel_rfl) ?_)))
   refine SC.ops ?_
   (repeat (refine SO.run (by simp (disch := omega) only [go_sem, ↓reduceIte, zn1, zn2, zn3, zn4, zn5, zn6, reduceCtorEq, zn7, zi1, zi2, if_pos, if_neg, hi, hg, hd, hb, lv_len, zl5]; rfl) ?_))
   (repeat (first | (with_reducible refine oA ?_) | ((with_reducible apply SC.region); (focus (simp (disch := omega) only [go_sem, ↓reduceIte, zn1, zn2, zn3, zn4, zn5, zn6, reduceCtorEq, zn7, zi1, zi2, if_pos, if_neg]; rfl))) | (with_reducible refine SC.draw Tab.mixed rfl ?_; (repeat (refine DO.run sF ?_)); refine DO.nil (by kernel_rfl) ?_)))
   refine SC.cond sF ?_ ?_
   ·intro h; cases h
   intro _
   (repeat (first | (with_reducible refine oA ?_) | ((with_reducible apply SC.region); (focus (simp (disch := omega) only [go_sem, ↓reduceIte, zn1, zn2, zn3, zn4, zn5, zn6, reduceCtorEq, zn7, zi1, zi2, if_pos, if_neg]; rfl))) | (with_reducible refine SC.draw Tab.mixed rfl ?_; (repeat (refine DO.run sF ?_)); refine DO.nil (by kernel_rfl) ?_)))
   refine SC.weak (by simp) (s' := ⟨[(0, .im (lv l) l.length), (1, .sc (.bool neg)), (4, .pt 0 0), (5, .sc (.int .i64 (k : Nat)))], [(0, ⟨43, [.sc (.bool false), .sc (.slice none 0 0)], false⟩)], 1, 31⟩) (by (refine Le.of [] hB (by first | exact ⟨znc _, fun _ _ => znc _⟩ | (constructor <;> (try simp) <;> (try omega))) ?_ ?_ <;> (repeat' (first | exact leSl_nil | exact leHp_nil | refine leSl_cons sF ?_ ?_ | refine leHp_cons sF ?_ ?_ | exact VLe.junk _ | exact VLe.refl rfl | exact VLe.nil_sl _ _ _ | exact VLe.int (by first | rfl | omega | (dsimp only; omega)) | exact VLe.bool rfl | exact VLe.sl rfl (by first | rfl | omega | (dsimp only; omega) | (simp; done)) | exact VLe.cap rfl (by first | rfl | omega | (dsimp only; omega) | (simp; done)) | exact VLe.im rfl rfl | exact HLe.new rfl | exact HLe.same rfl (LLe.refl rfl) | refine HLe.same rfl ?_ | exact LLe.nil _ | exact LLe.refl rfl | refine LLe.cons ?_ ?_)))) ?_
   obtain ⟨e1, e2⟩ := made_tree (neg := neg) hl hz hk (fun _ => hx)
   have e3 : decide ((0 : Int) < ((k : Nat) : Int)) = decide (0 < k) := by simp
   cases neg
   all_goals
    refine SC.ops ?_
    (repeat (refine SO.run (by simp (disch := omega) only [go_sem, ↓reduceIte, zn1, zn2, zn3, zn4, zn5, zn6, reduceCtorEq, zn7, zi1, zi2, if_pos, if_neg, lv_len, lv_take, Int.toNat_natCast, hlen, lv_all, List.replicate_zero]; rfl) ?_))
    (repeat (first | (with_reducible refine oA ?_) | ((with_reducible apply SC.region); (focus (simp (disch := omega) only [go_sem, ↓reduceIte, zn1, zn2, zn3, zn4, zn5, zn6, reduceCtorEq, zn7, zi1, zi2, if_pos, if_neg]; rfl))) | (with_reducible refine SC.draw Tab.mixed rfl ?_; (repeat (refine DO.run sF ?_)); refine DO.nil (by kernel_rfl) ?_)))
    refine retQ_ret Try.results62 sF (by simp (disch := omega) only [go_sem, ↓reduceIte, zn1, zn2, zn3, zn4, zn5, zn6, reduceCtorEq, zn7, zi1, zi2, if_pos, if_neg, lv_len, lv_take, hlen, List.take_take, Nat.min_self, lv_clo]; rfl) ?_
    unfold iv sv
    rw [e1, e2]
    simp [hlen]
  ·have hi : ((k : Int) - 1).toNat = k - 1 := by omega
   have hg := lv_get (l := l) (i := k - 1) (by omega)
   have hd : decide ((k : Int) > 0) = true := by simp; omega
   have hb : (((l.getD (k - 1) 0 : Nat) : Int) == 0) = true := by simp only [beq_iff_eq]; omega
   (repeat (first | (with_reducible refine oA ?_) | ((with_reducible apply SC.region); (focus (simp (disch := omega) only [go_sem, ↓reduceIte, zn1, zn2, zn3, zn4, zn5, zn6, reduceCtorEq, zn7, zi1, zi2, if_pos, if_neg]; rfl))) | (with_reducible refine SC.draw Tab.mixed rfl ?_; (repeat (refine DO.run sF ?_)); refine DO.nil (by kernel_rfl) ?_)))
   refine SC.ops ?_
   (repeat (refine SO.run (by simp (disch := omega) only [go_sem, ↓reduceIte, zn1, zn2, zn3, zn4, zn5, zn6, reduceCtorEq, zn7, zi1, zi2, if_pos, if_neg, hi, hg, hd, hb, lv_len, zl5]; rfl) ?_))
   (repeat (first | (with_reducible refine oA ?_) | ((with_reducible apply SC.region); (focus (simp (disch := omega) only [go_sem, ↓reduceIte, zn1, zn2, zn3, zn4, zn5, zn6, reduceCtorEq, zn7, zi1, zi2, if_pos, if_neg]; rfl))) | (with_reducible refine SC.draw Tab.mixed rfl ?_; (repeat (refine DO.run sF ?_)); refine DO.nil (by kernel_rfl) ?_)))
   refine SC.cond sF ?_ ?_
   rotate_left
   ·intro h; cases h
   intro _
   (repeat (first | (with_reducible refine oA ?_) | ((with_reducible apply SC.region); (focus (simp (disch := omega) only [go_sem, ↓reduceIte, zn1, zn2, zn3, zn4, zn5, zn6, reduceCtorEq, zn7, zi1, zi2, if_pos, if_neg]; rfl))) | (with_reducible refine SC.draw Tab.mixed rfl ?_; (repeat (refine DO.run sF ?_)); refine DO.nil (by kernel_rfl) ?_)))
   refine hK _ (k - 1) ?_ ⟨by omega, fun i hi => ?_⟩ (by omega)
   ·(refine Le.of [] hB (by first | exact ⟨znc _, fun _ _ => znc _⟩ | (constructor <;> (try simp) <;> (try omega))) ?_ ?_ <;> (repeat' (first | exact leSl_nil | exact leHp_nil | refine leSl_cons sF ?_ ?_ | refine leHp_cons sF ?_ ?_ | exact VLe.junk _ | exact VLe.refl rfl | exact VLe.nil_sl _ _ _ | exact VLe.int (by first | rfl | omega | (dsimp only; omega)) | exact VLe.bool rfl | exact VLe.sl rfl (by first | rfl | omega | (dsimp only; omega) | (simp; done)) | exact VLe.cap rfl (by first | rfl | omega | (dsimp only; omega) | (simp; done)) | exact VLe.im rfl rfl | exact HLe.new rfl | exact HLe.same rfl (LLe.refl rfl) | refine HLe.same rfl ?_ | exact LLe.nil _ | exact LLe.refl rfl | refine LLe.cons ?_ ?_)))
   ·rcases Nat.lt_or_ge i k with h | h
    ·rw [show i = k - 1 by omega]; exact hx
    ·exact hz i h
theorem less_i (a b : List Nat) (ha : limbs a) (hb : limbs b) (hma : a.length ≤ 1000000000000) (hmb : b.length ≤ 1000000000000) : Spec Try.prog 71 [sv a, sv b] (.sc (.bool (lessL a b))) := by
 unfold sv
 refine Spec.run Try.func71 rfl Try.ntmps71 (by simp) sF fun B hB => ?_
 by_cases hab : a.length = b.length
 ·have h1 : ((a.length : Int) != (b.length : Int)) = false := by rw [hab]; simp
  (repeat (first | (with_reducible refine oA ?_) | ((with_reducible apply SC.region); (focus (simp (disch := omega) only [go_sem, ↓reduceIte, zn1, zn2, zn3, zn4, zn5, zn6, reduceCtorEq, zn7, zi1, zi2, if_pos, if_neg]; rfl))) | (with_reducible refine SC.draw Tab.mixed rfl ?_; (repeat (refine DO.run sF ?_)); refine DO.nil (by kernel_rfl) ?_)))
  refine SC.cond (by simp (disch := omega) only [go_sem, ↓reduceIte, zn1, zn2, zn3, zn4, zn5, zn6, reduceCtorEq, zn7, zi1, zi2, if_pos, if_neg, h1]; rfl) ?_ ?_
  ·intro h; cases h
  intro _
  (repeat (first | (with_reducible refine oA ?_) | ((with_reducible apply SC.region); (focus (simp (disch := omega) only [go_sem, ↓reduceIte, zn1, zn2, zn3, zn4, zn5, zn6, reduceCtorEq, zn7, zi1, zi2, if_pos, if_neg]; rfl))) | (with_reducible refine SC.draw Tab.mixed rfl ?_; (repeat (refine DO.run sF ?_)); refine DO.nil (by kernel_rfl) ?_)))
  refine SC.loop (fun k : Nat => ⟨[(0, .im (lv a) a.length), (1, .im (lv b) b.length), (4, .sc (.bool false)), (5, .sc (.int .i64 ((k : Int) - 1)))], [], 0, 41⟩)
   (fun k => k ≤ a.length ∧ (val a < val b ↔ val (a.take k) < val (b.take k))) (fun k => k) a.length ?_ ?_ ?_
  ·(refine Le.of [] hB (by first | exact ⟨znc _, fun _ _ => znc _⟩ | (constructor <;> (try simp) <;> (try omega))) ?_ ?_ <;> (repeat' (first | exact leSl_nil | exact leHp_nil | refine leSl_cons sF ?_ ?_ | refine leHp_cons sF ?_ ?_ | exact VLe.junk _ | exact VLe.refl rfl | exact VLe.nil_sl _ _ _ | exact VLe.int (by first | rfl | omega | (dsimp only; omega)) | exact VLe.bool rfl | exact VLe.sl rfl (by first | rfl | omega | (dsimp only; omega) | (simp; done)) | exact VLe.cap rfl (by first | rfl | omega | (dsimp only; omega) | (simp; done)) | exact VLe.im rfl rfl | exact HLe.new rfl | exact HLe.same rfl (LLe.refl rfl) | refine HLe.same rfl ?_ | exact LLe.nil _ | exact LLe.refl rfl | refine LLe.cons ?_ ?_)))
  ·exact ⟨znb _, by rw [List.take_length, hab, List.take_length]⟩
  ·rintro k ⟨hk, hI⟩ K hK
   by_cases h0 : k = 0
   ·subst h0
    (repeat (first | (with_reducible refine oA ?_) | ((with_reducible apply SC.region); (focus (simp (disch := omega) only [go_sem, ↓reduceIte, zn1, zn2, zn3, zn4, zn5, zn6, reduceCtorEq, zn7, zi1, zi2, if_pos, if_neg]; rfl))) | (with_reducible refine SC.draw Tab.mixed rfl ?_; (repeat (refine DO.run sF ?_)); refine DO.nil (by kernel_rfl) ?_)))
    refine SC.cond sF ?_ ?_
    ·intro h; simp at h
    intro _
    (repeat (first | (with_reducible refine oA ?_) | ((with_reducible apply SC.region); (focus (simp (disch := omega) only [go_sem, ↓reduceIte, zn1, zn2, zn3, zn4, zn5, zn6, reduceCtorEq, zn7, zi1, zi2, if_pos, if_neg]; rfl))) | (with_reducible refine SC.draw Tab.mixed rfl ?_; (repeat (refine DO.run sF ?_)); refine DO.nil (by kernel_rfl) ?_)))
    refine retQ_ret Try.results71 sF sF ?_
    unfold lessL
    rw [if_pos hab, decide_eq_false (fun h => by have := hI.1 h; simp [val] at this)]
   ·have hi : ((k : Int) - 1).toNat = k - 1 := by omega
    have hga := lv_get (l := a) (i := k - 1) (by omega)
    have hgb := lv_get (l := b) (i := k - 1) (by omega)
    have hd : decide ((k : Int) - 1 ≥ 0) = true := by simp; omega
    (repeat (first | (with_reducible refine oA ?_) | ((with_reducible apply SC.region); (focus (simp (disch := omega) only [go_sem, ↓reduceIte, zn1, zn2, zn3, zn4, zn5, zn6, reduceCtorEq, zn7, zi1, zi2, if_pos, if_neg]; rfl))) | (with_reducible refine SC.draw Tab.mixed rfl ?_; (repeat (refine DO.run sF ?_)); refine DO.nil (by kernel_rfl) ?_)))
    refine SC.cond (by simp (disch := omega) only [go_sem, ↓reduceIte, zn1, zn2, zn3, zn4, zn5, zn6, reduceCtorEq, zn7, zi1, zi2, if_pos, if_neg, hd]; rfl) ?_ ?_
    rotate_left
    ·intro h; cases h
    intro _
    have hs := val_lt_step (a := a) (b := b) (k := k - 1) ha hb (by omega) (by omega)
    rw [show k - 1 + 1 = k by omega, ← hI] at hs
    by_cases hx : a.getD (k - 1) 0 = b.getD (k - 1) 0
    ·have hne : (((a.getD (k - 1) 0 : Nat) : Int) != ((b.getD (k - 1) 0 : Nat) : Int)) = false := by rw [hx]; simp
     (repeat (first | (with_reducible refine oA ?_) | ((with_reducible apply SC.region); (focus (simp (disch := omega) only [go_sem, ↓reduceIte, zn1, zn2, zn3, zn4, zn5, zn6, reduceCtorEq, zn7, zi1, zi2, if_pos, if_neg, hi, hga, hgb, hd, hne, lv_len, zl5]; rfl))) | (with_reducible refine SC.draw Tab.mixed rfl ?_; (repeat (refine DO.run (by simp (disch := omega) only [go_sem, ↓reduceIte, zn1, zn2, zn3, zn4, zn5, zn6, reduceCtorEq, zn7, zi1, zi2, if_pos, if_neg, hi, hga, hgb, hd, hne, lv_len, zl5]; rfl) ?_)); refine DO.nil (by kernel_rfl) ?_)))
     refine SC.cond sF ?_ ?_
     ·intro h; cases h
     intro _
     (repeat (first | (with_reducible refine oA ?_) | ((with_reducible apply SC.region); (focus (simp (disch := omega) only [go_sem, ↓reduceIte, zn1, zn2, zn3, zn4, zn5, zn6, reduceCtorEq, zn7, zi1, zi2, if_pos, if_neg]; rfl))) | (with_reducible refine SC.draw Tab.mixed rfl ?_; (repeat (refine DO.run sF ?_)); refine DO.nil (by kernel_rfl) ?_)))
     refine hK _ (k - 1) ?_ ⟨by omega, hs.1 hx⟩ (by omega)
     (refine Le.of [] hB (by first | exact ⟨znc _, fun _ _ => znc _⟩ | (constructor <;> (try simp) <;> (try omega))) ?_ ?_ <;> (repeat' (first | exact leSl_nil | exact leHp_nil | refine leSl_cons sF ?_ ?_ | refine leHp_cons sF ?_ ?_ | exact VLe.junk _ | exact VLe.refl rfl | exact VLe.nil_sl _ _ _ | exact VLe.int (by first | rfl | omega | (dsimp only; omega)) | exact VLe.bool rfl | exact VLe.sl rfl (by first | rfl | omega | (dsimp only; omega) | (simp; done)) | exact VLe.cap rfl (by first | rfl | omega | (dsimp only; omega) | (simp; done)) | exact VLe.im rfl rfl | exact HLe.new rfl | exact HLe.same rfl (LLe.refl rfl) | refine HLe.same rfl ?_ | exact LLe.nil _ | exact LLe.refl rfl | refine LLe.cons ?_ ?_)))
    ·have hne : (((a.getD (k - 1) 0 : Nat) : Int) != ((b.getD (k - 1) 0 : Nat) : Int)) = true := by simp only [bne_iff_ne, ne_eq]; omega
     (repeat (first | (with_reducible refine oA ?_) | ((with_reducible apply SC.region); (focus (simp (disch := omega) only [go_sem, ↓reduceIte, zn1, zn2, zn3, zn4, zn5, zn6, reduceCtorEq, zn7, zi1, zi2, if_pos, if_neg, hi, hga, hgb, hd, hne, lv_len, zl5]; rfl))) | (with_reducible refine SC.draw Tab.mixed rfl ?_; (repeat (refine DO.run (by simp (disch := omega) only [go_sem, ↓reduceIte, zn1, zn2, zn3, zn4, zn5, zn6, reduceCtorEq, zn7, zi1, zi2, if_pos, if_neg, hi, hga, hgb, hd, hne, lv_len, zl5]; rfl) ?_)); refine DO.nil (by kernel_rfl) ?_)))
     refine SC.cond sF ?_ ?_
     rotate_left
     ·intro h; cases h
     intro _
     (repeat (first | (with_reducible refine oA ?_) | ((with_reducible apply SC.region); (focus (simp (disch := omega) only [go_sem, ↓reduceIte, zn1, zn2, zn3, zn4, zn5, zn6, reduceCtorEq, zn7, zi1, zi2, if_pos, if_neg, hi, hga, hgb, hd, hne, lv_len, zl5]; rfl))) | (with_reducible refine SC.draw Tab.mixed rfl ?_; (repeat (refine DO.run (by simp (disch := omega) only [go_sem, ↓reduceIte, zn1, zn2, zn3, zn4, zn5, zn6, reduceCtorEq, zn7, zi1, zi2, if_pos, if_neg, hi, hga, hgb, hd, hne, lv_len, zl5]; rfl) ?_)); refine DO.nil (by kernel_rfl) ?_)))
     refine retQ_ret Try.results71 sF sF ?_
     unfold lessL
     rw [if_pos hab]
     have := hs.2 hx
     exact congrArg (fun t => V.sc (.bool t)) (decide_eq_decide.2 (by rw [this]; omega))
 ·have h1 : ((a.length : Int) != (b.length : Int)) = true := by simp only [bne_iff_ne, ne_eq]; omega
  (repeat (first | (with_reducible refine oA ?_) | ((with_reducible apply SC.region); (focus (simp (disch := omega) only [go_sem, ↓reduceIte, zn1, zn2, zn3, zn4, zn5, zn6, reduceCtorEq, zn7, zi1, zi2, if_pos, if_neg]; rfl))) | (with_reducible refine SC.draw Tab.mixed rfl ?_; (repeat (refine DO.run sF ?_)); refine DO.nil (by kernel_rfl) ?_)))
  refine SC.cond (by simp (disch := omega) only [go_sem, ↓reduceIte, zn1, zn2, zn3, zn4, zn5, zn6, reduceCtorEq, zn7, zi1, zi2, if_pos, if_neg, h1]; rfl) ?_ ?_
  rotate_left
  ·intro h; cases h
  intro _
  (repeat (first | (with_reducible refine oA ?_) | ((with_reducible apply SC.region); (focus (simp (disch := omega) only [go_sem, ↓reduceIte, zn1, zn2, zn3, zn4, zn5, zn6, reduceCtorEq, zn7, zi1, zi2, if_pos, if_neg]; rfl))) | (with_reducible refine SC.draw Tab.mixed rfl ?_; (repeat (refine DO.run sF ?_)); refine DO.nil (by kernel_rfl) ?_)))
  refine retQ_ret Try.results71 sF sF ?_
  unfold lessL
  rw [if_neg hab]
  exact congrArg (fun t => V.sc (.bool t)) (decide_eq_decide.2 (by omega))
def Short (x : Int) : Prop := (limbsOf x.natAbs).length ≤ 1000000000000
theorem lessL_limbs (m n : Nat) : lessL (limbsOf m) (limbsOf n) = decide (m < n) := by
 rw [lessL_eq (limbsOf_limbs m) (limbsOf_limbs n) (limbsOf_canon m) (limbsOf_canon n), limbsOf_val, limbsOf_val]
theorem less_n (m n : Nat) (hm : (limbsOf m).length ≤ 1000000000000) (hn : (limbsOf n).length ≤ 1000000000000) : Spec Try.prog 71 [sv (limbsOf m), sv (limbsOf n)] (.sc (.bool (decide (m < n)))) := by
 have := less_i _ _ (limbsOf_limbs m) (limbsOf_limbs n) hm hn
 rwa [lessL_limbs] at this
theorem same_i (x y : Int) (hx : Short x) (hy : Short y) : Spec Try.prog 46 [iv x, iv y] (.sc (.bool (decide (x = y)))) := by
 have l1 := less_n x.natAbs y.natAbs hx hy
 have l2 := less_n y.natAbs x.natAbs hy hx
 unfold sv at l1 l2
 unfold iv sv
 refine Spec.run Try.func46 rfl Try.ntmps46 (by simp) sF fun B hB => ?_
 have hsx : (decide (x < 0) == decide (y < 0)) = true ↔ (x < 0 ↔ y < 0) := by simp
 by_cases hs : (decide (x < 0) == decide (y < 0)) = true
 ·have hs' := hsx.1 hs
  by_cases h1 : x.natAbs < y.natAbs
  ·rw [decide_eq_true h1] at l1
   (repeat (first | (with_reducible refine oA ?_) | ((with_reducible apply SC.region); (focus (simp (disch := omega) only [go_sem, ↓reduceIte, zn1, zn2, zn3, zn4, zn5, zn6, reduceCtorEq, zn7, zi1, zi2, if_pos, if_neg]; rfl))) | (with_reducible refine SC.draw Tab.mixed rfl ?_; (repeat (refine DO.run sF ?_)); refine DO.nil (by kernel_rfl) ?_)))
   refine SC.ops ?_
   (repeat (refine SO.run (by simp (disch := omega) only [go_sem, ↓reduceIte, zn1, zn2, zn3, zn4, zn5, zn6, reduceCtorEq, zn7, zi1, zi2, if_pos, if_neg, hs]; rfl) ?_))
   (refine SO.call Tab.go71 sF sG ?_)
   (refine SCall.of (l1) sF ?_)
   (repeat (refine SO.run (by simp (disch := omega) only [go_sem, ↓reduceIte, zn1, zn2, zn3, zn4, zn5, zn6, reduceCtorEq, zn7, zi1, zi2, if_pos, if_neg, hs, Bool.not_true, Bool.not_false]; rfl) ?_))
   (repeat (first | (with_reducible refine oA ?_) | ((with_reducible apply SC.region); (focus (simp (disch := omega) only [go_sem, ↓reduceIte, zn1, zn2, zn3, zn4, zn5, zn6, reduceCtorEq, zn7, zi1, zi2, if_pos, if_neg]; rfl))) | (with_reducible refine SC.draw Tab.mixed rfl ?_; (repeat (refine DO.run sF ?_)); refine DO.nil (by kernel_rfl) ?_)))
   refine retQ_ret Try.results46 sF sF ?_
   rw [decide_eq_false (by omega)]
  ·rw [decide_eq_false h1] at l1
   by_cases h2 : y.natAbs < x.natAbs
   ·rw [decide_eq_true h2] at l2
    (repeat (first | (with_reducible refine oA ?_) | ((with_reducible apply SC.region); (focus (simp (disch := omega) only [go_sem, ↓reduceIte, zn1, zn2, zn3, zn4, zn5, zn6, reduceCtorEq, zn7, zi1, zi2, if_pos, if_neg]; rfl))) | (with_reducible refine SC.draw Tab.mixed rfl ?_; (repeat (refine DO.run sF ?_)); refine DO.nil (by kernel_rfl) ?_)))
    refine SC.ops ?_
    (repeat (refine SO.run (by simp (disch := omega) only [go_sem, ↓reduceIte, zn1, zn2, zn3, zn4, zn5, zn6, reduceCtorEq, zn7, zi1, zi2, if_pos, if_neg, hs]; rfl) ?_))
    (refine SO.call Tab.go71 sF sG ?_)
    (refine SCall.of (l1) sF ?_)
    (repeat (refine SO.run (by simp (disch := omega) only [go_sem, ↓reduceIte, zn1, zn2, zn3, zn4, zn5, zn6, reduceCtorEq, zn7, zi1, zi2, if_pos, if_neg, hs, Bool.not_true, Bool.not_false]; rfl) ?_))
    (refine SO.call Tab.go71 sF sG ?_)
    (refine SCall.of (l2) sF ?_)
    (repeat (refine SO.run (by simp (disch := omega) only [go_sem, ↓reduceIte, zn1, zn2, zn3, zn4, zn5, zn6, reduceCtorEq, zn7, zi1, zi2, if_pos, if_neg, hs, Bool.not_true, Bool.not_false]; rfl) ?_))
    (repeat (first | (with_reducible refine oA ?_) | ((with_reducible apply SC.region); (focus (simp (disch := omega) only [go_sem, ↓reduceIte, zn1, zn2, zn3, zn4, zn5, zn6, reduceCtorEq, zn7, zi1, zi2, if_pos, if_neg]; rfl))) | (with_reducible refine SC.draw Tab.mixed rfl ?_; (repeat (refine DO.run sF ?_)); refine DO.nil (by kernel_rfl) ?_)))
    refine retQ_ret Try.results46 sF sF ?_
    rw [decide_eq_false (by omega)]
   ·rw [decide_eq_false h2] at l2
    (repeat (first | (with_reducible refine oA ?_) | ((with_reducible apply SC.region); (focus (simp (disch := omega) only [go_sem, ↓reduceIte, zn1, zn2, zn3, zn4, zn5, zn6, reduceCtorEq, zn7, zi1, zi2, if_pos, if_neg]; rfl))) | (with_reducible refine SC.draw Tab.mixed rfl ?_; (repeat (refine DO.run sF ?_)); refine DO.nil (by kernel_rfl) ?_)))
    refine SC.ops ?_
    (repeat (refine SO.run (by simp (disch := omega) only [go_sem, ↓reduceIte, zn1, zn2, zn3, zn4, zn5, zn6, reduceCtorEq, zn7, zi1, zi2, if_pos, if_neg, hs]; rfl) ?_))
    (refine SO.call Tab.go71 sF sG ?_)
    (refine SCall.of (l1) sF ?_)
    (repeat (refine SO.run (by simp (disch := omega) only [go_sem, ↓reduceIte, zn1, zn2, zn3, zn4, zn5, zn6, reduceCtorEq, zn7, zi1, zi2, if_pos, if_neg, hs, Bool.not_true, Bool.not_false]; rfl) ?_))
    (refine SO.call Tab.go71 sF sG ?_)
    (refine SCall.of (l2) sF ?_)
    (repeat (refine SO.run (by simp (disch := omega) only [go_sem, ↓reduceIte, zn1, zn2, zn3, zn4, zn5, zn6, reduceCtorEq, zn7, zi1, zi2, if_pos, if_neg, hs, Bool.not_true, Bool.not_false]; rfl) ?_))
    (repeat (first | (with_reducible refine oA ?_) | ((with_reducible apply SC.region); (focus (simp (disch := omega) only [go_sem, ↓reduceIte, zn1, zn2, zn3, zn4, zn5, zn6, reduceCtorEq, zn7, zi1, zi2, if_pos, if_neg]; rfl))) | (with_reducible refine SC.draw Tab.mixed rfl ?_; (repeat (refine DO.run sF ?_)); refine DO.nil (by kernel_rfl) ?_)))
    refine retQ_ret Try.results46 sF sF ?_
    rw [decide_eq_true (by omega)]
 ·have hs' : ¬ (x < 0 ↔ y < 0) := fun h => hs (hsx.2 h)
  rw [Bool.not_eq_true] at hs
  (repeat (first | (with_reducible refine oA ?_) | ((with_reducible apply SC.region); (focus (simp (disch := omega) only [go_sem, ↓reduceIte, zn1, zn2, zn3, zn4, zn5, zn6, reduceCtorEq, zn7, zi1, zi2, if_pos, if_neg]; rfl))) | (with_reducible refine SC.draw Tab.mixed rfl ?_; (repeat (refine DO.run sF ?_)); refine DO.nil (by kernel_rfl) ?_)))
  refine SC.ops ?_
  (repeat (refine SO.run (by simp (disch := omega) only [go_sem, ↓reduceIte, zn1, zn2, zn3, zn4, zn5, zn6, reduceCtorEq, zn7, zi1, zi2, if_pos, if_neg, hs]; rfl) ?_))
  (repeat (first | (with_reducible refine oA ?_) | ((with_reducible apply SC.region); (focus (simp (disch := omega) only [go_sem, ↓reduceIte, zn1, zn2, zn3, zn4, zn5, zn6, reduceCtorEq, zn7, zi1, zi2, if_pos, if_neg]; rfl))) | (with_reducible refine SC.draw Tab.mixed rfl ?_; (repeat (refine DO.run sF ?_)); refine DO.nil (by kernel_rfl) ?_)))
  refine retQ_ret Try.results46 sF sF ?_
  rw [decide_eq_false (by omega)]
theorem two_limbs {m : Nat} (h : m < 18446744073709551616) : val [m % 4294967296, m / 4294967296] = m ∧ limbs [m % 4294967296, m / 4294967296] := by
 refine ⟨by simp [val]; omega, fun x hx => ?_⟩
 simp at hx
 omega
theorem of_i (n : Int) (h1 : -9223372036854775808 ≤ n) (h2 : n < 9223372036854775808) : Spec Try.prog 39 [.sc (.int .i64 n)] (iv n) := by
 obtain ⟨hv, hl⟩ := two_limbs (m := n.natAbs) (by omega)
 have hm := made_i [n.natAbs % 4294967296, n.natAbs / 4294967296] (decide (n < 0)) hl (by simp)
 rw [hv] at hm
 have hs : sgn (decide (n < 0)) n.natAbs = n := by unfold sgn; split <;> simp_all <;> omega
 rw [hs] at hm
 unfold sv at hm
 rw [show lv [n.natAbs % 4294967296, n.natAbs / 4294967296] = [.sc (.int .u32 ((n.natAbs % 4294967296 : Nat) : Int)), .sc (.int .u32 ((n.natAbs / 4294967296 : Nat) : Int))] from rfl] at hm
 unfold iv sv at hm ⊢
 refine Spec.run Try.func39 rfl Try.ntmps39 (by simp) sF fun B hB => ?_
 obtain ⟨m, hm0⟩ : ∃ m, m = n.natAbs := ⟨_, rfl⟩
 rw [← hm0] at hm
 have w1 : (m : Int) % 4294967296 = ((m % 4294967296 : Nat) : Int) := by simp
 have w2 : (m : Int) / 2 ^ min 32 64 % 4294967296 = ((m / 4294967296 : Nat) : Int) := by
  have : (2 : Int) ^ min 32 64 = 4294967296 := by decide
  rw [this]; omega
 simp only [List.length_cons, List.length_nil, zn9, zn4] at hm
 by_cases h0 : n < 0
 ·have e1 : IntKind.u64.wrap n = n + 18446744073709551616 := by simp [IntKind.wrap, IntKind.bits, IntKind.signed]; omega
  have e2 : IntKind.u64.wrap (0 - (n + 18446744073709551616)) = (m : Int) := by simp [IntKind.wrap, IntKind.bits, IntKind.signed]; omega
  have hd : decide (n < 0) = true := decide_eq_true h0
  rw [hd] at hm
  (repeat (first | (with_reducible refine oA ?_) | ((with_reducible apply SC.region); (focus (simp (disch := omega) only [go_sem, ↓reduceIte, zn1, zn2, zn3, zn4, zn5, zn6, reduceCtorEq, zn7, zi1, zi2, if_pos, if_neg, e1, hd]; rfl))) | (with_reducible refine SC.draw Tab.mixed rfl ?_; (repeat (refine DO.run (by simp (disch := omega) only [go_sem, ↓reduceIte, zn1, zn2, zn3, zn4, zn5, zn6, reduceCtorEq, zn7, zi1, zi2, if_pos, if_neg, e1, hd]; rfl) ?_)); refine DO.nil (by kernel_rfl) ?_)))
  refine SC.cond sF ?_ ?_
  rotate_left
  ·intro h; cases h
  intro _
  (repeat (first | (with_reducible refine oA ?_) | ((with_reducible apply SC.region); (focus (simp (disch := omega) only [go_sem, ↓reduceIte, zn1, zn2, zn3, zn4, zn5, zn6, reduceCtorEq, zn7, zi1, zi2, if_pos, if_neg, e1, e2, hd]; rfl))) | (with_reducible refine SC.draw Tab.mixed rfl ?_; (repeat (refine DO.run (by simp (disch := omega) only [go_sem, ↓reduceIte, zn1, zn2, zn3, zn4, zn5, zn6, reduceCtorEq, zn7, zi1, zi2, if_pos, if_neg, e1, e2, hd]; rfl) ?_)); refine DO.nil (by kernel_rfl) ?_)))
  refine SC.ops ?_
  (repeat (refine SO.run (by simp (disch := omega) only [go_sem, ↓reduceIte, zn1, zn2, zn3, zn4, zn5, zn6, reduceCtorEq, zn7, zi1, zi2, if_pos, if_neg, hd]; rfl) ?_))
  (refine SO.call Tab.go62 sF sG ?_)
  rw [w1, w2]
  (refine SCall.ofF (hm) sF ?_)
  (repeat (refine SO.run sF ?_))
  (repeat (first | (with_reducible refine oA ?_) | ((with_reducible apply SC.region); (focus (simp (disch := omega) only [go_sem, ↓reduceIte, zn1, zn2, zn3, zn4, zn5, zn6, reduceCtorEq, zn7, zi1, zi2, if_pos, if_neg]; rfl))) | (with_reducible refine SC.draw Tab.mixed rfl ?_; (repeat (refine DO.run sF ?_)); refine DO.nil (by kernel_rfl) ?_)))
  refine retQ_ret Try.results39 sF sF ?_
  rw [hd, ← hm0]
 ·have e1 : IntKind.u64.wrap n = (m : Int) := by simp [IntKind.wrap, IntKind.bits, IntKind.signed]; omega
  have hd : decide (n < 0) = false := decide_eq_false h0
  rw [hd] at hm
  (repeat (first | (with_reducible refine oA ?_) | ((with_reducible apply SC.region); (focus (simp (disch := omega) only [go_sem, ↓reduceIte, zn1, zn2, zn3, zn4, zn5, zn6, reduceCtorEq, zn7, zi1, zi2, if_pos, if_neg, e1, hd]; rfl))) | (with_reducible refine SC.draw Tab.mixed rfl ?_; (repeat (refine DO.run (by simp (disch := omega) only [go_sem, ↓reduceIte, zn1, zn2, zn3, zn4, zn5, zn6, reduceCtorEq, zn7, zi1, zi2, if_pos, if_neg, e1, hd]; rfl) ?_)); refine DO.nil (by kernel_rfl) ?_)))
  refine SC.cond sF ?_ ?_
  ·intro h; cases h
  intro _
  (repeat (first | (with_reducible refine oA ?_) | ((with_reducible apply SC.region); (focus (simp (disch := omega) only [go_sem, ↓reduceIte, zn1, zn2, zn3, zn4, zn5, zn6, reduceCtorEq, zn7, zi1, zi2, if_pos, if_neg]; rfl))) | (with_reducible refine SC.draw Tab.mixed rfl ?_; (repeat (refine DO.run sF ?_)); refine DO.nil (by kernel_rfl) ?_)))
  refine SC.ops ?_
  (repeat (refine SO.run (by simp (disch := omega) only [go_sem, ↓reduceIte, zn1, zn2, zn3, zn4, zn5, zn6, reduceCtorEq, zn7, zi1, zi2, if_pos, if_neg, hd]; rfl) ?_))
  (refine SO.call Tab.go62 sF sG ?_)
  rw [w1, w2]
  (refine SCall.ofF (hm) sF ?_)
  (repeat (refine SO.run sF ?_))
  (repeat (first | (with_reducible refine oA ?_) | ((with_reducible apply SC.region); (focus (simp (disch := omega) only [go_sem, ↓reduceIte, zn1, zn2, zn3, zn4, zn5, zn6, reduceCtorEq, zn7, zi1, zi2, if_pos, if_neg]; rfl))) | (with_reducible refine SC.draw Tab.mixed rfl ?_; (repeat (refine DO.run sF ?_)); refine DO.nil (by kernel_rfl) ?_)))
  refine retQ_ret Try.results39 sF sF ?_
  rw [hd, ← hm0]
end Go.Proofs.Ytdcbmdmlhjemmaa
