/- What the tables of the program say of its types. -/
import Derived.Test.YtcbfamgdkmfcgaaSt
import Derived.Test.YtcbfamgdkmfcgaaSx
import Derived.Test.YtcbfamgdkmfcgaaProg
import Derived.KernelRfl
namespace Go.Proofs.Ytcbfamgdkmfcgaa
@[go_sem] theorem Tab.agg2 : aggOf Try.prog 2 = some false := by kernel_rfl
@[go_sem] theorem Tab.sz2 : szOf Try.prog 2 = some 1 := by kernel_rfl
@[go_sem] theorem Tab.has2 : hasT Try.prog 2 = true := by kernel_rfl
@[go_sem] theorem Tab.int2 : intOf' Try.prog 2 = some .i64 := by kernel_rfl
@[go_sem] theorem Tab.zero2 : zeroOf Try.prog 2 = some (.int .i64 0) := by kernel_rfl
@[go_sem] theorem Tab.agg3 : aggOf Try.prog 3 = some false := by kernel_rfl
@[go_sem] theorem Tab.sz3 : szOf Try.prog 3 = some 1 := by kernel_rfl
@[go_sem] theorem Tab.has3 : hasT Try.prog 3 = true := by kernel_rfl
@[go_sem] theorem Tab.int3 : intOf' Try.prog 3 = some .i64 := by kernel_rfl
@[go_sem] theorem Tab.zero3 : zeroOf Try.prog 3 = some (.int .i64 0) := by kernel_rfl
@[go_sem] theorem Tab.agg4 : aggOf Try.prog 4 = some false := by kernel_rfl
@[go_sem] theorem Tab.sz4 : szOf Try.prog 4 = some 1 := by kernel_rfl
@[go_sem] theorem Tab.has4 : hasT Try.prog 4 = true := by kernel_rfl
@[go_sem] theorem Tab.bool4 : isBool Try.prog 4 = true := by kernel_rfl
@[go_sem] theorem Tab.zero4 : zeroOf Try.prog 4 = some (.bool false) := by kernel_rfl
@[go_sem] theorem Tab.agg5 : aggOf Try.prog 5 = some false := by kernel_rfl
@[go_sem] theorem Tab.sz5 : szOf Try.prog 5 = some 1 := by kernel_rfl
@[go_sem] theorem Tab.has5 : hasT Try.prog 5 = true := by kernel_rfl
@[go_sem] theorem Tab.int5 : intOf' Try.prog 5 = some .u8 := by kernel_rfl
@[go_sem] theorem Tab.zero5 : zeroOf Try.prog 5 = some (.int .u8 0) := by kernel_rfl
@[go_sem] theorem Tab.agg7 : aggOf Try.prog 7 = some true := by kernel_rfl
@[go_sem] theorem Tab.sz7 : szOf Try.prog 7 = some 4 := by kernel_rfl
@[go_sem] theorem Tab.has7 : hasT Try.prog 7 = true := by kernel_rfl
@[go_sem] theorem Tab.zero7 : zeroOf Try.prog 7 = some (.agg #[.int .i64 0, .int .i64 0, .bool false, .int .u8 0]) := by kernel_rfl
@[go_sem] theorem Tab.fld7_0 : fldOf Try.prog 7 0 = some (0, 2, 1) := by kernel_rfl
@[go_sem] theorem Tab.fld7_1 : fldOf Try.prog 7 1 = some (1, 3, 1) := by kernel_rfl
@[go_sem] theorem Tab.fld7_2 : fldOf Try.prog 7 2 = some (2, 4, 1) := by kernel_rfl
@[go_sem] theorem Tab.fld7_3 : fldOf Try.prog 7 3 = some (3, 6, 1) := by kernel_rfl
@[go_sem] theorem Tab.pl7 : plOf Try.prog 7 = some ([.int .i64 0, .int .i64 0, .bool false, .int .u8 0], .st [(0, 1), (1, 1), (2, 1), (3, 1)]) := by kernel_rfl
@[go_sem] theorem Tab.agg9 : aggOf Try.prog 9 = some false := by kernel_rfl
@[go_sem] theorem Tab.sz9 : szOf Try.prog 9 = some 1 := by kernel_rfl
@[go_sem] theorem Tab.has9 : hasT Try.prog 9 = true := by kernel_rfl
@[go_sem] theorem Tab.str9 : isStr Try.prog 9 = true := by kernel_rfl
@[go_sem] theorem Tab.zero9 : zeroOf Try.prog 9 = some (.string ByteArray.empty) := by kernel_rfl
@[go_sem] theorem Tab.agg12 : aggOf Try.prog 12 = some false := by kernel_rfl
@[go_sem] theorem Tab.sz12 : szOf Try.prog 12 = some 1 := by kernel_rfl
@[go_sem] theorem Tab.has12 : hasT Try.prog 12 = true := by kernel_rfl
@[go_sem] theorem Tab.int12 : intOf' Try.prog 12 = some .u64 := by kernel_rfl
@[go_sem] theorem Tab.zero12 : zeroOf Try.prog 12 = some (.int .u64 0) := by kernel_rfl
@[go_sem] theorem Tab.agg13 : aggOf Try.prog 13 = some true := by kernel_rfl
@[go_sem] theorem Tab.sz13 : szOf Try.prog 13 = some 2 := by kernel_rfl
@[go_sem] theorem Tab.has13 : hasT Try.prog 13 = true := by kernel_rfl
@[go_sem] theorem Tab.zero13 : zeroOf Try.prog 13 = some (.agg #[.string ByteArray.empty, .int .u64 0]) := by kernel_rfl
@[go_sem] theorem Tab.fld13_0 : fldOf Try.prog 13 0 = some (0, 9, 1) := by kernel_rfl
@[go_sem] theorem Tab.fld13_1 : fldOf Try.prog 13 1 = some (1, 12, 1) := by kernel_rfl
@[go_sem] theorem Tab.pl13 : plOf Try.prog 13 = some ([.string ByteArray.empty, .int .u64 0], .st [(0, 1), (1, 1)]) := by kernel_rfl
@[go_sem] theorem Tab.agg18 : aggOf Try.prog 18 = some true := by kernel_rfl
@[go_sem] theorem Tab.sz18 : szOf Try.prog 18 = some 1 := by kernel_rfl
@[go_sem] theorem Tab.has18 : hasT Try.prog 18 = true := by kernel_rfl
@[go_sem] theorem Tab.zero18 : zeroOf Try.prog 18 = some (.agg #[.pointer none]) := by kernel_rfl
@[go_sem] theorem Tab.fld18_0 : fldOf Try.prog 18 0 = some (0, 17, 1) := by kernel_rfl
@[go_sem] theorem Tab.pl18 : plOf Try.prog 18 = some ([.pointer none], .st [(0, 1)]) := by kernel_rfl
@[go_sem] theorem Tab.agg21 : aggOf Try.prog 21 = some false := by kernel_rfl
@[go_sem] theorem Tab.sz21 : szOf Try.prog 21 = some 1 := by kernel_rfl
@[go_sem] theorem Tab.has21 : hasT Try.prog 21 = true := by kernel_rfl
@[go_sem] theorem Tab.int21 : intOf' Try.prog 21 = some .i32 := by kernel_rfl
@[go_sem] theorem Tab.zero21 : zeroOf Try.prog 21 = some (.int .i32 0) := by kernel_rfl
@[go_sem] theorem Tab.agg22 : aggOf Try.prog 22 = some false := by kernel_rfl
@[go_sem] theorem Tab.sz22 : szOf Try.prog 22 = some 1 := by kernel_rfl
@[go_sem] theorem Tab.has22 : hasT Try.prog 22 = true := by kernel_rfl
@[go_sem] theorem Tab.int22 : intOf' Try.prog 22 = some .u64 := by kernel_rfl
@[go_sem] theorem Tab.zero22 : zeroOf Try.prog 22 = some (.int .u64 0) := by kernel_rfl
@[go_sem] theorem Tab.agg23 : aggOf Try.prog 23 = some false := by kernel_rfl
@[go_sem] theorem Tab.sz23 : szOf Try.prog 23 = some 1 := by kernel_rfl
@[go_sem] theorem Tab.has23 : hasT Try.prog 23 = true := by kernel_rfl
@[go_sem] theorem Tab.int23 : intOf' Try.prog 23 = some .u32 := by kernel_rfl
@[go_sem] theorem Tab.zero23 : zeroOf Try.prog 23 = some (.int .u32 0) := by kernel_rfl
@[go_sem] theorem Tab.agg28 : aggOf Try.prog 28 = some false := by kernel_rfl
@[go_sem] theorem Tab.sz28 : szOf Try.prog 28 = some 1 := by kernel_rfl
@[go_sem] theorem Tab.has28 : hasT Try.prog 28 = true := by kernel_rfl
@[go_sem] theorem Tab.int28 : intOf' Try.prog 28 = some .u16 := by kernel_rfl
@[go_sem] theorem Tab.zero28 : zeroOf Try.prog 28 = some (.int .u16 0) := by kernel_rfl
@[go_sem] theorem Tab.agg30 : aggOf Try.prog 30 = some false := by kernel_rfl
@[go_sem] theorem Tab.sz30 : szOf Try.prog 30 = some 1 := by kernel_rfl
@[go_sem] theorem Tab.has30 : hasT Try.prog 30 = true := by kernel_rfl
@[go_sem] theorem Tab.zero30 : zeroOf Try.prog 30 = some (.slice none 0 0) := by kernel_rfl
@[go_sem] theorem Tab.sl30 : slOf Try.prog 30 = some (23, 1) := by kernel_rfl
@[go_sem] theorem Tab.mk30 : mkOf Try.prog 30 = some (23, 4, [.int .u32 0]) := by kernel_rfl
@[go_sem] theorem Tab.agg31 : aggOf Try.prog 31 = some true := by kernel_rfl
@[go_sem] theorem Tab.sz31 : szOf Try.prog 31 = some 2 := by kernel_rfl
@[go_sem] theorem Tab.has31 : hasT Try.prog 31 = true := by kernel_rfl
@[go_sem] theorem Tab.zero31 : zeroOf Try.prog 31 = some (.agg #[.slice none 0 0, .bool false]) := by kernel_rfl
@[go_sem] theorem Tab.fld31_0 : fldOf Try.prog 31 0 = some (0, 30, 1) := by kernel_rfl
@[go_sem] theorem Tab.fld31_1 : fldOf Try.prog 31 1 = some (1, 4, 1) := by kernel_rfl
@[go_sem] theorem Tab.pl31 : plOf Try.prog 31 = some ([.slice none 0 0, .bool false], .st [(0, 1), (1, 1)]) := by kernel_rfl
@[go_sem] theorem Tab.agg32 : aggOf Try.prog 32 = some true := by kernel_rfl
@[go_sem] theorem Tab.sz32 : szOf Try.prog 32 = some 2 := by kernel_rfl
@[go_sem] theorem Tab.has32 : hasT Try.prog 32 = true := by kernel_rfl
@[go_sem] theorem Tab.zero32 : zeroOf Try.prog 32 = some (.agg #[.slice none 0 0, .bool false]) := by kernel_rfl
@[go_sem] theorem Tab.fld32_0 : fldOf Try.prog 32 0 = some (0, 30, 1) := by kernel_rfl
@[go_sem] theorem Tab.fld32_1 : fldOf Try.prog 32 1 = some (1, 4, 1) := by kernel_rfl
@[go_sem] theorem Tab.pl32 : plOf Try.prog 32 = some ([.slice none 0 0, .bool false], .st [(0, 1), (1, 1)]) := by kernel_rfl
@[go_sem] theorem Tab.agg34 : aggOf Try.prog 34 = some true := by kernel_rfl
@[go_sem] theorem Tab.sz34 : szOf Try.prog 34 = some 2 := by kernel_rfl
@[go_sem] theorem Tab.has34 : hasT Try.prog 34 = true := by kernel_rfl
@[go_sem] theorem Tab.zero34 : zeroOf Try.prog 34 = some (.agg #[.bool false, .slice none 0 0]) := by kernel_rfl
@[go_sem] theorem Tab.fld34_0 : fldOf Try.prog 34 0 = some (0, 4, 1) := by kernel_rfl
@[go_sem] theorem Tab.fld34_1 : fldOf Try.prog 34 1 = some (1, 30, 1) := by kernel_rfl
@[go_sem] theorem Tab.pl34 : plOf Try.prog 34 = some ([.bool false, .slice none 0 0], .st [(0, 1), (1, 1)]) := by kernel_rfl
@[go_sem] theorem Tab.agg35 : aggOf Try.prog 35 = some true := by kernel_rfl
@[go_sem] theorem Tab.sz35 : szOf Try.prog 35 = some 2 := by kernel_rfl
@[go_sem] theorem Tab.has35 : hasT Try.prog 35 = true := by kernel_rfl
@[go_sem] theorem Tab.zero35 : zeroOf Try.prog 35 = some (.agg #[.bool false, .slice none 0 0]) := by kernel_rfl
@[go_sem] theorem Tab.fld35_0 : fldOf Try.prog 35 0 = some (0, 4, 1) := by kernel_rfl
@[go_sem] theorem Tab.fld35_1 : fldOf Try.prog 35 1 = some (1, 30, 1) := by kernel_rfl
@[go_sem] theorem Tab.pl35 : plOf Try.prog 35 = some ([.bool false, .slice none 0 0], .st [(0, 1), (1, 1)]) := by kernel_rfl
@[go_sem] theorem Tab.agg44 : aggOf Try.prog 44 = some true := by kernel_rfl
@[go_sem] theorem Tab.sz44 : szOf Try.prog 44 = some 3 := by kernel_rfl
@[go_sem] theorem Tab.has44 : hasT Try.prog 44 = true := by kernel_rfl
@[go_sem] theorem Tab.zero44 : zeroOf Try.prog 44 = some (.agg #[.int .u64 0, .int .u64 0, .int .u64 0]) := by kernel_rfl
@[go_sem] theorem Tab.ar44 : arOf Try.prog 44 = some (3, 22, 1) := by kernel_rfl
@[go_sem] theorem Tab.pl44 : plOf Try.prog 44 = some ([.int .u64 0, .int .u64 0, .int .u64 0], .ar 1) := by kernel_rfl
@[go_sem] theorem Tab.agg45 : aggOf Try.prog 45 = some false := by kernel_rfl
@[go_sem] theorem Tab.sz45 : szOf Try.prog 45 = some 1 := by kernel_rfl
@[go_sem] theorem Tab.has45 : hasT Try.prog 45 = true := by kernel_rfl
@[go_sem] theorem Tab.int45 : intOf' Try.prog 45 = some .i64 := by kernel_rfl
@[go_sem] theorem Tab.zero45 : zeroOf Try.prog 45 = some (.int .i64 0) := by kernel_rfl
@[go_sem] theorem Tab.agg50 : aggOf Try.prog 50 = some true := by kernel_rfl
@[go_sem] theorem Tab.sz50 : szOf Try.prog 50 = some 2 := by kernel_rfl
@[go_sem] theorem Tab.has50 : hasT Try.prog 50 = true := by kernel_rfl
@[go_sem] theorem Tab.zero50 : zeroOf Try.prog 50 = some (.agg #[.int .u16 0, .int .u16 0]) := by kernel_rfl
@[go_sem] theorem Tab.ar50 : arOf Try.prog 50 = some (2, 28, 1) := by kernel_rfl
@[go_sem] theorem Tab.pl50 : plOf Try.prog 50 = some ([.int .u16 0, .int .u16 0], .ar 1) := by kernel_rfl
@[go_sem] theorem Tab.agg52 : aggOf Try.prog 52 = some true := by kernel_rfl
@[go_sem] theorem Tab.sz52 : szOf Try.prog 52 = some 4 := by kernel_rfl
@[go_sem] theorem Tab.has52 : hasT Try.prog 52 = true := by kernel_rfl
@[go_sem] theorem Tab.zero52 : zeroOf Try.prog 52 = some (.agg #[.int .u64 0, .int .u64 0, .int .u64 0, .int .u64 0]) := by kernel_rfl
@[go_sem] theorem Tab.ar52 : arOf Try.prog 52 = some (4, 22, 1) := by kernel_rfl
@[go_sem] theorem Tab.pl52 : plOf Try.prog 52 = some ([.int .u64 0, .int .u64 0, .int .u64 0, .int .u64 0], .ar 1) := by kernel_rfl
@[go_sem] theorem Tab.agg57 : aggOf Try.prog 57 = some false := by kernel_rfl
@[go_sem] theorem Tab.sz57 : szOf Try.prog 57 = some 1 := by kernel_rfl
@[go_sem] theorem Tab.has57 : hasT Try.prog 57 = true := by kernel_rfl
@[go_sem] theorem Tab.zero57 : zeroOf Try.prog 57 = some (.slice none 0 0) := by kernel_rfl
@[go_sem] theorem Tab.sl57 : slOf Try.prog 57 = some (22, 1) := by kernel_rfl
@[go_sem] theorem Tab.mk57 : mkOf Try.prog 57 = some (22, 8, [.int .u64 0]) := by kernel_rfl
@[go_sem] theorem Tab.agg61 : aggOf Try.prog 61 = some false := by kernel_rfl
@[go_sem] theorem Tab.sz61 : szOf Try.prog 61 = some 1 := by kernel_rfl
@[go_sem] theorem Tab.has61 : hasT Try.prog 61 = true := by kernel_rfl
@[go_sem] theorem Tab.int61 : intOf' Try.prog 61 = some .u64 := by kernel_rfl
@[go_sem] theorem Tab.zero61 : zeroOf Try.prog 61 = some (.int .u64 0) := by kernel_rfl
@[go_sem] theorem Tab.agg79 : aggOf Try.prog 79 = some true := by kernel_rfl
@[go_sem] theorem Tab.sz79 : szOf Try.prog 79 = some 4 := by kernel_rfl
@[go_sem] theorem Tab.has79 : hasT Try.prog 79 = true := by kernel_rfl
@[go_sem] theorem Tab.zero79 : zeroOf Try.prog 79 = some (.agg #[.pointer none, .pointer none, .pointer none, .string ByteArray.empty]) := by kernel_rfl
@[go_sem] theorem Tab.fld79_0 : fldOf Try.prog 79 0 = some (0, 17, 1) := by kernel_rfl
@[go_sem] theorem Tab.fld79_1 : fldOf Try.prog 79 1 = some (1, 17, 1) := by kernel_rfl
@[go_sem] theorem Tab.fld79_2 : fldOf Try.prog 79 2 = some (2, 17, 1) := by kernel_rfl
@[go_sem] theorem Tab.fld79_3 : fldOf Try.prog 79 3 = some (3, 9, 1) := by kernel_rfl
@[go_sem] theorem Tab.pl79 : plOf Try.prog 79 = some ([.pointer none, .pointer none, .pointer none, .string ByteArray.empty], .st [(0, 1), (1, 1), (2, 1), (3, 1)]) := by kernel_rfl
@[go_sem] theorem Tab.agg91 : aggOf Try.prog 91 = some true := by kernel_rfl
@[go_sem] theorem Tab.sz91 : szOf Try.prog 91 = some 11 := by kernel_rfl
@[go_sem] theorem Tab.has91 : hasT Try.prog 91 = true := by kernel_rfl
@[go_sem] theorem Tab.zero91 : zeroOf Try.prog 91 = some (.agg #[.int .u64 0, .int .u64 0, .int .u32 0, .int .u8 0, .int .u8 0, .int .u8 0, .int .u8 0, .nilFunc, .pointer none, .int .i32 0, .int .i32 0]) := by kernel_rfl
@[go_sem] theorem Tab.fld91_0 : fldOf Try.prog 91 0 = some (0, 12, 1) := by kernel_rfl
@[go_sem] theorem Tab.fld91_1 : fldOf Try.prog 91 1 = some (1, 12, 1) := by kernel_rfl
@[go_sem] theorem Tab.fld91_2 : fldOf Try.prog 91 2 = some (2, 23, 1) := by kernel_rfl
@[go_sem] theorem Tab.fld91_3 : fldOf Try.prog 91 3 = some (3, 85, 1) := by kernel_rfl
@[go_sem] theorem Tab.fld91_4 : fldOf Try.prog 91 4 = some (4, 5, 1) := by kernel_rfl
@[go_sem] theorem Tab.fld91_5 : fldOf Try.prog 91 5 = some (5, 5, 1) := by kernel_rfl
@[go_sem] theorem Tab.fld91_6 : fldOf Try.prog 91 6 = some (6, 86, 1) := by kernel_rfl
@[go_sem] theorem Tab.fld91_7 : fldOf Try.prog 91 7 = some (7, 87, 1) := by kernel_rfl
@[go_sem] theorem Tab.fld91_8 : fldOf Try.prog 91 8 = some (8, 88, 1) := by kernel_rfl
@[go_sem] theorem Tab.fld91_9 : fldOf Try.prog 91 9 = some (9, 89, 1) := by kernel_rfl
@[go_sem] theorem Tab.fld91_10 : fldOf Try.prog 91 10 = some (10, 90, 1) := by kernel_rfl
@[go_sem] theorem Tab.pl91 : plOf Try.prog 91 = some ([.int .u64 0, .int .u64 0, .int .u32 0, .int .u8 0, .int .u8 0, .int .u8 0, .int .u8 0, .nilFunc, .pointer none, .int .i32 0, .int .i32 0], .st [(0, 1), (1, 1), (2, 1), (3, 1), (4, 1), (5, 1), (6, 1), (7, 1), (8, 1), (9, 1), (10, 1)]) := by kernel_rfl
theorem Tab.go3 : isGo Try.prog 3 = true := by kernel_rfl
theorem Tab.go4 : isGo Try.prog 4 = true := by kernel_rfl
theorem Tab.go5 : isGo Try.prog 5 = true := by kernel_rfl
theorem Tab.go6 : isGo Try.prog 6 = true := by kernel_rfl
theorem Tab.go7 : isGo Try.prog 7 = true := by kernel_rfl
theorem Tab.go8 : isGo Try.prog 8 = true := by kernel_rfl
theorem Tab.go9 : isGo Try.prog 9 = true := by kernel_rfl
theorem Tab.go10 : isGo Try.prog 10 = true := by kernel_rfl
theorem Tab.go11 : isGo Try.prog 11 = true := by kernel_rfl
theorem Tab.go12 : isGo Try.prog 12 = true := by kernel_rfl
theorem Tab.go13 : isGo Try.prog 13 = true := by kernel_rfl
theorem Tab.go14 : isGo Try.prog 14 = true := by kernel_rfl
theorem Tab.go15 : isGo Try.prog 15 = true := by kernel_rfl
theorem Tab.go16 : isGo Try.prog 16 = true := by kernel_rfl
theorem Tab.go17 : isGo Try.prog 17 = true := by kernel_rfl
theorem Tab.go18 : isGo Try.prog 18 = true := by kernel_rfl
theorem Tab.go19 : isGo Try.prog 19 = true := by kernel_rfl
theorem Tab.go20 : isGo Try.prog 20 = true := by kernel_rfl
theorem Tab.go21 : isGo Try.prog 21 = true := by kernel_rfl
theorem Tab.go22 : isGo Try.prog 22 = true := by kernel_rfl
theorem Tab.go23 : isGo Try.prog 23 = true := by kernel_rfl
theorem Tab.go24 : isGo Try.prog 24 = true := by kernel_rfl
theorem Tab.go25 : isGo Try.prog 25 = true := by kernel_rfl
theorem Tab.go26 : isGo Try.prog 26 = true := by kernel_rfl
theorem Tab.go27 : isGo Try.prog 27 = true := by kernel_rfl
theorem Tab.go28 : isGo Try.prog 28 = true := by kernel_rfl
theorem Tab.go29 : isGo Try.prog 29 = true := by kernel_rfl
theorem Tab.go30 : isGo Try.prog 30 = true := by kernel_rfl
theorem Tab.go31 : isGo Try.prog 31 = true := by kernel_rfl
theorem Tab.go32 : isGo Try.prog 32 = true := by kernel_rfl
theorem Tab.go33 : isGo Try.prog 33 = true := by kernel_rfl
theorem Tab.go34 : isGo Try.prog 34 = true := by kernel_rfl
theorem Tab.go35 : isGo Try.prog 35 = true := by kernel_rfl
theorem Tab.go36 : isGo Try.prog 36 = true := by kernel_rfl
theorem Tab.go37 : isGo Try.prog 37 = true := by kernel_rfl
theorem Tab.go38 : isGo Try.prog 38 = true := by kernel_rfl
theorem Tab.go39 : isGo Try.prog 39 = true := by kernel_rfl
theorem Tab.go40 : isGo Try.prog 40 = true := by kernel_rfl
theorem Tab.go41 : isGo Try.prog 41 = true := by kernel_rfl
theorem Tab.go42 : isGo Try.prog 42 = true := by kernel_rfl
theorem Tab.go43 : isGo Try.prog 43 = true := by kernel_rfl
theorem Tab.go44 : isGo Try.prog 44 = true := by kernel_rfl
theorem Tab.go45 : isGo Try.prog 45 = true := by kernel_rfl
theorem Tab.go46 : isGo Try.prog 46 = true := by kernel_rfl
theorem Tab.go47 : isGo Try.prog 47 = true := by kernel_rfl
theorem Tab.go48 : isGo Try.prog 48 = true := by kernel_rfl
theorem Tab.go49 : isGo Try.prog 49 = true := by kernel_rfl
theorem Tab.go50 : isGo Try.prog 50 = true := by kernel_rfl
theorem Tab.go51 : isGo Try.prog 51 = true := by kernel_rfl
theorem Tab.go52 : isGo Try.prog 52 = true := by kernel_rfl
theorem Tab.go53 : isGo Try.prog 53 = true := by kernel_rfl
theorem Tab.go54 : isGo Try.prog 54 = true := by kernel_rfl
theorem Tab.go55 : isGo Try.prog 55 = true := by kernel_rfl
theorem Tab.go56 : isGo Try.prog 56 = true := by kernel_rfl
theorem Tab.go57 : isGo Try.prog 57 = true := by kernel_rfl
theorem Tab.go58 : isGo Try.prog 58 = true := by kernel_rfl
theorem Tab.mixed : Try.prog.follows .mixedOrders = true := by kernel_rfl
end Go.Proofs.Ytcbfamgdkmfcgaa
