/- What the tables of the program say of its types. -/
import Derived.Test.YtbpcgeanpkokkaaDoorSt
import Derived.Test.YtbpcgeanpkokkaaDoorSx
import Derived.Test.YtbpcgeanpkokkaaDoorProg
import Derived.KernelRfl
namespace Go.Proofs.YtbpcgeanpkokkaaDoor
@[go_sem] theorem Tab.agg2 : aggOf Tryd.prog 2 = some false := by kernel_rfl
@[go_sem] theorem Tab.sz2 : szOf Tryd.prog 2 = some 1 := by kernel_rfl
@[go_sem] theorem Tab.has2 : hasT Tryd.prog 2 = true := by kernel_rfl
@[go_sem] theorem Tab.int2 : intOf' Tryd.prog 2 = some .i64 := by kernel_rfl
@[go_sem] theorem Tab.zero2 : zeroOf Tryd.prog 2 = some (.int .i64 0) := by kernel_rfl
@[go_sem] theorem Tab.agg3 : aggOf Tryd.prog 3 = some false := by kernel_rfl
@[go_sem] theorem Tab.sz3 : szOf Tryd.prog 3 = some 1 := by kernel_rfl
@[go_sem] theorem Tab.has3 : hasT Tryd.prog 3 = true := by kernel_rfl
@[go_sem] theorem Tab.int3 : intOf' Tryd.prog 3 = some .i64 := by kernel_rfl
@[go_sem] theorem Tab.zero3 : zeroOf Tryd.prog 3 = some (.int .i64 0) := by kernel_rfl
@[go_sem] theorem Tab.agg4 : aggOf Tryd.prog 4 = some false := by kernel_rfl
@[go_sem] theorem Tab.sz4 : szOf Tryd.prog 4 = some 1 := by kernel_rfl
@[go_sem] theorem Tab.has4 : hasT Tryd.prog 4 = true := by kernel_rfl
@[go_sem] theorem Tab.bool4 : isBool Tryd.prog 4 = true := by kernel_rfl
@[go_sem] theorem Tab.zero4 : zeroOf Tryd.prog 4 = some (.bool false) := by kernel_rfl
@[go_sem] theorem Tab.agg5 : aggOf Tryd.prog 5 = some false := by kernel_rfl
@[go_sem] theorem Tab.sz5 : szOf Tryd.prog 5 = some 1 := by kernel_rfl
@[go_sem] theorem Tab.has5 : hasT Tryd.prog 5 = true := by kernel_rfl
@[go_sem] theorem Tab.int5 : intOf' Tryd.prog 5 = some .u8 := by kernel_rfl
@[go_sem] theorem Tab.zero5 : zeroOf Tryd.prog 5 = some (.int .u8 0) := by kernel_rfl
@[go_sem] theorem Tab.agg7 : aggOf Tryd.prog 7 = some true := by kernel_rfl
@[go_sem] theorem Tab.sz7 : szOf Tryd.prog 7 = some 4 := by kernel_rfl
@[go_sem] theorem Tab.has7 : hasT Tryd.prog 7 = true := by kernel_rfl
@[go_sem] theorem Tab.zero7 : zeroOf Tryd.prog 7 = some (.agg #[.int .i64 0, .int .i64 0, .bool false, .int .u8 0]) := by kernel_rfl
@[go_sem] theorem Tab.fld7_0 : fldOf Tryd.prog 7 0 = some (0, 2, 1) := by kernel_rfl
@[go_sem] theorem Tab.fld7_1 : fldOf Tryd.prog 7 1 = some (1, 3, 1) := by kernel_rfl
@[go_sem] theorem Tab.fld7_2 : fldOf Tryd.prog 7 2 = some (2, 4, 1) := by kernel_rfl
@[go_sem] theorem Tab.fld7_3 : fldOf Tryd.prog 7 3 = some (3, 6, 1) := by kernel_rfl
@[go_sem] theorem Tab.pl7 : plOf Tryd.prog 7 = some ([.int .i64 0, .int .i64 0, .bool false, .int .u8 0], .st [(0, 1), (1, 1), (2, 1), (3, 1)]) := by kernel_rfl
@[go_sem] theorem Tab.agg9 : aggOf Tryd.prog 9 = some false := by kernel_rfl
@[go_sem] theorem Tab.sz9 : szOf Tryd.prog 9 = some 1 := by kernel_rfl
@[go_sem] theorem Tab.has9 : hasT Tryd.prog 9 = true := by kernel_rfl
@[go_sem] theorem Tab.str9 : isStr Tryd.prog 9 = true := by kernel_rfl
@[go_sem] theorem Tab.zero9 : zeroOf Tryd.prog 9 = some (.string ByteArray.empty) := by kernel_rfl
@[go_sem] theorem Tab.agg12 : aggOf Tryd.prog 12 = some false := by kernel_rfl
@[go_sem] theorem Tab.sz12 : szOf Tryd.prog 12 = some 1 := by kernel_rfl
@[go_sem] theorem Tab.has12 : hasT Tryd.prog 12 = true := by kernel_rfl
@[go_sem] theorem Tab.int12 : intOf' Tryd.prog 12 = some .u64 := by kernel_rfl
@[go_sem] theorem Tab.zero12 : zeroOf Tryd.prog 12 = some (.int .u64 0) := by kernel_rfl
@[go_sem] theorem Tab.agg13 : aggOf Tryd.prog 13 = some true := by kernel_rfl
@[go_sem] theorem Tab.sz13 : szOf Tryd.prog 13 = some 2 := by kernel_rfl
@[go_sem] theorem Tab.has13 : hasT Tryd.prog 13 = true := by kernel_rfl
@[go_sem] theorem Tab.zero13 : zeroOf Tryd.prog 13 = some (.agg #[.string ByteArray.empty, .int .u64 0]) := by kernel_rfl
@[go_sem] theorem Tab.fld13_0 : fldOf Tryd.prog 13 0 = some (0, 9, 1) := by kernel_rfl
@[go_sem] theorem Tab.fld13_1 : fldOf Tryd.prog 13 1 = some (1, 12, 1) := by kernel_rfl
@[go_sem] theorem Tab.pl13 : plOf Tryd.prog 13 = some ([.string ByteArray.empty, .int .u64 0], .st [(0, 1), (1, 1)]) := by kernel_rfl
@[go_sem] theorem Tab.agg18 : aggOf Tryd.prog 18 = some true := by kernel_rfl
@[go_sem] theorem Tab.sz18 : szOf Tryd.prog 18 = some 1 := by kernel_rfl
@[go_sem] theorem Tab.has18 : hasT Tryd.prog 18 = true := by kernel_rfl
@[go_sem] theorem Tab.zero18 : zeroOf Tryd.prog 18 = some (.agg #[.pointer none]) := by kernel_rfl
@[go_sem] theorem Tab.fld18_0 : fldOf Tryd.prog 18 0 = some (0, 17, 1) := by kernel_rfl
@[go_sem] theorem Tab.pl18 : plOf Tryd.prog 18 = some ([.pointer none], .st [(0, 1)]) := by kernel_rfl
@[go_sem] theorem Tab.agg21 : aggOf Tryd.prog 21 = some false := by kernel_rfl
@[go_sem] theorem Tab.sz21 : szOf Tryd.prog 21 = some 1 := by kernel_rfl
@[go_sem] theorem Tab.has21 : hasT Tryd.prog 21 = true := by kernel_rfl
@[go_sem] theorem Tab.int21 : intOf' Tryd.prog 21 = some .i32 := by kernel_rfl
@[go_sem] theorem Tab.zero21 : zeroOf Tryd.prog 21 = some (.int .i32 0) := by kernel_rfl
@[go_sem] theorem Tab.agg22 : aggOf Tryd.prog 22 = some false := by kernel_rfl
@[go_sem] theorem Tab.sz22 : szOf Tryd.prog 22 = some 1 := by kernel_rfl
@[go_sem] theorem Tab.has22 : hasT Tryd.prog 22 = true := by kernel_rfl
@[go_sem] theorem Tab.isSl22 : isSl Tryd.prog 22 = true := by kernel_rfl
@[go_sem] theorem Tab.zero22 : zeroOf Tryd.prog 22 = some (.slice none 0 0) := by kernel_rfl
@[go_sem] theorem Tab.sl22 : slOf Tryd.prog 22 = some (26, 1) := by kernel_rfl
@[go_sem] theorem Tab.mk22 : mkOf Tryd.prog 22 = some (26, 4, [.int .u32 0]) := by kernel_rfl
@[go_sem] theorem Tab.agg23 : aggOf Tryd.prog 23 = some true := by kernel_rfl
@[go_sem] theorem Tab.sz23 : szOf Tryd.prog 23 = some 2 := by kernel_rfl
@[go_sem] theorem Tab.has23 : hasT Tryd.prog 23 = true := by kernel_rfl
@[go_sem] theorem Tab.zero23 : zeroOf Tryd.prog 23 = some (.agg #[.slice none 0 0, .bool false]) := by kernel_rfl
@[go_sem] theorem Tab.fld23_0 : fldOf Tryd.prog 23 0 = some (0, 22, 1) := by kernel_rfl
@[go_sem] theorem Tab.fld23_1 : fldOf Tryd.prog 23 1 = some (1, 4, 1) := by kernel_rfl
@[go_sem] theorem Tab.pl23 : plOf Tryd.prog 23 = some ([.slice none 0 0, .bool false], .st [(0, 1), (1, 1)]) := by kernel_rfl
@[go_sem] theorem Tab.agg24 : aggOf Tryd.prog 24 = some true := by kernel_rfl
@[go_sem] theorem Tab.sz24 : szOf Tryd.prog 24 = some 2 := by kernel_rfl
@[go_sem] theorem Tab.has24 : hasT Tryd.prog 24 = true := by kernel_rfl
@[go_sem] theorem Tab.zero24 : zeroOf Tryd.prog 24 = some (.agg #[.slice none 0 0, .bool false]) := by kernel_rfl
@[go_sem] theorem Tab.fld24_0 : fldOf Tryd.prog 24 0 = some (0, 22, 1) := by kernel_rfl
@[go_sem] theorem Tab.fld24_1 : fldOf Tryd.prog 24 1 = some (1, 4, 1) := by kernel_rfl
@[go_sem] theorem Tab.pl24 : plOf Tryd.prog 24 = some ([.slice none 0 0, .bool false], .st [(0, 1), (1, 1)]) := by kernel_rfl
@[go_sem] theorem Tab.agg26 : aggOf Tryd.prog 26 = some false := by kernel_rfl
@[go_sem] theorem Tab.sz26 : szOf Tryd.prog 26 = some 1 := by kernel_rfl
@[go_sem] theorem Tab.has26 : hasT Tryd.prog 26 = true := by kernel_rfl
@[go_sem] theorem Tab.int26 : intOf' Tryd.prog 26 = some .u32 := by kernel_rfl
@[go_sem] theorem Tab.zero26 : zeroOf Tryd.prog 26 = some (.int .u32 0) := by kernel_rfl
@[go_sem] theorem Tab.agg27 : aggOf Tryd.prog 27 = some true := by kernel_rfl
@[go_sem] theorem Tab.sz27 : szOf Tryd.prog 27 = some 2 := by kernel_rfl
@[go_sem] theorem Tab.has27 : hasT Tryd.prog 27 = true := by kernel_rfl
@[go_sem] theorem Tab.zero27 : zeroOf Tryd.prog 27 = some (.agg #[.bool false, .slice none 0 0]) := by kernel_rfl
@[go_sem] theorem Tab.fld27_0 : fldOf Tryd.prog 27 0 = some (0, 4, 1) := by kernel_rfl
@[go_sem] theorem Tab.fld27_1 : fldOf Tryd.prog 27 1 = some (1, 22, 1) := by kernel_rfl
@[go_sem] theorem Tab.pl27 : plOf Tryd.prog 27 = some ([.bool false, .slice none 0 0], .st [(0, 1), (1, 1)]) := by kernel_rfl
@[go_sem] theorem Tab.agg28 : aggOf Tryd.prog 28 = some true := by kernel_rfl
@[go_sem] theorem Tab.sz28 : szOf Tryd.prog 28 = some 2 := by kernel_rfl
@[go_sem] theorem Tab.has28 : hasT Tryd.prog 28 = true := by kernel_rfl
@[go_sem] theorem Tab.zero28 : zeroOf Tryd.prog 28 = some (.agg #[.bool false, .slice none 0 0]) := by kernel_rfl
@[go_sem] theorem Tab.fld28_0 : fldOf Tryd.prog 28 0 = some (0, 4, 1) := by kernel_rfl
@[go_sem] theorem Tab.fld28_1 : fldOf Tryd.prog 28 1 = some (1, 22, 1) := by kernel_rfl
@[go_sem] theorem Tab.pl28 : plOf Tryd.prog 28 = some ([.bool false, .slice none 0 0], .st [(0, 1), (1, 1)]) := by kernel_rfl
@[go_sem] theorem Tab.agg41 : aggOf Tryd.prog 41 = some false := by kernel_rfl
@[go_sem] theorem Tab.sz41 : szOf Tryd.prog 41 = some 1 := by kernel_rfl
@[go_sem] theorem Tab.has41 : hasT Tryd.prog 41 = true := by kernel_rfl
@[go_sem] theorem Tab.int41 : intOf' Tryd.prog 41 = some .i64 := by kernel_rfl
@[go_sem] theorem Tab.zero41 : zeroOf Tryd.prog 41 = some (.int .i64 0) := by kernel_rfl
@[go_sem] theorem Tab.agg46 : aggOf Tryd.prog 46 = some true := by kernel_rfl
@[go_sem] theorem Tab.sz46 : szOf Tryd.prog 46 = some 2 := by kernel_rfl
@[go_sem] theorem Tab.has46 : hasT Tryd.prog 46 = true := by kernel_rfl
@[go_sem] theorem Tab.zero46 : zeroOf Tryd.prog 46 = some (.agg #[.int .i64 0, .int .i64 0]) := by kernel_rfl
@[go_sem] theorem Tab.ar46 : arOf Tryd.prog 46 = some (2, 3, 1) := by kernel_rfl
@[go_sem] theorem Tab.pl46 : plOf Tryd.prog 46 = some ([.int .i64 0, .int .i64 0], .ar 1) := by kernel_rfl
@[go_sem] theorem Tab.agg49 : aggOf Tryd.prog 49 = some false := by kernel_rfl
@[go_sem] theorem Tab.sz49 : szOf Tryd.prog 49 = some 1 := by kernel_rfl
@[go_sem] theorem Tab.has49 : hasT Tryd.prog 49 = true := by kernel_rfl
@[go_sem] theorem Tab.int49 : intOf' Tryd.prog 49 = some .u64 := by kernel_rfl
@[go_sem] theorem Tab.zero49 : zeroOf Tryd.prog 49 = some (.int .u64 0) := by kernel_rfl
@[go_sem] theorem Tab.agg71 : aggOf Tryd.prog 71 = some false := by kernel_rfl
@[go_sem] theorem Tab.sz71 : szOf Tryd.prog 71 = some 1 := by kernel_rfl
@[go_sem] theorem Tab.has71 : hasT Tryd.prog 71 = true := by kernel_rfl
@[go_sem] theorem Tab.int71 : intOf' Tryd.prog 71 = some .u64 := by kernel_rfl
@[go_sem] theorem Tab.zero71 : zeroOf Tryd.prog 71 = some (.int .u64 0) := by kernel_rfl
@[go_sem] theorem Tab.agg72 : aggOf Tryd.prog 72 = some false := by kernel_rfl
@[go_sem] theorem Tab.sz72 : szOf Tryd.prog 72 = some 1 := by kernel_rfl
@[go_sem] theorem Tab.has72 : hasT Tryd.prog 72 = true := by kernel_rfl
@[go_sem] theorem Tab.isSl72 : isSl Tryd.prog 72 = true := by kernel_rfl
@[go_sem] theorem Tab.zero72 : zeroOf Tryd.prog 72 = some (.slice none 0 0) := by kernel_rfl
@[go_sem] theorem Tab.sl72 : slOf Tryd.prog 72 = some (5, 1) := by kernel_rfl
@[go_sem] theorem Tab.mk72 : mkOf Tryd.prog 72 = some (5, 1, [.int .u8 0]) := by kernel_rfl
@[go_sem] theorem Tab.agg91 : aggOf Tryd.prog 91 = some true := by kernel_rfl
@[go_sem] theorem Tab.sz91 : szOf Tryd.prog 91 = some 2 := by kernel_rfl
@[go_sem] theorem Tab.has91 : hasT Tryd.prog 91 = true := by kernel_rfl
@[go_sem] theorem Tab.zero91 : zeroOf Tryd.prog 91 = some (.agg #[.pointer none, .slice none 0 0]) := by kernel_rfl
@[go_sem] theorem Tab.fld91_0 : fldOf Tryd.prog 91 0 = some (0, 90, 1) := by kernel_rfl
@[go_sem] theorem Tab.fld91_1 : fldOf Tryd.prog 91 1 = some (1, 72, 1) := by kernel_rfl
@[go_sem] theorem Tab.pl91 : plOf Tryd.prog 91 = some ([.pointer none, .slice none 0 0], .st [(0, 1), (1, 1)]) := by kernel_rfl
@[go_sem] theorem Tab.agg92 : aggOf Tryd.prog 92 = some true := by kernel_rfl
@[go_sem] theorem Tab.sz92 : szOf Tryd.prog 92 = some 2 := by kernel_rfl
@[go_sem] theorem Tab.has92 : hasT Tryd.prog 92 = true := by kernel_rfl
@[go_sem] theorem Tab.zero92 : zeroOf Tryd.prog 92 = some (.agg #[.pointer none, .slice none 0 0]) := by kernel_rfl
@[go_sem] theorem Tab.fld92_0 : fldOf Tryd.prog 92 0 = some (0, 90, 1) := by kernel_rfl
@[go_sem] theorem Tab.fld92_1 : fldOf Tryd.prog 92 1 = some (1, 72, 1) := by kernel_rfl
@[go_sem] theorem Tab.pl92 : plOf Tryd.prog 92 = some ([.pointer none, .slice none 0 0], .st [(0, 1), (1, 1)]) := by kernel_rfl
@[go_sem] theorem Tab.agg102 : aggOf Tryd.prog 102 = some true := by kernel_rfl
@[go_sem] theorem Tab.sz102 : szOf Tryd.prog 102 = some 24 := by kernel_rfl
@[go_sem] theorem Tab.has102 : hasT Tryd.prog 102 = true := by kernel_rfl
@[go_sem] theorem Tab.zero102 : zeroOf Tryd.prog 102 = some (.agg #[.int .u8 0, .int .u8 0, .int .u8 0, .int .u8 0, .int .u8 0, .int .u8 0, .int .u8 0, .int .u8 0, .int .u8 0, .int .u8 0, .int .u8 0, .int .u8 0, .int .u8 0, .int .u8 0, .int .u8 0, .int .u8 0, .int .u8 0, .int .u8 0, .int .u8 0, .int .u8 0, .int .u8 0, .int .u8 0, .int .u8 0, .int .u8 0]) := by kernel_rfl
@[go_sem] theorem Tab.ar102 : arOf Tryd.prog 102 = some (24, 5, 1) := by kernel_rfl
@[go_sem] theorem Tab.pl102 : plOf Tryd.prog 102 = some ([.int .u8 0, .int .u8 0, .int .u8 0, .int .u8 0, .int .u8 0, .int .u8 0, .int .u8 0, .int .u8 0, .int .u8 0, .int .u8 0, .int .u8 0, .int .u8 0, .int .u8 0, .int .u8 0, .int .u8 0, .int .u8 0, .int .u8 0, .int .u8 0, .int .u8 0, .int .u8 0, .int .u8 0, .int .u8 0, .int .u8 0, .int .u8 0], .ar 1) := by kernel_rfl
@[go_sem] theorem Tab.agg113 : aggOf Tryd.prog 113 = some true := by kernel_rfl
@[go_sem] theorem Tab.sz113 : szOf Tryd.prog 113 = some 20 := by kernel_rfl
@[go_sem] theorem Tab.has113 : hasT Tryd.prog 113 = true := by kernel_rfl
@[go_sem] theorem Tab.zero113 : zeroOf Tryd.prog 113 = some (.agg #[.int .u64 0, .int .u64 0, .int .u64 0, .int .u64 0, .int .u64 0, .int .u64 0, .int .u64 0, .int .u64 0, .int .u64 0, .int .u64 0, .int .u64 0, .int .u64 0, .int .u64 0, .int .u64 0, .int .u64 0, .int .u64 0, .int .u64 0, .int .u64 0, .int .u64 0, .int .u64 0]) := by kernel_rfl
@[go_sem] theorem Tab.ar113 : arOf Tryd.prog 113 = some (20, 49, 1) := by kernel_rfl
@[go_sem] theorem Tab.pl113 : plOf Tryd.prog 113 = some ([.int .u64 0, .int .u64 0, .int .u64 0, .int .u64 0, .int .u64 0, .int .u64 0, .int .u64 0, .int .u64 0, .int .u64 0, .int .u64 0, .int .u64 0, .int .u64 0, .int .u64 0, .int .u64 0, .int .u64 0, .int .u64 0, .int .u64 0, .int .u64 0, .int .u64 0, .int .u64 0], .ar 1) := by kernel_rfl
@[go_sem] theorem Tab.agg114 : aggOf Tryd.prog 114 = some true := by kernel_rfl
@[go_sem] theorem Tab.sz114 : szOf Tryd.prog 114 = some 65 := by kernel_rfl
@[go_sem] theorem Tab.has114 : hasT Tryd.prog 114 = true := by kernel_rfl
@[go_sem] theorem Tab.ar114 : arOf Tryd.prog 114 = some (65, 5, 1) := by kernel_rfl
@[go_sem] theorem Tab.agg118 : aggOf Tryd.prog 118 = some true := by kernel_rfl
@[go_sem] theorem Tab.sz118 : szOf Tryd.prog 118 = some 32 := by kernel_rfl
@[go_sem] theorem Tab.has118 : hasT Tryd.prog 118 = true := by kernel_rfl
@[go_sem] theorem Tab.zero118 : zeroOf Tryd.prog 118 = some (.agg #[.int .u8 0, .int .u8 0, .int .u8 0, .int .u8 0, .int .u8 0, .int .u8 0, .int .u8 0, .int .u8 0, .int .u8 0, .int .u8 0, .int .u8 0, .int .u8 0, .int .u8 0, .int .u8 0, .int .u8 0, .int .u8 0, .int .u8 0, .int .u8 0, .int .u8 0, .int .u8 0, .int .u8 0, .int .u8 0, .int .u8 0, .int .u8 0, .int .u8 0, .int .u8 0, .int .u8 0, .int .u8 0, .int .u8 0, .int .u8 0, .int .u8 0, .int .u8 0]) := by kernel_rfl
@[go_sem] theorem Tab.ar118 : arOf Tryd.prog 118 = some (32, 5, 1) := by kernel_rfl
@[go_sem] theorem Tab.pl118 : plOf Tryd.prog 118 = some ([.int .u8 0, .int .u8 0, .int .u8 0, .int .u8 0, .int .u8 0, .int .u8 0, .int .u8 0, .int .u8 0, .int .u8 0, .int .u8 0, .int .u8 0, .int .u8 0, .int .u8 0, .int .u8 0, .int .u8 0, .int .u8 0, .int .u8 0, .int .u8 0, .int .u8 0, .int .u8 0, .int .u8 0, .int .u8 0, .int .u8 0, .int .u8 0, .int .u8 0, .int .u8 0, .int .u8 0, .int .u8 0, .int .u8 0, .int .u8 0, .int .u8 0, .int .u8 0], .ar 1) := by kernel_rfl
@[go_sem] theorem Tab.agg119 : aggOf Tryd.prog 119 = some true := by kernel_rfl
@[go_sem] theorem Tab.sz119 : szOf Tryd.prog 119 = some 64 := by kernel_rfl
@[go_sem] theorem Tab.has119 : hasT Tryd.prog 119 = true := by kernel_rfl
@[go_sem] theorem Tab.zero119 : zeroOf Tryd.prog 119 = some (.agg #[.int .u8 0, .int .u8 0, .int .u8 0, .int .u8 0, .int .u8 0, .int .u8 0, .int .u8 0, .int .u8 0, .int .u8 0, .int .u8 0, .int .u8 0, .int .u8 0, .int .u8 0, .int .u8 0, .int .u8 0, .int .u8 0, .int .u8 0, .int .u8 0, .int .u8 0, .int .u8 0, .int .u8 0, .int .u8 0, .int .u8 0, .int .u8 0, .int .u8 0, .int .u8 0, .int .u8 0, .int .u8 0, .int .u8 0, .int .u8 0, .int .u8 0, .int .u8 0, .int .u8 0, .int .u8 0, .int .u8 0, .int .u8 0, .int .u8 0, .int .u8 0, .int .u8 0, .int .u8 0, .int .u8 0, .int .u8 0, .int .u8 0, .int .u8 0, .int .u8 0, .int .u8 0, .int .u8 0, .int .u8 0, .int .u8 0, .int .u8 0, .int .u8 0, .int .u8 0, .int .u8 0, .int .u8 0, .int .u8 0, .int .u8 0, .int .u8 0, .int .u8 0, .int .u8 0, .int .u8 0, .int .u8 0, .int .u8 0, .int .u8 0, .int .u8 0]) := by kernel_rfl
@[go_sem] theorem Tab.ar119 : arOf Tryd.prog 119 = some (64, 5, 1) := by kernel_rfl
@[go_sem] theorem Tab.pl119 : plOf Tryd.prog 119 = some ([.int .u8 0, .int .u8 0, .int .u8 0, .int .u8 0, .int .u8 0, .int .u8 0, .int .u8 0, .int .u8 0, .int .u8 0, .int .u8 0, .int .u8 0, .int .u8 0, .int .u8 0, .int .u8 0, .int .u8 0, .int .u8 0, .int .u8 0, .int .u8 0, .int .u8 0, .int .u8 0, .int .u8 0, .int .u8 0, .int .u8 0, .int .u8 0, .int .u8 0, .int .u8 0, .int .u8 0, .int .u8 0, .int .u8 0, .int .u8 0, .int .u8 0, .int .u8 0, .int .u8 0, .int .u8 0, .int .u8 0, .int .u8 0, .int .u8 0, .int .u8 0, .int .u8 0, .int .u8 0, .int .u8 0, .int .u8 0, .int .u8 0, .int .u8 0, .int .u8 0, .int .u8 0, .int .u8 0, .int .u8 0, .int .u8 0, .int .u8 0, .int .u8 0, .int .u8 0, .int .u8 0, .int .u8 0, .int .u8 0, .int .u8 0, .int .u8 0, .int .u8 0, .int .u8 0, .int .u8 0, .int .u8 0, .int .u8 0, .int .u8 0, .int .u8 0], .ar 1) := by kernel_rfl
@[go_sem] theorem Tab.agg120 : aggOf Tryd.prog 120 = some true := by kernel_rfl
@[go_sem] theorem Tab.sz120 : szOf Tryd.prog 120 = some 4 := by kernel_rfl
@[go_sem] theorem Tab.has120 : hasT Tryd.prog 120 = true := by kernel_rfl
@[go_sem] theorem Tab.zero120 : zeroOf Tryd.prog 120 = some (.agg #[.pointer none, .pointer none, .pointer none, .string ByteArray.empty]) := by kernel_rfl
@[go_sem] theorem Tab.fld120_0 : fldOf Tryd.prog 120 0 = some (0, 17, 1) := by kernel_rfl
@[go_sem] theorem Tab.fld120_1 : fldOf Tryd.prog 120 1 = some (1, 17, 1) := by kernel_rfl
@[go_sem] theorem Tab.fld120_2 : fldOf Tryd.prog 120 2 = some (2, 17, 1) := by kernel_rfl
@[go_sem] theorem Tab.fld120_3 : fldOf Tryd.prog 120 3 = some (3, 9, 1) := by kernel_rfl
@[go_sem] theorem Tab.pl120 : plOf Tryd.prog 120 = some ([.pointer none, .pointer none, .pointer none, .string ByteArray.empty], .st [(0, 1), (1, 1), (2, 1), (3, 1)]) := by kernel_rfl
@[go_sem] theorem Tab.agg130 : aggOf Tryd.prog 130 = some true := by kernel_rfl
@[go_sem] theorem Tab.sz130 : szOf Tryd.prog 130 = some 11 := by kernel_rfl
@[go_sem] theorem Tab.has130 : hasT Tryd.prog 130 = true := by kernel_rfl
@[go_sem] theorem Tab.zero130 : zeroOf Tryd.prog 130 = some (.agg #[.int .u64 0, .int .u64 0, .int .u32 0, .int .u8 0, .int .u8 0, .int .u8 0, .int .u8 0, .nilFunc, .pointer none, .int .i32 0, .int .i32 0]) := by kernel_rfl
@[go_sem] theorem Tab.fld130_0 : fldOf Tryd.prog 130 0 = some (0, 12, 1) := by kernel_rfl
@[go_sem] theorem Tab.fld130_1 : fldOf Tryd.prog 130 1 = some (1, 12, 1) := by kernel_rfl
@[go_sem] theorem Tab.fld130_2 : fldOf Tryd.prog 130 2 = some (2, 26, 1) := by kernel_rfl
@[go_sem] theorem Tab.fld130_3 : fldOf Tryd.prog 130 3 = some (3, 125, 1) := by kernel_rfl
@[go_sem] theorem Tab.fld130_4 : fldOf Tryd.prog 130 4 = some (4, 5, 1) := by kernel_rfl
@[go_sem] theorem Tab.fld130_5 : fldOf Tryd.prog 130 5 = some (5, 5, 1) := by kernel_rfl
@[go_sem] theorem Tab.fld130_6 : fldOf Tryd.prog 130 6 = some (6, 126, 1) := by kernel_rfl
@[go_sem] theorem Tab.fld130_7 : fldOf Tryd.prog 130 7 = some (7, 127, 1) := by kernel_rfl
@[go_sem] theorem Tab.fld130_8 : fldOf Tryd.prog 130 8 = some (8, 110, 1) := by kernel_rfl
@[go_sem] theorem Tab.fld130_9 : fldOf Tryd.prog 130 9 = some (9, 128, 1) := by kernel_rfl
@[go_sem] theorem Tab.fld130_10 : fldOf Tryd.prog 130 10 = some (10, 129, 1) := by kernel_rfl
@[go_sem] theorem Tab.pl130 : plOf Tryd.prog 130 = some ([.int .u64 0, .int .u64 0, .int .u32 0, .int .u8 0, .int .u8 0, .int .u8 0, .int .u8 0, .nilFunc, .pointer none, .int .i32 0, .int .i32 0], .st [(0, 1), (1, 1), (2, 1), (3, 1), (4, 1), (5, 1), (6, 1), (7, 1), (8, 1), (9, 1), (10, 1)]) := by kernel_rfl
theorem Tab.go3 : isGo Tryd.prog 3 = true := by kernel_rfl
theorem Tab.go4 : isGo Tryd.prog 4 = true := by kernel_rfl
theorem Tab.go5 : isGo Tryd.prog 5 = true := by kernel_rfl
theorem Tab.go6 : isGo Tryd.prog 6 = true := by kernel_rfl
theorem Tab.go7 : isGo Tryd.prog 7 = true := by kernel_rfl
theorem Tab.go8 : isGo Tryd.prog 8 = true := by kernel_rfl
theorem Tab.go9 : isGo Tryd.prog 9 = true := by kernel_rfl
theorem Tab.go10 : isGo Tryd.prog 10 = true := by kernel_rfl
theorem Tab.go11 : isGo Tryd.prog 11 = true := by kernel_rfl
theorem Tab.go12 : isGo Tryd.prog 12 = true := by kernel_rfl
theorem Tab.go13 : isGo Tryd.prog 13 = true := by kernel_rfl
theorem Tab.go14 : isGo Tryd.prog 14 = true := by kernel_rfl
theorem Tab.go15 : isGo Tryd.prog 15 = true := by kernel_rfl
theorem Tab.go16 : isGo Tryd.prog 16 = true := by kernel_rfl
theorem Tab.go17 : isGo Tryd.prog 17 = true := by kernel_rfl
theorem Tab.go18 : isGo Tryd.prog 18 = true := by kernel_rfl
theorem Tab.go19 : isGo Tryd.prog 19 = true := by kernel_rfl
theorem Tab.go20 : isGo Tryd.prog 20 = true := by kernel_rfl
theorem Tab.go21 : isGo Tryd.prog 21 = true := by kernel_rfl
theorem Tab.go22 : isGo Tryd.prog 22 = true := by kernel_rfl
theorem Tab.go23 : isGo Tryd.prog 23 = true := by kernel_rfl
theorem Tab.go24 : isGo Tryd.prog 24 = true := by kernel_rfl
theorem Tab.go25 : isGo Tryd.prog 25 = true := by kernel_rfl
theorem Tab.go26 : isGo Tryd.prog 26 = true := by kernel_rfl
theorem Tab.go27 : isGo Tryd.prog 27 = true := by kernel_rfl
theorem Tab.go28 : isGo Tryd.prog 28 = true := by kernel_rfl
theorem Tab.go29 : isGo Tryd.prog 29 = true := by kernel_rfl
theorem Tab.go30 : isGo Tryd.prog 30 = true := by kernel_rfl
theorem Tab.go31 : isGo Tryd.prog 31 = true := by kernel_rfl
theorem Tab.go32 : isGo Tryd.prog 32 = true := by kernel_rfl
theorem Tab.go33 : isGo Tryd.prog 33 = true := by kernel_rfl
theorem Tab.go34 : isGo Tryd.prog 34 = true := by kernel_rfl
theorem Tab.go35 : isGo Tryd.prog 35 = true := by kernel_rfl
theorem Tab.go36 : isGo Tryd.prog 36 = true := by kernel_rfl
theorem Tab.go37 : isGo Tryd.prog 37 = true := by kernel_rfl
theorem Tab.go38 : isGo Tryd.prog 38 = true := by kernel_rfl
theorem Tab.go39 : isGo Tryd.prog 39 = true := by kernel_rfl
theorem Tab.go40 : isGo Tryd.prog 40 = true := by kernel_rfl
theorem Tab.go41 : isGo Tryd.prog 41 = true := by kernel_rfl
theorem Tab.go42 : isGo Tryd.prog 42 = true := by kernel_rfl
theorem Tab.go43 : isGo Tryd.prog 43 = true := by kernel_rfl
theorem Tab.go44 : isGo Tryd.prog 44 = true := by kernel_rfl
theorem Tab.go45 : isGo Tryd.prog 45 = true := by kernel_rfl
theorem Tab.go46 : isGo Tryd.prog 46 = true := by kernel_rfl
theorem Tab.go47 : isGo Tryd.prog 47 = true := by kernel_rfl
theorem Tab.go48 : isGo Tryd.prog 48 = true := by kernel_rfl
theorem Tab.go49 : isGo Tryd.prog 49 = true := by kernel_rfl
theorem Tab.go50 : isGo Tryd.prog 50 = true := by kernel_rfl
theorem Tab.go51 : isGo Tryd.prog 51 = true := by kernel_rfl
theorem Tab.go52 : isGo Tryd.prog 52 = true := by kernel_rfl
theorem Tab.go53 : isGo Tryd.prog 53 = true := by kernel_rfl
theorem Tab.go54 : isGo Tryd.prog 54 = true := by kernel_rfl
theorem Tab.go55 : isGo Tryd.prog 55 = true := by kernel_rfl
theorem Tab.go56 : isGo Tryd.prog 56 = true := by kernel_rfl
theorem Tab.go57 : isGo Tryd.prog 57 = true := by kernel_rfl
theorem Tab.go58 : isGo Tryd.prog 58 = true := by kernel_rfl
theorem Tab.go59 : isGo Tryd.prog 59 = true := by kernel_rfl
theorem Tab.go60 : isGo Tryd.prog 60 = true := by kernel_rfl
theorem Tab.go61 : isGo Tryd.prog 61 = true := by kernel_rfl
theorem Tab.go62 : isGo Tryd.prog 62 = true := by kernel_rfl
theorem Tab.go63 : isGo Tryd.prog 63 = true := by kernel_rfl
theorem Tab.go64 : isGo Tryd.prog 64 = true := by kernel_rfl
theorem Tab.go65 : isGo Tryd.prog 65 = true := by kernel_rfl
theorem Tab.go66 : isGo Tryd.prog 66 = true := by kernel_rfl
theorem Tab.go67 : isGo Tryd.prog 67 = true := by kernel_rfl
theorem Tab.go68 : isGo Tryd.prog 68 = true := by kernel_rfl
theorem Tab.go69 : isGo Tryd.prog 69 = true := by kernel_rfl
theorem Tab.go70 : isGo Tryd.prog 70 = true := by kernel_rfl
theorem Tab.go71 : isGo Tryd.prog 71 = true := by kernel_rfl
theorem Tab.go72 : isGo Tryd.prog 72 = true := by kernel_rfl
theorem Tab.go73 : isGo Tryd.prog 73 = true := by kernel_rfl
theorem Tab.go74 : isGo Tryd.prog 74 = true := by kernel_rfl
theorem Tab.go75 : isGo Tryd.prog 75 = true := by kernel_rfl
theorem Tab.go76 : isGo Tryd.prog 76 = true := by kernel_rfl
theorem Tab.go77 : isGo Tryd.prog 77 = true := by kernel_rfl
theorem Tab.go78 : isGo Tryd.prog 78 = true := by kernel_rfl
theorem Tab.go80 : isGo Tryd.prog 80 = true := by kernel_rfl
theorem Tab.go81 : isGo Tryd.prog 81 = true := by kernel_rfl
theorem Tab.go82 : isGo Tryd.prog 82 = true := by kernel_rfl
theorem Tab.go83 : isGo Tryd.prog 83 = true := by kernel_rfl
theorem Tab.go84 : isGo Tryd.prog 84 = true := by kernel_rfl
theorem Tab.go85 : isGo Tryd.prog 85 = true := by kernel_rfl
theorem Tab.go87 : isGo Tryd.prog 87 = true := by kernel_rfl
theorem Tab.go92 : isGo Tryd.prog 92 = true := by kernel_rfl
theorem Tab.go93 : isGo Tryd.prog 93 = true := by kernel_rfl
theorem Tab.go95 : isGo Tryd.prog 95 = true := by kernel_rfl
theorem Tab.go96 : isGo Tryd.prog 96 = true := by kernel_rfl
theorem Tab.go100 : isGo Tryd.prog 100 = true := by kernel_rfl
theorem Tab.go103 : isGo Tryd.prog 103 = true := by kernel_rfl
theorem Tab.go104 : isGo Tryd.prog 104 = true := by kernel_rfl
theorem Tab.go128 : isGo Tryd.prog 128 = true := by kernel_rfl
theorem Tab.mixed : Tryd.prog.follows .mixedOrders = true := by kernel_rfl
end Go.Proofs.YtbpcgeanpkokkaaDoor
