/- Facts on the program's types, for simp. Printed by a program of this session out of the translation's table. -/
import Derived.Test.YtpgnhajindbhlaaFwZa
import Derived.Test.YtpgnhajindbhlaaProg
import Derived.KernelRfl
set_option maxRecDepth 100000
namespace Go.Proofs.Ytpgnhajindbhlaa.Ty
open Go Go.Fw Go.Proofs
@[go_sem] theorem tyS_1 : tyS Try.prog 1 = some (1, 8, .nilFunc) := by kernel_rfl
@[go_sem] theorem szOf_1 : szOf Try.prog 1 = some 1 := by kernel_rfl
@[go_sem] theorem aggOf_1 : aggOf Try.prog 1 = some false := by kernel_rfl
@[go_sem] theorem tyS_2 : tyS Try.prog 2 = some (1, 8, .int .i64 0) := by kernel_rfl
@[go_sem] theorem szOf_2 : szOf Try.prog 2 = some 1 := by kernel_rfl
@[go_sem] theorem aggOf_2 : aggOf Try.prog 2 = some false := by kernel_rfl
@[go_sem] theorem isStr_2 : isStr Try.prog 2 = false := by kernel_rfl
@[go_sem] theorem isU8_2 : isU8 Try.prog 2 = false := by kernel_rfl
@[go_sem] theorem tyS_3 : tyS Try.prog 3 = some (1, 8, .int .i64 0) := by kernel_rfl
@[go_sem] theorem szOf_3 : szOf Try.prog 3 = some 1 := by kernel_rfl
@[go_sem] theorem aggOf_3 : aggOf Try.prog 3 = some false := by kernel_rfl
@[go_sem] theorem isStr_3 : isStr Try.prog 3 = false := by kernel_rfl
@[go_sem] theorem isU8_3 : isU8 Try.prog 3 = false := by kernel_rfl
@[go_sem] theorem tyS_4 : tyS Try.prog 4 = some (1, 1, .bool false) := by kernel_rfl
@[go_sem] theorem szOf_4 : szOf Try.prog 4 = some 1 := by kernel_rfl
@[go_sem] theorem aggOf_4 : aggOf Try.prog 4 = some false := by kernel_rfl
@[go_sem] theorem tyS_5 : tyS Try.prog 5 = some (1, 1, .int .u8 0) := by kernel_rfl
@[go_sem] theorem szOf_5 : szOf Try.prog 5 = some 1 := by kernel_rfl
@[go_sem] theorem aggOf_5 : aggOf Try.prog 5 = some false := by kernel_rfl
@[go_sem] theorem isStr_5 : isStr Try.prog 5 = false := by kernel_rfl
@[go_sem] theorem isU8_5 : isU8 Try.prog 5 = false := by kernel_rfl
@[go_sem] theorem tyS_6 : tyS Try.prog 6 = some (1, 1, .int .u8 0) := by kernel_rfl
@[go_sem] theorem szOf_6 : szOf Try.prog 6 = some 1 := by kernel_rfl
@[go_sem] theorem aggOf_6 : aggOf Try.prog 6 = some false := by kernel_rfl
@[go_sem] theorem isStr_6 : isStr Try.prog 6 = false := by kernel_rfl
@[go_sem] theorem isU8_6 : isU8 Try.prog 6 = false := by kernel_rfl
@[go_sem] theorem tyS_7 : tyS Try.prog 7 = some (4, 24, .agg #[.int .i64 0, .int .i64 0, .bool false, .int .u8 0]) := by kernel_rfl
@[go_sem] theorem szOf_7 : szOf Try.prog 7 = some 4 := by kernel_rfl
@[go_sem] theorem aggOf_7 : aggOf Try.prog 7 = some true := by kernel_rfl
@[go_sem] theorem placesOf_7 : placesOf Try.prog 7 = some [(0, 1), (1, 1), (2, 1), (3, 1)] := by kernel_rfl
@[go_sem] theorem fldOf_7_0 : fldOf Try.prog 7 0 = some (0, 2) := by kernel_rfl
@[go_sem] theorem fldOf_7_1 : fldOf Try.prog 7 1 = some (1, 3) := by kernel_rfl
@[go_sem] theorem fldOf_7_2 : fldOf Try.prog 7 2 = some (2, 4) := by kernel_rfl
@[go_sem] theorem fldOf_7_3 : fldOf Try.prog 7 3 = some (3, 6) := by kernel_rfl
@[go_sem] theorem tyS_8 : tyS Try.prog 8 = some (4, 24, .agg #[.int .i64 0, .int .i64 0, .bool false, .int .u8 0]) := by kernel_rfl
@[go_sem] theorem szOf_8 : szOf Try.prog 8 = some 4 := by kernel_rfl
@[go_sem] theorem aggOf_8 : aggOf Try.prog 8 = some true := by kernel_rfl
@[go_sem] theorem placesOf_8 : placesOf Try.prog 8 = some [(0, 1), (1, 1), (2, 1), (3, 1)] := by kernel_rfl
@[go_sem] theorem fldOf_8_0 : fldOf Try.prog 8 0 = some (0, 2) := by kernel_rfl
@[go_sem] theorem fldOf_8_1 : fldOf Try.prog 8 1 = some (1, 3) := by kernel_rfl
@[go_sem] theorem fldOf_8_2 : fldOf Try.prog 8 2 = some (2, 4) := by kernel_rfl
@[go_sem] theorem fldOf_8_3 : fldOf Try.prog 8 3 = some (3, 6) := by kernel_rfl
@[go_sem] theorem tyS_9 : tyS Try.prog 9 = some (1, 16, .string ⟨#[]⟩) := by kernel_rfl
@[go_sem] theorem szOf_9 : szOf Try.prog 9 = some 1 := by kernel_rfl
@[go_sem] theorem aggOf_9 : aggOf Try.prog 9 = some false := by kernel_rfl
@[go_sem] theorem notInt_9 : notInt Try.prog 9 = true := by kernel_rfl
@[go_sem] theorem isStr_9 : isStr Try.prog 9 = true := by kernel_rfl
@[go_sem] theorem isU8_9 : isU8 Try.prog 9 = false := by kernel_rfl
@[go_sem] theorem tyS_10 : tyS Try.prog 10 = some (1, 16, .string ⟨#[]⟩) := by kernel_rfl
@[go_sem] theorem szOf_10 : szOf Try.prog 10 = some 1 := by kernel_rfl
@[go_sem] theorem aggOf_10 : aggOf Try.prog 10 = some false := by kernel_rfl
@[go_sem] theorem notInt_10 : notInt Try.prog 10 = true := by kernel_rfl
@[go_sem] theorem isStr_10 : isStr Try.prog 10 = true := by kernel_rfl
@[go_sem] theorem isU8_10 : isU8 Try.prog 10 = false := by kernel_rfl
@[go_sem] theorem tyS_11 : tyS Try.prog 11 = some (1, 16, .string ⟨#[]⟩) := by kernel_rfl
@[go_sem] theorem szOf_11 : szOf Try.prog 11 = some 1 := by kernel_rfl
@[go_sem] theorem aggOf_11 : aggOf Try.prog 11 = some false := by kernel_rfl
@[go_sem] theorem notInt_11 : notInt Try.prog 11 = true := by kernel_rfl
@[go_sem] theorem isStr_11 : isStr Try.prog 11 = true := by kernel_rfl
@[go_sem] theorem isU8_11 : isU8 Try.prog 11 = false := by kernel_rfl
@[go_sem] theorem tyS_12 : tyS Try.prog 12 = some (1, 8, .int .u64 0) := by kernel_rfl
@[go_sem] theorem szOf_12 : szOf Try.prog 12 = some 1 := by kernel_rfl
@[go_sem] theorem aggOf_12 : aggOf Try.prog 12 = some false := by kernel_rfl
@[go_sem] theorem isStr_12 : isStr Try.prog 12 = false := by kernel_rfl
@[go_sem] theorem isU8_12 : isU8 Try.prog 12 = false := by kernel_rfl
@[go_sem] theorem tyS_13 : tyS Try.prog 13 = some (2, 24, .agg #[.string ⟨#[]⟩, .int .u64 0]) := by kernel_rfl
@[go_sem] theorem szOf_13 : szOf Try.prog 13 = some 2 := by kernel_rfl
@[go_sem] theorem aggOf_13 : aggOf Try.prog 13 = some true := by kernel_rfl
@[go_sem] theorem placesOf_13 : placesOf Try.prog 13 = some [(0, 1), (1, 1)] := by kernel_rfl
@[go_sem] theorem fldOf_13_0 : fldOf Try.prog 13 0 = some (0, 9) := by kernel_rfl
@[go_sem] theorem fldOf_13_1 : fldOf Try.prog 13 1 = some (1, 12) := by kernel_rfl
@[go_sem] theorem tyS_14 : tyS Try.prog 14 = some (2, 24, .agg #[.string ⟨#[]⟩, .int .u64 0]) := by kernel_rfl
@[go_sem] theorem szOf_14 : szOf Try.prog 14 = some 2 := by kernel_rfl
@[go_sem] theorem aggOf_14 : aggOf Try.prog 14 = some true := by kernel_rfl
@[go_sem] theorem placesOf_14 : placesOf Try.prog 14 = some [(0, 1), (1, 1)] := by kernel_rfl
@[go_sem] theorem fldOf_14_0 : fldOf Try.prog 14 0 = some (0, 9) := by kernel_rfl
@[go_sem] theorem fldOf_14_1 : fldOf Try.prog 14 1 = some (1, 12) := by kernel_rfl
@[go_sem] theorem tyS_15 : tyS Try.prog 15 = some (1, 8, .pointer none) := by kernel_rfl
@[go_sem] theorem szOf_15 : szOf Try.prog 15 = some 1 := by kernel_rfl
@[go_sem] theorem aggOf_15 : aggOf Try.prog 15 = some false := by kernel_rfl
@[go_sem] theorem tyS_16 : tyS Try.prog 16 = some (1, 8, .pointer none) := by kernel_rfl
@[go_sem] theorem szOf_16 : szOf Try.prog 16 = some 1 := by kernel_rfl
@[go_sem] theorem aggOf_16 : aggOf Try.prog 16 = some false := by kernel_rfl
@[go_sem] theorem tyS_17 : tyS Try.prog 17 = some (1, 8, .pointer none) := by kernel_rfl
@[go_sem] theorem szOf_17 : szOf Try.prog 17 = some 1 := by kernel_rfl
@[go_sem] theorem aggOf_17 : aggOf Try.prog 17 = some false := by kernel_rfl
@[go_sem] theorem tyS_18 : tyS Try.prog 18 = some (1, 8, .agg #[.pointer none]) := by kernel_rfl
@[go_sem] theorem szOf_18 : szOf Try.prog 18 = some 1 := by kernel_rfl
@[go_sem] theorem aggOf_18 : aggOf Try.prog 18 = some true := by kernel_rfl
@[go_sem] theorem placesOf_18 : placesOf Try.prog 18 = some [(0, 1)] := by kernel_rfl
@[go_sem] theorem fldOf_18_0 : fldOf Try.prog 18 0 = some (0, 17) := by kernel_rfl
@[go_sem] theorem tyS_19 : tyS Try.prog 19 = some (1, 8, .agg #[.pointer none]) := by kernel_rfl
@[go_sem] theorem szOf_19 : szOf Try.prog 19 = some 1 := by kernel_rfl
@[go_sem] theorem aggOf_19 : aggOf Try.prog 19 = some true := by kernel_rfl
@[go_sem] theorem placesOf_19 : placesOf Try.prog 19 = some [(0, 1)] := by kernel_rfl
@[go_sem] theorem fldOf_19_0 : fldOf Try.prog 19 0 = some (0, 17) := by kernel_rfl
@[go_sem] theorem tyS_20 : tyS Try.prog 20 = some (1, 16, .nilIface) := by kernel_rfl
@[go_sem] theorem szOf_20 : szOf Try.prog 20 = some 1 := by kernel_rfl
@[go_sem] theorem aggOf_20 : aggOf Try.prog 20 = some false := by kernel_rfl
@[go_sem] theorem tyS_21 : tyS Try.prog 21 = some (1, 4, .int .i32 0) := by kernel_rfl
@[go_sem] theorem szOf_21 : szOf Try.prog 21 = some 1 := by kernel_rfl
@[go_sem] theorem aggOf_21 : aggOf Try.prog 21 = some false := by kernel_rfl
@[go_sem] theorem isStr_21 : isStr Try.prog 21 = false := by kernel_rfl
@[go_sem] theorem isU8_21 : isU8 Try.prog 21 = false := by kernel_rfl
@[go_sem] theorem tyS_22 : tyS Try.prog 22 = some (1, 24, .slice none 0 0) := by kernel_rfl
@[go_sem] theorem szOf_22 : szOf Try.prog 22 = some 1 := by kernel_rfl
@[go_sem] theorem aggOf_22 : aggOf Try.prog 22 = some false := by kernel_rfl
@[go_sem] theorem elemOf_22 : elemOf' Try.prog 22 = some 37 := by kernel_rfl
@[go_sem] theorem isSlT_22 : isSlT Try.prog 22 = true := by kernel_rfl
@[go_sem] theorem notInt_22 : notInt Try.prog 22 = true := by kernel_rfl
@[go_sem] theorem isStr_22 : isStr Try.prog 22 = false := by kernel_rfl
@[go_sem] theorem isU8_22 : isU8 Try.prog 22 = false := by kernel_rfl
@[go_sem] theorem tyS_23 : tyS Try.prog 23 = some (2, 16, .agg #[.int .i64 0, .int .i64 0]) := by kernel_rfl
@[go_sem] theorem szOf_23 : szOf Try.prog 23 = some 2 := by kernel_rfl
@[go_sem] theorem aggOf_23 : aggOf Try.prog 23 = some true := by kernel_rfl
@[go_sem] theorem placesOf_23 : placesOf Try.prog 23 = some [(0, 1), (1, 1)] := by kernel_rfl
@[go_sem] theorem fldOf_23_0 : fldOf Try.prog 23 0 = some (0, 3) := by kernel_rfl
@[go_sem] theorem fldOf_23_1 : fldOf Try.prog 23 1 = some (1, 3) := by kernel_rfl
@[go_sem] theorem tyS_24 : tyS Try.prog 24 = some (2, 16, .agg #[.int .i64 0, .int .i64 0]) := by kernel_rfl
@[go_sem] theorem szOf_24 : szOf Try.prog 24 = some 2 := by kernel_rfl
@[go_sem] theorem aggOf_24 : aggOf Try.prog 24 = some true := by kernel_rfl
@[go_sem] theorem placesOf_24 : placesOf Try.prog 24 = some [(0, 1), (1, 1)] := by kernel_rfl
@[go_sem] theorem fldOf_24_0 : fldOf Try.prog 24 0 = some (0, 3) := by kernel_rfl
@[go_sem] theorem fldOf_24_1 : fldOf Try.prog 24 1 = some (1, 3) := by kernel_rfl
@[go_sem] theorem tyS_25 : tyS Try.prog 25 = some (6, 72, .agg #[.string ⟨#[]⟩, .slice none 0 0, .int .i64 0, .int .i64 0, .int .i64 0, .bool false]) := by kernel_rfl
@[go_sem] theorem szOf_25 : szOf Try.prog 25 = some 6 := by kernel_rfl
@[go_sem] theorem aggOf_25 : aggOf Try.prog 25 = some true := by kernel_rfl
@[go_sem] theorem placesOf_25 : placesOf Try.prog 25 = some [(0, 1), (1, 1), (2, 1), (3, 2), (5, 1)] := by kernel_rfl
@[go_sem] theorem fldOf_25_0 : fldOf Try.prog 25 0 = some (0, 9) := by kernel_rfl
@[go_sem] theorem fldOf_25_1 : fldOf Try.prog 25 1 = some (1, 22) := by kernel_rfl
@[go_sem] theorem fldOf_25_2 : fldOf Try.prog 25 2 = some (2, 3) := by kernel_rfl
@[go_sem] theorem fldOf_25_3 : fldOf Try.prog 25 3 = some (3, 24) := by kernel_rfl
@[go_sem] theorem fldOf_25_4 : fldOf Try.prog 25 4 = some (5, 4) := by kernel_rfl
@[go_sem] theorem tyS_26 : tyS Try.prog 26 = some (6, 72, .agg #[.string ⟨#[]⟩, .slice none 0 0, .int .i64 0, .int .i64 0, .int .i64 0, .bool false]) := by kernel_rfl
@[go_sem] theorem szOf_26 : szOf Try.prog 26 = some 6 := by kernel_rfl
@[go_sem] theorem aggOf_26 : aggOf Try.prog 26 = some true := by kernel_rfl
@[go_sem] theorem placesOf_26 : placesOf Try.prog 26 = some [(0, 1), (1, 1), (2, 1), (3, 2), (5, 1)] := by kernel_rfl
@[go_sem] theorem fldOf_26_0 : fldOf Try.prog 26 0 = some (0, 9) := by kernel_rfl
@[go_sem] theorem fldOf_26_1 : fldOf Try.prog 26 1 = some (1, 22) := by kernel_rfl
@[go_sem] theorem fldOf_26_2 : fldOf Try.prog 26 2 = some (2, 3) := by kernel_rfl
@[go_sem] theorem fldOf_26_3 : fldOf Try.prog 26 3 = some (3, 24) := by kernel_rfl
@[go_sem] theorem fldOf_26_4 : fldOf Try.prog 26 4 = some (5, 4) := by kernel_rfl
@[go_sem] theorem tyS_27 : tyS Try.prog 27 = some (2, 16, .agg #[.int .i64 0, .int .i64 0]) := by kernel_rfl
@[go_sem] theorem szOf_27 : szOf Try.prog 27 = some 2 := by kernel_rfl
@[go_sem] theorem aggOf_27 : aggOf Try.prog 27 = some true := by kernel_rfl
@[go_sem] theorem placesOf_27 : placesOf Try.prog 27 = some [(0, 1), (1, 1)] := by kernel_rfl
@[go_sem] theorem fldOf_27_0 : fldOf Try.prog 27 0 = some (0, 3) := by kernel_rfl
@[go_sem] theorem fldOf_27_1 : fldOf Try.prog 27 1 = some (1, 3) := by kernel_rfl
@[go_sem] theorem tyS_28 : tyS Try.prog 28 = some (2, 16, .agg #[.int .i64 0, .int .i64 0]) := by kernel_rfl
@[go_sem] theorem szOf_28 : szOf Try.prog 28 = some 2 := by kernel_rfl
@[go_sem] theorem aggOf_28 : aggOf Try.prog 28 = some true := by kernel_rfl
@[go_sem] theorem placesOf_28 : placesOf Try.prog 28 = some [(0, 1), (1, 1)] := by kernel_rfl
@[go_sem] theorem fldOf_28_0 : fldOf Try.prog 28 0 = some (0, 3) := by kernel_rfl
@[go_sem] theorem fldOf_28_1 : fldOf Try.prog 28 1 = some (1, 3) := by kernel_rfl
@[go_sem] theorem tyS_30 : tyS Try.prog 30 = some (1, 8, .nilFunc) := by kernel_rfl
@[go_sem] theorem szOf_30 : szOf Try.prog 30 = some 1 := by kernel_rfl
@[go_sem] theorem aggOf_30 : aggOf Try.prog 30 = some false := by kernel_rfl
@[go_sem] theorem tyS_32 : tyS Try.prog 32 = some (1, 8, .nilFunc) := by kernel_rfl
@[go_sem] theorem szOf_32 : szOf Try.prog 32 = some 1 := by kernel_rfl
@[go_sem] theorem aggOf_32 : aggOf Try.prog 32 = some false := by kernel_rfl
@[go_sem] theorem tyS_33 : tyS Try.prog 33 = some (1, 8, .nilFunc) := by kernel_rfl
@[go_sem] theorem szOf_33 : szOf Try.prog 33 = some 1 := by kernel_rfl
@[go_sem] theorem aggOf_33 : aggOf Try.prog 33 = some false := by kernel_rfl
@[go_sem] theorem tyS_34 : tyS Try.prog 34 = some (1, 8, .nilFunc) := by kernel_rfl
@[go_sem] theorem szOf_34 : szOf Try.prog 34 = some 1 := by kernel_rfl
@[go_sem] theorem aggOf_34 : aggOf Try.prog 34 = some false := by kernel_rfl
@[go_sem] theorem tyS_35 : tyS Try.prog 35 = some (1, 8, .nilFunc) := by kernel_rfl
@[go_sem] theorem szOf_35 : szOf Try.prog 35 = some 1 := by kernel_rfl
@[go_sem] theorem aggOf_35 : aggOf Try.prog 35 = some false := by kernel_rfl
@[go_sem] theorem tyS_36 : tyS Try.prog 36 = some (4, 40, .agg #[.string ⟨#[]⟩, .int .i64 0, .int .i64 0, .int .i64 0]) := by kernel_rfl
@[go_sem] theorem szOf_36 : szOf Try.prog 36 = some 4 := by kernel_rfl
@[go_sem] theorem aggOf_36 : aggOf Try.prog 36 = some true := by kernel_rfl
@[go_sem] theorem placesOf_36 : placesOf Try.prog 36 = some [(0, 1), (1, 1), (2, 2)] := by kernel_rfl
@[go_sem] theorem fldOf_36_0 : fldOf Try.prog 36 0 = some (0, 9) := by kernel_rfl
@[go_sem] theorem fldOf_36_1 : fldOf Try.prog 36 1 = some (1, 3) := by kernel_rfl
@[go_sem] theorem fldOf_36_2 : fldOf Try.prog 36 2 = some (2, 24) := by kernel_rfl
@[go_sem] theorem tyS_37 : tyS Try.prog 37 = some (4, 40, .agg #[.string ⟨#[]⟩, .int .i64 0, .int .i64 0, .int .i64 0]) := by kernel_rfl
@[go_sem] theorem szOf_37 : szOf Try.prog 37 = some 4 := by kernel_rfl
@[go_sem] theorem aggOf_37 : aggOf Try.prog 37 = some true := by kernel_rfl
@[go_sem] theorem placesOf_37 : placesOf Try.prog 37 = some [(0, 1), (1, 1), (2, 2)] := by kernel_rfl
@[go_sem] theorem fldOf_37_0 : fldOf Try.prog 37 0 = some (0, 9) := by kernel_rfl
@[go_sem] theorem fldOf_37_1 : fldOf Try.prog 37 1 = some (1, 3) := by kernel_rfl
@[go_sem] theorem fldOf_37_2 : fldOf Try.prog 37 2 = some (2, 24) := by kernel_rfl
@[go_sem] theorem tyS_38 : tyS Try.prog 38 = some (1, 8, .nilFunc) := by kernel_rfl
@[go_sem] theorem szOf_38 : szOf Try.prog 38 = some 1 := by kernel_rfl
@[go_sem] theorem aggOf_38 : aggOf Try.prog 38 = some false := by kernel_rfl
@[go_sem] theorem tyS_39 : tyS Try.prog 39 = some (1, 8, .nilFunc) := by kernel_rfl
@[go_sem] theorem szOf_39 : szOf Try.prog 39 = some 1 := by kernel_rfl
@[go_sem] theorem aggOf_39 : aggOf Try.prog 39 = some false := by kernel_rfl
@[go_sem] theorem tyS_40 : tyS Try.prog 40 = some (1, 8, .nilFunc) := by kernel_rfl
@[go_sem] theorem szOf_40 : szOf Try.prog 40 = some 1 := by kernel_rfl
@[go_sem] theorem aggOf_40 : aggOf Try.prog 40 = some false := by kernel_rfl
@[go_sem] theorem tyS_41 : tyS Try.prog 41 = some (1, 8, .nilFunc) := by kernel_rfl
@[go_sem] theorem szOf_41 : szOf Try.prog 41 = some 1 := by kernel_rfl
@[go_sem] theorem aggOf_41 : aggOf Try.prog 41 = some false := by kernel_rfl
@[go_sem] theorem tyS_42 : tyS Try.prog 42 = some (1, 8, .nilFunc) := by kernel_rfl
@[go_sem] theorem szOf_42 : szOf Try.prog 42 = some 1 := by kernel_rfl
@[go_sem] theorem aggOf_42 : aggOf Try.prog 42 = some false := by kernel_rfl
@[go_sem] theorem tyS_43 : tyS Try.prog 43 = some (1, 8, .nilFunc) := by kernel_rfl
@[go_sem] theorem szOf_43 : szOf Try.prog 43 = some 1 := by kernel_rfl
@[go_sem] theorem aggOf_43 : aggOf Try.prog 43 = some false := by kernel_rfl
@[go_sem] theorem tyS_44 : tyS Try.prog 44 = some (1, 8, .nilFunc) := by kernel_rfl
@[go_sem] theorem szOf_44 : szOf Try.prog 44 = some 1 := by kernel_rfl
@[go_sem] theorem aggOf_44 : aggOf Try.prog 44 = some false := by kernel_rfl
@[go_sem] theorem tyS_45 : tyS Try.prog 45 = some (1, 8, .nilFunc) := by kernel_rfl
@[go_sem] theorem szOf_45 : szOf Try.prog 45 = some 1 := by kernel_rfl
@[go_sem] theorem aggOf_45 : aggOf Try.prog 45 = some false := by kernel_rfl
@[go_sem] theorem tyS_46 : tyS Try.prog 46 = some (1, 8, .nilFunc) := by kernel_rfl
@[go_sem] theorem szOf_46 : szOf Try.prog 46 = some 1 := by kernel_rfl
@[go_sem] theorem aggOf_46 : aggOf Try.prog 46 = some false := by kernel_rfl
@[go_sem] theorem tyS_47 : tyS Try.prog 47 = some (1, 8, .nilFunc) := by kernel_rfl
@[go_sem] theorem szOf_47 : szOf Try.prog 47 = some 1 := by kernel_rfl
@[go_sem] theorem aggOf_47 : aggOf Try.prog 47 = some false := by kernel_rfl
@[go_sem] theorem tyS_49 : tyS Try.prog 49 = some (1, 8, .nilFunc) := by kernel_rfl
@[go_sem] theorem szOf_49 : szOf Try.prog 49 = some 1 := by kernel_rfl
@[go_sem] theorem aggOf_49 : aggOf Try.prog 49 = some false := by kernel_rfl
@[go_sem] theorem tyS_50 : tyS Try.prog 50 = some (1, 8, .nilFunc) := by kernel_rfl
@[go_sem] theorem szOf_50 : szOf Try.prog 50 = some 1 := by kernel_rfl
@[go_sem] theorem aggOf_50 : aggOf Try.prog 50 = some false := by kernel_rfl
@[go_sem] theorem tyS_51 : tyS Try.prog 51 = some (1, 24, .slice none 0 0) := by kernel_rfl
@[go_sem] theorem szOf_51 : szOf Try.prog 51 = some 1 := by kernel_rfl
@[go_sem] theorem aggOf_51 : aggOf Try.prog 51 = some false := by kernel_rfl
@[go_sem] theorem elemOf_51 : elemOf' Try.prog 51 = some 24 := by kernel_rfl
@[go_sem] theorem isSlT_51 : isSlT Try.prog 51 = true := by kernel_rfl
@[go_sem] theorem notInt_51 : notInt Try.prog 51 = true := by kernel_rfl
@[go_sem] theorem isStr_51 : isStr Try.prog 51 = false := by kernel_rfl
@[go_sem] theorem isU8_51 : isU8 Try.prog 51 = false := by kernel_rfl
@[go_sem] theorem tyS_53 : tyS Try.prog 53 = some (1, 8, .nilFunc) := by kernel_rfl
@[go_sem] theorem szOf_53 : szOf Try.prog 53 = some 1 := by kernel_rfl
@[go_sem] theorem aggOf_53 : aggOf Try.prog 53 = some false := by kernel_rfl
@[go_sem] theorem tyS_54 : tyS Try.prog 54 = some (1, 8, .nilFunc) := by kernel_rfl
@[go_sem] theorem szOf_54 : szOf Try.prog 54 = some 1 := by kernel_rfl
@[go_sem] theorem aggOf_54 : aggOf Try.prog 54 = some false := by kernel_rfl
@[go_sem] theorem tyS_55 : tyS Try.prog 55 = some (1, 8, .nilFunc) := by kernel_rfl
@[go_sem] theorem szOf_55 : szOf Try.prog 55 = some 1 := by kernel_rfl
@[go_sem] theorem aggOf_55 : aggOf Try.prog 55 = some false := by kernel_rfl
@[go_sem] theorem tyS_56 : tyS Try.prog 56 = some (1, 8, .nilFunc) := by kernel_rfl
@[go_sem] theorem szOf_56 : szOf Try.prog 56 = some 1 := by kernel_rfl
@[go_sem] theorem aggOf_56 : aggOf Try.prog 56 = some false := by kernel_rfl
@[go_sem] theorem tyS_57 : tyS Try.prog 57 = some (1, 8, .nilFunc) := by kernel_rfl
@[go_sem] theorem szOf_57 : szOf Try.prog 57 = some 1 := by kernel_rfl
@[go_sem] theorem aggOf_57 : aggOf Try.prog 57 = some false := by kernel_rfl
@[go_sem] theorem tyS_58 : tyS Try.prog 58 = some (1, 8, .nilFunc) := by kernel_rfl
@[go_sem] theorem szOf_58 : szOf Try.prog 58 = some 1 := by kernel_rfl
@[go_sem] theorem aggOf_58 : aggOf Try.prog 58 = some false := by kernel_rfl
@[go_sem] theorem tyS_59 : tyS Try.prog 59 = some (1, 8, .nilFunc) := by kernel_rfl
@[go_sem] theorem szOf_59 : szOf Try.prog 59 = some 1 := by kernel_rfl
@[go_sem] theorem aggOf_59 : aggOf Try.prog 59 = some false := by kernel_rfl
@[go_sem] theorem tyS_60 : tyS Try.prog 60 = some (1, 8, .nilFunc) := by kernel_rfl
@[go_sem] theorem szOf_60 : szOf Try.prog 60 = some 1 := by kernel_rfl
@[go_sem] theorem aggOf_60 : aggOf Try.prog 60 = some false := by kernel_rfl
@[go_sem] theorem tyS_61 : tyS Try.prog 61 = some (1, 8, .nilFunc) := by kernel_rfl
@[go_sem] theorem szOf_61 : szOf Try.prog 61 = some 1 := by kernel_rfl
@[go_sem] theorem aggOf_61 : aggOf Try.prog 61 = some false := by kernel_rfl
@[go_sem] theorem tyS_62 : tyS Try.prog 62 = some (1, 24, .slice none 0 0) := by kernel_rfl
@[go_sem] theorem szOf_62 : szOf Try.prog 62 = some 1 := by kernel_rfl
@[go_sem] theorem aggOf_62 : aggOf Try.prog 62 = some false := by kernel_rfl
@[go_sem] theorem elemOf_62 : elemOf' Try.prog 62 = some 51 := by kernel_rfl
@[go_sem] theorem isSlT_62 : isSlT Try.prog 62 = true := by kernel_rfl
@[go_sem] theorem notInt_62 : notInt Try.prog 62 = true := by kernel_rfl
@[go_sem] theorem isStr_62 : isStr Try.prog 62 = false := by kernel_rfl
@[go_sem] theorem isU8_62 : isU8 Try.prog 62 = false := by kernel_rfl
@[go_sem] theorem tyS_64 : tyS Try.prog 64 = some (1, 8, .nilFunc) := by kernel_rfl
@[go_sem] theorem szOf_64 : szOf Try.prog 64 = some 1 := by kernel_rfl
@[go_sem] theorem aggOf_64 : aggOf Try.prog 64 = some false := by kernel_rfl
@[go_sem] theorem tyS_65 : tyS Try.prog 65 = some (1, 8, .nilFunc) := by kernel_rfl
@[go_sem] theorem szOf_65 : szOf Try.prog 65 = some 1 := by kernel_rfl
@[go_sem] theorem aggOf_65 : aggOf Try.prog 65 = some false := by kernel_rfl
@[go_sem] theorem tyS_66 : tyS Try.prog 66 = some (1, 24, .slice none 0 0) := by kernel_rfl
@[go_sem] theorem szOf_66 : szOf Try.prog 66 = some 1 := by kernel_rfl
@[go_sem] theorem aggOf_66 : aggOf Try.prog 66 = some false := by kernel_rfl
@[go_sem] theorem elemOf_66 : elemOf' Try.prog 66 = some 81 := by kernel_rfl
@[go_sem] theorem isSlT_66 : isSlT Try.prog 66 = true := by kernel_rfl
@[go_sem] theorem notInt_66 : notInt Try.prog 66 = true := by kernel_rfl
@[go_sem] theorem isStr_66 : isStr Try.prog 66 = false := by kernel_rfl
@[go_sem] theorem isU8_66 : isU8 Try.prog 66 = false := by kernel_rfl
@[go_sem] theorem tyS_67 : tyS Try.prog 67 = some (1, 24, .slice none 0 0) := by kernel_rfl
@[go_sem] theorem szOf_67 : szOf Try.prog 67 = some 1 := by kernel_rfl
@[go_sem] theorem aggOf_67 : aggOf Try.prog 67 = some false := by kernel_rfl
@[go_sem] theorem elemOf_67 : elemOf' Try.prog 67 = some 73 := by kernel_rfl
@[go_sem] theorem isSlT_67 : isSlT Try.prog 67 = true := by kernel_rfl
@[go_sem] theorem notInt_67 : notInt Try.prog 67 = true := by kernel_rfl
@[go_sem] theorem isStr_67 : isStr Try.prog 67 = false := by kernel_rfl
@[go_sem] theorem isU8_67 : isU8 Try.prog 67 = false := by kernel_rfl
@[go_sem] theorem tyS_68 : tyS Try.prog 68 = some (1, 8, .nilFunc) := by kernel_rfl
@[go_sem] theorem szOf_68 : szOf Try.prog 68 = some 1 := by kernel_rfl
@[go_sem] theorem aggOf_68 : aggOf Try.prog 68 = some false := by kernel_rfl
@[go_sem] theorem tyS_69 : tyS Try.prog 69 = some (1, 8, .nilFunc) := by kernel_rfl
@[go_sem] theorem szOf_69 : szOf Try.prog 69 = some 1 := by kernel_rfl
@[go_sem] theorem aggOf_69 : aggOf Try.prog 69 = some false := by kernel_rfl
@[go_sem] theorem tyS_70 : tyS Try.prog 70 = some (4, 32, .agg #[.int .i64 0, .int .i64 0, .int .i64 0, .int .i64 0]) := by kernel_rfl
@[go_sem] theorem szOf_70 : szOf Try.prog 70 = some 4 := by kernel_rfl
@[go_sem] theorem aggOf_70 : aggOf Try.prog 70 = some true := by kernel_rfl
@[go_sem] theorem placesOf_70 : placesOf Try.prog 70 = some [(0, 1), (1, 1), (2, 1), (3, 1)] := by kernel_rfl
@[go_sem] theorem fldOf_70_0 : fldOf Try.prog 70 0 = some (0, 3) := by kernel_rfl
@[go_sem] theorem fldOf_70_1 : fldOf Try.prog 70 1 = some (1, 3) := by kernel_rfl
@[go_sem] theorem fldOf_70_2 : fldOf Try.prog 70 2 = some (2, 3) := by kernel_rfl
@[go_sem] theorem fldOf_70_3 : fldOf Try.prog 70 3 = some (3, 3) := by kernel_rfl
@[go_sem] theorem tyS_71 : tyS Try.prog 71 = some (4, 32, .agg #[.int .i64 0, .int .i64 0, .int .i64 0, .int .i64 0]) := by kernel_rfl
@[go_sem] theorem szOf_71 : szOf Try.prog 71 = some 4 := by kernel_rfl
@[go_sem] theorem aggOf_71 : aggOf Try.prog 71 = some true := by kernel_rfl
@[go_sem] theorem placesOf_71 : placesOf Try.prog 71 = some [(0, 1), (1, 1), (2, 1), (3, 1)] := by kernel_rfl
@[go_sem] theorem fldOf_71_0 : fldOf Try.prog 71 0 = some (0, 3) := by kernel_rfl
@[go_sem] theorem fldOf_71_1 : fldOf Try.prog 71 1 = some (1, 3) := by kernel_rfl
@[go_sem] theorem fldOf_71_2 : fldOf Try.prog 71 2 = some (2, 3) := by kernel_rfl
@[go_sem] theorem fldOf_71_3 : fldOf Try.prog 71 3 = some (3, 3) := by kernel_rfl
@[go_sem] theorem tyS_72 : tyS Try.prog 72 = some (11, 96, .agg #[.string ⟨#[]⟩, .int .i64 0, .int .i64 0, .int .i64 0, .int .i64 0, .int .i64 0, .int .i64 0, .int .i64 0, .int .i64 0, .int .i64 0, .int .i64 0]) := by kernel_rfl
@[go_sem] theorem szOf_72 : szOf Try.prog 72 = some 11 := by kernel_rfl
@[go_sem] theorem aggOf_72 : aggOf Try.prog 72 = some true := by kernel_rfl
@[go_sem] theorem placesOf_72 : placesOf Try.prog 72 = some [(0, 1), (1, 1), (2, 1), (3, 4), (7, 4)] := by kernel_rfl
@[go_sem] theorem fldOf_72_0 : fldOf Try.prog 72 0 = some (0, 9) := by kernel_rfl
@[go_sem] theorem fldOf_72_1 : fldOf Try.prog 72 1 = some (1, 3) := by kernel_rfl
@[go_sem] theorem fldOf_72_2 : fldOf Try.prog 72 2 = some (2, 3) := by kernel_rfl
@[go_sem] theorem fldOf_72_3 : fldOf Try.prog 72 3 = some (3, 71) := by kernel_rfl
@[go_sem] theorem fldOf_72_4 : fldOf Try.prog 72 4 = some (7, 71) := by kernel_rfl
@[go_sem] theorem tyS_73 : tyS Try.prog 73 = some (11, 96, .agg #[.string ⟨#[]⟩, .int .i64 0, .int .i64 0, .int .i64 0, .int .i64 0, .int .i64 0, .int .i64 0, .int .i64 0, .int .i64 0, .int .i64 0, .int .i64 0]) := by kernel_rfl
@[go_sem] theorem szOf_73 : szOf Try.prog 73 = some 11 := by kernel_rfl
@[go_sem] theorem aggOf_73 : aggOf Try.prog 73 = some true := by kernel_rfl
@[go_sem] theorem placesOf_73 : placesOf Try.prog 73 = some [(0, 1), (1, 1), (2, 1), (3, 4), (7, 4)] := by kernel_rfl
@[go_sem] theorem fldOf_73_0 : fldOf Try.prog 73 0 = some (0, 9) := by kernel_rfl
@[go_sem] theorem fldOf_73_1 : fldOf Try.prog 73 1 = some (1, 3) := by kernel_rfl
@[go_sem] theorem fldOf_73_2 : fldOf Try.prog 73 2 = some (2, 3) := by kernel_rfl
@[go_sem] theorem fldOf_73_3 : fldOf Try.prog 73 3 = some (3, 71) := by kernel_rfl
@[go_sem] theorem fldOf_73_4 : fldOf Try.prog 73 4 = some (7, 71) := by kernel_rfl
@[go_sem] theorem tyS_74 : tyS Try.prog 74 = some (1, 24, .slice none 0 0) := by kernel_rfl
@[go_sem] theorem szOf_74 : szOf Try.prog 74 = some 1 := by kernel_rfl
@[go_sem] theorem aggOf_74 : aggOf Try.prog 74 = some false := by kernel_rfl
@[go_sem] theorem elemOf_74 : elemOf' Try.prog 74 = some 184 := by kernel_rfl
@[go_sem] theorem isSlT_74 : isSlT Try.prog 74 = true := by kernel_rfl
@[go_sem] theorem notInt_74 : notInt Try.prog 74 = true := by kernel_rfl
@[go_sem] theorem isStr_74 : isStr Try.prog 74 = false := by kernel_rfl
@[go_sem] theorem isU8_74 : isU8 Try.prog 74 = false := by kernel_rfl
@[go_sem] theorem tyS_75 : tyS Try.prog 75 = some (7, 56, .agg #[.int .i64 0, .int .i64 0, .int .i64 0, .int .i64 0, .int .i64 0, .int .i64 0, .int .i64 0]) := by kernel_rfl
@[go_sem] theorem szOf_75 : szOf Try.prog 75 = some 7 := by kernel_rfl
@[go_sem] theorem aggOf_75 : aggOf Try.prog 75 = some true := by kernel_rfl
@[go_sem] theorem placesOf_75 : placesOf Try.prog 75 = some [(0, 1), (1, 1), (2, 1), (3, 1), (4, 1), (5, 1), (6, 1)] := by kernel_rfl
@[go_sem] theorem fldOf_75_0 : fldOf Try.prog 75 0 = some (0, 3) := by kernel_rfl
@[go_sem] theorem fldOf_75_1 : fldOf Try.prog 75 1 = some (1, 3) := by kernel_rfl
@[go_sem] theorem fldOf_75_2 : fldOf Try.prog 75 2 = some (2, 3) := by kernel_rfl
@[go_sem] theorem fldOf_75_3 : fldOf Try.prog 75 3 = some (3, 3) := by kernel_rfl
@[go_sem] theorem fldOf_75_4 : fldOf Try.prog 75 4 = some (4, 3) := by kernel_rfl
@[go_sem] theorem fldOf_75_5 : fldOf Try.prog 75 5 = some (5, 3) := by kernel_rfl
@[go_sem] theorem fldOf_75_6 : fldOf Try.prog 75 6 = some (6, 3) := by kernel_rfl
@[go_sem] theorem tyS_76 : tyS Try.prog 76 = some (7, 56, .agg #[.int .i64 0, .int .i64 0, .int .i64 0, .int .i64 0, .int .i64 0, .int .i64 0, .int .i64 0]) := by kernel_rfl
@[go_sem] theorem szOf_76 : szOf Try.prog 76 = some 7 := by kernel_rfl
@[go_sem] theorem aggOf_76 : aggOf Try.prog 76 = some true := by kernel_rfl
@[go_sem] theorem placesOf_76 : placesOf Try.prog 76 = some [(0, 1), (1, 1), (2, 1), (3, 1), (4, 1), (5, 1), (6, 1)] := by kernel_rfl
@[go_sem] theorem fldOf_76_0 : fldOf Try.prog 76 0 = some (0, 3) := by kernel_rfl
@[go_sem] theorem fldOf_76_1 : fldOf Try.prog 76 1 = some (1, 3) := by kernel_rfl
@[go_sem] theorem fldOf_76_2 : fldOf Try.prog 76 2 = some (2, 3) := by kernel_rfl
@[go_sem] theorem fldOf_76_3 : fldOf Try.prog 76 3 = some (3, 3) := by kernel_rfl
@[go_sem] theorem fldOf_76_4 : fldOf Try.prog 76 4 = some (4, 3) := by kernel_rfl
@[go_sem] theorem fldOf_76_5 : fldOf Try.prog 76 5 = some (5, 3) := by kernel_rfl
@[go_sem] theorem fldOf_76_6 : fldOf Try.prog 76 6 = some (6, 3) := by kernel_rfl
@[go_sem] theorem tyS_77 : tyS Try.prog 77 = some (1, 24, .slice none 0 0) := by kernel_rfl
@[go_sem] theorem szOf_77 : szOf Try.prog 77 = some 1 := by kernel_rfl
@[go_sem] theorem aggOf_77 : aggOf Try.prog 77 = some false := by kernel_rfl
@[go_sem] theorem elemOf_77 : elemOf' Try.prog 77 = some 3 := by kernel_rfl
@[go_sem] theorem isSlT_77 : isSlT Try.prog 77 = true := by kernel_rfl
@[go_sem] theorem notInt_77 : notInt Try.prog 77 = true := by kernel_rfl
@[go_sem] theorem isStr_77 : isStr Try.prog 77 = false := by kernel_rfl
@[go_sem] theorem isU8_77 : isU8 Try.prog 77 = false := by kernel_rfl
@[go_sem] theorem tyS_78 : tyS Try.prog 78 = some (8, 112, .agg #[.int .i64 0, .int .i64 0, .int .i64 0, .int .i64 0, .bool false, .slice none 0 0, .slice none 0 0, .slice none 0 0]) := by kernel_rfl
@[go_sem] theorem szOf_78 : szOf Try.prog 78 = some 8 := by kernel_rfl
@[go_sem] theorem aggOf_78 : aggOf Try.prog 78 = some true := by kernel_rfl
@[go_sem] theorem placesOf_78 : placesOf Try.prog 78 = some [(0, 1), (1, 1), (2, 1), (3, 1), (4, 1), (5, 1), (6, 1), (7, 1)] := by kernel_rfl
@[go_sem] theorem fldOf_78_0 : fldOf Try.prog 78 0 = some (0, 3) := by kernel_rfl
@[go_sem] theorem fldOf_78_1 : fldOf Try.prog 78 1 = some (1, 3) := by kernel_rfl
@[go_sem] theorem fldOf_78_2 : fldOf Try.prog 78 2 = some (2, 3) := by kernel_rfl
@[go_sem] theorem fldOf_78_3 : fldOf Try.prog 78 3 = some (3, 3) := by kernel_rfl
@[go_sem] theorem fldOf_78_4 : fldOf Try.prog 78 4 = some (4, 4) := by kernel_rfl
@[go_sem] theorem fldOf_78_5 : fldOf Try.prog 78 5 = some (5, 77) := by kernel_rfl
@[go_sem] theorem fldOf_78_6 : fldOf Try.prog 78 6 = some (6, 77) := by kernel_rfl
@[go_sem] theorem fldOf_78_7 : fldOf Try.prog 78 7 = some (7, 77) := by kernel_rfl
@[go_sem] theorem tyS_79 : tyS Try.prog 79 = some (8, 112, .agg #[.int .i64 0, .int .i64 0, .int .i64 0, .int .i64 0, .bool false, .slice none 0 0, .slice none 0 0, .slice none 0 0]) := by kernel_rfl
@[go_sem] theorem szOf_79 : szOf Try.prog 79 = some 8 := by kernel_rfl
@[go_sem] theorem aggOf_79 : aggOf Try.prog 79 = some true := by kernel_rfl
@[go_sem] theorem placesOf_79 : placesOf Try.prog 79 = some [(0, 1), (1, 1), (2, 1), (3, 1), (4, 1), (5, 1), (6, 1), (7, 1)] := by kernel_rfl
@[go_sem] theorem fldOf_79_0 : fldOf Try.prog 79 0 = some (0, 3) := by kernel_rfl
@[go_sem] theorem fldOf_79_1 : fldOf Try.prog 79 1 = some (1, 3) := by kernel_rfl
@[go_sem] theorem fldOf_79_2 : fldOf Try.prog 79 2 = some (2, 3) := by kernel_rfl
@[go_sem] theorem fldOf_79_3 : fldOf Try.prog 79 3 = some (3, 3) := by kernel_rfl
@[go_sem] theorem fldOf_79_4 : fldOf Try.prog 79 4 = some (4, 4) := by kernel_rfl
@[go_sem] theorem fldOf_79_5 : fldOf Try.prog 79 5 = some (5, 77) := by kernel_rfl
@[go_sem] theorem fldOf_79_6 : fldOf Try.prog 79 6 = some (6, 77) := by kernel_rfl
@[go_sem] theorem fldOf_79_7 : fldOf Try.prog 79 7 = some (7, 77) := by kernel_rfl
@[go_sem] theorem tyS_80 : tyS Try.prog 80 = some (24, 296, .agg #[.string ⟨#[]⟩, .int .i64 0, .int .i64 0, .string ⟨#[]⟩, .string ⟨#[]⟩, .string ⟨#[]⟩, .slice none 0 0, .string ⟨#[]⟩, .int .i64 0, .int .i64 0, .int .i64 0, .int .i64 0, .int .i64 0, .int .i64 0, .int .i64 0, .int .i64 0, .int .i64 0, .int .i64 0, .int .i64 0, .int .i64 0, .bool false, .slice none 0 0, .slice none 0 0, .slice none 0 0]) := by kernel_rfl
@[go_sem] theorem szOf_80 : szOf Try.prog 80 = some 24 := by kernel_rfl
@[go_sem] theorem aggOf_80 : aggOf Try.prog 80 = some true := by kernel_rfl
@[go_sem] theorem placesOf_80 : placesOf Try.prog 80 = some [(0, 1), (1, 1), (2, 1), (3, 1), (4, 1), (5, 1), (6, 1), (7, 1), (8, 7), (15, 1), (16, 8)] := by kernel_rfl
@[go_sem] theorem fldOf_80_0 : fldOf Try.prog 80 0 = some (0, 9) := by kernel_rfl
@[go_sem] theorem fldOf_80_1 : fldOf Try.prog 80 1 = some (1, 3) := by kernel_rfl
@[go_sem] theorem fldOf_80_2 : fldOf Try.prog 80 2 = some (2, 3) := by kernel_rfl
@[go_sem] theorem fldOf_80_3 : fldOf Try.prog 80 3 = some (3, 9) := by kernel_rfl
@[go_sem] theorem fldOf_80_4 : fldOf Try.prog 80 4 = some (4, 9) := by kernel_rfl
@[go_sem] theorem fldOf_80_5 : fldOf Try.prog 80 5 = some (5, 9) := by kernel_rfl
@[go_sem] theorem fldOf_80_6 : fldOf Try.prog 80 6 = some (6, 74) := by kernel_rfl
@[go_sem] theorem fldOf_80_7 : fldOf Try.prog 80 7 = some (7, 9) := by kernel_rfl
@[go_sem] theorem fldOf_80_8 : fldOf Try.prog 80 8 = some (8, 76) := by kernel_rfl
@[go_sem] theorem fldOf_80_9 : fldOf Try.prog 80 9 = some (15, 3) := by kernel_rfl
@[go_sem] theorem fldOf_80_10 : fldOf Try.prog 80 10 = some (16, 79) := by kernel_rfl
@[go_sem] theorem tyS_81 : tyS Try.prog 81 = some (24, 296, .agg #[.string ⟨#[]⟩, .int .i64 0, .int .i64 0, .string ⟨#[]⟩, .string ⟨#[]⟩, .string ⟨#[]⟩, .slice none 0 0, .string ⟨#[]⟩, .int .i64 0, .int .i64 0, .int .i64 0, .int .i64 0, .int .i64 0, .int .i64 0, .int .i64 0, .int .i64 0, .int .i64 0, .int .i64 0, .int .i64 0, .int .i64 0, .bool false, .slice none 0 0, .slice none 0 0, .slice none 0 0]) := by kernel_rfl
@[go_sem] theorem szOf_81 : szOf Try.prog 81 = some 24 := by kernel_rfl
@[go_sem] theorem aggOf_81 : aggOf Try.prog 81 = some true := by kernel_rfl
@[go_sem] theorem placesOf_81 : placesOf Try.prog 81 = some [(0, 1), (1, 1), (2, 1), (3, 1), (4, 1), (5, 1), (6, 1), (7, 1), (8, 7), (15, 1), (16, 8)] := by kernel_rfl
@[go_sem] theorem fldOf_81_0 : fldOf Try.prog 81 0 = some (0, 9) := by kernel_rfl
@[go_sem] theorem fldOf_81_1 : fldOf Try.prog 81 1 = some (1, 3) := by kernel_rfl
@[go_sem] theorem fldOf_81_2 : fldOf Try.prog 81 2 = some (2, 3) := by kernel_rfl
@[go_sem] theorem fldOf_81_3 : fldOf Try.prog 81 3 = some (3, 9) := by kernel_rfl
@[go_sem] theorem fldOf_81_4 : fldOf Try.prog 81 4 = some (4, 9) := by kernel_rfl
@[go_sem] theorem fldOf_81_5 : fldOf Try.prog 81 5 = some (5, 9) := by kernel_rfl
@[go_sem] theorem fldOf_81_6 : fldOf Try.prog 81 6 = some (6, 74) := by kernel_rfl
@[go_sem] theorem fldOf_81_7 : fldOf Try.prog 81 7 = some (7, 9) := by kernel_rfl
@[go_sem] theorem fldOf_81_8 : fldOf Try.prog 81 8 = some (8, 76) := by kernel_rfl
@[go_sem] theorem fldOf_81_9 : fldOf Try.prog 81 9 = some (15, 3) := by kernel_rfl
@[go_sem] theorem fldOf_81_10 : fldOf Try.prog 81 10 = some (16, 79) := by kernel_rfl
@[go_sem] theorem tyS_83 : tyS Try.prog 83 = some (1, 8, .nilFunc) := by kernel_rfl
@[go_sem] theorem szOf_83 : szOf Try.prog 83 = some 1 := by kernel_rfl
@[go_sem] theorem aggOf_83 : aggOf Try.prog 83 = some false := by kernel_rfl
@[go_sem] theorem tyS_84 : tyS Try.prog 84 = some (1, 8, .nilFunc) := by kernel_rfl
@[go_sem] theorem szOf_84 : szOf Try.prog 84 = some 1 := by kernel_rfl
@[go_sem] theorem aggOf_84 : aggOf Try.prog 84 = some false := by kernel_rfl
@[go_sem] theorem tyS_85 : tyS Try.prog 85 = some (1, 8, .nilFunc) := by kernel_rfl
@[go_sem] theorem szOf_85 : szOf Try.prog 85 = some 1 := by kernel_rfl
@[go_sem] theorem aggOf_85 : aggOf Try.prog 85 = some false := by kernel_rfl
@[go_sem] theorem tyS_86 : tyS Try.prog 86 = some (1, 8, .nilFunc) := by kernel_rfl
@[go_sem] theorem szOf_86 : szOf Try.prog 86 = some 1 := by kernel_rfl
@[go_sem] theorem aggOf_86 : aggOf Try.prog 86 = some false := by kernel_rfl
@[go_sem] theorem tyS_87 : tyS Try.prog 87 = some (1, 8, .nilFunc) := by kernel_rfl
@[go_sem] theorem szOf_87 : szOf Try.prog 87 = some 1 := by kernel_rfl
@[go_sem] theorem aggOf_87 : aggOf Try.prog 87 = some false := by kernel_rfl
@[go_sem] theorem tyS_88 : tyS Try.prog 88 = some (1, 8, .nilFunc) := by kernel_rfl
@[go_sem] theorem szOf_88 : szOf Try.prog 88 = some 1 := by kernel_rfl
@[go_sem] theorem aggOf_88 : aggOf Try.prog 88 = some false := by kernel_rfl
@[go_sem] theorem tyS_89 : tyS Try.prog 89 = some (1, 8, .nilFunc) := by kernel_rfl
@[go_sem] theorem szOf_89 : szOf Try.prog 89 = some 1 := by kernel_rfl
@[go_sem] theorem aggOf_89 : aggOf Try.prog 89 = some false := by kernel_rfl
@[go_sem] theorem tyS_90 : tyS Try.prog 90 = some (1, 8, .nilFunc) := by kernel_rfl
@[go_sem] theorem szOf_90 : szOf Try.prog 90 = some 1 := by kernel_rfl
@[go_sem] theorem aggOf_90 : aggOf Try.prog 90 = some false := by kernel_rfl
@[go_sem] theorem tyS_91 : tyS Try.prog 91 = some (1, 8, .nilFunc) := by kernel_rfl
@[go_sem] theorem szOf_91 : szOf Try.prog 91 = some 1 := by kernel_rfl
@[go_sem] theorem aggOf_91 : aggOf Try.prog 91 = some false := by kernel_rfl
@[go_sem] theorem tyS_92 : tyS Try.prog 92 = some (1, 8, .nilFunc) := by kernel_rfl
@[go_sem] theorem szOf_92 : szOf Try.prog 92 = some 1 := by kernel_rfl
@[go_sem] theorem aggOf_92 : aggOf Try.prog 92 = some false := by kernel_rfl
@[go_sem] theorem tyS_93 : tyS Try.prog 93 = some (1, 8, .nilFunc) := by kernel_rfl
@[go_sem] theorem szOf_93 : szOf Try.prog 93 = some 1 := by kernel_rfl
@[go_sem] theorem aggOf_93 : aggOf Try.prog 93 = some false := by kernel_rfl
@[go_sem] theorem tyS_94 : tyS Try.prog 94 = some (1, 8, .nilFunc) := by kernel_rfl
@[go_sem] theorem szOf_94 : szOf Try.prog 94 = some 1 := by kernel_rfl
@[go_sem] theorem aggOf_94 : aggOf Try.prog 94 = some false := by kernel_rfl
@[go_sem] theorem tyS_95 : tyS Try.prog 95 = some (1, 8, .nilFunc) := by kernel_rfl
@[go_sem] theorem szOf_95 : szOf Try.prog 95 = some 1 := by kernel_rfl
@[go_sem] theorem aggOf_95 : aggOf Try.prog 95 = some false := by kernel_rfl
@[go_sem] theorem tyS_96 : tyS Try.prog 96 = some (1, 8, .nilFunc) := by kernel_rfl
@[go_sem] theorem szOf_96 : szOf Try.prog 96 = some 1 := by kernel_rfl
@[go_sem] theorem aggOf_96 : aggOf Try.prog 96 = some false := by kernel_rfl
@[go_sem] theorem tyS_97 : tyS Try.prog 97 = some (1, 8, .nilFunc) := by kernel_rfl
@[go_sem] theorem szOf_97 : szOf Try.prog 97 = some 1 := by kernel_rfl
@[go_sem] theorem aggOf_97 : aggOf Try.prog 97 = some false := by kernel_rfl
@[go_sem] theorem tyS_98 : tyS Try.prog 98 = some (1, 8, .nilFunc) := by kernel_rfl
@[go_sem] theorem szOf_98 : szOf Try.prog 98 = some 1 := by kernel_rfl
@[go_sem] theorem aggOf_98 : aggOf Try.prog 98 = some false := by kernel_rfl
@[go_sem] theorem tyS_99 : tyS Try.prog 99 = some (1, 8, .nilFunc) := by kernel_rfl
@[go_sem] theorem szOf_99 : szOf Try.prog 99 = some 1 := by kernel_rfl
@[go_sem] theorem aggOf_99 : aggOf Try.prog 99 = some false := by kernel_rfl
@[go_sem] theorem tyS_100 : tyS Try.prog 100 = some (1, 8, .nilFunc) := by kernel_rfl
@[go_sem] theorem szOf_100 : szOf Try.prog 100 = some 1 := by kernel_rfl
@[go_sem] theorem aggOf_100 : aggOf Try.prog 100 = some false := by kernel_rfl
@[go_sem] theorem tyS_101 : tyS Try.prog 101 = some (1, 8, .nilFunc) := by kernel_rfl
@[go_sem] theorem szOf_101 : szOf Try.prog 101 = some 1 := by kernel_rfl
@[go_sem] theorem aggOf_101 : aggOf Try.prog 101 = some false := by kernel_rfl
@[go_sem] theorem tyS_102 : tyS Try.prog 102 = some (1, 8, .nilFunc) := by kernel_rfl
@[go_sem] theorem szOf_102 : szOf Try.prog 102 = some 1 := by kernel_rfl
@[go_sem] theorem aggOf_102 : aggOf Try.prog 102 = some false := by kernel_rfl
@[go_sem] theorem tyS_103 : tyS Try.prog 103 = some (1, 8, .nilFunc) := by kernel_rfl
@[go_sem] theorem szOf_103 : szOf Try.prog 103 = some 1 := by kernel_rfl
@[go_sem] theorem aggOf_103 : aggOf Try.prog 103 = some false := by kernel_rfl
@[go_sem] theorem tyS_104 : tyS Try.prog 104 = some (1, 8, .nilFunc) := by kernel_rfl
@[go_sem] theorem szOf_104 : szOf Try.prog 104 = some 1 := by kernel_rfl
@[go_sem] theorem aggOf_104 : aggOf Try.prog 104 = some false := by kernel_rfl
@[go_sem] theorem tyS_105 : tyS Try.prog 105 = some (1, 8, .nilFunc) := by kernel_rfl
@[go_sem] theorem szOf_105 : szOf Try.prog 105 = some 1 := by kernel_rfl
@[go_sem] theorem aggOf_105 : aggOf Try.prog 105 = some false := by kernel_rfl
@[go_sem] theorem tyS_106 : tyS Try.prog 106 = some (1, 8, .nilFunc) := by kernel_rfl
@[go_sem] theorem szOf_106 : szOf Try.prog 106 = some 1 := by kernel_rfl
@[go_sem] theorem aggOf_106 : aggOf Try.prog 106 = some false := by kernel_rfl
@[go_sem] theorem tyS_107 : tyS Try.prog 107 = some (1, 8, .nilFunc) := by kernel_rfl
@[go_sem] theorem szOf_107 : szOf Try.prog 107 = some 1 := by kernel_rfl
@[go_sem] theorem aggOf_107 : aggOf Try.prog 107 = some false := by kernel_rfl
@[go_sem] theorem tyS_108 : tyS Try.prog 108 = some (1, 8, .nilFunc) := by kernel_rfl
@[go_sem] theorem szOf_108 : szOf Try.prog 108 = some 1 := by kernel_rfl
@[go_sem] theorem aggOf_108 : aggOf Try.prog 108 = some false := by kernel_rfl
@[go_sem] theorem tyS_109 : tyS Try.prog 109 = some (1, 8, .nilFunc) := by kernel_rfl
@[go_sem] theorem szOf_109 : szOf Try.prog 109 = some 1 := by kernel_rfl
@[go_sem] theorem aggOf_109 : aggOf Try.prog 109 = some false := by kernel_rfl
@[go_sem] theorem tyS_110 : tyS Try.prog 110 = some (1, 8, .nilFunc) := by kernel_rfl
@[go_sem] theorem szOf_110 : szOf Try.prog 110 = some 1 := by kernel_rfl
@[go_sem] theorem aggOf_110 : aggOf Try.prog 110 = some false := by kernel_rfl
@[go_sem] theorem tyS_111 : tyS Try.prog 111 = some (1, 8, .nilFunc) := by kernel_rfl
@[go_sem] theorem szOf_111 : szOf Try.prog 111 = some 1 := by kernel_rfl
@[go_sem] theorem aggOf_111 : aggOf Try.prog 111 = some false := by kernel_rfl
@[go_sem] theorem tyS_112 : tyS Try.prog 112 = some (1, 8, .nilFunc) := by kernel_rfl
@[go_sem] theorem szOf_112 : szOf Try.prog 112 = some 1 := by kernel_rfl
@[go_sem] theorem aggOf_112 : aggOf Try.prog 112 = some false := by kernel_rfl
@[go_sem] theorem tyS_113 : tyS Try.prog 113 = some (1, 8, .nilFunc) := by kernel_rfl
@[go_sem] theorem szOf_113 : szOf Try.prog 113 = some 1 := by kernel_rfl
@[go_sem] theorem aggOf_113 : aggOf Try.prog 113 = some false := by kernel_rfl
@[go_sem] theorem tyS_114 : tyS Try.prog 114 = some (1, 8, .nilFunc) := by kernel_rfl
@[go_sem] theorem szOf_114 : szOf Try.prog 114 = some 1 := by kernel_rfl
@[go_sem] theorem aggOf_114 : aggOf Try.prog 114 = some false := by kernel_rfl
@[go_sem] theorem tyS_115 : tyS Try.prog 115 = some (1, 8, .nilFunc) := by kernel_rfl
@[go_sem] theorem szOf_115 : szOf Try.prog 115 = some 1 := by kernel_rfl
@[go_sem] theorem aggOf_115 : aggOf Try.prog 115 = some false := by kernel_rfl
@[go_sem] theorem tyS_116 : tyS Try.prog 116 = some (1, 8, .nilFunc) := by kernel_rfl
@[go_sem] theorem szOf_116 : szOf Try.prog 116 = some 1 := by kernel_rfl
@[go_sem] theorem aggOf_116 : aggOf Try.prog 116 = some false := by kernel_rfl
@[go_sem] theorem tyS_117 : tyS Try.prog 117 = some (1, 8, .nilFunc) := by kernel_rfl
@[go_sem] theorem szOf_117 : szOf Try.prog 117 = some 1 := by kernel_rfl
@[go_sem] theorem aggOf_117 : aggOf Try.prog 117 = some false := by kernel_rfl
@[go_sem] theorem tyS_118 : tyS Try.prog 118 = some (1, 8, .nilFunc) := by kernel_rfl
@[go_sem] theorem szOf_118 : szOf Try.prog 118 = some 1 := by kernel_rfl
@[go_sem] theorem aggOf_118 : aggOf Try.prog 118 = some false := by kernel_rfl
@[go_sem] theorem tyS_119 : tyS Try.prog 119 = some (1, 8, .nilFunc) := by kernel_rfl
@[go_sem] theorem szOf_119 : szOf Try.prog 119 = some 1 := by kernel_rfl
@[go_sem] theorem aggOf_119 : aggOf Try.prog 119 = some false := by kernel_rfl
@[go_sem] theorem tyS_120 : tyS Try.prog 120 = some (1, 8, .nilFunc) := by kernel_rfl
@[go_sem] theorem szOf_120 : szOf Try.prog 120 = some 1 := by kernel_rfl
@[go_sem] theorem aggOf_120 : aggOf Try.prog 120 = some false := by kernel_rfl
@[go_sem] theorem tyS_121 : tyS Try.prog 121 = some (1, 8, .nilFunc) := by kernel_rfl
@[go_sem] theorem szOf_121 : szOf Try.prog 121 = some 1 := by kernel_rfl
@[go_sem] theorem aggOf_121 : aggOf Try.prog 121 = some false := by kernel_rfl
@[go_sem] theorem tyS_122 : tyS Try.prog 122 = some (1, 8, .nilFunc) := by kernel_rfl
@[go_sem] theorem szOf_122 : szOf Try.prog 122 = some 1 := by kernel_rfl
@[go_sem] theorem aggOf_122 : aggOf Try.prog 122 = some false := by kernel_rfl
@[go_sem] theorem tyS_123 : tyS Try.prog 123 = some (1, 8, .nilFunc) := by kernel_rfl
@[go_sem] theorem szOf_123 : szOf Try.prog 123 = some 1 := by kernel_rfl
@[go_sem] theorem aggOf_123 : aggOf Try.prog 123 = some false := by kernel_rfl
@[go_sem] theorem tyS_124 : tyS Try.prog 124 = some (1, 8, .nilFunc) := by kernel_rfl
@[go_sem] theorem szOf_124 : szOf Try.prog 124 = some 1 := by kernel_rfl
@[go_sem] theorem aggOf_124 : aggOf Try.prog 124 = some false := by kernel_rfl
@[go_sem] theorem tyS_125 : tyS Try.prog 125 = some (1, 8, .nilFunc) := by kernel_rfl
@[go_sem] theorem szOf_125 : szOf Try.prog 125 = some 1 := by kernel_rfl
@[go_sem] theorem aggOf_125 : aggOf Try.prog 125 = some false := by kernel_rfl
@[go_sem] theorem tyS_126 : tyS Try.prog 126 = some (1, 8, .int .u64 0) := by kernel_rfl
@[go_sem] theorem szOf_126 : szOf Try.prog 126 = some 1 := by kernel_rfl
@[go_sem] theorem aggOf_126 : aggOf Try.prog 126 = some false := by kernel_rfl
@[go_sem] theorem isStr_126 : isStr Try.prog 126 = false := by kernel_rfl
@[go_sem] theorem isU8_126 : isU8 Try.prog 126 = false := by kernel_rfl
@[go_sem] theorem tyS_127 : tyS Try.prog 127 = some (1, 8, .nilFunc) := by kernel_rfl
@[go_sem] theorem szOf_127 : szOf Try.prog 127 = some 1 := by kernel_rfl
@[go_sem] theorem aggOf_127 : aggOf Try.prog 127 = some false := by kernel_rfl
@[go_sem] theorem tyS_128 : tyS Try.prog 128 = some (1, 8, .nilFunc) := by kernel_rfl
@[go_sem] theorem szOf_128 : szOf Try.prog 128 = some 1 := by kernel_rfl
@[go_sem] theorem aggOf_128 : aggOf Try.prog 128 = some false := by kernel_rfl
@[go_sem] theorem tyS_129 : tyS Try.prog 129 = some (1, 8, .nilFunc) := by kernel_rfl
@[go_sem] theorem szOf_129 : szOf Try.prog 129 = some 1 := by kernel_rfl
@[go_sem] theorem aggOf_129 : aggOf Try.prog 129 = some false := by kernel_rfl
@[go_sem] theorem tyS_130 : tyS Try.prog 130 = some (1, 8, .nilFunc) := by kernel_rfl
@[go_sem] theorem szOf_130 : szOf Try.prog 130 = some 1 := by kernel_rfl
@[go_sem] theorem aggOf_130 : aggOf Try.prog 130 = some false := by kernel_rfl
@[go_sem] theorem tyS_131 : tyS Try.prog 131 = some (1, 8, .nilFunc) := by kernel_rfl
@[go_sem] theorem szOf_131 : szOf Try.prog 131 = some 1 := by kernel_rfl
@[go_sem] theorem aggOf_131 : aggOf Try.prog 131 = some false := by kernel_rfl
@[go_sem] theorem tyS_132 : tyS Try.prog 132 = some (1, 8, .nilFunc) := by kernel_rfl
@[go_sem] theorem szOf_132 : szOf Try.prog 132 = some 1 := by kernel_rfl
@[go_sem] theorem aggOf_132 : aggOf Try.prog 132 = some false := by kernel_rfl
@[go_sem] theorem tyS_133 : tyS Try.prog 133 = some (1, 8, .nilFunc) := by kernel_rfl
@[go_sem] theorem szOf_133 : szOf Try.prog 133 = some 1 := by kernel_rfl
@[go_sem] theorem aggOf_133 : aggOf Try.prog 133 = some false := by kernel_rfl
@[go_sem] theorem tyS_134 : tyS Try.prog 134 = some (1, 8, .nilFunc) := by kernel_rfl
@[go_sem] theorem szOf_134 : szOf Try.prog 134 = some 1 := by kernel_rfl
@[go_sem] theorem aggOf_134 : aggOf Try.prog 134 = some false := by kernel_rfl
@[go_sem] theorem tyS_135 : tyS Try.prog 135 = some (1, 8, .nilFunc) := by kernel_rfl
@[go_sem] theorem szOf_135 : szOf Try.prog 135 = some 1 := by kernel_rfl
@[go_sem] theorem aggOf_135 : aggOf Try.prog 135 = some false := by kernel_rfl
@[go_sem] theorem tyS_136 : tyS Try.prog 136 = some (1, 8, .nilFunc) := by kernel_rfl
@[go_sem] theorem szOf_136 : szOf Try.prog 136 = some 1 := by kernel_rfl
@[go_sem] theorem aggOf_136 : aggOf Try.prog 136 = some false := by kernel_rfl
@[go_sem] theorem tyS_137 : tyS Try.prog 137 = some (1, 8, .int .i64 0) := by kernel_rfl
@[go_sem] theorem szOf_137 : szOf Try.prog 137 = some 1 := by kernel_rfl
@[go_sem] theorem aggOf_137 : aggOf Try.prog 137 = some false := by kernel_rfl
@[go_sem] theorem isStr_137 : isStr Try.prog 137 = false := by kernel_rfl
@[go_sem] theorem isU8_137 : isU8 Try.prog 137 = false := by kernel_rfl
@[go_sem] theorem tyS_139 : tyS Try.prog 139 = some (1, 8, .nilFunc) := by kernel_rfl
@[go_sem] theorem szOf_139 : szOf Try.prog 139 = some 1 := by kernel_rfl
@[go_sem] theorem aggOf_139 : aggOf Try.prog 139 = some false := by kernel_rfl
@[go_sem] theorem tyS_140 : tyS Try.prog 140 = some (1, 8, .nilFunc) := by kernel_rfl
@[go_sem] theorem szOf_140 : szOf Try.prog 140 = some 1 := by kernel_rfl
@[go_sem] theorem aggOf_140 : aggOf Try.prog 140 = some false := by kernel_rfl
@[go_sem] theorem tyS_141 : tyS Try.prog 141 = some (1, 8, .nilFunc) := by kernel_rfl
@[go_sem] theorem szOf_141 : szOf Try.prog 141 = some 1 := by kernel_rfl
@[go_sem] theorem aggOf_141 : aggOf Try.prog 141 = some false := by kernel_rfl
@[go_sem] theorem tyS_142 : tyS Try.prog 142 = some (1, 8, .nilFunc) := by kernel_rfl
@[go_sem] theorem szOf_142 : szOf Try.prog 142 = some 1 := by kernel_rfl
@[go_sem] theorem aggOf_142 : aggOf Try.prog 142 = some false := by kernel_rfl
@[go_sem] theorem tyS_144 : tyS Try.prog 144 = some (1, 8, .nilFunc) := by kernel_rfl
@[go_sem] theorem szOf_144 : szOf Try.prog 144 = some 1 := by kernel_rfl
@[go_sem] theorem aggOf_144 : aggOf Try.prog 144 = some false := by kernel_rfl
@[go_sem] theorem tyS_145 : tyS Try.prog 145 = some (1, 8, .nilFunc) := by kernel_rfl
@[go_sem] theorem szOf_145 : szOf Try.prog 145 = some 1 := by kernel_rfl
@[go_sem] theorem aggOf_145 : aggOf Try.prog 145 = some false := by kernel_rfl
@[go_sem] theorem tyS_146 : tyS Try.prog 146 = some (1, 4, .int .u32 0) := by kernel_rfl
@[go_sem] theorem szOf_146 : szOf Try.prog 146 = some 1 := by kernel_rfl
@[go_sem] theorem aggOf_146 : aggOf Try.prog 146 = some false := by kernel_rfl
@[go_sem] theorem isStr_146 : isStr Try.prog 146 = false := by kernel_rfl
@[go_sem] theorem isU8_146 : isU8 Try.prog 146 = false := by kernel_rfl
@[go_sem] theorem tyS_147 : tyS Try.prog 147 = some (1, 8, .nilFunc) := by kernel_rfl
@[go_sem] theorem szOf_147 : szOf Try.prog 147 = some 1 := by kernel_rfl
@[go_sem] theorem aggOf_147 : aggOf Try.prog 147 = some false := by kernel_rfl
@[go_sem] theorem tyS_148 : tyS Try.prog 148 = some (1, 8, .int .u64 0) := by kernel_rfl
@[go_sem] theorem szOf_148 : szOf Try.prog 148 = some 1 := by kernel_rfl
@[go_sem] theorem aggOf_148 : aggOf Try.prog 148 = some false := by kernel_rfl
@[go_sem] theorem isStr_148 : isStr Try.prog 148 = false := by kernel_rfl
@[go_sem] theorem isU8_148 : isU8 Try.prog 148 = false := by kernel_rfl
@[go_sem] theorem tyS_149 : tyS Try.prog 149 = some (1, 8, .nilFunc) := by kernel_rfl
@[go_sem] theorem szOf_149 : szOf Try.prog 149 = some 1 := by kernel_rfl
@[go_sem] theorem aggOf_149 : aggOf Try.prog 149 = some false := by kernel_rfl
@[go_sem] theorem tyS_150 : tyS Try.prog 150 = some (1, 8, .nilFunc) := by kernel_rfl
@[go_sem] theorem szOf_150 : szOf Try.prog 150 = some 1 := by kernel_rfl
@[go_sem] theorem aggOf_150 : aggOf Try.prog 150 = some false := by kernel_rfl
@[go_sem] theorem tyS_151 : tyS Try.prog 151 = some (1, 8, .nilFunc) := by kernel_rfl
@[go_sem] theorem szOf_151 : szOf Try.prog 151 = some 1 := by kernel_rfl
@[go_sem] theorem aggOf_151 : aggOf Try.prog 151 = some false := by kernel_rfl
@[go_sem] theorem tyS_152 : tyS Try.prog 152 = some (1, 8, .nilFunc) := by kernel_rfl
@[go_sem] theorem szOf_152 : szOf Try.prog 152 = some 1 := by kernel_rfl
@[go_sem] theorem aggOf_152 : aggOf Try.prog 152 = some false := by kernel_rfl
@[go_sem] theorem tyS_153 : tyS Try.prog 153 = some (1, 8, .nilFunc) := by kernel_rfl
@[go_sem] theorem szOf_153 : szOf Try.prog 153 = some 1 := by kernel_rfl
@[go_sem] theorem aggOf_153 : aggOf Try.prog 153 = some false := by kernel_rfl
@[go_sem] theorem tyS_154 : tyS Try.prog 154 = some (1, 8, .nilFunc) := by kernel_rfl
@[go_sem] theorem szOf_154 : szOf Try.prog 154 = some 1 := by kernel_rfl
@[go_sem] theorem aggOf_154 : aggOf Try.prog 154 = some false := by kernel_rfl
@[go_sem] theorem tyS_155 : tyS Try.prog 155 = some (1, 8, .int .u64 0) := by kernel_rfl
@[go_sem] theorem szOf_155 : szOf Try.prog 155 = some 1 := by kernel_rfl
@[go_sem] theorem aggOf_155 : aggOf Try.prog 155 = some false := by kernel_rfl
@[go_sem] theorem isStr_155 : isStr Try.prog 155 = false := by kernel_rfl
@[go_sem] theorem isU8_155 : isU8 Try.prog 155 = false := by kernel_rfl
@[go_sem] theorem tyS_156 : tyS Try.prog 156 = some (1, 8, .nilFunc) := by kernel_rfl
@[go_sem] theorem szOf_156 : szOf Try.prog 156 = some 1 := by kernel_rfl
@[go_sem] theorem aggOf_156 : aggOf Try.prog 156 = some false := by kernel_rfl
@[go_sem] theorem tyS_157 : tyS Try.prog 157 = some (1, 8, .nilFunc) := by kernel_rfl
@[go_sem] theorem szOf_157 : szOf Try.prog 157 = some 1 := by kernel_rfl
@[go_sem] theorem aggOf_157 : aggOf Try.prog 157 = some false := by kernel_rfl
@[go_sem] theorem tyS_158 : tyS Try.prog 158 = some (1, 8, .nilFunc) := by kernel_rfl
@[go_sem] theorem szOf_158 : szOf Try.prog 158 = some 1 := by kernel_rfl
@[go_sem] theorem aggOf_158 : aggOf Try.prog 158 = some false := by kernel_rfl
@[go_sem] theorem tyS_159 : tyS Try.prog 159 = some (1, 8, .pointer none) := by kernel_rfl
@[go_sem] theorem szOf_159 : szOf Try.prog 159 = some 1 := by kernel_rfl
@[go_sem] theorem aggOf_159 : aggOf Try.prog 159 = some false := by kernel_rfl
@[go_sem] theorem tyS_160 : tyS Try.prog 160 = some (1, 8, .nilFunc) := by kernel_rfl
@[go_sem] theorem szOf_160 : szOf Try.prog 160 = some 1 := by kernel_rfl
@[go_sem] theorem aggOf_160 : aggOf Try.prog 160 = some false := by kernel_rfl
@[go_sem] theorem tyS_161 : tyS Try.prog 161 = some (1, 8, .nilFunc) := by kernel_rfl
@[go_sem] theorem szOf_161 : szOf Try.prog 161 = some 1 := by kernel_rfl
@[go_sem] theorem aggOf_161 : aggOf Try.prog 161 = some false := by kernel_rfl
@[go_sem] theorem tyS_162 : tyS Try.prog 162 = some (1, 8, .nilFunc) := by kernel_rfl
@[go_sem] theorem szOf_162 : szOf Try.prog 162 = some 1 := by kernel_rfl
@[go_sem] theorem aggOf_162 : aggOf Try.prog 162 = some false := by kernel_rfl
@[go_sem] theorem tyS_163 : tyS Try.prog 163 = some (1, 8, .nilFunc) := by kernel_rfl
@[go_sem] theorem szOf_163 : szOf Try.prog 163 = some 1 := by kernel_rfl
@[go_sem] theorem aggOf_163 : aggOf Try.prog 163 = some false := by kernel_rfl
@[go_sem] theorem tyS_164 : tyS Try.prog 164 = some (1, 8, .pointer none) := by kernel_rfl
@[go_sem] theorem szOf_164 : szOf Try.prog 164 = some 1 := by kernel_rfl
@[go_sem] theorem aggOf_164 : aggOf Try.prog 164 = some false := by kernel_rfl
@[go_sem] theorem tyS_166 : tyS Try.prog 166 = some (1, 8, .nilFunc) := by kernel_rfl
@[go_sem] theorem szOf_166 : szOf Try.prog 166 = some 1 := by kernel_rfl
@[go_sem] theorem aggOf_166 : aggOf Try.prog 166 = some false := by kernel_rfl
@[go_sem] theorem tyS_167 : tyS Try.prog 167 = some (1, 8, .nilFunc) := by kernel_rfl
@[go_sem] theorem szOf_167 : szOf Try.prog 167 = some 1 := by kernel_rfl
@[go_sem] theorem aggOf_167 : aggOf Try.prog 167 = some false := by kernel_rfl
@[go_sem] theorem tyS_168 : tyS Try.prog 168 = some (1, 8, .nilFunc) := by kernel_rfl
@[go_sem] theorem szOf_168 : szOf Try.prog 168 = some 1 := by kernel_rfl
@[go_sem] theorem aggOf_168 : aggOf Try.prog 168 = some false := by kernel_rfl
@[go_sem] theorem tyS_169 : tyS Try.prog 169 = some (4, 40, .agg #[.pointer none, .pointer none, .pointer none, .string ⟨#[]⟩]) := by kernel_rfl
@[go_sem] theorem szOf_169 : szOf Try.prog 169 = some 4 := by kernel_rfl
@[go_sem] theorem aggOf_169 : aggOf Try.prog 169 = some true := by kernel_rfl
@[go_sem] theorem placesOf_169 : placesOf Try.prog 169 = some [(0, 1), (1, 1), (2, 1), (3, 1)] := by kernel_rfl
@[go_sem] theorem fldOf_169_0 : fldOf Try.prog 169 0 = some (0, 17) := by kernel_rfl
@[go_sem] theorem fldOf_169_1 : fldOf Try.prog 169 1 = some (1, 17) := by kernel_rfl
@[go_sem] theorem fldOf_169_2 : fldOf Try.prog 169 2 = some (2, 17) := by kernel_rfl
@[go_sem] theorem fldOf_169_3 : fldOf Try.prog 169 3 = some (3, 9) := by kernel_rfl
@[go_sem] theorem tyS_170 : tyS Try.prog 170 = some (4, 40, .agg #[.pointer none, .pointer none, .pointer none, .string ⟨#[]⟩]) := by kernel_rfl
@[go_sem] theorem szOf_170 : szOf Try.prog 170 = some 4 := by kernel_rfl
@[go_sem] theorem aggOf_170 : aggOf Try.prog 170 = some true := by kernel_rfl
@[go_sem] theorem placesOf_170 : placesOf Try.prog 170 = some [(0, 1), (1, 1), (2, 1), (3, 1)] := by kernel_rfl
@[go_sem] theorem fldOf_170_0 : fldOf Try.prog 170 0 = some (0, 17) := by kernel_rfl
@[go_sem] theorem fldOf_170_1 : fldOf Try.prog 170 1 = some (1, 17) := by kernel_rfl
@[go_sem] theorem fldOf_170_2 : fldOf Try.prog 170 2 = some (2, 17) := by kernel_rfl
@[go_sem] theorem fldOf_170_3 : fldOf Try.prog 170 3 = some (3, 9) := by kernel_rfl
@[go_sem] theorem tyS_171 : tyS Try.prog 171 = some (0, 0, .agg #[]) := by kernel_rfl
@[go_sem] theorem szOf_171 : szOf Try.prog 171 = some 0 := by kernel_rfl
@[go_sem] theorem aggOf_171 : aggOf Try.prog 171 = some true := by kernel_rfl
@[go_sem] theorem tyS_172 : tyS Try.prog 172 = some (0, 0, .agg #[]) := by kernel_rfl
@[go_sem] theorem szOf_172 : szOf Try.prog 172 = some 0 := by kernel_rfl
@[go_sem] theorem aggOf_172 : aggOf Try.prog 172 = some true := by kernel_rfl
@[go_sem] theorem placesOf_172 : placesOf Try.prog 172 = some [(0, 0)] := by kernel_rfl
@[go_sem] theorem fldOf_172_0 : fldOf Try.prog 172 0 = some (0, 171) := by kernel_rfl
@[go_sem] theorem tyS_173 : tyS Try.prog 173 = some (0, 0, .agg #[]) := by kernel_rfl
@[go_sem] theorem szOf_173 : szOf Try.prog 173 = some 0 := by kernel_rfl
@[go_sem] theorem aggOf_173 : aggOf Try.prog 173 = some true := by kernel_rfl
@[go_sem] theorem placesOf_173 : placesOf Try.prog 173 = some [(0, 0)] := by kernel_rfl
@[go_sem] theorem fldOf_173_0 : fldOf Try.prog 173 0 = some (0, 171) := by kernel_rfl
@[go_sem] theorem tyS_174 : tyS Try.prog 174 = some (1, 8, .nilFunc) := by kernel_rfl
@[go_sem] theorem szOf_174 : szOf Try.prog 174 = some 1 := by kernel_rfl
@[go_sem] theorem aggOf_174 : aggOf Try.prog 174 = some false := by kernel_rfl
@[go_sem] theorem tyS_175 : tyS Try.prog 175 = some (1, 1, .int .u8 0) := by kernel_rfl
@[go_sem] theorem szOf_175 : szOf Try.prog 175 = some 1 := by kernel_rfl
@[go_sem] theorem aggOf_175 : aggOf Try.prog 175 = some false := by kernel_rfl
@[go_sem] theorem isStr_175 : isStr Try.prog 175 = false := by kernel_rfl
@[go_sem] theorem isU8_175 : isU8 Try.prog 175 = false := by kernel_rfl
@[go_sem] theorem tyS_176 : tyS Try.prog 176 = some (1, 1, .int .u8 0) := by kernel_rfl
@[go_sem] theorem szOf_176 : szOf Try.prog 176 = some 1 := by kernel_rfl
@[go_sem] theorem aggOf_176 : aggOf Try.prog 176 = some false := by kernel_rfl
@[go_sem] theorem isStr_176 : isStr Try.prog 176 = false := by kernel_rfl
@[go_sem] theorem isU8_176 : isU8 Try.prog 176 = false := by kernel_rfl
@[go_sem] theorem tyS_177 : tyS Try.prog 177 = some (1, 8, .nilFunc) := by kernel_rfl
@[go_sem] theorem szOf_177 : szOf Try.prog 177 = some 1 := by kernel_rfl
@[go_sem] theorem aggOf_177 : aggOf Try.prog 177 = some false := by kernel_rfl
@[go_sem] theorem tyS_178 : tyS Try.prog 178 = some (1, 8, .pointer none) := by kernel_rfl
@[go_sem] theorem szOf_178 : szOf Try.prog 178 = some 1 := by kernel_rfl
@[go_sem] theorem aggOf_178 : aggOf Try.prog 178 = some false := by kernel_rfl
@[go_sem] theorem tyS_179 : tyS Try.prog 179 = some (1, 4, .int .i32 0) := by kernel_rfl
@[go_sem] theorem szOf_179 : szOf Try.prog 179 = some 1 := by kernel_rfl
@[go_sem] theorem aggOf_179 : aggOf Try.prog 179 = some false := by kernel_rfl
@[go_sem] theorem isStr_179 : isStr Try.prog 179 = false := by kernel_rfl
@[go_sem] theorem isU8_179 : isU8 Try.prog 179 = false := by kernel_rfl
@[go_sem] theorem tyS_180 : tyS Try.prog 180 = some (1, 4, .int .i32 0) := by kernel_rfl
@[go_sem] theorem szOf_180 : szOf Try.prog 180 = some 1 := by kernel_rfl
@[go_sem] theorem aggOf_180 : aggOf Try.prog 180 = some false := by kernel_rfl
@[go_sem] theorem isStr_180 : isStr Try.prog 180 = false := by kernel_rfl
@[go_sem] theorem isU8_180 : isU8 Try.prog 180 = false := by kernel_rfl
@[go_sem] theorem tyS_181 : tyS Try.prog 181 = some (11, 48, .agg #[.int .u64 0, .int .u64 0, .int .u32 0, .int .u8 0, .int .u8 0, .int .u8 0, .int .u8 0, .nilFunc, .pointer none, .int .i32 0, .int .i32 0]) := by kernel_rfl
@[go_sem] theorem szOf_181 : szOf Try.prog 181 = some 11 := by kernel_rfl
@[go_sem] theorem aggOf_181 : aggOf Try.prog 181 = some true := by kernel_rfl
@[go_sem] theorem placesOf_181 : placesOf Try.prog 181 = some [(0, 1), (1, 1), (2, 1), (3, 1), (4, 1), (5, 1), (6, 1), (7, 1), (8, 1), (9, 1), (10, 1)] := by kernel_rfl
@[go_sem] theorem fldOf_181_0 : fldOf Try.prog 181 0 = some (0, 12) := by kernel_rfl
@[go_sem] theorem fldOf_181_1 : fldOf Try.prog 181 1 = some (1, 12) := by kernel_rfl
@[go_sem] theorem fldOf_181_2 : fldOf Try.prog 181 2 = some (2, 146) := by kernel_rfl
@[go_sem] theorem fldOf_181_3 : fldOf Try.prog 181 3 = some (3, 175) := by kernel_rfl
@[go_sem] theorem fldOf_181_4 : fldOf Try.prog 181 4 = some (4, 5) := by kernel_rfl
@[go_sem] theorem fldOf_181_5 : fldOf Try.prog 181 5 = some (5, 5) := by kernel_rfl
@[go_sem] theorem fldOf_181_6 : fldOf Try.prog 181 6 = some (6, 176) := by kernel_rfl
@[go_sem] theorem fldOf_181_7 : fldOf Try.prog 181 7 = some (7, 177) := by kernel_rfl
@[go_sem] theorem fldOf_181_8 : fldOf Try.prog 181 8 = some (8, 178) := by kernel_rfl
@[go_sem] theorem fldOf_181_9 : fldOf Try.prog 181 9 = some (9, 179) := by kernel_rfl
@[go_sem] theorem fldOf_181_10 : fldOf Try.prog 181 10 = some (10, 180) := by kernel_rfl
@[go_sem] theorem tyS_182 : tyS Try.prog 182 = some (11, 48, .agg #[.int .u64 0, .int .u64 0, .int .u32 0, .int .u8 0, .int .u8 0, .int .u8 0, .int .u8 0, .nilFunc, .pointer none, .int .i32 0, .int .i32 0]) := by kernel_rfl
@[go_sem] theorem szOf_182 : szOf Try.prog 182 = some 11 := by kernel_rfl
@[go_sem] theorem aggOf_182 : aggOf Try.prog 182 = some true := by kernel_rfl
@[go_sem] theorem placesOf_182 : placesOf Try.prog 182 = some [(0, 1), (1, 1), (2, 1), (3, 1), (4, 1), (5, 1), (6, 1), (7, 1), (8, 1), (9, 1), (10, 1)] := by kernel_rfl
@[go_sem] theorem fldOf_182_0 : fldOf Try.prog 182 0 = some (0, 12) := by kernel_rfl
@[go_sem] theorem fldOf_182_1 : fldOf Try.prog 182 1 = some (1, 12) := by kernel_rfl
@[go_sem] theorem fldOf_182_2 : fldOf Try.prog 182 2 = some (2, 146) := by kernel_rfl
@[go_sem] theorem fldOf_182_3 : fldOf Try.prog 182 3 = some (3, 175) := by kernel_rfl
@[go_sem] theorem fldOf_182_4 : fldOf Try.prog 182 4 = some (4, 5) := by kernel_rfl
@[go_sem] theorem fldOf_182_5 : fldOf Try.prog 182 5 = some (5, 5) := by kernel_rfl
@[go_sem] theorem fldOf_182_6 : fldOf Try.prog 182 6 = some (6, 176) := by kernel_rfl
@[go_sem] theorem fldOf_182_7 : fldOf Try.prog 182 7 = some (7, 177) := by kernel_rfl
@[go_sem] theorem fldOf_182_8 : fldOf Try.prog 182 8 = some (8, 178) := by kernel_rfl
@[go_sem] theorem fldOf_182_9 : fldOf Try.prog 182 9 = some (9, 179) := by kernel_rfl
@[go_sem] theorem fldOf_182_10 : fldOf Try.prog 182 10 = some (10, 180) := by kernel_rfl
@[go_sem] theorem tyS_183 : tyS Try.prog 183 = some (2, 24, .agg #[.string ⟨#[]⟩, .int .i64 0]) := by kernel_rfl
@[go_sem] theorem szOf_183 : szOf Try.prog 183 = some 2 := by kernel_rfl
@[go_sem] theorem aggOf_183 : aggOf Try.prog 183 = some true := by kernel_rfl
@[go_sem] theorem placesOf_183 : placesOf Try.prog 183 = some [(0, 1), (1, 1)] := by kernel_rfl
@[go_sem] theorem fldOf_183_0 : fldOf Try.prog 183 0 = some (0, 9) := by kernel_rfl
@[go_sem] theorem fldOf_183_1 : fldOf Try.prog 183 1 = some (1, 3) := by kernel_rfl
@[go_sem] theorem tyS_184 : tyS Try.prog 184 = some (2, 24, .agg #[.string ⟨#[]⟩, .int .i64 0]) := by kernel_rfl
@[go_sem] theorem szOf_184 : szOf Try.prog 184 = some 2 := by kernel_rfl
@[go_sem] theorem aggOf_184 : aggOf Try.prog 184 = some true := by kernel_rfl
@[go_sem] theorem placesOf_184 : placesOf Try.prog 184 = some [(0, 1), (1, 1)] := by kernel_rfl
@[go_sem] theorem fldOf_184_0 : fldOf Try.prog 184 0 = some (0, 9) := by kernel_rfl
@[go_sem] theorem fldOf_184_1 : fldOf Try.prog 184 1 = some (1, 3) := by kernel_rfl
@[go_sem] theorem tyS_185 : tyS Try.prog 185 = some (1, 8, .pointer none) := by kernel_rfl
@[go_sem] theorem szOf_185 : szOf Try.prog 185 = some 1 := by kernel_rfl
@[go_sem] theorem aggOf_185 : aggOf Try.prog 185 = some false := by kernel_rfl
end Go.Proofs.Ytpgnhajindbhlaa.Ty
