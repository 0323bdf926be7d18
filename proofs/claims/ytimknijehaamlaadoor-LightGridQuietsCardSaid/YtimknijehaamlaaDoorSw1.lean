/-
  The types of this translation, as a table that the kernel holds against the program.
-/
import Derived.Test.YtimknijehaamlaaDoorRows
import Derived.Test.YtimknijehaamlaaDoorAh3
import Derived.Lib.TrailingZeros
import Derived.Test.YtimknijehaamlaaDoorAh5
import Derived.RangeFuncLeaves
import Derived.OwnWalkIn
import Derived.TacticsInMore
import Derived.LoopNIn
import Derived.LoopIn
set_option linter.unusedSimpArgs false
set_option linter.unusedVariables false
namespace Go.Proofs.YtimknijehaamlaaDoor
open Go.AH
set_option maxRecDepth 100000

def tt : Nat → Option TI
  | 1 => some ⟨.func, 1, 8, [.nilfn], false⟩
  | 2 => some ⟨.int .i64, 1, 8, [.int .i64 0], false⟩
  | 3 => some ⟨.int .i64, 1, 8, [.int .i64 0], false⟩
  | 4 => some ⟨.bool, 1, 1, [.bool false], false⟩
  | 5 => some ⟨.int .u8, 1, 1, [.int .u8 0], false⟩
  | 6 => some ⟨.int .u8, 1, 1, [.int .u8 0], false⟩
  | 7 => some ⟨.struct [(0, 2), (1, 3), (2, 4), (3, 6)], 4, 24, [.int .i64 0, .int .i64 0, .bool false, .int .u8 0], false⟩
  | 8 => some ⟨.struct [(0, 2), (1, 3), (2, 4), (3, 6)], 4, 24, [.int .i64 0, .int .i64 0, .bool false, .int .u8 0], false⟩
  | 9 => some ⟨.str, 1, 16, [.str ByteArray.empty], false⟩
  | 10 => some ⟨.str, 1, 16, [.str ByteArray.empty], false⟩
  | 11 => some ⟨.str, 1, 16, [.str ByteArray.empty], false⟩
  | 12 => some ⟨.int .u64, 1, 8, [.int .u64 0], false⟩
  | 13 => some ⟨.struct [(0, 9), (1, 12)], 2, 24, [.str ByteArray.empty, .int .u64 0], false⟩
  | 14 => some ⟨.struct [(0, 9), (1, 12)], 2, 24, [.str ByteArray.empty, .int .u64 0], false⟩
  | 15 => some ⟨.ptr, 1, 8, [.nilp], false⟩
  | 16 => some ⟨.ptr, 1, 8, [.nilp], false⟩
  | 17 => some ⟨.ptr, 1, 8, [.nilp], false⟩
  | 18 => some ⟨.struct [(0, 17)], 1, 8, [.nilp], false⟩
  | 19 => some ⟨.struct [(0, 17)], 1, 8, [.nilp], false⟩
  | 21 => some ⟨.int .i32, 1, 4, [.int .i32 0], false⟩
  | 22 => some ⟨.slice 38, 1, 24, [.nils], false⟩
  | 24 => some ⟨.func, 1, 8, [.nilfn], false⟩
  | 25 => some ⟨.slice 3, 1, 24, [.nils], false⟩
  | 26 => some ⟨.int .i64, 1, 8, [.int .i64 0], false⟩
  | 28 => some ⟨.func, 1, 8, [.nilfn], false⟩
  | 29 => some ⟨.func, 1, 8, [.nilfn], false⟩
  | 30 => some ⟨.func, 1, 8, [.nilfn], false⟩
  | 31 => some ⟨.func, 1, 8, [.nilfn], false⟩
  | 32 => some ⟨.func, 1, 8, [.nilfn], false⟩
  | 33 => some ⟨.func, 1, 8, [.nilfn], false⟩
  | 35 => some ⟨.func, 1, 8, [.nilfn], false⟩
  | 36 => some ⟨.func, 1, 8, [.nilfn], false⟩
  | 37 => some ⟨.func, 1, 8, [.nilfn], false⟩
  | 38 => some ⟨.arr 2 3, 2, 16, [.int .i64 0, .int .i64 0], true⟩
  | 39 => some ⟨.int .u64, 1, 8, [.int .u64 0], false⟩
  | 40 => some ⟨.func, 1, 8, [.nilfn], false⟩
  | 42 => some ⟨.func, 1, 8, [.nilfn], false⟩
  | 43 => some ⟨.func, 1, 8, [.nilfn], false⟩
  | 44 => some ⟨.func, 1, 8, [.nilfn], false⟩
  | 45 => some ⟨.func, 1, 8, [.nilfn], false⟩
  | 46 => some ⟨.func, 1, 8, [.nilfn], false⟩
  | 47 => some ⟨.func, 1, 8, [.nilfn], false⟩
  | 49 => some ⟨.func, 1, 8, [.nilfn], false⟩
  | 50 => some ⟨.func, 1, 8, [.nilfn], false⟩
  | 51 => some ⟨.func, 1, 8, [.nilfn], false⟩
  | 52 => some ⟨.func, 1, 8, [.nilfn], false⟩
  | 53 => some ⟨.func, 1, 8, [.nilfn], false⟩
  | 54 => some ⟨.func, 1, 8, [.nilfn], false⟩
  | 55 => some ⟨.func, 1, 8, [.nilfn], false⟩
  | 57 => some ⟨.func, 1, 8, [.nilfn], false⟩
  | 58 => some ⟨.func, 1, 8, [.nilfn], false⟩
  | 59 => some ⟨.func, 1, 8, [.nilfn], false⟩
  | 60 => some ⟨.func, 1, 8, [.nilfn], false⟩
  | 62 => some ⟨.func, 1, 8, [.nilfn], false⟩
  | 63 => some ⟨.func, 1, 8, [.nilfn], false⟩
  | 64 => some ⟨.func, 1, 8, [.nilfn], false⟩
  | 66 => some ⟨.func, 1, 8, [.nilfn], false⟩
  | 68 => some ⟨.func, 1, 8, [.nilfn], false⟩
  | 69 => some ⟨.func, 1, 8, [.nilfn], false⟩
  | 70 => some ⟨.func, 1, 8, [.nilfn], false⟩
  | 71 => some ⟨.arr 256 4, 256, 256, List.replicate 256 (.bool false), false⟩
  | 72 => some ⟨.ptr, 1, 8, [.nilp], false⟩
  | 74 => some ⟨.func, 1, 8, [.nilfn], false⟩
  | 75 => some ⟨.slice 93, 1, 24, [.nils], false⟩
  | 77 => some ⟨.func, 1, 8, [.nilfn], false⟩
  | 78 => some ⟨.slice 4, 1, 24, [.nils], false⟩
  | 79 => some ⟨.slice 4, 1, 24, [.nils], false⟩
  | 80 => some ⟨.func, 1, 8, [.nilfn], false⟩
  | 81 => some ⟨.func, 1, 8, [.nilfn], false⟩
  | 82 => some ⟨.slice 83, 1, 24, [.nils], false⟩
  | 83 => some ⟨.int .u64, 1, 8, [.int .u64 0], false⟩
  | 85 => some ⟨.func, 1, 8, [.nilfn], false⟩
  | 87 => some ⟨.func, 1, 8, [.nilfn], false⟩
  | 88 => some ⟨.arr 16 3, 16, 128, List.replicate 16 (.int .i64 0), false⟩
  | 89 => some ⟨.struct [(0, 3), (1, 88)], 17, 136, List.replicate 17 (.int .i64 0), false⟩
  | 90 => some ⟨.struct [(0, 3), (1, 88)], 17, 136, List.replicate 17 (.int .i64 0), false⟩
  | 91 => some ⟨.func, 1, 8, [.nilfn], false⟩
  | 92 => some ⟨.struct [(0, 3), (1, 3)], 2, 16, [.int .i64 0, .int .i64 0], false⟩
  | 93 => some ⟨.struct [(0, 3), (1, 3)], 2, 16, [.int .i64 0, .int .i64 0], true⟩
  | 94 => some ⟨.func, 1, 8, [.nilfn], false⟩
  | 95 => some ⟨.func, 1, 8, [.nilfn], false⟩
  | 96 => some ⟨.func, 1, 8, [.nilfn], false⟩
  | 97 => some ⟨.func, 1, 8, [.nilfn], false⟩
  | 98 => some ⟨.func, 1, 8, [.nilfn], false⟩
  | 99 => some ⟨.func, 1, 8, [.nilfn], false⟩
  | 100 => some ⟨.func, 1, 8, [.nilfn], false⟩
  | 101 => some ⟨.func, 1, 8, [.nilfn], false⟩
  | 102 => some ⟨.func, 1, 8, [.nilfn], false⟩
  | 103 => some ⟨.func, 1, 8, [.nilfn], false⟩
  | 104 => some ⟨.func, 1, 8, [.nilfn], false⟩
  | 105 => some ⟨.func, 1, 8, [.nilfn], false⟩
  | 106 => some ⟨.int .u32, 1, 4, [.int .u32 0], false⟩
  | 107 => some ⟨.func, 1, 8, [.nilfn], false⟩
  | 108 => some ⟨.func, 1, 8, [.nilfn], false⟩
  | 109 => some ⟨.func, 1, 8, [.nilfn], false⟩
  | 110 => some ⟨.func, 1, 8, [.nilfn], false⟩
  | 111 => some ⟨.func, 1, 8, [.nilfn], false⟩
  | 112 => some ⟨.func, 1, 8, [.nilfn], false⟩
  | 113 => some ⟨.func, 1, 8, [.nilfn], false⟩
  | 114 => some ⟨.int .i64, 1, 8, [.int .i64 0], false⟩
  | 116 => some ⟨.func, 1, 8, [.nilfn], false⟩
  | 117 => some ⟨.func, 1, 8, [.nilfn], false⟩
  | 118 => some ⟨.func, 1, 8, [.nilfn], false⟩
  | 119 => some ⟨.func, 1, 8, [.nilfn], false⟩
  | 120 => some ⟨.func, 1, 8, [.nilfn], false⟩
  | 121 => some ⟨.func, 1, 8, [.nilfn], false⟩
  | 122 => some ⟨.func, 1, 8, [.nilfn], false⟩
  | 123 => some ⟨.func, 1, 8, [.nilfn], false⟩
  | 124 => some ⟨.func, 1, 8, [.nilfn], false⟩
  | 125 => some ⟨.int .u64, 1, 8, [.int .u64 0], false⟩
  | 126 => some ⟨.func, 1, 8, [.nilfn], false⟩
  | 127 => some ⟨.func, 1, 8, [.nilfn], false⟩
  | 128 => some ⟨.func, 1, 8, [.nilfn], false⟩
  | 129 => some ⟨.ptr, 1, 8, [.nilp], false⟩
  | 130 => some ⟨.func, 1, 8, [.nilfn], false⟩
  | 131 => some ⟨.func, 1, 8, [.nilfn], false⟩
  | 132 => some ⟨.func, 1, 8, [.nilfn], false⟩
  | 133 => some ⟨.arr 32 5, 32, 32, List.replicate 32 (.int .u8 0), false⟩
  | 134 => some ⟨.arr 64 5, 64, 64, List.replicate 64 (.int .u8 0), false⟩
  | 135 => some ⟨.ptr, 1, 8, [.nilp], false⟩
  | 136 => some ⟨.func, 1, 8, [.nilfn], false⟩
  | 137 => some ⟨.func, 1, 8, [.nilfn], false⟩
  | 138 => some ⟨.func, 1, 8, [.nilfn], false⟩
  | 139 => some ⟨.struct [(0, 17), (1, 17), (2, 17), (3, 9)], 4, 40, [.nilp, .nilp, .nilp, .str ByteArray.empty], false⟩
  | 140 => some ⟨.struct [(0, 17), (1, 17), (2, 17), (3, 9)], 4, 40, [.nilp, .nilp, .nilp, .str ByteArray.empty], false⟩
  | 141 => some ⟨.arr 0 16, 0, 0, [], false⟩
  | 142 => some ⟨.struct [(0, 141)], 0, 0, [], false⟩
  | 143 => some ⟨.struct [(0, 141)], 0, 0, [], false⟩
  | 144 => some ⟨.func, 1, 8, [.nilfn], false⟩
  | 145 => some ⟨.int .u8, 1, 1, [.int .u8 0], false⟩
  | 146 => some ⟨.int .u8, 1, 1, [.int .u8 0], false⟩
  | 147 => some ⟨.func, 1, 8, [.nilfn], false⟩
  | 148 => some ⟨.ptr, 1, 8, [.nilp], false⟩
  | 149 => some ⟨.int .i32, 1, 4, [.int .i32 0], false⟩
  | 150 => some ⟨.int .i32, 1, 4, [.int .i32 0], false⟩
  | 151 => some ⟨.struct [(0, 12), (1, 12), (2, 106), (3, 145), (4, 5), (5, 5), (6, 146), (7, 147), (8, 148), (9, 149), (10, 150)], 11, 48, [.int .u64 0, .int .u64 0, .int .u32 0, .int .u8 0, .int .u8 0, .int .u8 0, .int .u8 0, .nilfn, .nilp, .int .i32 0, .int .i32 0], false⟩
  | 152 => some ⟨.struct [(0, 12), (1, 12), (2, 106), (3, 145), (4, 5), (5, 5), (6, 146), (7, 147), (8, 148), (9, 149), (10, 150)], 11, 48, [.int .u64 0, .int .u64 0, .int .u32 0, .int .u8 0, .int .u8 0, .int .u8 0, .int .u8 0, .nilfn, .nilp, .int .i32 0, .int .i32 0], false⟩
  | _ => none

theorem tt_1 : tt 1 = some ⟨.func, 1, 8, [.nilfn], false⟩ := rfl
theorem tt_2 : tt 2 = some ⟨.int .i64, 1, 8, [.int .i64 0], false⟩ := rfl
theorem tt_3 : tt 3 = some ⟨.int .i64, 1, 8, [.int .i64 0], false⟩ := rfl
theorem tt_4 : tt 4 = some ⟨.bool, 1, 1, [.bool false], false⟩ := rfl
theorem tt_5 : tt 5 = some ⟨.int .u8, 1, 1, [.int .u8 0], false⟩ := rfl
theorem tt_6 : tt 6 = some ⟨.int .u8, 1, 1, [.int .u8 0], false⟩ := rfl
theorem tt_7 : tt 7 = some ⟨.struct [(0, 2), (1, 3), (2, 4), (3, 6)], 4, 24, [.int .i64 0, .int .i64 0, .bool false, .int .u8 0], false⟩ := rfl
theorem tt_8 : tt 8 = some ⟨.struct [(0, 2), (1, 3), (2, 4), (3, 6)], 4, 24, [.int .i64 0, .int .i64 0, .bool false, .int .u8 0], false⟩ := rfl
theorem tt_9 : tt 9 = some ⟨.str, 1, 16, [.str ByteArray.empty], false⟩ := rfl
theorem tt_10 : tt 10 = some ⟨.str, 1, 16, [.str ByteArray.empty], false⟩ := rfl
theorem tt_11 : tt 11 = some ⟨.str, 1, 16, [.str ByteArray.empty], false⟩ := rfl
theorem tt_12 : tt 12 = some ⟨.int .u64, 1, 8, [.int .u64 0], false⟩ := rfl
theorem tt_13 : tt 13 = some ⟨.struct [(0, 9), (1, 12)], 2, 24, [.str ByteArray.empty, .int .u64 0], false⟩ := rfl
theorem tt_14 : tt 14 = some ⟨.struct [(0, 9), (1, 12)], 2, 24, [.str ByteArray.empty, .int .u64 0], false⟩ := rfl
theorem tt_15 : tt 15 = some ⟨.ptr, 1, 8, [.nilp], false⟩ := rfl
theorem tt_16 : tt 16 = some ⟨.ptr, 1, 8, [.nilp], false⟩ := rfl
theorem tt_17 : tt 17 = some ⟨.ptr, 1, 8, [.nilp], false⟩ := rfl
theorem tt_18 : tt 18 = some ⟨.struct [(0, 17)], 1, 8, [.nilp], false⟩ := rfl
theorem tt_19 : tt 19 = some ⟨.struct [(0, 17)], 1, 8, [.nilp], false⟩ := rfl
theorem tt_21 : tt 21 = some ⟨.int .i32, 1, 4, [.int .i32 0], false⟩ := rfl
theorem tt_22 : tt 22 = some ⟨.slice 38, 1, 24, [.nils], false⟩ := rfl
theorem tt_24 : tt 24 = some ⟨.func, 1, 8, [.nilfn], false⟩ := rfl
theorem tt_25 : tt 25 = some ⟨.slice 3, 1, 24, [.nils], false⟩ := rfl
theorem tt_26 : tt 26 = some ⟨.int .i64, 1, 8, [.int .i64 0], false⟩ := rfl
theorem tt_28 : tt 28 = some ⟨.func, 1, 8, [.nilfn], false⟩ := rfl
theorem tt_29 : tt 29 = some ⟨.func, 1, 8, [.nilfn], false⟩ := rfl
theorem tt_30 : tt 30 = some ⟨.func, 1, 8, [.nilfn], false⟩ := rfl
theorem tt_31 : tt 31 = some ⟨.func, 1, 8, [.nilfn], false⟩ := rfl
theorem tt_32 : tt 32 = some ⟨.func, 1, 8, [.nilfn], false⟩ := rfl
theorem tt_33 : tt 33 = some ⟨.func, 1, 8, [.nilfn], false⟩ := rfl
theorem tt_35 : tt 35 = some ⟨.func, 1, 8, [.nilfn], false⟩ := rfl
theorem tt_36 : tt 36 = some ⟨.func, 1, 8, [.nilfn], false⟩ := rfl
theorem tt_37 : tt 37 = some ⟨.func, 1, 8, [.nilfn], false⟩ := rfl
theorem tt_38 : tt 38 = some ⟨.arr 2 3, 2, 16, [.int .i64 0, .int .i64 0], true⟩ := rfl
theorem tt_39 : tt 39 = some ⟨.int .u64, 1, 8, [.int .u64 0], false⟩ := rfl
theorem tt_40 : tt 40 = some ⟨.func, 1, 8, [.nilfn], false⟩ := rfl
theorem tt_42 : tt 42 = some ⟨.func, 1, 8, [.nilfn], false⟩ := rfl
theorem tt_43 : tt 43 = some ⟨.func, 1, 8, [.nilfn], false⟩ := rfl
theorem tt_44 : tt 44 = some ⟨.func, 1, 8, [.nilfn], false⟩ := rfl
theorem tt_45 : tt 45 = some ⟨.func, 1, 8, [.nilfn], false⟩ := rfl
theorem tt_46 : tt 46 = some ⟨.func, 1, 8, [.nilfn], false⟩ := rfl
theorem tt_47 : tt 47 = some ⟨.func, 1, 8, [.nilfn], false⟩ := rfl
theorem tt_49 : tt 49 = some ⟨.func, 1, 8, [.nilfn], false⟩ := rfl
theorem tt_50 : tt 50 = some ⟨.func, 1, 8, [.nilfn], false⟩ := rfl
theorem tt_51 : tt 51 = some ⟨.func, 1, 8, [.nilfn], false⟩ := rfl
theorem tt_52 : tt 52 = some ⟨.func, 1, 8, [.nilfn], false⟩ := rfl
theorem tt_53 : tt 53 = some ⟨.func, 1, 8, [.nilfn], false⟩ := rfl
theorem tt_54 : tt 54 = some ⟨.func, 1, 8, [.nilfn], false⟩ := rfl
theorem tt_55 : tt 55 = some ⟨.func, 1, 8, [.nilfn], false⟩ := rfl
theorem tt_57 : tt 57 = some ⟨.func, 1, 8, [.nilfn], false⟩ := rfl
theorem tt_58 : tt 58 = some ⟨.func, 1, 8, [.nilfn], false⟩ := rfl
theorem tt_59 : tt 59 = some ⟨.func, 1, 8, [.nilfn], false⟩ := rfl
theorem tt_60 : tt 60 = some ⟨.func, 1, 8, [.nilfn], false⟩ := rfl
theorem tt_62 : tt 62 = some ⟨.func, 1, 8, [.nilfn], false⟩ := rfl
theorem tt_63 : tt 63 = some ⟨.func, 1, 8, [.nilfn], false⟩ := rfl
theorem tt_64 : tt 64 = some ⟨.func, 1, 8, [.nilfn], false⟩ := rfl
theorem tt_66 : tt 66 = some ⟨.func, 1, 8, [.nilfn], false⟩ := rfl
theorem tt_68 : tt 68 = some ⟨.func, 1, 8, [.nilfn], false⟩ := rfl
theorem tt_69 : tt 69 = some ⟨.func, 1, 8, [.nilfn], false⟩ := rfl
theorem tt_70 : tt 70 = some ⟨.func, 1, 8, [.nilfn], false⟩ := rfl
theorem tt_71 : tt 71 = some ⟨.arr 256 4, 256, 256, List.replicate 256 (.bool false), false⟩ := rfl
theorem tt_72 : tt 72 = some ⟨.ptr, 1, 8, [.nilp], false⟩ := rfl
theorem tt_74 : tt 74 = some ⟨.func, 1, 8, [.nilfn], false⟩ := rfl
theorem tt_75 : tt 75 = some ⟨.slice 93, 1, 24, [.nils], false⟩ := rfl
theorem tt_77 : tt 77 = some ⟨.func, 1, 8, [.nilfn], false⟩ := rfl
theorem tt_78 : tt 78 = some ⟨.slice 4, 1, 24, [.nils], false⟩ := rfl
theorem tt_79 : tt 79 = some ⟨.slice 4, 1, 24, [.nils], false⟩ := rfl
theorem tt_80 : tt 80 = some ⟨.func, 1, 8, [.nilfn], false⟩ := rfl
theorem tt_81 : tt 81 = some ⟨.func, 1, 8, [.nilfn], false⟩ := rfl
theorem tt_82 : tt 82 = some ⟨.slice 83, 1, 24, [.nils], false⟩ := rfl
theorem tt_83 : tt 83 = some ⟨.int .u64, 1, 8, [.int .u64 0], false⟩ := rfl
theorem tt_85 : tt 85 = some ⟨.func, 1, 8, [.nilfn], false⟩ := rfl
theorem tt_87 : tt 87 = some ⟨.func, 1, 8, [.nilfn], false⟩ := rfl
theorem tt_88 : tt 88 = some ⟨.arr 16 3, 16, 128, List.replicate 16 (.int .i64 0), false⟩ := rfl
theorem tt_89 : tt 89 = some ⟨.struct [(0, 3), (1, 88)], 17, 136, List.replicate 17 (.int .i64 0), false⟩ := rfl
theorem tt_90 : tt 90 = some ⟨.struct [(0, 3), (1, 88)], 17, 136, List.replicate 17 (.int .i64 0), false⟩ := rfl
theorem tt_91 : tt 91 = some ⟨.func, 1, 8, [.nilfn], false⟩ := rfl
theorem tt_92 : tt 92 = some ⟨.struct [(0, 3), (1, 3)], 2, 16, [.int .i64 0, .int .i64 0], false⟩ := rfl
theorem tt_93 : tt 93 = some ⟨.struct [(0, 3), (1, 3)], 2, 16, [.int .i64 0, .int .i64 0], true⟩ := rfl
theorem tt_94 : tt 94 = some ⟨.func, 1, 8, [.nilfn], false⟩ := rfl
theorem tt_95 : tt 95 = some ⟨.func, 1, 8, [.nilfn], false⟩ := rfl
theorem tt_96 : tt 96 = some ⟨.func, 1, 8, [.nilfn], false⟩ := rfl
theorem tt_97 : tt 97 = some ⟨.func, 1, 8, [.nilfn], false⟩ := rfl
theorem tt_98 : tt 98 = some ⟨.func, 1, 8, [.nilfn], false⟩ := rfl
theorem tt_99 : tt 99 = some ⟨.func, 1, 8, [.nilfn], false⟩ := rfl
theorem tt_100 : tt 100 = some ⟨.func, 1, 8, [.nilfn], false⟩ := rfl
theorem tt_101 : tt 101 = some ⟨.func, 1, 8, [.nilfn], false⟩ := rfl
theorem tt_102 : tt 102 = some ⟨.func, 1, 8, [.nilfn], false⟩ := rfl
theorem tt_103 : tt 103 = some ⟨.func, 1, 8, [.nilfn], false⟩ := rfl
theorem tt_104 : tt 104 = some ⟨.func, 1, 8, [.nilfn], false⟩ := rfl
theorem tt_105 : tt 105 = some ⟨.func, 1, 8, [.nilfn], false⟩ := rfl
theorem tt_106 : tt 106 = some ⟨.int .u32, 1, 4, [.int .u32 0], false⟩ := rfl
theorem tt_107 : tt 107 = some ⟨.func, 1, 8, [.nilfn], false⟩ := rfl
theorem tt_108 : tt 108 = some ⟨.func, 1, 8, [.nilfn], false⟩ := rfl
theorem tt_109 : tt 109 = some ⟨.func, 1, 8, [.nilfn], false⟩ := rfl
theorem tt_110 : tt 110 = some ⟨.func, 1, 8, [.nilfn], false⟩ := rfl
theorem tt_111 : tt 111 = some ⟨.func, 1, 8, [.nilfn], false⟩ := rfl
theorem tt_112 : tt 112 = some ⟨.func, 1, 8, [.nilfn], false⟩ := rfl
theorem tt_113 : tt 113 = some ⟨.func, 1, 8, [.nilfn], false⟩ := rfl
theorem tt_114 : tt 114 = some ⟨.int .i64, 1, 8, [.int .i64 0], false⟩ := rfl
theorem tt_116 : tt 116 = some ⟨.func, 1, 8, [.nilfn], false⟩ := rfl
theorem tt_117 : tt 117 = some ⟨.func, 1, 8, [.nilfn], false⟩ := rfl
theorem tt_118 : tt 118 = some ⟨.func, 1, 8, [.nilfn], false⟩ := rfl
theorem tt_119 : tt 119 = some ⟨.func, 1, 8, [.nilfn], false⟩ := rfl
theorem tt_120 : tt 120 = some ⟨.func, 1, 8, [.nilfn], false⟩ := rfl
theorem tt_121 : tt 121 = some ⟨.func, 1, 8, [.nilfn], false⟩ := rfl
theorem tt_122 : tt 122 = some ⟨.func, 1, 8, [.nilfn], false⟩ := rfl
theorem tt_123 : tt 123 = some ⟨.func, 1, 8, [.nilfn], false⟩ := rfl
theorem tt_124 : tt 124 = some ⟨.func, 1, 8, [.nilfn], false⟩ := rfl
theorem tt_125 : tt 125 = some ⟨.int .u64, 1, 8, [.int .u64 0], false⟩ := rfl
theorem tt_126 : tt 126 = some ⟨.func, 1, 8, [.nilfn], false⟩ := rfl
theorem tt_127 : tt 127 = some ⟨.func, 1, 8, [.nilfn], false⟩ := rfl
theorem tt_128 : tt 128 = some ⟨.func, 1, 8, [.nilfn], false⟩ := rfl
theorem tt_129 : tt 129 = some ⟨.ptr, 1, 8, [.nilp], false⟩ := rfl
theorem tt_130 : tt 130 = some ⟨.func, 1, 8, [.nilfn], false⟩ := rfl
theorem tt_131 : tt 131 = some ⟨.func, 1, 8, [.nilfn], false⟩ := rfl
theorem tt_132 : tt 132 = some ⟨.func, 1, 8, [.nilfn], false⟩ := rfl
theorem tt_133 : tt 133 = some ⟨.arr 32 5, 32, 32, List.replicate 32 (.int .u8 0), false⟩ := rfl
theorem tt_134 : tt 134 = some ⟨.arr 64 5, 64, 64, List.replicate 64 (.int .u8 0), false⟩ := rfl
theorem tt_135 : tt 135 = some ⟨.ptr, 1, 8, [.nilp], false⟩ := rfl
theorem tt_136 : tt 136 = some ⟨.func, 1, 8, [.nilfn], false⟩ := rfl
theorem tt_137 : tt 137 = some ⟨.func, 1, 8, [.nilfn], false⟩ := rfl
theorem tt_138 : tt 138 = some ⟨.func, 1, 8, [.nilfn], false⟩ := rfl
theorem tt_139 : tt 139 = some ⟨.struct [(0, 17), (1, 17), (2, 17), (3, 9)], 4, 40, [.nilp, .nilp, .nilp, .str ByteArray.empty], false⟩ := rfl
theorem tt_140 : tt 140 = some ⟨.struct [(0, 17), (1, 17), (2, 17), (3, 9)], 4, 40, [.nilp, .nilp, .nilp, .str ByteArray.empty], false⟩ := rfl
theorem tt_141 : tt 141 = some ⟨.arr 0 16, 0, 0, [], false⟩ := rfl
theorem tt_142 : tt 142 = some ⟨.struct [(0, 141)], 0, 0, [], false⟩ := rfl
theorem tt_143 : tt 143 = some ⟨.struct [(0, 141)], 0, 0, [], false⟩ := rfl
theorem tt_144 : tt 144 = some ⟨.func, 1, 8, [.nilfn], false⟩ := rfl
theorem tt_145 : tt 145 = some ⟨.int .u8, 1, 1, [.int .u8 0], false⟩ := rfl
theorem tt_146 : tt 146 = some ⟨.int .u8, 1, 1, [.int .u8 0], false⟩ := rfl
theorem tt_147 : tt 147 = some ⟨.func, 1, 8, [.nilfn], false⟩ := rfl
theorem tt_148 : tt 148 = some ⟨.ptr, 1, 8, [.nilp], false⟩ := rfl
theorem tt_149 : tt 149 = some ⟨.int .i32, 1, 4, [.int .i32 0], false⟩ := rfl
theorem tt_150 : tt 150 = some ⟨.int .i32, 1, 4, [.int .i32 0], false⟩ := rfl
theorem tt_151 : tt 151 = some ⟨.struct [(0, 12), (1, 12), (2, 106), (3, 145), (4, 5), (5, 5), (6, 146), (7, 147), (8, 148), (9, 149), (10, 150)], 11, 48, [.int .u64 0, .int .u64 0, .int .u32 0, .int .u8 0, .int .u8 0, .int .u8 0, .int .u8 0, .nilfn, .nilp, .int .i32 0, .int .i32 0], false⟩ := rfl
theorem tt_152 : tt 152 = some ⟨.struct [(0, 12), (1, 12), (2, 106), (3, 145), (4, 5), (5, 5), (6, 146), (7, 147), (8, 148), (9, 149), (10, 150)], 11, 48, [.int .u64 0, .int .u64 0, .int .u32 0, .int .u8 0, .int .u8 0, .int .u8 0, .int .u8 0, .nilfn, .nilp, .int .i32 0, .int .i32 0], false⟩ := rfl

theorem tok : TOk Tryd.prog tt := by
  intro t i h
  unfold tt at h
  split at h <;> first | (cases h; done) | (injection h with h; subst h; exact tiok_of (by kernel_rfl) (by kernel_rfl)) 

end Go.Proofs.YtimknijehaamlaaDoor

/-
  Sets as numbers, added without carry: echelon lists, spans, kernels. (Plain Lean, nothing of the program.)
-/
namespace Go.Lin

theorem lt_of_top {x y t : Nat} (hx : x.testBit t = false) (hy : y.testBit t = true) (h : ∀ j, t < j → x.testBit j = y.testBit j) : x < y := by
  have e : x / 2 ^ (t + 1) = y / 2 ^ (t + 1) := Nat.eq_of_testBit_eq fun i => by
    rw [Nat.testBit_div_two_pow, Nat.testBit_div_two_pow]; exact h _ (by omega)
  have hxm : x % 2 ^ (t + 1) < 2 ^ t := Nat.lt_pow_two_of_testBit _ fun i hi => by
    rw [Nat.testBit_mod_two_pow]
    by_cases e : i = t
    · subst e; simp [hx]
    · rw [decide_eq_false (by omega)]; rfl
  have hym : 2 ^ t ≤ y % 2 ^ (t + 1) := Nat.ge_two_pow_of_testBit (by rw [Nat.testBit_mod_two_pow, hy]; simp)
  have h1 := Nat.div_add_mod x (2 ^ (t + 1))
  have h2 := Nat.div_add_mod y (2 ^ (t + 1))
  rw [e] at h1
  omega

theorem log2_hi {b j : Nat} (h : b.log2 < j) : b.testBit j = false :=
  Nat.testBit_lt_two_pow (Nat.lt_of_lt_of_le Nat.lt_log2_self (Nat.pow_le_pow_right (by omega) h))
theorem log2_of {x t : Nat} (h : x.testBit t = true) (hj : ∀ j, t < j → x.testBit j = false) : x.log2 = t := by
  have h0 : x ≠ 0 := fun e => by rw [e] at h; simp at h
  have h1 := Nat.testBit_log2 h0
  rcases Nat.lt_trichotomy x.log2 t with h2 | h2 | h2
  · rw [log2_hi h2] at h; cases h
  · exact h2
  · rw [hj _ h2] at h1; cases h1
theorem lt_of_log2 {x y : Nat} (h : x.log2 < y.log2) : x < y := by
  have hy : y ≠ 0 := fun e => by rw [e] at h; simp at h
  exact lt_of_top (log2_hi h) (Nat.testBit_log2 hy) fun j hj => by rw [log2_hi hj, log2_hi (by omega)]
theorem lt_two_pow_log2 {x k : Nat} (h0 : x ≠ 0) (h : x < 2 ^ k) : x.log2 < k := (Nat.log2_lt h0).2 h
theorem xor_lt_iff {x b : Nat} (hb : b ≠ 0) : x ^^^ b < x ↔ x.testBit b.log2 = true := by
  have hbt := Nat.testBit_log2 hb
  constructor
  · intro h
    cases hx : x.testBit b.log2 with
    | true => rfl
    | false =>
      have : x < x ^^^ b := lt_of_top hx (by rw [Nat.testBit_xor, hx, hbt]; rfl) fun j hj => by rw [Nat.testBit_xor, log2_hi hj, Bool.xor_false]
      omega
  · intro hx
    exact lt_of_top (by rw [Nat.testBit_xor, hx, hbt]; rfl) hx fun j hj => by rw [Nat.testBit_xor, log2_hi hj, Bool.xor_false]
theorem xor_rc (x y z : Nat) : x ^^^ y ^^^ z = x ^^^ z ^^^ y := by rw [Nat.xor_assoc, Nat.xor_comm y, ← Nat.xor_assoc]
theorem xor_self_cancel (x b : Nat) : x ^^^ b ^^^ b = x := by rw [Nat.xor_assoc, Nat.xor_self, Nat.xor_zero]

/-- What is there of x when a list has taken away what it can. -/
def red (es : List Nat) (x : Nat) : Nat := es.foldl (fun x b => if x ^^^ b < x then x ^^^ b else x) x
/-- Different greatest elements, the greatest first. -/
def Ech : List Nat → Prop
  | [] => True
  | b :: L => b ≠ 0 ∧ (∀ c ∈ L, c.log2 < b.log2) ∧ Ech L
/-- Sums of some of a list. -/
def Span : List Nat → Nat → Prop
  | [], x => x = 0
  | b :: L, x => Span L x ∨ Span L (x ^^^ b)

theorem Ech.ne {L : List Nat} (h : Ech L) : ∀ c ∈ L, c ≠ 0 := by
  induction L with
  | nil => intro c hc; simp at hc
  | cons b L ih =>
    intro c hc
    rcases List.mem_cons.1 hc with rfl | hc
    · exact h.1
    · exact ih h.2.2 c hc
theorem red_cons (b : Nat) (L : List Nat) (x : Nat) : red (b :: L) x = red L (if x ^^^ b < x then x ^^^ b else x) := rfl
theorem red_hi : ∀ {L : List Nat} {x j : Nat}, (∀ c ∈ L, c.log2 < j) → (red L x).testBit j = x.testBit j
  | [], _, _, _ => rfl
  | b :: L, x, j, h => by
    rw [red_cons, red_hi (L := L) fun c hc => h c (List.mem_cons_of_mem _ hc)]
    split
    · rw [Nat.testBit_xor, log2_hi (h b (by simp)), Bool.xor_false]
    · rfl
theorem red_clear : ∀ {L : List Nat} {x : Nat}, Ech L → ∀ c ∈ L, (red L x).testBit c.log2 = false
  | b :: L, x, h, c, hc => by
    rw [red_cons]
    rcases List.mem_cons.1 hc with rfl | hc
    · rw [red_hi h.2.1]
      split
      · rename_i hl
        rw [Nat.testBit_xor, (xor_lt_iff h.1).1 hl, Nat.testBit_log2 h.1]; rfl
      · rename_i hl
        cases hx : x.testBit c.log2 with
        | false => rfl
        | true => exact absurd ((xor_lt_iff h.1).2 hx) hl
    · exact red_clear h.2.2 c hc
theorem red_le (L : List Nat) (x : Nat) : red L x ≤ x := by
  induction L generalizing x with
  | nil => exact Nat.le_refl _
  | cons b L ih => rw [red_cons]; have := ih (if x ^^^ b < x then x ^^^ b else x); split at this <;> (split <;> omega)

theorem Span.zero (L : List Nat) : Span L 0 := by
  induction L with
  | nil => rfl
  | cons b L ih => exact .inl ih
theorem Span.xor {L : List Nat} {x y : Nat} (hx : Span L x) (hy : Span L y) : Span L (x ^^^ y) := by
  induction L generalizing x y with
  | nil => simp only [Span] at *; subst hx; subst hy; rfl
  | cons b L ih =>
    rcases hx with hx | hx <;> rcases hy with hy | hy
    · exact .inl (ih hx hy)
    · exact .inr (by rw [Nat.xor_assoc]; exact ih hx hy)
    · exact .inr (by rw [xor_rc]; exact ih hx hy)
    · exact .inl (by
        have := ih hx hy
        rwa [show (x ^^^ b) ^^^ (y ^^^ b) = x ^^^ y by rw [Nat.xor_comm y b, ← Nat.xor_assoc, xor_self_cancel]] at this)
theorem Span.mem {L : List Nat} {x : Nat} (h : x ∈ L) : Span L x := by
  induction L with
  | nil => simp at h
  | cons b L ih =>
    rcases List.mem_cons.1 h with rfl | h
    · exact .inr (by rw [Nat.xor_self]; exact Span.zero L)
    · exact .inl (ih h)
theorem Span.least {L : List Nat} {p : Nat → Prop} (h0 : p 0) (hx : ∀ x y, p x → p y → p (x ^^^ y)) (hL : ∀ x ∈ L, p x) {x : Nat} (h : Span L x) : p x := by
  induction L generalizing x with
  | nil => simp only [Span] at h; subst h; exact h0
  | cons b L ih =>
    rcases h with h | h
    · exact ih (fun x hx => hL x (by simp [hx])) h
    · have := hx _ _ (ih (fun x hx => hL x (by simp [hx])) h) (hL b (by simp))
      rwa [xor_self_cancel] at this
theorem Span.sub {L M : List Nat} (h : ∀ x ∈ L, Span M x) {x : Nat} (hx : Span L x) : Span M x :=
  Span.least (Span.zero M) (fun _ _ => Span.xor) h hx
theorem Span.lt {L : List Nat} {k : Nat} (h : ∀ x ∈ L, x < 2 ^ k) {x : Nat} (hx : Span L x) : x < 2 ^ k :=
  Span.least (p := (· < 2 ^ k)) (Nat.two_pow_pos k) (fun _ _ => Nat.xor_lt_two_pow) h hx
theorem red_span (L : List Nat) (x : Nat) : Span L (x ^^^ red L x) := by
  induction L generalizing x with
  | nil => simp [red, Span]
  | cons b L ih =>
    rw [red_cons]
    have := ih (if x ^^^ b < x then x ^^^ b else x)
    split at this
    · rw [if_pos (by assumption)]
      refine .inr ?_
      rwa [xor_rc]
    · rw [if_neg (by assumption)]
      exact .inl this
/-- A sum in which no greatest element of an echelon list stands is 0. -/
theorem span_zero : ∀ {L : List Nat} {x : Nat}, Ech L → Span L x → (∀ c ∈ L, x.testBit c.log2 = false) → x = 0
  | [], _, _, h, _ => h
  | b :: L, x, hE, h, hc => by
    rcases h with h | h
    · exact span_zero hE.2.2 h fun c h => hc c (by simp [h])
    · exfalso
      have h1 : (x ^^^ b).testBit b.log2 = false :=
        Span.least (p := fun y => y.testBit b.log2 = false) (by simp) (fun _ _ h1 h2 => by rw [Nat.testBit_xor, h1, h2]; rfl) (fun c hc => log2_hi (hE.2.1 c hc)) h
      rw [Nat.testBit_xor, hc b (by simp), Nat.testBit_log2 hE.1] at h1
      cases h1
theorem red_zero {L : List Nat} (hE : Ech L) {x : Nat} : red L x = 0 ↔ Span L x := by
  constructor
  · intro h
    have := red_span L x
    rwa [h, Nat.xor_zero] at this
  · intro h
    have h1 : Span L (red L x) := by
      have := h.xor (red_span L x)
      rwa [← Nat.xor_assoc, Nat.xor_self, Nat.zero_xor] at this
    exact span_zero hE h1 (red_clear hE)
/-- The greatest element of a sum that is not 0 is one of the list's. -/
theorem span_top {L : List Nat} (hE : Ech L) {x : Nat} (h : Span L x) (h0 : x ≠ 0) : ∃ c ∈ L, c.log2 = x.log2 := by
  by_cases hq : ∃ c ∈ L, c.log2 = x.log2
  · exact hq
  · exfalso
    have hred : red L x = 0 := (red_zero hE).2 h
    have : ∀ (L : List Nat) (y : Nat), y.testBit x.log2 = true → (∀ c ∈ L, c ≠ 0 ∧ c.log2 ≠ x.log2) → (∀ j, x.log2 < j → y.testBit j = false) → (red L y).testBit x.log2 = true := by
      intro L
      induction L with
      | nil => intro y hy _ _; exact hy
      | cons b L ih =>
        intro y hy hc hj
        rw [red_cons]
        have hb := hc b (by simp)
        split
        · rename_i hl
          have hbt := (xor_lt_iff hb.1).1 hl
          have hlt : b.log2 < x.log2 := by
            rcases Nat.lt_trichotomy b.log2 x.log2 with h | h | h
            · exact h
            · exact absurd h hb.2
            · rw [hj _ h] at hbt; cases hbt
          refine ih _ (by rw [Nat.testBit_xor, hy, log2_hi hlt]; rfl) (fun c h => hc c (by simp [h])) fun j h => by rw [Nat.testBit_xor, hj j h, log2_hi (by omega)]; rfl
        · exact ih _ hy (fun c h => hc c (by simp [h])) hj
    have := this L x (Nat.testBit_log2 h0) (fun c hc => ⟨hE.ne c hc, fun e => hq ⟨c, hc, e⟩⟩) fun j hj => log2_hi hj
    rw [hred] at this
    simp at this

/-- A sum of the first parts of some pairs. -/
theorem Span.perm {L M : List Nat} (h : L.Perm M) {x : Nat} (hx : Span L x) : Span M x :=
  hx.sub fun y hy => Span.mem (h.mem_iff.1 hy)

/-- The reduced list of a set of sums: rising, each greatest element in no other one. -/
structure Rref (K : Nat → Prop) (L : List Nat) : Prop where
  sub : ∀ x ∈ L, K x ∧ x ≠ 0
  top : ∀ x, K x → x ≠ 0 → ∃ c ∈ L, c.log2 = x.log2
  asc : L.Pairwise fun a b => a.log2 < b.log2
  own : ∀ x ∈ L, ∀ y ∈ L, x.log2 ≠ y.log2 → x.testBit y.log2 = false
theorem pairwise_ext {L M : List Nat} (hL : L.Pairwise (· < ·)) (hM : M.Pairwise (· < ·)) (h : ∀ x, x ∈ L ↔ x ∈ M) : L = M := by
  induction L generalizing M with
  | nil =>
    cases M with
    | nil => rfl
    | cons b M => have := (h b).2 (by simp); simp at this
  | cons a L ih =>
    cases M with
    | nil => have := (h a).1 (by simp); simp at this
    | cons b M =>
      rw [List.pairwise_cons] at hL hM
      have e : a = b := by
        rcases List.mem_cons.1 ((h a).1 (by simp)) with h1 | h1
        · exact h1
        · rcases List.mem_cons.1 ((h b).2 (by simp)) with h2 | h2
          · exact h2.symm
          · have := hL.1 b h2; have := hM.1 a h1; omega
      subst e
      refine congrArg _ (ih hL.2 hM.2 fun x => ?_)
      have := h x
      simp only [List.mem_cons] at this
      constructor
      · intro hx
        rcases this.1 (.inr hx) with h1 | h1
        · subst h1; have := hL.1 x hx; omega
        · exact h1
      · intro hx
        rcases this.2 (.inr hx) with h1 | h1
        · subst h1; have := hM.1 x hx; omega
        · exact h1
theorem Rref.uniq {K : Nat → Prop} (hK : ∀ x y, K x → K y → K (x ^^^ y)) {L M : List Nat} (hL : Rref K L) (hM : Rref K M) : L = M := by
  have key : ∀ {L M : List Nat}, Rref K L → Rref K M → ∀ x ∈ L, x ∈ M := by
    intro L M hL hM x hx
    obtain ⟨k1, k2⟩ := hL.sub x hx
    obtain ⟨y, hy, he⟩ := hM.top x k1 k2
    obtain ⟨k3, k4⟩ := hM.sub y hy
    by_cases h0 : x ^^^ y = 0
    · have : x = y := by
        have h1 := xor_self_cancel x y
        rw [h0, Nat.zero_xor] at h1; exact h1.symm
      exact this ▸ hy
    · exfalso
      have hk := hK x y k1 k3
      obtain ⟨c, hc, hce⟩ := hL.top _ hk h0
      obtain ⟨d, hd, hde⟩ := hM.top _ hk h0
      have ht := Nat.testBit_log2 h0
      have hlow : (x ^^^ y).log2 ≠ x.log2 := by
        intro e
        rw [e, Nat.testBit_xor, Nat.testBit_log2 k2, ← he, Nat.testBit_log2 k4] at ht
        cases ht
      rw [Nat.testBit_xor, ← hce, hL.own x hx c hc (by omega), hce, ← hde, hM.own y hy d hd (by omega)] at ht
      cases ht
  refine pairwise_ext (hL.asc.imp lt_of_log2) (hM.asc.imp lt_of_log2) fun x => ⟨key hL hM x, key hM hL x⟩
end Go.Lin

/-
  The elements of a set of at most sixteen, the lowest one, and how many there are as the library counts them. (Plain Lean, nothing of the program.)
-/
namespace Go.Lin

def tz (n : Nat) : Nat := Go.Lib.ctz 64 n
theorem tz_spec0 {n : Nat} (h0 : 0 < n) (h : n < 2 ^ 64) : ∃ m, n = 2 ^ (tz n + 1) * m + 2 ^ tz n ∧ tz n < 64 := by
  obtain ⟨m, h1, h2⟩ := Go.Lib.ctzFrom_spec 64 n h0 h
  have e : tz n = Go.Lib.ctzFrom 64 n := by unfold tz Go.Lib.ctz; rw [if_neg (by omega)]
  rw [e]
  refine ⟨m, ?_, h2⟩
  rw [Nat.pow_succ, Nat.mul_assoc]
  conv => lhs; rw [h1]
  rw [Nat.mul_add, Nat.mul_one]
theorem bit_of {k m i : Nat} : (2 ^ (k + 1) * m + 2 ^ k).testBit i = if i < k then false else if i = k then true else m.testBit (i - (k + 1)) := by
  rw [Nat.testBit_two_pow_mul_add m (Nat.pow_lt_pow_right (by omega) (by omega))]
  by_cases h : i < k + 1
  · rw [if_pos h]
    by_cases e : i = k
    · subst e; rw [if_neg (by omega), if_pos rfl, Nat.testBit_two_pow_self]
    · rw [if_pos (by omega), Nat.testBit_two_pow_of_ne (by omega)]
  · rw [if_neg h, if_neg (by omega), if_neg (by omega)]
theorem bit_pred {k m i : Nat} : (2 ^ (k + 1) * m + 2 ^ k - 1).testBit i = if i < k then true else if i = k then false else m.testBit (i - (k + 1)) := by
  have hp : 0 < 2 ^ k := Nat.two_pow_pos k
  have hlt : 2 ^ k - 1 < 2 ^ (k + 1) := by rw [Nat.pow_succ]; omega
  rw [show 2 ^ (k + 1) * m + 2 ^ k - 1 = 2 ^ (k + 1) * m + (2 ^ k - 1) by omega, Nat.testBit_two_pow_mul_add m hlt]
  by_cases h : i < k + 1
  · rw [if_pos h, Nat.testBit_two_pow_sub_one]
    by_cases e : i = k
    · subst e; simp
    · rw [if_pos (by omega), decide_eq_true (by omega)]
  · rw [if_neg h, if_neg (by omega), if_neg (by omega)]
theorem tz_bits {n : Nat} (h0 : 0 < n) (h : n < 2 ^ 64) : n.testBit (tz n) = true ∧ (∀ i, i < tz n → n.testBit i = false) ∧ ∀ i, (n &&& (n - 1)).testBit i = (n.testBit i && decide (i ≠ tz n)) := by
  obtain ⟨m, h1, h2⟩ := tz_spec0 h0 h
  generalize tz n = k at *
  subst h1
  refine ⟨by rw [bit_of]; simp, fun i hi => by rw [bit_of, if_pos hi], fun i => ?_⟩
  rw [Nat.testBit_and, bit_of, bit_pred]
  by_cases a : i < k
  · rw [if_pos a, if_pos a]; simp
  · rw [if_neg a, if_neg a]
    by_cases b : i = k
    · subst b; simp
    · rw [if_neg b, if_neg b]; simp [b]
def memN (n : Nat) : List Nat := (List.range 16).filter n.testBit
def mem (n : Nat) : List Int := (memN n).map Int.ofNat
theorem memN_zero : memN 0 = [] := by decide
theorem memN_step {n : Nat} (hn : n < 65536) (h0 : 0 < n) : memN n = tz n :: memN (n &&& (n - 1)) ∧ (n &&& (n - 1)) < n := by
  obtain ⟨h1, h2, h3⟩ := tz_bits h0 (by omega)
  have hlt : (n &&& (n - 1)) < n := Nat.lt_of_le_of_lt Nat.and_le_right (by omega)
  refine ⟨?_, hlt⟩
  have hk : tz n < 16 := by
    rcases Nat.lt_or_ge (tz n) 16 with h | h
    · exact h
    · have := Nat.testBit_lt_two_pow (Nat.lt_of_lt_of_le hn (show 65536 ≤ 2 ^ tz n from by have := Nat.pow_le_pow_right (n := 2) (by omega) h; omega))
      rw [this] at h1; cases h1
  obtain ⟨r, hr⟩ : ∃ r, 16 = tz n + 1 + r := ⟨16 - (tz n + 1), by omega⟩
  unfold memN
  rw [hr, List.range_add, List.range_succ]
  simp only [List.filter_append]
  have e1 : ∀ f : Nat → Bool, (∀ i, i < tz n → f i = false) → (List.range (tz n)).filter f = [] := fun f hf => List.filter_eq_nil_iff.2 fun i hi => by rw [hf i (List.mem_range.1 hi)]; simp
  rw [e1 _ h2, e1 (n &&& (n - 1)).testBit (fun i hi => by rw [h3, h2 i hi]; rfl)]
  have e2 : [tz n].filter n.testBit = [tz n] := by simp [h1]
  have e3 : [tz n].filter (n &&& (n - 1)).testBit = [] := by simp [h3]
  rw [e2, e3]
  simp only [List.nil_append, List.singleton_append, List.cons.injEq, true_and]
  refine List.filter_congr fun i hi => ?_
  obtain ⟨j, _, rfl⟩ := List.mem_map.1 hi
  rw [h3]
  simp; omega
theorem mem_step {n : Nat} (hn : n < 65536) (h0 : 0 < n) : mem n = (tz n : Int) :: mem (n &&& (n - 1)) := by
  simp only [mem, (memN_step hn h0).1]; rfl
theorem mem_lt {n k : Nat} (hn : n < 2 ^ k) {x : Int} (hx : x ∈ mem n) : 0 ≤ x ∧ x.toNat < k ∧ n.testBit x.toNat = true := by
  simp only [mem, List.mem_map, memN, List.mem_filter, List.mem_range] at hx
  obtain ⟨i, ⟨h1, h2⟩, rfl⟩ := hx
  refine ⟨Int.natCast_nonneg i, ?_, by simpa using h2⟩
  rcases Nat.lt_or_ge i k with h | h
  · simpa using h
  · rw [Nat.testBit_lt_two_pow (Nat.lt_of_lt_of_le hn (Nat.pow_le_pow_right (by omega) h))] at h2; cases h2
theorem tz_lt {n : Nat} (hn : n < 65536) (h0 : 0 < n) : tz n < 16 := by
  have h1 := (tz_bits h0 (by omega)).1
  rcases Nat.lt_or_ge (tz n) 16 with h | h
  · exact h
  · have := Nat.testBit_lt_two_pow (Nat.lt_of_lt_of_le hn (show 65536 ≤ 2 ^ tz n from by have := Nat.pow_le_pow_right (n := 2) (by omega) h; omega))
    rw [this] at h1; cases h1

/-! ### How many -/
def m1 : Nat := 6148914691236517205
def m2 : Nat := 3689348814741910323
def m3 : Nat := 1085102592571150095
def q1 (n : Nat) : Nat := ((n / 2) &&& m1) + (n &&& m1)
def q2 (n : Nat) : Nat := ((n / 4) &&& m2) + (n &&& m2)
def q3 (n : Nat) : Nat := (n / 16 + n) &&& m3
def popQ (n : Nat) : Nat := q3 (q2 (q1 n))
theorem and_split {x y a b : Nat} (hy : y < 256) (hb : b < 256) : (2 ^ 8 * x + y) &&& (2 ^ 8 * a + b) = 2 ^ 8 * (x &&& a) + (y &&& b) := by
  have hyb : y &&& b < 2 ^ 8 := Nat.lt_of_le_of_lt Nat.and_le_left hy
  apply Nat.eq_of_testBit_eq
  intro i
  rw [Nat.testBit_and, Nat.testBit_two_pow_mul_add x (show y < 2 ^ 8 from hy), Nat.testBit_two_pow_mul_add a (show b < 2 ^ 8 from hb), Nat.testBit_two_pow_mul_add _ hyb]
  split <;> rw [Nat.testBit_and]
theorem m1_split : m1 = 2 ^ 8 * (m1 / 256) + 85 ∧ m2 = 2 ^ 8 * (m2 / 256) + 51 ∧ m3 = 2 ^ 8 * (m3 / 256) + 15 := by decide
theorem low1 : ∀ b, b < 256 → (b / 2 + 128) &&& 85 = (b / 2) &&& 85 ∧ (b &&& (m1 / 256)) = b &&& 85 ∧ (b / 2) &&& (m1 / 256) = (b / 2) &&& 85 := by decide +kernel
theorem half {x y : Nat} (hy : y < 256) : ∃ c, c < 256 ∧ (2 ^ 8 * x + y) / 2 = 2 ^ 8 * (x / 2) + c ∧ c &&& 85 = (y / 2) &&& 85 := by
  have h := (low1 y hy).1
  by_cases e : x % 2 = 0
  · exact ⟨y / 2, by omega, by omega, rfl⟩
  · exact ⟨y / 2 + 128, by omega, by omega, h⟩
theorem low2 : ∀ b, b < 256 → ∀ k, k < 4 → (b / 4 + 64 * k) &&& 51 = (b / 4) &&& 51 := by decide +kernel
theorem quarter {x y : Nat} (hy : y < 256) : ∃ c, c < 256 ∧ (2 ^ 8 * x + y) / 4 = 2 ^ 8 * (x / 4) + c ∧ c &&& 51 = (y / 4) &&& 51 :=
  ⟨y / 4 + 64 * (x % 4), by omega, by omega, low2 y hy _ (by omega)⟩
theorem q1_split {x y : Nat} (hy : y < 256) : q1 (2 ^ 8 * x + y) = 2 ^ 8 * (((x / 2) &&& (m1 / 256)) + (x &&& (m1 / 256))) + (((y / 2) &&& 85) + (y &&& 85)) := by
  obtain ⟨c, h1, h2, h3⟩ := half (x := x) hy
  unfold q1
  rw [h2, m1_split.1, and_split h1 (by decide), and_split hy (by decide), h3, ← m1_split.1]
  omega
theorem q2_split {x y : Nat} (hy : y < 256) : q2 (2 ^ 8 * x + y) = 2 ^ 8 * (((x / 4) &&& (m2 / 256)) + (x &&& (m2 / 256))) + (((y / 4) &&& 51) + (y &&& 51)) := by
  obtain ⟨c, h1, h2, h3⟩ := quarter (x := x) hy
  unfold q2
  rw [h2, m1_split.2.1, and_split h1 (by decide), and_split hy (by decide), h3, ← m1_split.2.1]
  omega
def b1 (y : Nat) : Nat := ((y / 2) &&& 85) + (y &&& 85)
def b2 (y : Nat) : Nat := ((y / 4) &&& 51) + (y &&& 51)
def b3 (y : Nat) : Nat := (y / 16 + y) &&& 15
def pop8 (y : Nat) : Nat := ((List.range 8).filter y.testBit).length
theorem byte : ∀ y, y < 256 → b1 y < 256 ∧ b2 (b1 y) < 69 ∧ b3 (b2 (b1 y)) = pop8 y ∧ pop8 y ≤ 8 ∧ ((y / 2) &&& (m1 / 256)) + (y &&& (m1 / 256)) = b1 y ∧ (((b1 y) / 4) &&& (m2 / 256)) + ((b1 y) &&& (m2 / 256)) = b2 (b1 y) := by decide +kernel
theorem b2_le : ∀ y, y < 256 → (b2 (b1 y)) % 16 ≤ 4 ∧ b2 (b1 y) / 16 ≤ 4 := by decide +kernel
theorem last : ∀ u, u < 5 → ∀ v, v < 5 → ∀ p, p < 5 → ∀ q, q < 5 → q3 (256 * (16 * u + v) + (16 * p + q)) = 256 * (u + v) + (p + q) ∧ b3 (16 * u + v) = u + v := by decide +kernel
theorem pop16_split {x y : Nat} (hx : x < 256) (hy : y < 256) : memN (2 ^ 8 * x + y) = (List.range 8).filter y.testBit ++ ((List.range 8).filter x.testBit).map (8 + ·) := by
  unfold memN
  rw [show 16 = 8 + 8 from rfl, List.range_add, List.filter_append]
  congr 1
  · refine List.filter_congr fun i hi => ?_
    rw [Nat.testBit_two_pow_mul_add x (show y < 2 ^ 8 from hy), if_pos (List.mem_range.1 hi)]
  · rw [List.filter_map]
    congr 1
    refine List.filter_congr fun i hi => ?_
    show (2 ^ 8 * x + y).testBit (8 + i) = _
    rw [Nat.testBit_two_pow_mul_add x (show y < 2 ^ 8 from hy), if_neg (by omega)]
    congr 1; omega
/-- How many elements. -/
def pop (n : Nat) : Nat := (memN n).length
theorem popQ_ok {n : Nat} (hn : n < 65536) : q1 n < 65536 ∧ q2 (q1 n) < 65536 ∧ popQ n = 256 * pop8 (n / 256) + pop8 (n % 256) ∧ pop n = pop8 (n / 256) + pop8 (n % 256) ∧ pop8 (n / 256) ≤ 8 ∧ pop8 (n % 256) ≤ 8 := by
  have hx : n / 256 < 256 := by omega
  have hy : n % 256 < 256 := by omega
  have e : n = 2 ^ 8 * (n / 256) + n % 256 := by omega
  obtain ⟨x, hxe⟩ : ∃ x, x = n / 256 := ⟨_, rfl⟩
  obtain ⟨y, hye⟩ : ∃ y, y = n % 256 := ⟨_, rfl⟩
  rw [← hxe, ← hye] at e
  rw [← hxe] at hx
  rw [← hye] at hy
  rw [← hxe, ← hye]
  obtain ⟨x1, x2, x3, x4, x5, x6⟩ := byte x hx
  obtain ⟨y1, y2, y3, y4, _, _⟩ := byte y hy
  obtain ⟨x7, x8⟩ := b2_le x hx
  obtain ⟨y7, y8⟩ := b2_le y hy
  have hq1 : q1 n = 2 ^ 8 * b1 x + b1 y := by rw [e, q1_split hy, x5]; rfl
  have hq2 : q2 (q1 n) = 2 ^ 8 * b2 (b1 x) + b2 (b1 y) := by rw [hq1, q2_split y1, x6]; rfl
  have hl := last (b2 (b1 x) / 16) (by omega) (b2 (b1 x) % 16) (by omega) (b2 (b1 y) / 16) (by omega) (b2 (b1 y) % 16) (by omega)
  have hl2 := last (b2 (b1 y) / 16) (by omega) (b2 (b1 y) % 16) (by omega) 0 (by omega) 0 (by omega)
  rw [show 16 * (b2 (b1 x) / 16) + b2 (b1 x) % 16 = b2 (b1 x) by omega, show 16 * (b2 (b1 y) / 16) + b2 (b1 y) % 16 = b2 (b1 y) by omega] at hl
  rw [show 16 * (b2 (b1 y) / 16) + b2 (b1 y) % 16 = b2 (b1 y) by omega] at hl2
  refine ⟨by omega, by omega, ?_, ?_, x4, y4⟩
  · unfold popQ
    rw [hq2, show (2 : Nat) ^ 8 = 256 from rfl, hl.1, ← hl.2, ← hl2.2, x3, y3]
  · rw [pop, e, pop16_split hx hy, List.length_append, List.length_map]
    simp only [pop8]
    omega
end Go.Lin

/-
  The effect of a set of lamps, and the elimination: what is solved, what is quiet. (Plain Lean, nothing of the program.)
-/
namespace Go.Lin

/-- The sum of the rows of a set. -/
def effX (rows : List Nat) (x : Nat) (is : List Nat) (a : Nat) : Nat := is.foldl (fun a i => if x.testBit i then a ^^^ rows.getD i 0 else a) a
def eff (rows : List Nat) (x : Nat) : Nat := effX rows x (List.range rows.length) 0
theorem effX_xor (rows : List Nat) (x y : Nat) : ∀ (is : List Nat) (a b : Nat), effX rows (x ^^^ y) is (a ^^^ b) = effX rows x is a ^^^ effX rows y is b
  | [], _, _ => rfl
  | i :: is, a, b => by
    have ih := effX_xor rows x y is
    simp only [effX, List.foldl_cons] at ih ⊢
    rw [Nat.testBit_xor]
    cases x.testBit i <;> cases y.testBit i <;> simp only [Bool.false_xor, Bool.true_xor, Bool.not_false, Bool.not_true, if_true, Bool.false_eq_true, if_false, Bool.xor_self, bne_self_eq_false]
    · exact ih a b
    · rw [Nat.xor_assoc]; exact ih a _
    · rw [xor_rc]; exact ih _ b
    · rw [← ih]
      rw [show a ^^^ rows.getD i 0 ^^^ (b ^^^ rows.getD i 0) = a ^^^ b by rw [Nat.xor_comm b, ← Nat.xor_assoc, xor_self_cancel]]
theorem eff_xor (rows : List Nat) (x y : Nat) : eff rows (x ^^^ y) = eff rows x ^^^ eff rows y := by
  have := effX_xor rows x y (List.range rows.length) 0 0
  rwa [Nat.xor_zero] at this
theorem eff_zero (rows : List Nat) : eff rows 0 = 0 := by
  have : ∀ is, effX rows 0 is 0 = 0 := by
    intro is
    induction is with
    | nil => rfl
    | cons i is ih => simpa [effX] using ih
  exact this _
theorem eff_pow (rows : List Nat) {i : Nat} (hi : i < rows.length) : eff rows (2 ^ i) = rows.getD i 0 := by
  have h : ∀ (is : List Nat) (a : Nat), i ∉ is → effX rows (2 ^ i) is a = a := by
    intro is
    induction is with
    | nil => intro a _; rfl
    | cons j is ih =>
      intro a hj
      simp only [List.mem_cons, not_or] at hj
      have := ih a hj.2
      simp only [effX, List.foldl_cons] at this ⊢
      rw [if_neg (by rw [Nat.testBit_two_pow_of_ne hj.1]; simp)]
      exact this
  unfold eff
  obtain ⟨k, hk⟩ : ∃ k, rows.length = i + 1 + k := ⟨rows.length - (i + 1), by omega⟩
  have e : List.range rows.length = List.range i ++ i :: (List.range k).map (i + 1 + ·) := by
    rw [hk, List.range_add, List.range_succ]; simp
  rw [e]
  have e2 : effX rows (2 ^ i) (List.range i ++ i :: (List.range k).map (i + 1 + ·)) 0 = effX rows (2 ^ i) (i :: (List.range k).map (i + 1 + ·)) (effX rows (2 ^ i) (List.range i) 0) := by
    simp [effX, List.foldl_append]
  rw [e2, h (List.range i) 0 (by simp)]
  have e3 : effX rows (2 ^ i) (i :: (List.range k).map (i + 1 + ·)) 0 = effX rows (2 ^ i) ((List.range k).map (i + 1 + ·)) (rows.getD i 0) := by
    simp [effX, Nat.testBit_two_pow_self]
  rw [e3, h ((List.range k).map (i + 1 + ·)) _ (by simp; omega)]

def redP (B : List (Nat × Nat)) (p : Nat × Nat) : Nat × Nat := B.foldl (fun p b => if p.2 ^^^ b.2 < p.2 then (p.1 ^^^ b.1, p.2 ^^^ b.2) else p) p
def insP (p : Nat × Nat) : List (Nat × Nat) → List (Nat × Nat)
  | [] => [p]
  | b :: L => if b.2 < p.2 then p :: b :: L else b :: insP p L
def addP (rows : List Nat) (s : List (Nat × Nat) × List Nat) (i : Nat) : List (Nat × Nat) × List Nat :=
  if (redP s.1 (2 ^ i, rows.getD i 0)).2 = 0 then (s.1, s.2 ++ [(redP s.1 (2 ^ i, rows.getD i 0)).1]) else (insP (redP s.1 (2 ^ i, rows.getD i 0)) s.1, s.2)
def reducedP (rows : List Nat) (n : Nat) : List (Nat × Nat) × List Nat := (List.range n).foldl (addP rows) ([], [])
theorem reducedP_succ (rows : List Nat) (n : Nat) : reducedP rows (n + 1) = addP rows (reducedP rows n) n := by
  simp [reducedP, List.range_succ, List.foldl_append]

theorem redP_cons (b : Nat × Nat) (B : List (Nat × Nat)) (p : Nat × Nat) : redP (b :: B) p = redP B (if p.2 ^^^ b.2 < p.2 then (p.1 ^^^ b.1, p.2 ^^^ b.2) else p) := rfl
theorem redP_snd (B : List (Nat × Nat)) (p : Nat × Nat) : (redP B p).2 = red (B.map Prod.snd) p.2 := by
  induction B generalizing p with
  | nil => rfl
  | cons b B ih =>
    rw [redP_cons, ih, List.map_cons, red_cons]
    split <;> rfl
theorem redP_fst (B : List (Nat × Nat)) (p : Nat × Nat) : Span (B.map Prod.fst) (p.1 ^^^ (redP B p).1) := by
  induction B generalizing p with
  | nil => simp [redP, Span]
  | cons b B ih =>
    rw [redP_cons, List.map_cons]
    have := ih (if p.2 ^^^ b.2 < p.2 then (p.1 ^^^ b.1, p.2 ^^^ b.2) else p)
    split at this
    · rw [if_pos (by assumption)]
      refine .inr ?_
      rwa [xor_rc]
    · rw [if_neg (by assumption)]
      exact .inl this
theorem redP_eff {rows : List Nat} {B : List (Nat × Nat)} (h : ∀ b ∈ B, eff rows b.1 = b.2) (p : Nat × Nat) : eff rows ((redP B p).1) ^^^ (redP B p).2 = eff rows p.1 ^^^ p.2 := by
  induction B generalizing p with
  | nil => rfl
  | cons b B ih =>
    rw [redP_cons, ih (fun c hc => h c (by simp [hc]))]
    split
    · rw [eff_xor, h b (by simp), Nat.xor_comm p.2, ← Nat.xor_assoc, xor_self_cancel]
    · rfl
theorem insP_perm (p : Nat × Nat) (B : List (Nat × Nat)) : (insP p B).Perm (p :: B) := by
  induction B with
  | nil => exact .refl _
  | cons b B ih =>
    rw [insP]
    split
    · exact .refl _
    · exact (List.Perm.cons b ih).trans (.swap p b B)
theorem log2_mono {a b : Nat} (h : a ≤ b) : a.log2 ≤ b.log2 := by
  rcases Nat.lt_or_ge b.log2 a.log2 with h1 | h1
  · have := lt_of_log2 h1; omega
  · exact h1
theorem insP_ech {p : Nat × Nat} {B : List (Nat × Nat)} (hE : Ech (B.map Prod.snd)) (h0 : p.2 ≠ 0) (hp : ∀ b ∈ B, p.2.log2 ≠ b.2.log2) : Ech ((insP p B).map Prod.snd) := by
  induction B with
  | nil => exact ⟨h0, by simp, trivial⟩
  | cons b B ih =>
    have hb := hp b (by simp)
    obtain ⟨e1, e2, e3⟩ := hE
    rw [insP]
    split
    · rename_i hlt
      have hm := log2_mono (Nat.le_of_lt hlt)
      refine ⟨h0, fun c hc => ?_, e1, e2, e3⟩
      rcases List.mem_cons.1 hc with rfl | hc
      · exact Nat.lt_of_le_of_ne hm (Ne.symm hb)
      · have := e2 c hc; omega
    · rename_i hlt
      have hm := log2_mono (Nat.le_of_not_lt hlt)
      refine ⟨e1, fun c hc => ?_, ih e3 fun c hc => hp c (by simp [hc])⟩
      obtain ⟨d, hd, rfl⟩ := List.mem_map.1 hc
      rcases List.mem_cons.1 ((insP_perm p B).mem_iff.1 hd) with rfl | hd
      · omega
      · exact e2 _ (List.mem_map.2 ⟨d, hd, rfl⟩)

/-- What is known when some lamps have been taken. -/
structure Inv (rows : List Nat) (i : Nat) (B : List (Nat × Nat)) (Q : List Nat) : Prop where
  ech : Ech (B.map Prod.snd)
  b : ∀ b ∈ B, eff rows b.1 = b.2 ∧ b.1 < 2 ^ i
  q : ∀ x ∈ Q, eff rows x = 0 ∧ x < 2 ^ i ∧ x ≠ 0
  asc : Q.Pairwise fun a b => a.log2 < b.log2
  len : B.length + Q.length = i
  all : ∀ x, x < 2 ^ i → Span (B.map Prod.fst ++ Q) x
theorem Inv.step {rows : List Nat} {i : Nat} {B : List (Nat × Nat)} {Q : List Nat} (h : Inv rows i B Q) (hi : i < rows.length) : Inv rows (i + 1) (addP rows (B, Q) i).1 (addP rows (B, Q) i).2 := by
  have hpow : 2 ^ (i + 1) = 2 ^ i + 2 ^ i := by rw [Nat.pow_succ]; omega
  unfold addP
  dsimp only
  obtain ⟨p, hp⟩ : ∃ p, p = redP B (2 ^ i, rows.getD i 0) := ⟨_, rfl⟩
  rw [← hp]
  have hsp := redP_fst B (2 ^ i, rows.getD i 0)
  have hef := redP_eff (rows := rows) (fun b hb => (h.b b hb).1) (2 ^ i, rows.getD i 0)
  have hsn := redP_snd B (2 ^ i, rows.getD i 0)
  rw [← hp] at hsp hef hsn
  dsimp only at hsp hef hsn
  rw [eff_pow rows hi, Nat.xor_self] at hef
  have heff : eff rows p.1 = p.2 := by
    have h1 := xor_self_cancel (eff rows p.1) p.2
    rw [hef, Nat.zero_xor] at h1; exact h1.symm
  have hlow : 2 ^ i ^^^ p.1 < 2 ^ i := Span.lt (fun x hx => by
    obtain ⟨b, hb, rfl⟩ := List.mem_map.1 hx
    exact (h.b b hb).2) hsp
  have hbit : p.1.testBit i = true := by
    have := Nat.testBit_lt_two_pow hlow
    rw [Nat.testBit_xor, Nat.testBit_two_pow_self] at this
    simpa using this
  have hhi : ∀ j, i < j → p.1.testBit j = false := fun j hj => by
    have : (2 ^ i ^^^ p.1).testBit j = false := Nat.testBit_lt_two_pow (Nat.lt_of_lt_of_le hlow (Nat.pow_le_pow_right (by omega) (by omega)))
    rw [Nat.testBit_xor, Nat.testBit_two_pow_of_ne (by omega)] at this
    simpa using this
  have hlt : p.1 < 2 ^ (i + 1) := Nat.lt_pow_two_of_testBit _ fun j hj => hhi j (by omega)
  have hlog : p.1.log2 = i := log2_of hbit hhi
  have hne : p.1 ≠ 0 := fun e => by rw [e] at hbit; simp at hbit
  have hall : ∀ (M : List Nat), (∀ y, y ∈ B.map Prod.fst ++ Q → y ∈ M) → p.1 ∈ M → ∀ x, x < 2 ^ (i + 1) → Span M x := by
    intro M hM hpM x hx
    cases hb : x.testBit i with
    | false =>
      refine (h.all x (Nat.lt_pow_two_of_testBit _ fun j hj => ?_)).sub fun y hy => Span.mem (hM y hy)
      by_cases e : j = i
      · exact e ▸ hb
      · exact Nat.testBit_lt_two_pow (Nat.lt_of_lt_of_le hx (Nat.pow_le_pow_right (by omega) (by omega)))
    | true =>
      have h1 : Span M (x ^^^ p.1) := (h.all _ (Nat.lt_pow_two_of_testBit _ fun j hj => by
        rw [Nat.testBit_xor]
        by_cases e : j = i
        · subst e; rw [hb, hbit]; rfl
        · rw [hhi j (by omega), Nat.testBit_lt_two_pow (Nat.lt_of_lt_of_le hx (Nat.pow_le_pow_right (by omega) (show i + 1 ≤ j by omega)))]; rfl)).sub fun y hy => Span.mem (hM y hy)
      have := h1.xor (Span.mem hpM)
      rwa [xor_self_cancel] at this
  split
  · rename_i hz
    refine ⟨h.ech, fun b hb => ⟨(h.b b hb).1, by have := (h.b b hb).2; omega⟩, fun x hx => ?_, ?_, ?_, hall _ (fun y hy => ?_) (by simp)⟩
    · rcases List.mem_append.1 hx with hx | hx
      · obtain ⟨a, b, c⟩ := h.q x hx; exact ⟨a, by omega, c⟩
      · have : x = p.1 := by simpa using hx
        subst this
        exact ⟨by rw [heff, hz], hlt, hne⟩
    · rw [List.pairwise_append]
      refine ⟨h.asc, by simp, fun a ha b hb => ?_⟩
      have : b = p.1 := by simpa using hb
      rw [this, hlog]
      obtain ⟨_, k2, k3⟩ := h.q a ha
      exact lt_two_pow_log2 k3 k2
    · have := h.len; simp; omega
    · rcases List.mem_append.1 hy with hy | hy
      · simp [List.mem_map.1 hy]
      · simp [hy]
  · rename_i hz
    have hperm := insP_perm p B
    refine ⟨insP_ech h.ech hz fun b hb => ?_, fun b hb => ?_, fun x hx => ?_, h.asc, ?_, hall _ (fun y hy => ?_) (List.mem_append_left _ (List.mem_map.2 ⟨p, hperm.mem_iff.2 (by simp), rfl⟩))⟩
    · intro e
      have h1 := Nat.testBit_log2 hz
      rw [e, hsn, red_clear h.ech _ (List.mem_map.2 ⟨b, hb, rfl⟩)] at h1
      cases h1
    · rcases List.mem_cons.1 (hperm.mem_iff.1 hb) with rfl | hb
      · exact ⟨heff, hlt⟩
      · obtain ⟨k1, k2⟩ := h.b b hb; exact ⟨k1, by omega⟩
    · obtain ⟨a, b, c⟩ := h.q x hx; exact ⟨a, by omega, c⟩
    · have := h.len; rw [hperm.length_eq]; simp; omega
    · rcases List.mem_append.1 hy with hy | hy
      · obtain ⟨b, hb, rfl⟩ := List.mem_map.1 hy
        exact List.mem_append_left _ (List.mem_map.2 ⟨b, hperm.mem_iff.2 (by simp [hb]), rfl⟩)
      · exact List.mem_append_right _ hy
theorem inv_all (rows : List Nat) : ∀ n, n ≤ rows.length → Inv rows n (reducedP rows n).1 (reducedP rows n).2
  | 0, _ => ⟨trivial, by simp [reducedP], by simp [reducedP], by simp [reducedP], rfl, fun x hx => by
      have : x = 0 := by omega
      subst this; exact Span.zero _⟩
  | n + 1, h => by
    rw [reducedP_succ]
    exact (inv_all rows n (by omega)).step (by omega)

theorem span_app {L M : List Nat} {x : Nat} (h : Span (L ++ M) x) : ∃ y, Span L y ∧ Span M (x ^^^ y) := by
  induction L generalizing x with
  | nil => exact ⟨0, rfl, by rwa [Nat.xor_zero]⟩
  | cons b L ih =>
    rcases h with h | h
    · obtain ⟨y, h1, h2⟩ := ih h; exact ⟨y, .inl h1, h2⟩
    · obtain ⟨y, h1, h2⟩ := ih h
      exact ⟨y ^^^ b, .inr (by rwa [xor_self_cancel]), by rwa [Nat.xor_comm y, ← Nat.xor_assoc]⟩
variable {rows : List Nat} {n : Nat} {B : List (Nat × Nat)} {Q : List Nat}
theorem eff_span {B : List (Nat × Nat)} (h : ∀ b ∈ B, eff rows b.1 = b.2) {y : Nat} (hy : Span (B.map Prod.fst) y) : Span (B.map Prod.snd) (eff rows y) :=
  Span.least (p := fun y => Span (B.map Prod.snd) (eff rows y)) (by rw [eff_zero]; exact Span.zero _) (fun x y hx hy => by rw [eff_xor]; exact hx.xor hy) (fun x hx => by
    obtain ⟨b, hb, rfl⟩ := List.mem_map.1 hx
    rw [h b hb]; exact Span.mem (List.mem_map.2 ⟨b, hb, rfl⟩)) hy
theorem ker_zero : ∀ {B : List (Nat × Nat)}, (∀ b ∈ B, eff rows b.1 = b.2) → Ech (B.map Prod.snd) → ∀ {y : Nat}, Span (B.map Prod.fst) y → eff rows y = 0 → y = 0
  | [], _, _, y, h, _ => h
  | b :: B, hB, hE, y, h, h0 => by
    rcases h with h | h
    · exact ker_zero (fun c hc => hB c (by simp [hc])) hE.2.2 h h0
    · exfalso
      have h1 := eff_span (fun c hc => hB c (by simp [hc])) h
      rw [eff_xor, h0, hB b (by simp), Nat.zero_xor] at h1
      have h2 : b.2.testBit b.2.log2 = false :=
        Span.least (p := fun y => y.testBit b.2.log2 = false) (by simp) (fun _ _ h1 h2 => by rw [Nat.testBit_xor, h1, h2]; rfl) (fun c hc => log2_hi (hE.2.1 c hc)) h1
      rw [Nat.testBit_log2 hE.1] at h2
      cases h2
/-- The quiet sets are the sums of Q. -/
theorem Inv.quiet (h : Inv rows n B Q) {x : Nat} : Span Q x ↔ x < 2 ^ n ∧ eff rows x = 0 := by
  constructor
  · intro hx
    refine ⟨hx.lt fun y hy => (h.q y hy).2.1, Span.least (p := fun y => eff rows y = 0) (eff_zero rows) (fun x y hx hy => by rw [eff_xor, hx, hy]; rfl) (fun y hy => (h.q y hy).1) hx⟩
  · rintro ⟨hx, h0⟩
    obtain ⟨y, h1, h2⟩ := span_app (h.all x hx)
    have h3 : eff rows (x ^^^ y) = 0 := Span.least (p := fun y => eff rows y = 0) (eff_zero rows) (fun x y hx hy => by rw [eff_xor, hx, hy]; rfl) (fun y hy => (h.q y hy).1) h2
    rw [eff_xor, h0, Nat.zero_xor] at h3
    rw [ker_zero (fun b hb => (h.b b hb).1) h.ech h1 h3, Nat.xor_zero] at h2
    exact h2
/-- A target is an effect just if nothing is left of it. -/
theorem Inv.reach (h : Inv rows n B Q) {t : Nat} : red (B.map Prod.snd) t = 0 ↔ ∃ s, s < 2 ^ n ∧ eff rows s = t := by
  rw [red_zero h.ech]
  constructor
  · intro ht
    refine Span.least (p := fun t => ∃ s, s < 2 ^ n ∧ eff rows s = t) ⟨0, Nat.two_pow_pos n, eff_zero rows⟩ ?_ ?_ ht
    · rintro x y ⟨a, a1, a2⟩ ⟨b, b1, b2⟩
      exact ⟨a ^^^ b, Nat.xor_lt_two_pow a1 b1, by rw [eff_xor, a2, b2]⟩
    · intro x hx
      obtain ⟨b, hb, rfl⟩ := List.mem_map.1 hx
      exact ⟨b.1, (h.b b hb).2, (h.b b hb).1⟩
  · rintro ⟨s, hs, rfl⟩
    obtain ⟨y, h1, h2⟩ := span_app (h.all s hs)
    have h3 : eff rows (s ^^^ y) = 0 := (h.quiet.1 h2).2
    have : eff rows s = eff rows y := by
      have h4 := eff_xor rows (s ^^^ y) y
      rw [xor_self_cancel, h3, Nat.zero_xor] at h4; exact h4
    rw [this]
    exact eff_span (fun b hb => (h.b b hb).1) h1
/-- The solution. -/
def solP (B : List (Nat × Nat)) (t : Nat) : Nat × Nat := redP B (0, t)
theorem Inv.sol (h : Inv rows n B Q) (t : Nat) : (solP B t).2 = red (B.map Prod.snd) t ∧ (solP B t).1 < 2 ^ n ∧ ((solP B t).2 = 0 → eff rows (solP B t).1 = t) := by
  refine ⟨redP_snd B (0, t), ?_, fun h0 => ?_⟩
  · have := Span.lt (k := n) (fun x hx => by
      obtain ⟨b, hb, rfl⟩ := List.mem_map.1 hx
      exact (h.b b hb).2) (redP_fst B (0, t))
    rwa [Nat.zero_xor] at this
  · have := redP_eff (rows := rows) (fun b hb => (h.b b hb).1) (0, t)
    rw [show redP B (0, t) = solP B t from rfl, h0] at this
    simpa [eff_zero] using this
end Go.Lin

/-
  The tidied basis; the reference's list of quiet sets is the same. (Plain Lean, nothing of the program.)
-/
namespace Go.Lin

def clr (s : Nat) (L : List Nat) : List Nat := L.map fun t => if t.testBit s.log2 then t ^^^ s else t
def insD (s : Nat) : List Nat → List Nat
  | [] => [s]
  | b :: L => if b < s then s :: b :: L else b :: insD s L
def tidy1 (L : List Nat) (x : Nat) : List Nat := if red L x = 0 then L else insD (red L x) (clr (red L x) L)
def tidyD (Q : List Nat) : List Nat := Q.foldl tidy1 []

theorem insD_perm (s : Nat) (L : List Nat) : (insD s L).Perm (s :: L) := by
  induction L with
  | nil => exact .refl _
  | cons b L ih =>
    rw [insD]
    split
    · exact .refl _
    · exact (List.Perm.cons b ih).trans (.swap s b L)
theorem insD_ech {s : Nat} {L : List Nat} (hE : Ech L) (h0 : s ≠ 0) (hp : ∀ b ∈ L, s.log2 ≠ b.log2) : Ech (insD s L) := by
  induction L with
  | nil => exact ⟨h0, by simp, trivial⟩
  | cons b L ih =>
    have hb := hp b (by simp)
    obtain ⟨e1, e2, e3⟩ := hE
    rw [insD]
    split
    · rename_i hlt
      have hm := log2_mono (Nat.le_of_lt hlt)
      refine ⟨h0, fun c hc => ?_, e1, e2, e3⟩
      rcases List.mem_cons.1 hc with rfl | hc
      · omega
      · have := e2 c hc; omega
    · rename_i hlt
      have hm := log2_mono (Nat.le_of_not_lt hlt)
      refine ⟨e1, fun c hc => ?_, ih e3 fun c hc => hp c (by simp [hc])⟩
      rcases List.mem_cons.1 ((insD_perm s L).mem_iff.1 hc) with rfl | hd
      · omega
      · exact e2 _ hd
/-- Each greatest element stands in no other one. -/
def Own (L : List Nat) : Prop := ∀ x ∈ L, ∀ y ∈ L, x.log2 ≠ y.log2 → x.testBit y.log2 = false
theorem clr_log2 {s t : Nat} (h : s.log2 ≠ t.log2) (ht : t ≠ 0) : (if t.testBit s.log2 then t ^^^ s else t).log2 = t.log2 ∧ (if t.testBit s.log2 then t ^^^ s else t) ≠ 0 := by
  split
  · rename_i hb
    have hlt : s.log2 < t.log2 := by
      rcases Nat.lt_trichotomy s.log2 t.log2 with h1 | h1 | h1
      · exact h1
      · exact absurd h1 h
      · rw [log2_hi h1] at hb; cases hb
    have h1 : (t ^^^ s).testBit t.log2 = true := by rw [Nat.testBit_xor, Nat.testBit_log2 ht, log2_hi hlt]; rfl
    refine ⟨log2_of h1 fun j hj => by rw [Nat.testBit_xor, log2_hi hj, log2_hi (by omega)]; rfl, fun e => ?_⟩
    rw [e] at h1; simp at h1
  · exact ⟨rfl, ht⟩
theorem clr_ech {s : Nat} : ∀ {L : List Nat}, Ech L → (∀ b ∈ L, s.log2 ≠ b.log2) → Ech (clr s L)
  | [], _, _ => trivial
  | b :: L, ⟨h1, h2, h3⟩, h => by
    obtain ⟨k1, k2⟩ := clr_log2 (h b (by simp)) h1
    refine ⟨k2, fun c hc => ?_, clr_ech h3 fun c hc => h c (by simp [hc])⟩
    obtain ⟨d, hd, rfl⟩ := List.mem_map.1 hc
    have e : ∀ x, (if b.testBit s.log2 = true then b ^^^ s else b).log2 = x → x = b.log2 := fun x hx => hx ▸ k1
    rw [k1, (clr_log2 (h d (by simp [hd])) (h3.ne d hd)).1]
    exact h2 d hd
theorem tidy_step {L : List Nat} (hE : Ech L) (hO : Own L) (x : Nat) : Ech (tidy1 L x) ∧ Own (tidy1 L x) ∧ ∀ y, Span (tidy1 L x) y ↔ Span (x :: L) y := by
  have hsp := red_span L x
  unfold tidy1
  obtain ⟨s, hs⟩ : ∃ s, s = red L x := ⟨_, rfl⟩
  rw [← hs] at hsp ⊢
  have hclear : ∀ c ∈ L, s.testBit c.log2 = false := fun c hc => hs ▸ red_clear hE c hc
  have hxs : ∀ y, Span (x :: L) y ↔ Span (s :: L) y := fun y => by
    constructor
    · refine Span.sub fun z hz => ?_
      rcases List.mem_cons.1 hz with rfl | hz
      · have h1 : Span (s :: L) (z ^^^ s) := .inl hsp
        have := h1.xor (Span.mem (show s ∈ s :: L by simp))
        rwa [xor_self_cancel] at this
      · exact Span.mem (by simp [hz])
    · refine Span.sub fun z hz => ?_
      rcases List.mem_cons.1 hz with rfl | hz
      · have h1 : Span (x :: L) (x ^^^ z) := .inl hsp
        have := h1.xor (Span.mem (show x ∈ x :: L by simp))
        rwa [Nat.xor_comm x, xor_self_cancel] at this
      · exact Span.mem (by simp [hz])
  split
  · rename_i h0
    refine ⟨hE, hO, fun y => ?_⟩
    rw [hxs, h0]
    constructor
    · exact fun h => .inl h
    · rintro (h | h)
      · exact h
      · rwa [Nat.xor_zero] at h
  · rename_i h0
    have hst := Nat.testBit_log2 h0
    have hd : ∀ b ∈ L, s.log2 ≠ b.log2 := fun b hb e => by
      have := hclear b hb
      rw [← e, hst] at this; cases this
    have hd2 : ∀ b ∈ clr s L, s.log2 ≠ b.log2 := fun b hb => by
      obtain ⟨d, hdm, rfl⟩ := List.mem_map.1 hb
      rw [(clr_log2 (hd d hdm) (hE.ne d hdm)).1]; exact hd d hdm
    have hperm := insD_perm s (clr s L)
    have clr_bit : ∀ t ∈ L, (if t.testBit s.log2 then t ^^^ s else t).testBit s.log2 = false := fun t _ => by
      split
      · rename_i hb; rw [Nat.testBit_xor, hb, hst]; rfl
      · rename_i hb; simpa using hb
    refine ⟨insD_ech (clr_ech hE hd) h0 hd2, fun u hu v hv hne => ?_, fun y => ?_⟩
    · have hu := hperm.mem_iff.1 hu
      have hv := hperm.mem_iff.1 hv
      rcases List.mem_cons.1 hu with rfl | hu <;> rcases List.mem_cons.1 hv with rfl | hv
      · exact absurd rfl hne
      · obtain ⟨d, hdm, rfl⟩ := List.mem_map.1 hv
        rw [(clr_log2 (hd d hdm) (hE.ne d hdm)).1]
        exact hclear d hdm
      · obtain ⟨d, hdm, rfl⟩ := List.mem_map.1 hu
        exact clr_bit d hdm
      · obtain ⟨d, hdm, rfl⟩ := List.mem_map.1 hu
        obtain ⟨d', hdm', rfl⟩ := List.mem_map.1 hv
        rw [(clr_log2 (hd d hdm) (hE.ne d hdm)).1, (clr_log2 (hd d' hdm') (hE.ne d' hdm')).1] at hne
        rw [(clr_log2 (hd d' hdm') (hE.ne d' hdm')).1]
        split
        · rw [Nat.testBit_xor, hO d hdm d' hdm' hne, hclear d' hdm']; rfl
        · exact hO d hdm d' hdm' hne
    · rw [hxs]
      constructor
      · refine Span.sub fun z hz => ?_
        rcases List.mem_cons.1 (hperm.mem_iff.1 hz) with rfl | hz
        · exact Span.mem (by simp)
        · obtain ⟨d, hdm, rfl⟩ := List.mem_map.1 hz
          split
          · exact (Span.mem (show d ∈ s :: L by simp [hdm])).xor (Span.mem (by simp))
          · exact Span.mem (by simp [hdm])
      · refine Span.sub fun z hz => ?_
        have hsm : Span (insD s (clr s L)) s := Span.mem (hperm.mem_iff.2 (by simp))
        rcases List.mem_cons.1 hz with rfl | hz
        · exact hsm
        · have h1 : Span (insD s (clr s L)) (if z.testBit s.log2 then z ^^^ s else z) := Span.mem (hperm.mem_iff.2 (List.mem_cons_of_mem _ (List.mem_map.2 ⟨z, hz, rfl⟩)))
          split at h1
          · have := h1.xor hsm
            rwa [xor_self_cancel] at this
          · exact h1
theorem tidy_all (Q : List Nat) : Ech (tidyD Q) ∧ Own (tidyD Q) ∧ ∀ y, Span (tidyD Q) y ↔ Span Q y := by
  have : ∀ (Q L : List Nat), Ech L → Own L → Ech (Q.foldl tidy1 L) ∧ Own (Q.foldl tidy1 L) ∧ ∀ y, Span (Q.foldl tidy1 L) y ↔ Span (Q ++ L) y := by
    intro Q
    induction Q with
    | nil => intro L hE hO; exact ⟨hE, hO, fun y => Iff.rfl⟩
    | cons x Q ih =>
      intro L hE hO
      obtain ⟨k1, k2, k3⟩ := tidy_step hE hO x
      obtain ⟨h1, h2, h3⟩ := ih _ k1 k2
      refine ⟨h1, h2, fun y => (h3 y).trans ?_⟩
      constructor
      · refine Span.sub fun z hz => ?_
        rcases List.mem_append.1 hz with hz | hz
        · exact Span.mem (by simp [hz])
        · exact ((k3 z).1 (Span.mem hz)).sub fun u hu => Span.mem (by rcases List.mem_cons.1 hu with rfl | hu <;> simp [*])
      · refine Span.sub fun z hz => ?_
        have hsub : ∀ z, Span (x :: L) z → Span (Q ++ tidy1 L x) z := fun z hz => ((k3 z).2 hz).sub fun u hu => Span.mem (by simp [hu])
        rcases List.mem_append.1 hz with hz | hz
        · rcases List.mem_cons.1 hz with rfl | hz
          · exact hsub _ (Span.mem (by simp))
          · exact Span.mem (by simp [hz])
        · exact hsub _ (Span.mem (by simp [hz]))
  have := this Q [] trivial (fun x hx => by simp at hx)
  rwa [List.append_nil] at this
theorem Ech.pairwise : ∀ {L : List Nat}, Ech L → L.Pairwise fun a b => b.log2 < a.log2
  | [], _ => .nil
  | b :: L, ⟨_, h2, h3⟩ => .cons h2 h3.pairwise
theorem Ech.of_pairwise : ∀ {L : List Nat}, L.Pairwise (fun a b => b.log2 < a.log2) → (∀ x ∈ L, x ≠ 0) → Ech L
  | [], _, _ => trivial
  | b :: L, h, h0 => by
    rw [List.pairwise_cons] at h
    exact ⟨h0 b (by simp), h.1, Ech.of_pairwise h.2 fun x hx => h0 x (by simp [hx])⟩
theorem tidy_rref {rows : List Nat} {n : Nat} {B : List (Nat × Nat)} {Q : List Nat} (h : Inv rows n B Q) : Rref (fun x => x < 2 ^ n ∧ eff rows x = 0) (tidyD Q).reverse := by
  obtain ⟨h1, h2, h3⟩ := tidy_all Q
  refine ⟨fun x hx => ?_, fun x hx h0 => ?_, ?_, fun x hx y hy => h2 x (by simpa using hx) y (by simpa using hy)⟩
  · have hx := List.mem_reverse.1 hx
    exact ⟨h.quiet.1 ((h3 x).1 (Span.mem hx)), h1.ne x hx⟩
  · obtain ⟨c, hc, he⟩ := span_top h1 ((h3 x).2 (h.quiet.2 hx)) h0
    exact ⟨c, List.mem_reverse.2 hc, he⟩
  · rw [List.pairwise_reverse]; exact h1.pairwise
theorem tidy_len {rows : List Nat} {n : Nat} {B : List (Nat × Nat)} {Q : List Nat} (h : Inv rows n B Q) : (tidyD Q).length = Q.length := by
  obtain ⟨h1, h2, h3⟩ := tidy_all Q
  have hA : (tidyD Q).map Nat.log2 = (Q.reverse).map Nat.log2 := by
    have p1 : ((tidyD Q).map Nat.log2).reverse.Pairwise (· < ·) := by
      rw [List.pairwise_reverse, List.pairwise_map]; exact h1.pairwise
    have p2 : ((Q.reverse).map Nat.log2).reverse.Pairwise (· < ·) := by
      rw [List.pairwise_reverse, List.pairwise_map, List.pairwise_reverse]; exact h.asc
    have hEq : Ech Q.reverse := Ech.of_pairwise (by rw [List.pairwise_reverse]; exact h.asc) fun x hx => (h.q x (List.mem_reverse.1 hx)).2.2
    have : ((tidyD Q).map Nat.log2).reverse = ((Q.reverse).map Nat.log2).reverse := pairwise_ext p1 p2 fun t => by
      simp only [List.mem_reverse, List.mem_map]
      constructor
      · rintro ⟨x, hx, rfl⟩
        obtain ⟨c, hc, he⟩ := span_top hEq (Span.perm (List.reverse_perm Q).symm ((h3 x).1 (Span.mem hx))) (h1.ne x hx)
        exact ⟨c, by simpa using hc, he⟩
      · rintro ⟨x, hx, rfl⟩
        exact span_top h1 ((h3 x).2 (Span.mem hx)) (h.q x hx).2.2
    have := congrArg List.reverse this
    simpa using this
  have := congrArg List.length hA
  simpa using this

/-- The reference's list: the least quiet sets without the greatest elements of those before. -/
def rqS (rows : List Nat) (s : List Nat × Nat) (k : Nat) : List Nat × Nat := if k &&& s.2 = 0 ∧ eff rows k = 0 then (s.1 ++ [k], s.2 ||| 2 ^ k.log2) else s
def rq (rows : List Nat) : Nat → List Nat × Nat
  | 0 => ([], 0)
  | k + 1 => if k = 0 then ([], 0) else rqS rows (rq rows k) k
structure RI (rows : List Nat) (k : Nat) (s : List Nat × Nat) : Prop where
  sub : ∀ x ∈ s.1, eff rows x = 0 ∧ x ≠ 0 ∧ x < k
  tops : ∀ j, s.2.testBit j = true ↔ ∃ x ∈ s.1, x.log2 = j
  asc : s.1.Pairwise fun a b => a.log2 < b.log2
  own : Own s.1
  top : ∀ x, x < k → x ≠ 0 → eff rows x = 0 → ∃ c ∈ s.1, c.log2 = x.log2
theorem and_zero {a b : Nat} : a &&& b = 0 ↔ ∀ j, a.testBit j = true → b.testBit j = false := by
  constructor
  · intro h j ha
    have : (a &&& b).testBit j = false := by rw [h]; simp
    rw [Nat.testBit_and, ha] at this
    simpa using this
  · intro h
    apply Nat.eq_of_testBit_eq
    intro j
    rw [Nat.testBit_and, Nat.zero_testBit]
    cases ha : a.testBit j with
    | false => rfl
    | true => rw [h j ha]; rfl
theorem ri_all (rows : List Nat) : ∀ k, RI rows k (rq rows k)
  | 0 => ⟨by simp [rq], by simp [rq], by simp [rq], by intro x hx; simp [rq] at hx, fun x hx => by omega⟩
  | k + 1 => by
    rw [rq]
    split
    · exact ⟨by simp, by simp, by simp, by intro x hx; simp at hx, fun x hx h0 => by omega⟩
    rename_i hk0
    have ih := ri_all rows k
    obtain ⟨s, hs⟩ : ∃ s, s = rq rows k := ⟨_, rfl⟩
    rw [← hs] at ih ⊢
    unfold rqS
    split
    · rename_i hc
      obtain ⟨c1, c2⟩ := hc
      have hno : ∀ x ∈ s.1, k.testBit x.log2 = false := fun x hx => by
        cases hb : k.testBit x.log2 with
        | false => rfl
        | true =>
          have := and_zero.1 c1 _ hb
          rw [(ih.tops _).2 ⟨x, hx, rfl⟩] at this; cases this
      have hlt : ∀ x ∈ s.1, x.log2 < k.log2 := fun x hx => by
        have h1 := log2_mono (Nat.le_of_lt (ih.sub x hx).2.2)
        have h2 : x.log2 ≠ k.log2 := fun e => by
          have := hno x hx
          rw [e, Nat.testBit_log2 hk0] at this; cases this
        omega
      refine ⟨fun x hx => ?_, fun j => ?_, ?_, fun x hx y hy hne => ?_, fun x hx h0 he => ?_⟩
      · rcases List.mem_append.1 hx with hx | hx
        · obtain ⟨a, b, c⟩ := ih.sub x hx; exact ⟨a, b, by omega⟩
        · have : x = k := by simpa using hx
          subst this; exact ⟨c2, hk0, by omega⟩
      · rw [Nat.testBit_or, Bool.or_eq_true, ih.tops, Nat.testBit_two_pow, decide_eq_true_eq]
        simp only [List.mem_append, List.mem_singleton]
        constructor
        · rintro (⟨x, hx, h⟩ | h)
          · exact ⟨x, .inl hx, h⟩
          · exact ⟨k, .inr rfl, h⟩
        · rintro ⟨x, hx | rfl, h⟩
          · exact .inl ⟨x, hx, h⟩
          · exact .inr h
      · rw [List.pairwise_append]
        refine ⟨ih.asc, by simp, fun a ha b hb => ?_⟩
        have : b = k := by simpa using hb
        rw [this]; exact hlt a ha
      · rcases List.mem_append.1 hx with hx1 | hx1 <;> rcases List.mem_append.1 hy with hy1 | hy1
        · exact ih.own x hx1 y hy1 hne
        · have : y = k := by simpa using hy1
          subst this; exact log2_hi (hlt x hx1)
        · have : x = k := by simpa using hx1
          subst this; exact hno y hy1
        · have h1 : x = k := by simpa using hx1
          have h2 : y = k := by simpa using hy1
          exact absurd (by rw [h1, h2]) hne
      · by_cases e : x = k
        · exact ⟨k, by simp, by rw [e]⟩
        · obtain ⟨c, hc, h⟩ := ih.top x (by omega) h0 he
          exact ⟨c, by simp [hc], h⟩
    · rename_i hc
      refine ⟨fun x hx => by obtain ⟨a, b, c⟩ := ih.sub x hx; exact ⟨a, b, by omega⟩, ih.tops, ih.asc, ih.own, fun x hx h0 he => ?_⟩
      by_cases e : x = k
      · subst e
        have hnz : ¬ x &&& s.2 = 0 := fun h => hc ⟨h, he⟩
        by_cases hq : ∃ c ∈ s.1, c.log2 = x.log2
        · exact hq
        · exfalso
          have hE : Ech s.1.reverse := Ech.of_pairwise (by rw [List.pairwise_reverse]; exact ih.asc) fun y hy => (ih.sub y (List.mem_reverse.1 hy)).2.1
          have hcl : ∀ c ∈ s.1, (red s.1.reverse x).testBit c.log2 = false := fun c hc => red_clear hE c (List.mem_reverse.2 hc)
          have hbit : (red s.1.reverse x).testBit x.log2 = true := by
            rw [red_hi fun c hc => ?_]
            · exact Nat.testBit_log2 h0
            · have hc := List.mem_reverse.1 hc
              have h1 := log2_mono (Nat.le_of_lt (ih.sub c hc).2.2)
              have h2 : c.log2 ≠ x.log2 := fun e => hq ⟨c, hc, e⟩
              omega
          have hle := red_le s.1.reverse x
          have hne : red s.1.reverse x ≠ x := fun e => hnz (and_zero.2 fun j hj => by
            cases ht : s.2.testBit j with
            | false => rfl
            | true =>
              obtain ⟨c, hc, rfl⟩ := (ih.tops j).1 ht
              have := hcl c hc
              rw [e, hj] at this; cases this)
          have hr0 : red s.1.reverse x ≠ 0 := fun e => by rw [e] at hbit; simp at hbit
          have heff : eff rows (red s.1.reverse x) = 0 := by
            have h1 : eff rows (x ^^^ red s.1.reverse x) = 0 := Span.least (p := fun y => eff rows y = 0) (eff_zero rows) (fun x y hx hy => by rw [eff_xor, hx, hy]; rfl) (fun y hy => (ih.sub y (List.mem_reverse.1 hy)).1) (red_span s.1.reverse x)
            rwa [eff_xor, he, Nat.zero_xor] at h1
          obtain ⟨c, hc, h⟩ := ih.top _ (by omega) hr0 heff
          have hlg : (red s.1.reverse x).log2 = x.log2 := log2_of hbit fun j hj => log2_hi (by have := log2_mono hle; omega)
          exact hq ⟨c, hc, by omega⟩
      · exact ih.top x (by omega) h0 he
theorem rq_rref (rows : List Nat) (n : Nat) : Rref (fun x => x < 2 ^ n ∧ eff rows x = 0) (rq rows (2 ^ n)).1 := by
  have h := ri_all rows (2 ^ n)
  exact ⟨fun x hx => ⟨⟨(h.sub x hx).2.2, (h.sub x hx).1⟩, (h.sub x hx).2.1⟩, fun x hx h0 => h.top x hx.1 h0 hx.2, h.asc, h.own⟩
/-- The basis that is tidied is the reference's. -/
theorem tidy_rq {rows : List Nat} {n : Nat} {B : List (Nat × Nat)} {Q : List Nat} (h : Inv rows n B Q) : (tidyD Q).reverse = (rq rows (2 ^ n)).1 :=
  Rref.uniq (fun x y hx hy => ⟨Nat.xor_lt_two_pow hx.1 hy.1, by rw [eff_xor, hx.2, hy.2]; rfl⟩) (tidy_rref h) (rq_rref rows n)
end Go.Lin

/-
  Refutations, and the target of all lamps; the set with the fewest lamps. (Plain Lean, nothing of the program.)
-/
namespace Go.Lin

/-- Whether two sets have an odd number of lamps in common. -/
def dot (n x y : Nat) : Bool := (List.range n).foldl (fun a i => Bool.xor a (x.testBit i && y.testBit i)) false
theorem dot_succ (n x y : Nat) : dot (n + 1) x y = Bool.xor (dot n x y) (x.testBit n && y.testBit n) := by
  simp [dot, List.range_succ, List.foldl_append]
theorem dot_zero (x y : Nat) : dot 0 x y = false := rfl
theorem dot_comm (n x y : Nat) : dot n x y = dot n y x := by
  induction n with
  | zero => rfl
  | succ n ih => rw [dot_succ, dot_succ, ih, Bool.and_comm]
theorem dot_xor (n x y z : Nat) : dot n (x ^^^ y) z = Bool.xor (dot n x z) (dot n y z) := by
  induction n with
  | zero => rfl
  | succ n ih =>
    rw [dot_succ, dot_succ, dot_succ, ih, Nat.testBit_xor]
    cases dot n x z <;> cases dot n y z <;> cases x.testBit n <;> cases y.testBit n <;> cases z.testBit n <;> rfl
theorem dot_xor' (n x y z : Nat) : dot n z (x ^^^ y) = Bool.xor (dot n z x) (dot n z y) := by
  rw [dot_comm, dot_xor, dot_comm n x, dot_comm n y]
theorem dot_0 (n z : Nat) : dot n 0 z = false := by
  induction n with
  | zero => rfl
  | succ n ih => rw [dot_succ, ih]; simp
theorem dot_0' (n z : Nat) : dot n z 0 = false := by rw [dot_comm, dot_0]
theorem dot_pow {n i : Nat} (hi : i < n) (z : Nat) : dot n (2 ^ i) z = z.testBit i := by
  induction n with
  | zero => omega
  | succ n ih =>
    rw [dot_succ]
    by_cases e : i = n
    · subst e
      have : ∀ m, m ≤ i → dot m (2 ^ i) z = false := by
        intro m
        induction m with
        | zero => intro _; rfl
        | succ m ihm => intro hm; rw [dot_succ, ihm (by omega), Nat.testBit_two_pow_of_ne (by omega)]; rfl
      rw [this i (Nat.le_refl _), Nat.testBit_two_pow_self]; simp
    · rw [ih (by omega), Nat.testBit_two_pow_of_ne e]; simp
theorem dot_pow' {n i : Nat} (hi : i < n) (z : Nat) : dot n z (2 ^ i) = z.testBit i := by rw [dot_comm, dot_pow hi]
/-- What holds of sums and of single lamps holds of all sets. -/
theorem lamps_ind {n : Nat} {p : Nat → Prop} (h0 : p 0) (hx : ∀ x y, x < 2 ^ n → y < 2 ^ n → p x → p y → p (x ^^^ y)) (hs : ∀ i, i < n → p (2 ^ i)) : ∀ x, x < 2 ^ n → p x := by
  have : ∀ k, k ≤ n → ∀ x, x < 2 ^ k → p x := by
    intro k
    induction k with
    | zero => intro _ x hx; have : x = 0 := by omega
              exact this ▸ h0
    | succ k ih =>
      intro hk x hxk
      have hpn : 2 ^ (k + 1) ≤ 2 ^ n := Nat.pow_le_pow_right (by omega) hk
      have hpk : 2 ^ k < 2 ^ (k + 1) := Nat.pow_lt_pow_right (by omega) (by omega)
      cases hb : x.testBit k with
      | false =>
        refine ih (by omega) x (Nat.lt_pow_two_of_testBit _ fun j hj => ?_)
        by_cases e : j = k
        · exact e ▸ hb
        · exact Nat.testBit_lt_two_pow (Nat.lt_of_lt_of_le hxk (Nat.pow_le_pow_right (by omega) (by omega)))
      | true =>
        have h1 : x ^^^ 2 ^ k < 2 ^ k := Nat.lt_pow_two_of_testBit _ fun j hj => by
          rw [Nat.testBit_xor]
          by_cases e : j = k
          · subst e; rw [hb, Nat.testBit_two_pow_self]; rfl
          · rw [Nat.testBit_two_pow_of_ne (by omega), Nat.testBit_lt_two_pow (Nat.lt_of_lt_of_le hxk (Nat.pow_le_pow_right (by omega) (by omega)))]; rfl
        have := hx _ _ (by omega) (by omega) (ih (by omega) _ h1) (hs k (by omega))
        rwa [xor_self_cancel] at this
  exact this n (Nat.le_refl _)
theorem eff_bit (rows : List Nat) (q j : Nat) : (eff rows q).testBit j = (List.range rows.length).foldl (fun a i => Bool.xor a (q.testBit i && (rows.getD i 0).testBit j)) false := by
  have : ∀ (is : List Nat) (a : Nat), (effX rows q is a).testBit j = is.foldl (fun a i => Bool.xor a (q.testBit i && (rows.getD i 0).testBit j)) (a.testBit j) := by
    intro is
    induction is with
    | nil => intro a; rfl
    | cons i is ih =>
      intro a
      have := ih (if q.testBit i = true then a ^^^ rows.getD i 0 else a)
      simp only [effX, List.foldl_cons] at this ⊢
      rw [this]
      cases hq : q.testBit i <;> simp [Nat.testBit_xor]
  have := this (List.range rows.length) 0
  rw [Nat.zero_testBit] at this
  exact this
/-- A graph: whoever switches is switched. -/
structure Sym (rows : List Nat) (n : Nat) : Prop where
  len : n ≤ rows.length
  lt : ∀ i, i < rows.length → rows.getD i 0 < 2 ^ n
  sym : ∀ i j, i < n → j < n → (rows.getD i 0).testBit j = (rows.getD j 0).testBit i
variable {rows : List Nat} {n : Nat} {B : List (Nat × Nat)} {Q : List Nat}
theorem Sym.eff_lt (h : Sym rows n) (x : Nat) : eff rows x < 2 ^ n := by
  have : ∀ (is : List Nat) (a : Nat), (∀ i ∈ is, i < rows.length) → a < 2 ^ n → effX rows x is a < 2 ^ n := by
    intro is
    induction is with
    | nil => intro a _ h; exact h
    | cons i is ih =>
      intro a hi ha
      have := ih (if x.testBit i = true then a ^^^ rows.getD i 0 else a) (fun j hj => hi j (by simp [hj])) (by
        split
        · exact Nat.xor_lt_two_pow ha (h.lt i (hi i (by simp)))
        · exact ha)
      simpa [effX] using this
  exact this _ 0 (fun i hi => by simpa using hi) (Nat.two_pow_pos n)
theorem fold_dot (q : Nat) (f : Nat → Bool) (g : Nat) (m : Nat) (h : ∀ i, i < m → f i = g.testBit i) : (List.range m).foldl (fun a i => Bool.xor a (q.testBit i && f i)) false = dot m q g := by
  induction m with
  | zero => rfl
  | succ m ih =>
    rw [dot_succ, List.range_succ, List.foldl_append, ih fun i hi => h i (by omega)]
    simp [h m (by omega)]
theorem fold_more (q : Nat) (f : Nat → Bool) {m k : Nat} (hk : m ≤ k) (h : ∀ i, m ≤ i → q.testBit i = false) : (List.range k).foldl (fun a i => Bool.xor a (q.testBit i && f i)) false = (List.range m).foldl (fun a i => Bool.xor a (q.testBit i && f i)) false := by
  induction k with
  | zero => have : m = 0 := by omega
            subst this; rfl
  | succ k ih =>
    by_cases e : m = k + 1
    · rw [e]
    · rw [List.range_succ, List.foldl_append, ih (by omega)]
      simp [h k (by omega)]
theorem Sym.bit (h : Sym rows n) {q i : Nat} (hq : q < 2 ^ n) (hi : i < n) : (eff rows q).testBit i = dot n q (rows.getD i 0) := by
  rw [eff_bit, fold_more q _ h.len fun j hj => Nat.testBit_lt_two_pow (Nat.lt_of_lt_of_le hq (Nat.pow_le_pow_right (by omega) hj))]
  exact fold_dot q _ _ n fun j hj => h.sym j i hj hi
theorem Sym.adj (h : Sym rows n) {q s : Nat} (hq : q < 2 ^ n) (hs : s < 2 ^ n) : dot n q (eff rows s) = dot n (eff rows q) s := by
  refine lamps_ind (p := fun s => dot n q (eff rows s) = dot n (eff rows q) s) ?_ ?_ ?_ s hs
  · rw [eff_zero, dot_0', dot_0']
  · intro x y _ _ hx hy
    rw [eff_xor, dot_xor', dot_xor', hx, hy]
  · intro i hi
    rw [eff_pow rows (Nat.lt_of_lt_of_le hi h.len), dot_pow' hi, h.bit hq hi]
/-- A functional that is 0 on an echelon list and not at what the list leaves. -/
theorem functional : ∀ {L : List Nat} {r : Nat}, Ech L → (∀ e ∈ L, e < 2 ^ n) → r ≠ 0 → r < 2 ^ n → (∀ e ∈ L, r.testBit e.log2 = false) → ∃ q, q < 2 ^ n ∧ (∀ e ∈ L, dot n q e = false) ∧ dot n q r = true
  | [], r, _, _, h0, hr, _ => ⟨2 ^ r.log2, Nat.pow_lt_pow_right (by omega) (lt_two_pow_log2 h0 hr), by simp, by rw [dot_pow (lt_two_pow_log2 h0 hr), Nat.testBit_log2 h0]⟩
  | b :: L, r, ⟨e1, e2, e3⟩, hl, h0, hr, hc => by
    obtain ⟨q, q1, q2, q3⟩ := functional e3 (fun e he => hl e (by simp [he])) h0 hr (fun e he => hc e (by simp [he]))
    have hb := lt_two_pow_log2 e1 (hl b (by simp))
    cases hd : dot n q b with
    | false =>
      refine ⟨q, q1, fun e he => ?_, q3⟩
      rcases List.mem_cons.1 he with rfl | he
      · exact hd
      · exact q2 e he
    | true =>
      refine ⟨q ^^^ 2 ^ b.log2, Nat.xor_lt_two_pow q1 (Nat.pow_lt_pow_right (by omega) hb), fun e he => ?_, ?_⟩
      · rcases List.mem_cons.1 he with rfl | he
        · rw [dot_xor, hd, dot_pow hb, Nat.testBit_log2 e1]; rfl
        · rw [dot_xor, q2 e he, dot_pow hb, log2_hi (e2 e he)]; rfl
      · rw [dot_xor, q3, dot_pow hb, hc b (by simp)]; rfl
/-- A quiet set has an even number of lamps in common with each effect. -/
theorem Sym.even (h : Sym rows n) {q s : Nat} (hq : q < 2 ^ n) (h0 : eff rows q = 0) (hs : s < 2 ^ n) : dot n q (eff rows s) = false := by
  rw [h.adj hq hs, h0, dot_0]
theorem Sym.refuted (h : Sym rows n) (hI : Inv rows n B Q) {t : Nat} (ht : t < 2 ^ n) (hr : red (B.map Prod.snd) t ≠ 0) : ∃ q ∈ Q, dot n q t = true := by
  by_cases hq : ∃ q ∈ Q, dot n q t = true
  · exact hq
  · exfalso
    have hall : ∀ q, q < 2 ^ n → eff rows q = 0 → dot n q t = false := fun q hq1 hq2 =>
      Span.least (p := fun q => dot n q t = false) (dot_0 _ _) (fun x y hx hy => by rw [dot_xor, hx, hy]; rfl) (fun x hx => by
        cases hd : dot n x t with
        | false => rfl
        | true => exact absurd ⟨x, hx, hd⟩ hq) (hI.quiet.2 ⟨hq1, hq2⟩)
    have hBlt : ∀ e ∈ B.map Prod.snd, e < 2 ^ n := fun e he => by
      obtain ⟨b, hb, rfl⟩ := List.mem_map.1 he
      rw [← (hI.b b hb).1]; exact h.eff_lt _
    obtain ⟨q, q1, q2, q3⟩ := functional (n := n) hI.ech hBlt hr (Nat.lt_of_le_of_lt (red_le _ _) ht) (fun e he => red_clear hI.ech e he)
    have hspan : ∀ e, Span (B.map Prod.snd) e → dot n q e = false := fun e he =>
      Span.least (p := fun e => dot n q e = false) (dot_0' _ _) (fun x y hx hy => by rw [dot_xor', hx, hy]; rfl) q2 he
    have himg : ∀ s, s < 2 ^ n → dot n q (eff rows s) = false := fun s hs => hspan _ ((red_zero hI.ech).1 (hI.reach.2 ⟨s, hs, rfl⟩))
    have hquiet : eff rows q = 0 := by
      apply Nat.eq_of_testBit_eq
      intro i
      rw [Nat.zero_testBit]
      by_cases hi : i < n
      · have := himg (2 ^ i) (Nat.pow_lt_pow_right (by omega) hi)
        rw [h.adj q1 (Nat.pow_lt_pow_right (by omega) hi), dot_pow' hi] at this
        exact this
      · exact Nat.testBit_lt_two_pow (Nat.lt_of_lt_of_le (h.eff_lt q) (Nat.pow_le_pow_right (by omega) (by omega)))
    have h1 := hall q q1 hquiet
    have h2 := hspan _ (red_span (B.map Prod.snd) t)
    rw [dot_xor', h1, q3] at h2
    cases h2
/-- With own lamps the target of all lamps is an effect. -/
theorem Sym.sutner (h : Sym rows n) (hd : ∀ i, i < n → (rows.getD i 0).testBit i = true) {q : Nat} (hq : q < 2 ^ n) : dot n q (eff rows q) = dot n q (2 ^ n - 1) := by
  refine lamps_ind (p := fun q => dot n q (eff rows q) = dot n q (2 ^ n - 1)) ?_ ?_ ?_ q hq
  · rw [dot_0, dot_0]
  · intro x y hx hy px py
    rw [eff_xor, dot_xor', dot_xor, dot_xor, dot_xor, px, py, h.adj hx hy, dot_comm n (eff rows x) y]
    cases dot n x (2 ^ n - 1) <;> cases dot n y (2 ^ n - 1) <;> cases dot n y (eff rows x) <;> rfl
  · intro i hi
    rw [eff_pow rows (Nat.lt_of_lt_of_le hi h.len), dot_pow hi, dot_pow hi, hd i hi, Nat.testBit_two_pow_sub_one, decide_eq_true hi]
theorem Sym.all_on (h : Sym rows n) (hI : Inv rows n B Q) (hd : ∀ i, i < n → (rows.getD i 0).testBit i = true) : red (B.map Prod.snd) (2 ^ n - 1) = 0 ∧ ∀ q ∈ Q, dot n q (2 ^ n - 1) = false := by
  have hq : ∀ q ∈ Q, dot n q (2 ^ n - 1) = false := fun q hq => by
    obtain ⟨a, b, _⟩ := hI.q q hq
    rw [← h.sutner hd b, a, dot_0']
  refine ⟨?_, hq⟩
  by_cases e : red (B.map Prod.snd) (2 ^ n - 1) = 0
  · exact e
  · obtain ⟨q, h1, h2⟩ := h.refuted hI (t := 2 ^ n - 1) (by have := Nat.two_pow_pos n; omega) e
    rw [hq q h1] at h2; cases h2

/-- The order by size. -/
def lessB (sz : Nat → Nat) (a b : Nat) : Bool := decide (sz a < sz b) || (decide (sz a = sz b) && decide (a < b))
theorem lessB_iff {sz : Nat → Nat} {a b : Nat} : lessB sz a b = true ↔ sz a < sz b ∨ (sz a = sz b ∧ a < b) := by simp [lessB]
def fewF (sz : Nat → Nat) (first : Nat) (L : List Nat) : Nat := L.foldl (fun o s => if lessB sz (first ^^^ s) o then first ^^^ s else o) first
theorem fewF_spec (sz : Nat → Nat) (first : Nat) (L : List Nat) : (fewF sz first L = first ∨ ∃ s ∈ L, fewF sz first L = first ^^^ s) ∧ ¬ lessB sz first (fewF sz first L) = true ∧ ∀ s ∈ L, ¬ lessB sz (first ^^^ s) (fewF sz first L) = true := by
  have : ∀ (L : List Nat) (o : Nat), (L.foldl (fun o s => if lessB sz (first ^^^ s) o then first ^^^ s else o) o = o ∨ ∃ s ∈ L, L.foldl (fun o s => if lessB sz (first ^^^ s) o then first ^^^ s else o) o = first ^^^ s) ∧
      ¬ lessB sz o (L.foldl (fun o s => if lessB sz (first ^^^ s) o then first ^^^ s else o) o) = true ∧ ∀ s ∈ L, ¬ lessB sz (first ^^^ s) (L.foldl (fun o s => if lessB sz (first ^^^ s) o then first ^^^ s else o) o) = true := by
    intro L
    induction L with
    | nil => intro o; exact ⟨.inl rfl, by rw [lessB_iff]; simp, by simp⟩
    | cons x L ih =>
      intro o
      obtain ⟨h1, h2, h3⟩ := ih (if lessB sz (first ^^^ x) o then first ^^^ x else o)
      simp only [List.foldl_cons]
      obtain ⟨r, hr⟩ : ∃ r, r = L.foldl (fun o s => if lessB sz (first ^^^ s) o then first ^^^ s else o) (if lessB sz (first ^^^ x) o then first ^^^ x else o) := ⟨_, rfl⟩
      rw [← hr] at h1 h2 h3 ⊢
      by_cases hl : lessB sz (first ^^^ x) o = true
      · rw [if_pos hl] at h1 h2
        refine ⟨.inr ?_, ?_, fun s hs => ?_⟩
        · rcases h1 with h1 | ⟨s, hs, h1⟩
          · exact ⟨x, by simp, h1⟩
          · exact ⟨s, by simp [hs], h1⟩
        · rw [lessB_iff] at hl h2 ⊢
          omega
        · rcases List.mem_cons.1 hs with rfl | hs
          · exact h2
          · exact h3 s hs
      · rw [if_neg hl] at h1 h2
        refine ⟨?_, h2, fun s hs => ?_⟩
        · rcases h1 with h1 | ⟨s, hs, h1⟩
          · exact .inl h1
          · exact .inr ⟨s, by simp [hs], h1⟩
        · rcases List.mem_cons.1 hs with rfl | hs
          · rw [lessB_iff] at hl h2 ⊢
            omega
          · exact h3 s hs
  exact this L first
/-- The sum of those of a list that a number chooses. -/
def sumC (L : List Nat) (c : Nat) : Nat := (List.range L.length).foldl (fun a i => if c.testBit i then a ^^^ L.getD i 0 else a) 0
theorem sumC_eff (L : List Nat) (c : Nat) : sumC L c = eff L c := rfl
theorem sumC_span (L : List Nat) (c : Nat) : Span L (sumC L c) := by
  rw [sumC_eff, eff]
  have : ∀ (is : List Nat) (a : Nat), (∀ i ∈ is, i < L.length) → Span L a → Span L (effX L c is a) := by
    intro is
    induction is with
    | nil => intro a _ h; exact h
    | cons i is ih =>
      intro a hi ha
      have hil := hi i (by simp)
      have := ih (if c.testBit i = true then a ^^^ L.getD i 0 else a) (fun j hj => hi j (by simp [hj])) (by
        split
        · refine ha.xor (Span.mem ?_)
          rw [show L.getD i 0 = L[i] by simp [List.getD_eq_getElem?_getD, List.getElem?_eq_getElem hil]]
          exact List.getElem_mem _
        · exact ha)
      simpa [effX] using this
  exact this _ 0 (fun i hi => by simpa using hi) (Span.zero L)
theorem span_sumC (L : List Nat) {x : Nat} (h : Span L x) : ∃ c, c < 2 ^ L.length ∧ sumC L c = x := by
  simp only [sumC_eff]
  refine Span.least (p := fun x => ∃ c, c < 2 ^ L.length ∧ eff L c = x) ⟨0, Nat.two_pow_pos _, eff_zero L⟩ ?_ ?_ h
  · rintro x y ⟨a, a1, a2⟩ ⟨b, b1, b2⟩
    exact ⟨a ^^^ b, Nat.xor_lt_two_pow a1 b1, by rw [eff_xor, a2, b2]⟩
  · intro x hx
    obtain ⟨i, hi, rfl⟩ := List.mem_iff_getElem.1 hx
    exact ⟨2 ^ i, Nat.pow_lt_pow_right (by omega) hi, by rw [eff_pow L hi]; simp [List.getD_eq_getElem?_getD, List.getElem?_eq_getElem hi]⟩
/-- The least solution. -/
structure Least (sz : Nat → Nat) (p : Nat → Prop) (m : Nat) : Prop where
  is : p m
  le : ∀ x, p x → ¬ lessB sz x m = true
theorem Least.uniq {sz : Nat → Nat} {p : Nat → Prop} {m k : Nat} (h : Least sz p m) (h' : Least sz p k) : m = k := by
  have h1 := h.le k h'.is
  have h2 := h'.le m h.is
  rw [lessB_iff] at h1 h2
  omega
theorem Inv.fewest (hI : Inv rows n B Q) {t : Nat} (h0 : (solP B t).2 = 0) (sz : Nat → Nat) : Least sz (fun s => s < 2 ^ n ∧ eff rows s = t) (fewF sz (solP B t).1 ((List.range (2 ^ Q.length)).map (sumC Q))) := by
  obtain ⟨_, s2, s3⟩ := hI.sol t
  have s3 := s3 h0
  obtain ⟨f, hf⟩ : ∃ f, f = (solP B t).1 := ⟨_, rfl⟩
  rw [← hf] at s2 s3 ⊢
  obtain ⟨h1, h2, h3⟩ := fewF_spec sz f ((List.range (2 ^ Q.length)).map (sumC Q))
  refine ⟨?_, fun x hx => ?_⟩
  · rcases h1 with h1 | ⟨s, hs, h1⟩
    · rw [h1]; exact ⟨s2, s3⟩
    · obtain ⟨c, _, rfl⟩ := List.mem_map.1 hs
      obtain ⟨k1, k2⟩ := hI.quiet.1 (sumC_span Q c)
      rw [h1]
      exact ⟨Nat.xor_lt_two_pow s2 k1, by rw [eff_xor, s3, k2, Nat.xor_zero]⟩
  · have hq : Span Q (f ^^^ x) := hI.quiet.2 ⟨Nat.xor_lt_two_pow s2 hx.1, by rw [eff_xor, s3, hx.2, Nat.xor_self]⟩
    obtain ⟨c, c1, c2⟩ := span_sumC Q hq
    have := h3 (sumC Q c) (List.mem_map.2 ⟨c, List.mem_range.2 c1, rfl⟩)
    rwa [c2, ← Nat.xor_assoc, Nat.xor_self, Nat.zero_xor] at this
end Go.Lin

/-
  Contracts: sets of lamps as numbers.
-/
namespace Go.Proofs.YtimknijehaamlaaDoor
open Go Go.AH Go.Lin
set_option maxRecDepth 100000
set_option maxHeartbeats 1000000

/-- The table of bits.TrailingZeros64. -/
def tabI : List Int := [0, 1, 56, 2, 57, 49, 28, 3, 61, 58, 42, 50, 38, 29, 17, 4, 62, 47, 59, 36, 45, 43, 51, 22, 53, 39, 33, 30, 24, 18, 12, 5, 63, 55, 48, 27, 60, 41, 37, 16, 46, 35, 44, 21, 52, 32, 23, 11, 54, 26, 40, 15, 34, 20, 31, 10, 25, 14, 19, 9, 13, 8, 7, 6]
def tab64 : List AC := tabI.map (AC.int .u8)
theorem tab64_getD (i : Nat) : tab64.getD i (.int .u8 0) = .int .u8 (tabI.getD i 0) := by
  simp [tab64, List.getD_eq_getElem?_getD]
theorem tab64_LL (n : Nat) : LL n tab64 := fun x hx => by
  obtain ⟨y, _, rfl⟩ := List.mem_map.1 hx; trivial
theorem tab64_ren (q : Nat → Nat) : tab64.map (AC.ren q) = tab64 := by
  simp [tab64, Function.comp_def, AC.ren]
instance : RenC tab64 := ⟨tab64_ren, tab64_LL⟩
theorem tab64_len : tab64.length = 64 := rfl


theorem wrapU {n : Nat} (h : n < 18446744073709551616) : IntKind.u64.wrap (n : Int) = n := AH.wrap_small _ _ (by omega) (by show (n : Int) < 2 ^ 64; omega) (by intro h; cases h)
theorem wrapI {n : Nat} (h : n < 9223372036854775808) : IntKind.i64.wrap (n : Int) = n := AH.wrap_small _ _ (by omega) (by show (n : Int) < 2 ^ 64; omega) (fun _ => by show (n : Int) < 2 ^ 63; omega)
def andU (a b : Int) : Int := IntKind.u64.wrap ((BitVec.ofInt 64 a &&& BitVec.ofInt 64 b).toNat)
theorem andU_nat {a b : Nat} (ha : a < 18446744073709551616) (hb : b < 18446744073709551616) : andU a b = ((a &&& b : Nat) : Int) := by
  have e : (BitVec.ofInt 64 (a : Int) &&& BitVec.ofInt 64 (b : Int)).toNat = a &&& b := by
    rw [BitVec.toNat_and, BitVec.ofInt_natCast, BitVec.ofInt_natCast, BitVec.toNat_ofNat, BitVec.toNat_ofNat, Nat.mod_eq_of_lt ha, Nat.mod_eq_of_lt hb]
  unfold andU
  rw [e, wrapU (Nat.lt_of_le_of_lt Nat.and_le_left ha)]
def dbIdx (n : Int) : Int := (IntKind.u64.wrap (andU n (IntKind.u64.wrap (0 - n)) * 285870213051353865)).fdiv (2 ^ (min (58 : Int).toNat 64))
theorem db_tab : ∀ k : Nat, k < 64 → (0 ≤ (IntKind.u64.wrap (((2 ^ k : Nat) : Int) * 285870213051353865)).fdiv (2 ^ (min (58 : Int).toNat 64)) ∧ (IntKind.u64.wrap (((2 ^ k : Nat) : Int) * 285870213051353865)).fdiv (2 ^ (min (58 : Int).toNat 64)) < 64) ∧
    tabI.getD ((IntKind.u64.wrap (((2 ^ k : Nat) : Int) * 285870213051353865)).fdiv (2 ^ (min (58 : Int).toNat 64))).toNat 0 = k ∧ IntKind.i64.wrap (k : Nat) = (k : Nat) := by decide +kernel
theorem dbIdx_ok (n : Nat) (hn : n < 65536) (h0 : 0 < n) : (0 ≤ dbIdx n ∧ dbIdx n < 64) ∧ tabI.getD (dbIdx n).toNat 0 = tz n ∧ IntKind.i64.wrap (tz n) = tz n := by
  have hl := Go.Lib.lowest_bit 64 n (by omega) (by omega)
  have hw : IntKind.u64.wrap (0 - (n : Int)) = ((2 ^ 64 - n : Nat) : Int) := by
    show (0 - (n : Int)) % 2 ^ 64 = _
    omega
  have e : dbIdx n = (IntKind.u64.wrap (((2 ^ tz n : Nat) : Int) * 285870213051353865)).fdiv (2 ^ (min (58 : Int).toNat 64)) := by
    unfold dbIdx
    rw [hw, andU_nat (by omega) (by omega), hl.1]
    rfl
  rw [e]
  exact db_tab (tz n) hl.2
theorem tz64_spec {n : Nat} (hn : n < 65536) (h0 : 0 < n) : FDet Tryd.prog 112 [.c (.int .u64 n)] [(100001, .ro tab64)] 0 (.c (.int .i64 (tz n))) [] 0 := by
  obtain ⟨k1, k2, k3⟩ := dbIdx_ok n hn h0
  refine FSpec.of_body tok false Tryd.func112 rfl (by kernel_rfl) (by decide) (by simp [AV.lt, AC.lt, idOk]) (by simp [hpLt, idOk, ABlk.lt, tab64_LL, GB]) (by show 1 ≤ _; decide) ?_
  refine Wk.on ?_
  refine ⟨fun hc => ?_, fun hc => ?_⟩ <;> simp only [decide_eq_true_eq, decide_eq_false_iff_not, Decidable.not_not] at hc
  · omega
  refine Wk.on ?_
  refine ⟨k1, ?_⟩
  refine Wk.on ?_
  refine ⟨by rw [tab64_len]; show 0 + (dbIdx n).toNat * 1 + 1 ≤ 64; omega, ?_⟩
  rw [tab64_getD, show (0 + Int.toNat _ * 1) = (dbIdx n).toNat from by rw [Nat.zero_add, Nat.mul_one]; rfl, k2]
  refine Wk.on ?_
  exact Fin.nil [] ⟨by show AV.c (.int .i64 (IntKind.i64.wrap (tz n))) = _; rw [k3], rfl, rfl⟩ trivial trivial trivial rfl (by simp [GB])
theorem tz_spec {n : Nat} (hn : n < 65536) (h0 : 0 < n) : FDet Tryd.prog 90 [.c (.int .u64 n)] [(100001, .ro tab64)] 0 (.c (.int .i64 (tz n))) [] 0 := by
  refine FSpec.of_body tok false Tryd.func90 rfl (by kernel_rfl) (by decide) (by simp [AV.lt, AC.lt, idOk]) (by simp [hpLt, idOk, ABlk.lt, tab64_LL, GB]) (by show 1 ≤ _; decide) ?_
  refine Wk.on ?_
  refine CallA.ro [] (.c (.int .i64 (tz n))) (tz64_spec hn h0) rfl rfl ⟨⟨.inr (by decide), ?_⟩, trivial⟩ rfl ?_
  · exact Or.inl (congrArg some (tab64_ren _).symm)
  refine Wk.on ?_
  exact Fin.nil [] ⟨rfl, rfl, rfl⟩ trivial trivial trivial rfl (by simp [GB])


def shrU (a k : Int) : Int := a.fdiv (2 ^ min k.toNat 64)
def pop1 (n : Int) : Int := IntKind.u64.wrap (andU (shrU n 1) 6148914691236517205 + andU n 6148914691236517205)
def pop2 (n : Int) : Int := IntKind.u64.wrap (andU (shrU n 2) 3689348814741910323 + andU n 3689348814741910323)
def pop3 (n : Int) : Int := andU (IntKind.u64.wrap (shrU n 4 + n)) 1085102592571150095
def pop4 (n k : Int) : Int := IntKind.u64.wrap (n + shrU n k)
def popF (n : Int) : Int := IntKind.i64.wrap ((BitVec.ofInt 64 (IntKind.i64.wrap (pop4 (pop4 (pop4 (pop3 (pop2 (pop1 n))) 8) 16) 32)) &&& BitVec.ofInt 64 127).toNat)
theorem shrU_nat (a k : Nat) (hk : k ≤ 64) : shrU a k = ((a / 2 ^ k : Nat) : Int) := by
  unfold shrU
  rw [Int.toNat_natCast, Nat.min_eq_left hk, Int.fdiv_eq_ediv_of_nonneg _ (by exact_mod_cast Nat.zero_le _)]
  rw [Int.natCast_ediv, Int.natCast_pow]
  rfl
theorem pop1_nat {n : Nat} (h : n < 65536) : pop1 n = (q1 n : Nat) := by
  have hq := (popQ_ok h).1
  have e1 := shrU_nat n 1 (by omega)
  have e2 := andU_nat (a := n / 2 ^ 1) (b := 6148914691236517205) (by omega) (by omega)
  have e3 := andU_nat (a := n) (b := 6148914691236517205) (by omega) (by omega)
  unfold pop1
  rw [show shrU n 1 = _ from e1, show andU ((n / 2 ^ 1 : Nat) : Int) 6148914691236517205 = _ from e2, show andU (n : Int) 6148914691236517205 = _ from e3, ← Int.natCast_add]
  exact wrapU (show q1 n < _ by omega)
theorem pop2_nat {n : Nat} (h : n < 65536) (hq : q2 n < 65536) : pop2 n = (q2 n : Nat) := by
  have e1 := shrU_nat n 2 (by omega)
  have e2 := andU_nat (a := n / 2 ^ 2) (b := 3689348814741910323) (by omega) (by omega)
  have e3 := andU_nat (a := n) (b := 3689348814741910323) (by omega) (by omega)
  unfold pop2
  rw [show shrU n 2 = _ from e1, show andU ((n / 2 ^ 2 : Nat) : Int) 3689348814741910323 = _ from e2, show andU (n : Int) 3689348814741910323 = _ from e3, ← Int.natCast_add]
  exact wrapU (show q2 n < _ by omega)
theorem pop3_nat {n : Nat} (h : n < 65536) : pop3 n = (q3 n : Nat) := by
  have e1 := shrU_nat n 4 (by omega)
  have e2 := andU_nat (a := n / 2 ^ 4 + n) (b := 1085102592571150095) (by omega) (by omega)
  unfold pop3
  rw [show shrU n 4 = _ from e1, ← Int.natCast_add, wrapU (by omega)]
  exact e2
theorem pop4_nat {n : Nat} (k : Nat) (h : n < 65536) (hk : k ≤ 64) : pop4 n k = ((n + n / 2 ^ k : Nat) : Int) := by
  unfold pop4
  have : n / 2 ^ k ≤ n := Nat.div_le_self _ _
  rw [shrU_nat n k hk, ← Int.natCast_add, wrapU (by omega)]
theorem popF_ok (n : Nat) (h : n < 65536) : popF n = pop n := by
  obtain ⟨h1, h2, h3, h4, h5, h6⟩ := popQ_ok h
  have e4 := pop4_nat 8 (n := q3 (q2 (q1 n))) (by unfold popQ at h3; omega) (by omega)
  unfold popQ at h3
  have hA : q3 (q2 (q1 n)) / 2 ^ 8 = pop8 (n / 256) := by rw [h3]; omega
  have e5 := pop4_nat 16 (n := q3 (q2 (q1 n)) + q3 (q2 (q1 n)) / 2 ^ 8) (by omega) (by omega)
  have hB : (q3 (q2 (q1 n)) + q3 (q2 (q1 n)) / 2 ^ 8) / 2 ^ 16 = 0 := by rw [Nat.div_eq_zero_iff]; omega
  have e6 := pop4_nat 32 (n := q3 (q2 (q1 n)) + q3 (q2 (q1 n)) / 2 ^ 8) (by omega) (by omega)
  have hC : (q3 (q2 (q1 n)) + q3 (q2 (q1 n)) / 2 ^ 8) / 2 ^ 32 = 0 := by rw [Nat.div_eq_zero_iff]; omega
  rw [hB, Nat.add_zero] at e5
  rw [hC, Nat.add_zero] at e6
  have hI : IntKind.i64.wrap ((q3 (q2 (q1 n)) + q3 (q2 (q1 n)) / 2 ^ 8 : Nat) : Int) = ((q3 (q2 (q1 n)) + q3 (q2 (q1 n)) / 2 ^ 8 : Nat) : Int) := wrapI (by omega)
  unfold popF
  rw [pop1_nat h, pop2_nat h1 h2, pop3_nat h2, show pop4 ((q3 (q2 (q1 n)) : Nat) : Int) 8 = _ from e4, show pop4 ((q3 (q2 (q1 n)) + q3 (q2 (q1 n)) / 2 ^ 8 : Nat) : Int) 16 = _ from e5, show pop4 ((q3 (q2 (q1 n)) + q3 (q2 (q1 n)) / 2 ^ 8 : Nat) : Int) 32 = _ from e6, hI]
  have hsmall : q3 (q2 (q1 n)) + q3 (q2 (q1 n)) / 2 ^ 8 = 256 * pop8 (n / 256) + pop n := by omega
  rw [hsmall, show (127 : Int) = ((127 : Nat) : Int) from rfl, BitVec.ofInt_natCast, BitVec.ofInt_natCast, BitVec.toNat_and, BitVec.toNat_ofNat, BitVec.toNat_ofNat, Nat.mod_eq_of_lt (by omega), Nat.mod_eq_of_lt (by omega)]
  have : (256 * pop8 (n / 256) + pop n) &&& 127 = pop n := by
    rw [show 127 = 2 ^ 7 - 1 from rfl, Nat.and_two_pow_sub_one_eq_mod]; omega
  rw [this, wrapI (by omega)]
theorem ones64_spec {n : Nat} (hn : n < 65536) : FDet Tryd.prog 80 [.c (.int .u64 n)] [] 0 (.c (.int .i64 (pop n))) [] 0 := by
  refine FSpec.body2 tok false Tryd.func80 ?_
  refine Wk.on ?_
  exact AH.Fin.nil [] ⟨by show AV.c (.int .i64 (popF n)) = _; rw [popF_ok n hn], rfl, rfl⟩ trivial trivial trivial rfl (by simp [GB])
theorem ones_spec {n : Nat} (hn : n < 65536) : FDet Tryd.prog 61 [.c (.int .u64 n)] [] 0 (.c (.int .i64 (pop n))) [] 0 := by
  refine FSpec.body2 tok false Tryd.func61 ?_
  refine Wk.on ?_
  refine CallA.ro2 [] (.c (.int .i64 (pop n))) (ones64_spec hn) ?_
  refine Wk.on ?_
  exact AH.Fin.nil [] ⟨rfl, rfl, rfl⟩ trivial trivial trivial rfl (by simp [GB])
end Go.Proofs.YtimknijehaamlaaDoor

/-
  The iterator over a set's elements.
-/
namespace Go.Proofs.YtimknijehaamlaaDoor
open Go Go.AH Go.Lin Go.RowKit Go.Shelf
attribute [local go_sem] Oper.semAt_some
set_option maxRecDepth 100000
set_option maxHeartbeats 1000000

theorem tz_calls {n : Nat} (hn : n < 65536) (h0 : 0 < n) {R : AH.Ren} (hok : R.ok) {w : World} (H : HRel R [(100001, .ro tab64)] w) : Calls Tryd.prog 90 #[.int .u64 n] w fun e w' => e = .returned (.int .i64 (tz n)) ∧ Below w.heap.size w w' := by
  refine ((tz_spec hn h0).run w R #[.int .u64 n] hok rfl ?_ H).mono ?_
  · intro i v hi
    cases i with
    | zero => simp at hi; subst hi; exact ⟨_, rfl, rfl⟩
    | succ i => simp at hi
  · rintro e w' ⟨u, r, hp', k', R', rfl, ⟨rfl, rfl, rfl⟩, _, _, _, hc, _, _, _, _, _, hf⟩
    have hc : u = _ := hc
    subst hc
    refine ⟨rfl, (hf.mono (M' := fun _ => False) ?_).below⟩
    rintro k ⟨i, b, hb, hw, _⟩
    simp only [lk] at hb
    split at hb
    · injection hb with hb; subst hb; cases hw
    · cases hb

theorem and_bits (x : Nat) (hx : x < 65536) (h0 : 0 < x) : bits BinOp.and IntKind.u64 (x : Int) ((x : Int) - 1) = ((x &&& (x - 1) : Nat) : Int) := by
  rw [show (x : Int) - 1 = ((x - 1 : Nat) : Int) by omega]
  exact andU_nat (by omega) (by omega)
theorem members1_in (F : Fence) (m : Nat) (h98 : F.fn 89) (h99 : F.fn 90) (hro : F.round = none) (hm : 1 ≤ m) {n : Nat} (hn : n < 65536) (R : AH.Ren)
    (ht : ∀ (k x : Nat) (w : World), x < 65536 → 0 < x → HRel R [(100001, .ro tab64)] w → CallsIn F k Tryd.prog 90 #[.int .u64 x] w fun e w' => e = .returned (.int .i64 (tz x)) ∧ Below w.heap.size w w') (l : Nat) (A : Addr)
    (J Jx : List { x // x ∈ mem n } → World → Prop) (W : World) (hJ : AbidesFrom W.heap.size J)
    (hY : ∀ pre x W1, J pre W1 → pre.length < (mem n).length → YieldAt F (m - 1) Tryd.prog l #[Value.int .i64 x.1] W1 fun e W' =>
      (e = .returned (.bool true) ∧ J (pre ++ [x]) W' ∧ W'.heap[R.ρ 100001]? = W1.heap[R.ρ 100001]?) ∨ (e = .returned (.bool false) ∧ Jx (pre ++ [x]) W'))
    (hc : W.cell? A = some (.int .i64 n)) (hT : HRel R [(100001, .ro tab64)] W) (h0 : J [] W) :
    CallsIn F m Tryd.prog 89 #[.func (.yield l) #[] #[], .pointer (some A)] W fun e W' => (∃ v, e = .returned v) ∧ ((∃ xs, xs.map Subtype.val = mem n ∧ J xs W') ∨ (∃ pre, pre.map Subtype.val <+: mem n ∧ Jx pre W')) := by
  have hwrap : IntKind.u64.wrap (n : Int) = n := by
    exact wrapU (by omega)
  refine callsIn_of_wp Tryd.func89 rfl h98 ?_ hro
  simp only [Tryd.ntmps89, List.size_toArray, List.length_cons, List.length_nil, Nat.reduceAdd, Nat.reduceSub, Array.replicate_succ, Array.replicate_zero, List.push_toArray, List.append_toArray, List.nil_append, List.cons_append]
  gi_wp2
  gi_loopw [3] (fun p wr => ∃ (z : Int) (x : Nat) (pre : List { x // x ∈ mem n }), p = .int .u64 z ∧ z = x ∧ x < 65536 ∧ mem n = pre.map Subtype.val ++ mem x ∧ J pre wr ∧ HRel R [(100001, .ro tab64)] wr)
    (fun p _ => match p with | .int _ k => k.toNat | _ => 0)
  case atStart =>
    exact ⟨_, n, [], rfl, rfl, hn, rfl, h0, hT⟩
  case round =>
    obtain ⟨z, x, pre, rfl, hz, hx, hmem, hJs, hT'⟩ := hrel
    by_cases hx0 : x = 0
    · subst hx0
      obtain rfl : z = 0 := hz
      gi_wp2
      go_end0
      exact ⟨⟨_, rfl⟩, .inl ⟨pre, by simpa [mem, memN_zero] using hmem.symm, hJs⟩⟩
    · subst hz
      have hxi : ((x : Int) == 0) = false := by simpa using hx0
      have hpos : 0 < x := by omega
      have hst := mem_step hx hpos
      have hin : (tz x : Int) ∈ mem n := by rw [hmem, hst]; simp
      have hlen : pre.length < (mem n).length := by
        have := congrArg List.length hmem
        rw [hst] at this
        simp at this ⊢; omega
      gi_wp2_with (gi_at_call 90; refine (ht (m - 1) x wr hx hpos hT').mono ?_; rintro e w2 ⟨rfl, hb⟩; have hg : wr.grownBy w2 none := ⟨hb.os, hb.tape, hb.output, hb.size, fun k hk _ => hb.block k hk⟩; have hJ2 : J pre w2 := hJ pre wr w2 none hJs hg (fun r e => by cases e); obtain ⟨fn, tmps, assign, body, hy, hR⟩ := hY pre ⟨tz x, hin⟩ w2 hJ2 hlen)
      refine hR.mono ?_
      rintro e W3 (⟨rfl, hJ3, hk3⟩ | ⟨rfl, hJx3⟩)
      · gi_wp2
        go_roundw
        case rel =>
          refine ⟨_, x &&& (x - 1), pre ++ [⟨tz x, hin⟩], rfl, and_bits x hx hpos, by have := (memN_step hx hpos).2; omega, hmem.trans (by rw [hst]; simp), hJ3, ?_⟩
          have hT2 : HRel R [(100001, .ro tab64)] w2 := ⟨fun i b hi => (hT'.blk i b hi).of_block (hb.block _ (hT'.blk i b hi).lt), hT'.inj⟩
          refine ⟨fun i b hi => (hT2.blk i b hi).of_block ?_, hT'.inj⟩
          simp only [lk] at hi
          split at hi
          · rename_i e; subst e; exact hk3
          · cases hi
        case measure =>
          have h1 := and_bits x hx hpos
          have h2 := (memN_step hx hpos).2
          simp only [h1]
          show (((x &&& (x - 1) : Nat) : Int)).toNat < ((x : Nat) : Int).toNat
          omega
      · gi_wp2
        refine bodyPost_ret (results_none rfl _ _ _) rfl ?_
        exact ⟨⟨_, rfl⟩, .inr ⟨pre ++ [⟨tz x, hin⟩], ⟨mem (x &&& (x - 1)), (hmem.trans (by rw [hst]; simp)).symm⟩, hJx3⟩⟩

theorem members1_iter {n : Nat} (hn : n < 65536) (id : Nat) (hid : id < GB) : FIter Tryd.prog 89 [id] [(id, .ro [.int .i64 n]), (100001, .ro tab64)] (mem n) := by
  have hne : id ≠ 100001 := by unfold GB at hid; omega
  refine ⟨Go.Proofs.enters_of Tryd.func89 (by kernel_rfl) rfl, fun R w m hok hm H l J Jx W hW hlW hJ hJx hY h0 => ?_⟩
  have hB := H.blk id (.ro [.int .i64 n]) (by simp [lk])
  obtain ⟨c, t, z, h1, h2⟩ := hB
  obtain ⟨v, h3, h4⟩ := h2 0 (.int .i64 n) rfl
  have h4 : v = .int .i64 n := h4
  subst h4
  have hlt : R.ρ id < w.heap.size := (Array.getElem?_eq_some_iff.1 h1).1
  have hc : W.cell? (R.adr id 0) = some (.int .i64 n) := by
    simp only [World.cell?, AH.Ren.adr, hW.block _ hlt, h1]
    simpa using h3
  have hT : HRel R [(100001, .ro tab64)] W := by
    refine ⟨fun i b hi => ?_, fun i j b c hi _ _ hw => ?_⟩
    · simp only [lk] at hi
      split at hi
      · rename_i e; subst e; injection hi with hi; subst hi
        have := H.blk 100001 (.ro tab64) (by simp [lk, hne])
        exact this.of_block (hW.block _ this.lt)
      · cases hi
    · simp only [lk] at hi
      split at hi
      · injection hi with hi; subst hi; cases hw
      · cases hi
  refine members1_in (FW none) m trivial trivial rfl hm hn R (fun k x w hx h0 H => callsFW (tz_calls hx h0 hok H)) l (R.adr id 0) J Jx W (own_abides hJ) (fun pre x W1 hJ1 hl => ?_) hc hT h0
  obtain ⟨fn, tmps, assign, body, hy, hR⟩ := hY pre x W1 hJ1 hl
  refine ⟨fn, tmps, assign, body, hy, hR.mono ?_⟩
  rintro e W' (⟨h5, h6, h7⟩ | h5)
  · exact .inl ⟨h5, h6, h7.1 100001 (.ro tab64) (by simp [lk, hne])⟩
  · exact .inr ⟨h5.1, h5.2.1⟩

theorem members_spec (n : Nat) : FDet Tryd.prog 76 [.c (.int .i64 n)] [] 0 (.c (.fn 89 [] [0])) [(0, .own [.int .i64 n])] 1 := by
  refine FSpec.body2 tok true Tryd.func76 ?_
  refine Wk.on ?_
  exact AH.Fin.new [0] _ _ ⟨rfl, rfl, rfl⟩ rfl (by simp only [hpAll]; exact (by (repeat (first | exact trivial | refine ⟨rfl, ?_⟩)))) rfl (by simp [tupA, hpLt, tmLt, AV.lt, AE.lt, AC.lt, LL_cons, LL_nil, idOk, ABlk.lt, ints_LL, GB]) (by simp [tupA, hpLt, tmLt, AV.lt, AE.lt, AC.lt, LL_cons, LL_nil, idOk, ABlk.lt, ints_LL, GB])
theorem odd_spec {n : Nat} (hn : n < 65536) : FDet Tryd.prog 60 [.c (.int .i64 n)] [] 0 (.c (.bool (decide (pop n % 2 = 1)))) [] 0 := by
  have hw : IntKind.u64.wrap (n : Int) = n := wrapU (by omega)
  refine FSpec.body2 tok true Tryd.func60 ?_
  refine Wk.on ?_
  rw [hw]
  refine CallA.ro2 [] (.c (.int .i64 (pop n))) (ones_spec hn) ?_
  refine Wk.on ?_
  exact AH.Fin.nil2 ⟨congrArg (fun b => AV.c (.bool b)) (decide_eq_decide.2 (by omega)), rfl, rfl⟩
theorem less_spec {a b : Nat} (ha : a < 65536) (hb : b < 65536) : FDet Tryd.prog 78 [.c (.int .i64 a), .c (.int .i64 b)] [] 0 (.c (.bool (lessB pop a b))) [] 0 := by
  have hw : IntKind.u64.wrap (a : Int) = a := wrapU (by omega)
  have hw2 : IntKind.u64.wrap (b : Int) = b := wrapU (by omega)
  have hd1 : decide (((pop a : Nat) : Int) < ((pop b : Nat) : Int)) = decide (pop a < pop b) := decide_eq_decide.2 (by omega)
  have hd2 : decide (((pop a : Nat) : Int) = ((pop b : Nat) : Int)) = decide (pop a = pop b) := decide_eq_decide.2 (by omega)
  have hd3 : decide ((a : Int) < (b : Int)) = decide (a < b) := decide_eq_decide.2 (by omega)
  refine FSpec.body2 tok true Tryd.func78 ?_
  refine Wk.on ?_
  rw [hw]
  refine CallA.ro2 [] (.c (.int .i64 (pop a))) (ones_spec ha) ?_
  refine Wk.on ?_
  rw [hw2]
  refine CallA.ro2 [] (.c (.int .i64 (pop b))) (ones_spec hb) ?_
  refine Wk.on ?_
  rw [hd1]
  unfold lessB
  by_cases h1 : pop a < pop b
  · rw [decide_eq_true h1]
    refine Wk.on ?_
    exact AH.Fin.nil2 ⟨rfl, rfl, rfl⟩
  · rw [decide_eq_false h1]
    refine Wk.on ?_
    rw [hd2]
    by_cases h2 : pop a = pop b
    · rw [decide_eq_true h2]
      refine Wk.on ?_
      rw [hd3]
      refine Wk.on ?_
      exact AH.Fin.nil2 ⟨by cases decide (a < b) <;> rfl, rfl, rfl⟩
    · rw [decide_eq_false h2]
      refine Wk.on ?_
      exact AH.Fin.nil2 ⟨rfl, rfl, rfl⟩
def lenN (n : Nat) : Nat := if n = 0 then 0 else n.log2 + 1
theorem wrap8 {n : Nat} (h : n < 256) : IntKind.u8.wrap (n : Int) = n := AH.wrap_small _ _ (by omega) (by show (n : Int) < 2 ^ 8; omega) (by intro h; cases h)
theorem log2_shift {n : Nat} (h : 256 ≤ n) : n.log2 = (n / 256).log2 + 8 := by
  have h0 : n / 256 ≠ 0 := by omega
  have hb := Nat.testBit_log2 h0
  refine log2_of ?_ fun j hj => ?_
  · rw [show 256 = 2 ^ 8 from rfl, Nat.testBit_div_two_pow] at hb; exact hb
  · have := log2_hi (b := n / 256) (j := j - 8) (by omega)
    rw [show 256 = 2 ^ 8 from rfl, Nat.testBit_div_two_pow] at this
    rwa [show j - 8 + 8 = j by omega] at this
theorem len64_spec {n : Nat} (hn : n < 65536) : FDet Tryd.prog 86 [.c (.int .u64 n)] [] 0 (.c (.int .i64 (lenN n))) [] 0 := by
  refine FSpec.body2 tok true Tryd.func86 ?_
  refine Wk.on ?_
  rw [decide_eq_false (show ¬ (4294967296 : Int) ≤ (n : Int) by omega)]
  refine Wk.on ?_
  rw [decide_eq_false (show ¬ (65536 : Int) ≤ (n : Int) by omega)]
  refine Wk.on ?_
  by_cases h : n < 256
  · rw [decide_eq_false (show ¬ (256 : Int) ≤ (n : Int) by omega)]
    refine Wk.on ?_
    rw [wrap8 h]
    generalize hX : ByteArray.mk _ = X
    have hsz : X.size = 256 := by rw [← hX]; kernel_rfl
    have key : ∀ m : Nat, m < 256 → IntKind.i64.wrap (((X.data.toList.getD m 0).toNat : Nat) : Int) = lenN m := by rw [← hX]; decide +kernel
    clear hX
    refine ⟨⟨by omega, by omega⟩, ?_⟩
    rw [Int.toNat_natCast]
    refine Wk.on ?_
    rw [key n h]
    have hl2 : lenN n ≤ 8 := by
      unfold lenN
      split
      · omega
      · have := (Nat.log2_lt (n := n) (k := 8) (by omega)).2 (by omega); omega
    refine Wk.on ?_
    exact AH.Fin.nil2 ⟨by show AV.c (.int .i64 (0 + (lenN n : Nat))) = _; rw [Int.zero_add], rfl, rfl⟩
  · rw [decide_eq_true (show (256 : Int) ≤ (n : Int) by omega)]
    refine Wk.on ?_
    have hd : (n : Int) / 2 ^ (8 : Int).toNat = ((n / 256 : Nat) : Int) := by rw [Int.natCast_ediv]; rfl
    rw [hd, wrap8 (by omega)]
    generalize hX : ByteArray.mk _ = X
    have hsz : X.size = 256 := by rw [← hX]; kernel_rfl
    have key : ∀ m : Nat, m < 256 → IntKind.i64.wrap (((X.data.toList.getD m 0).toNat : Nat) : Int) = lenN m := by rw [← hX]; decide +kernel
    clear hX
    refine ⟨⟨by omega, by omega⟩, ?_⟩
    rw [Int.toNat_natCast]
    refine Wk.on ?_
    rw [key (n / 256) (by omega)]
    have hl : lenN n = lenN (n / 256) + 8 := by
      unfold lenN
      rw [if_neg (by omega), if_neg (by omega), log2_shift (by omega)]
    have hl2 : lenN (n / 256) ≤ 8 := by
      unfold lenN
      split
      · omega
      · have := (Nat.log2_lt (n := n / 256) (k := 8) (by omega)).2 (by omega); omega
    refine Wk.on ?_
    exact AH.Fin.nil2 ⟨by show AV.c (.int .i64 (0 + 8 + (lenN (n / 256) : Nat))) = _; rw [hl]; simp; omega, rfl, rfl⟩
theorem len_spec {n : Nat} (hn : n < 65536) : FDet Tryd.prog 71 [.c (.int .u64 n)] [] 0 (.c (.int .i64 (lenN n))) [] 0 := by
  refine FSpec.body2 tok true Tryd.func71 ?_
  refine Wk.on ?_
  refine CallA.ro2 [] (.c (.int .i64 (lenN n))) (len64_spec hn) ?_
  refine Wk.on ?_
  exact AH.Fin.nil2 ⟨rfl, rfl, rfl⟩
end Go.Proofs.YtimknijehaamlaaDoor

/-
  Sorting by insertion. (Plain Lean, nothing of the program.)
-/
namespace Go.Lin

def insR (lt : Int → Int → Bool) (x : Int) : List Int → List Int
  | [] => [x]
  | y :: ys => if lt x y then y :: insR lt x ys else x :: y :: ys
def isortR (lt : Int → Int → Bool) (L : List Int) : List Int := L.foldl (fun acc x => insR lt x acc) []
def isort (lt : Int → Int → Bool) (L : List Int) : List Int := (isortR lt L).reverse
theorem insR_perm (lt : Int → Int → Bool) (x : Int) (L : List Int) : (insR lt x L).Perm (x :: L) := by
  induction L with
  | nil => exact .refl _
  | cons y L ih =>
    rw [insR]
    split
    · exact (List.Perm.cons y ih).trans (.swap x y L)
    · exact .refl _
theorem isortR_perm (lt : Int → Int → Bool) (L : List Int) : (isortR lt L).Perm L := by
  have : ∀ (L acc : List Int), (L.foldl (fun acc x => insR lt x acc) acc).Perm (L ++ acc) := by
    intro L
    induction L with
    | nil => intro acc; exact .refl _
    | cons x L ih =>
      intro acc
      refine (ih _).trans ?_
      exact (List.Perm.append_left L (insR_perm lt x acc)).trans List.perm_middle
  have := this L []
  rwa [List.append_nil] at this
theorem isort_perm (lt : Int → Int → Bool) (L : List Int) : (isort lt L).Perm L := (List.reverse_perm _).trans (isortR_perm lt L)
theorem insR_sorted (f : Int → Int) (x : Int) {L : List Int} (h : L.Pairwise fun a b => f b ≤ f a) : (insR (fun x y => decide (f x < f y)) x L).Pairwise fun a b => f b ≤ f a := by
  induction L with
  | nil => simp [insR]
  | cons y L ih =>
    rw [List.pairwise_cons] at h
    rw [insR]
    split
    · rename_i hlt
      have hlt := of_decide_eq_true hlt
      rw [List.pairwise_cons]
      refine ⟨fun z hz => ?_, ih h.2⟩
      rcases List.mem_cons.1 ((insR_perm _ x L).mem_iff.1 hz) with rfl | hz
      · omega
      · exact h.1 z hz
    · rename_i hlt
      have hlt : ¬ f x < f y := by simpa using hlt
      rw [List.pairwise_cons, List.pairwise_cons]
      refine ⟨fun z hz => ?_, h.1, h.2⟩
      rcases List.mem_cons.1 hz with rfl | hz
      · omega
      · have := h.1 z hz; omega
theorem isort_sorted (f : Int → Int) (L : List Int) : (isort (fun x y => decide (f x < f y)) L).Pairwise fun a b => f a ≤ f b := by
  have : ∀ (L acc : List Int), acc.Pairwise (fun a b => f b ≤ f a) → (L.foldl (fun acc x => insR (fun x y => decide (f x < f y)) x acc) acc).Pairwise fun a b => f b ≤ f a := by
    intro L
    induction L with
    | nil => intro acc h; exact h
    | cons x L ih => intro acc h; exact ih _ (insR_sorted f x h)
  rw [isort, List.pairwise_reverse]
  exact this L [] .nil
theorem sorted_ext {f : Int → Int} (hf : ∀ a b, f a = f b → a = b) : ∀ {L M : List Int}, L.Pairwise (fun a b => f a ≤ f b) → M.Pairwise (fun a b => f a < f b) → L.Perm M → L = M
  | L, [], _, _, hp => hp.eq_nil
  | [], m :: M, _, _, hp => hp.symm.eq_nil.symm
  | l :: L, m :: M, hL, hM, hp => by
    rw [List.pairwise_cons] at hL hM
    have h1 : f m ≤ f l := by
      rcases List.mem_cons.1 (hp.mem_iff.1 (List.mem_cons_self (a := l))) with h | h
      · rw [h]; exact Int.le_refl _
      · have := hM.1 l h; omega
    have h2 : f l ≤ f m := by
      rcases List.mem_cons.1 (hp.mem_iff.2 (List.mem_cons_self (a := m))) with h | h
      · rw [h]; exact Int.le_refl _
      · exact hL.1 m h
    obtain rfl := hf l m (by omega)
    rw [sorted_ext hf hL.2 hM.2 (List.Perm.cons_inv hp)]
def asc (x y : Int) : Bool := decide (x < y)
def desc (x y : Int) : Bool := decide (y < x)
theorem desc_eq : desc = fun x y => decide (-x < -y) := by
  funext x y
  unfold desc
  exact decide_eq_decide.2 (by omega)
def castL (L : List Nat) : List Int := L.map Int.ofNat
theorem castL_len (L : List Nat) : (castL L).length = L.length := by simp [castL]
/-- One more is put where it belongs. -/
theorem isort_insD {s : Nat} {L : List Nat} (h : Ech (insD s L)) : isort desc (castL (L ++ [s])) = castL (insD s L) := by
  rw [desc_eq]
  refine sorted_ext (f := fun x => -x) (fun a b h => by omega) (isort_sorted _ _) ?_ ((isort_perm _ _).trans ?_)
  · unfold castL
    rw [List.pairwise_map]
    exact h.pairwise.imp fun {a b} h => by have := lt_of_log2 h; show -(a : Int) < -(b : Int); omega
  · refine List.Perm.map _ ?_
    exact (List.perm_append_comm.trans (show ([s] ++ L).Perm (s :: L) from .refl _)).trans (insD_perm s L).symm
theorem isort_rev {L : List Nat} (h : Ech L) : isort asc (castL L) = castL L.reverse := by
  refine sorted_ext (f := fun x => x) (fun a b h => h) (isort_sorted (fun x => x) _) ?_ ((isort_perm _ _).trans ?_)
  · unfold castL
    rw [List.pairwise_map, List.pairwise_reverse]
    exact h.pairwise.imp fun {a b} h => by have := lt_of_log2 h; show (b : Int) < (a : Int); omega
  · exact List.Perm.map _ (List.reverse_perm L).symm
end Go.Lin
