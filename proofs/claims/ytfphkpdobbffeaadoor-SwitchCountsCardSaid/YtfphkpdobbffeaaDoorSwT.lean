/-
  The types of this translation, as a table that the kernel holds against the program.
-/
import Derived.Test.YtfphkpdobbffeaaDoorRows
import Derived.Test.YtfphkpdobbffeaaDoorAh12
set_option linter.unusedSimpArgs false
set_option linter.unusedVariables false
namespace Go.Proofs.YtfphkpdobbffeaaDoor
open Go.AH
set_option maxRecDepth 100000

def tt : Nat → Option TI
  | 1 => some ⟨.func, 1, 8, [.nilfn], false⟩
  | 2 => some ⟨.int .i64, 1, 8, [.int .i64 0], false⟩
  | 3 => some ⟨.int .i64, 1, 8, [.int .i64 0], false⟩
  | 4 => some ⟨.bool, 1, 1, [.bool false], false⟩
  | 5 => some ⟨.int .u8, 1, 1, [.int .u8 0], false⟩
  | 6 => some ⟨.int .u8, 1, 1, [.int .u8 0], false⟩
  | 7 => some ⟨.struct [(0, 2), (1, 3), (2, 4), (3, 6)], 4, 24, [.int .i64 0, .int .i64 0, .bool false, .int .u8 0], false⟩
  | 8 => some ⟨.struct [(0, 2), (1, 3), (2, 4), (3, 6)], 4, 24, [.int .i64 0, .int .i64 0, .bool false, .int .u8 0], false⟩
  | 9 => some ⟨.str, 1, 16, [.str ByteArray.empty], false⟩
  | 10 => some ⟨.str, 1, 16, [.str ByteArray.empty], false⟩
  | 11 => some ⟨.str, 1, 16, [.str ByteArray.empty], false⟩
  | 12 => some ⟨.int .u64, 1, 8, [.int .u64 0], false⟩
  | 13 => some ⟨.struct [(0, 9), (1, 12)], 2, 24, [.str ByteArray.empty, .int .u64 0], false⟩
  | 14 => some ⟨.struct [(0, 9), (1, 12)], 2, 24, [.str ByteArray.empty, .int .u64 0], false⟩
  | 15 => some ⟨.ptr, 1, 8, [.nilp], false⟩
  | 16 => some ⟨.ptr, 1, 8, [.nilp], false⟩
  | 17 => some ⟨.ptr, 1, 8, [.nilp], false⟩
  | 18 => some ⟨.struct [(0, 17)], 1, 8, [.nilp], false⟩
  | 19 => some ⟨.struct [(0, 17)], 1, 8, [.nilp], false⟩
  | 21 => some ⟨.int .i32, 1, 4, [.int .i32 0], false⟩
  | 22 => some ⟨.slice 60, 1, 24, [.nils], false⟩
  | 23 => some ⟨.struct [(0, 3), (1, 3), (2, 3), (3, 22)], 4, 48, [.int .i64 0, .int .i64 0, .int .i64 0, .nils], false⟩
  | 24 => some ⟨.struct [(0, 3), (1, 3), (2, 3), (3, 22)], 4, 48, [.int .i64 0, .int .i64 0, .int .i64 0, .nils], false⟩
  | 25 => some ⟨.struct [(0, 3), (1, 3), (2, 3), (3, 22)], 4, 48, [.int .i64 0, .int .i64 0, .int .i64 0, .nils], false⟩
  | 26 => some ⟨.func, 1, 8, [.nilfn], false⟩
  | 27 => some ⟨.int .i64, 1, 8, [.int .i64 0], false⟩
  | 29 => some ⟨.func, 1, 8, [.nilfn], false⟩
  | 30 => some ⟨.func, 1, 8, [.nilfn], false⟩
  | 31 => some ⟨.func, 1, 8, [.nilfn], false⟩
  | 32 => some ⟨.func, 1, 8, [.nilfn], false⟩
  | 33 => some ⟨.func, 1, 8, [.nilfn], false⟩
  | 35 => some ⟨.func, 1, 8, [.nilfn], false⟩
  | 36 => some ⟨.func, 1, 8, [.nilfn], false⟩
  | 37 => some ⟨.slice 3, 1, 24, [.nils], false⟩
  | 38 => some ⟨.arr 2 37, 2, 48, [.nils, .nils], false⟩
  | 40 => some ⟨.func, 1, 8, [.nilfn], false⟩
  | 41 => some ⟨.slice 37, 1, 24, [.nils], false⟩
  | 43 => some ⟨.func, 1, 8, [.nilfn], false⟩
  | 44 => some ⟨.func, 1, 8, [.nilfn], false⟩
  | 45 => some ⟨.func, 1, 8, [.nilfn], false⟩
  | 46 => some ⟨.func, 1, 8, [.nilfn], false⟩
  | 47 => some ⟨.func, 1, 8, [.nilfn], false⟩
  | 48 => some ⟨.func, 1, 8, [.nilfn], false⟩
  | 50 => some ⟨.func, 1, 8, [.nilfn], false⟩
  | 51 => some ⟨.func, 1, 8, [.nilfn], false⟩
  | 52 => some ⟨.int .u64, 1, 8, [.int .u64 0], false⟩
  | 53 => some ⟨.func, 1, 8, [.nilfn], false⟩
  | 55 => some ⟨.func, 1, 8, [.nilfn], false⟩
  | 56 => some ⟨.func, 1, 8, [.nilfn], false⟩
  | 57 => some ⟨.func, 1, 8, [.nilfn], false⟩
  | 59 => some ⟨.func, 1, 8, [.nilfn], false⟩
  | 60 => some ⟨.arr 2 3, 2, 16, [.int .i64 0, .int .i64 0], true⟩
  | 61 => some ⟨.func, 1, 8, [.nilfn], false⟩
  | 62 => some ⟨.func, 1, 8, [.nilfn], false⟩
  | 63 => some ⟨.func, 1, 8, [.nilfn], false⟩
  | 64 => some ⟨.func, 1, 8, [.nilfn], false⟩
  | 65 => some ⟨.func, 1, 8, [.nilfn], false⟩
  | 66 => some ⟨.func, 1, 8, [.nilfn], false⟩
  | 67 => some ⟨.func, 1, 8, [.nilfn], false⟩
  | 68 => some ⟨.func, 1, 8, [.nilfn], false⟩
  | 69 => some ⟨.func, 1, 8, [.nilfn], false⟩
  | 70 => some ⟨.func, 1, 8, [.nilfn], false⟩
  | 71 => some ⟨.func, 1, 8, [.nilfn], false⟩
  | 72 => some ⟨.func, 1, 8, [.nilfn], false⟩
  | 73 => some ⟨.func, 1, 8, [.nilfn], false⟩
  | 74 => some ⟨.func, 1, 8, [.nilfn], false⟩
  | 75 => some ⟨.func, 1, 8, [.nilfn], false⟩
  | 76 => some ⟨.func, 1, 8, [.nilfn], false⟩
  | 77 => some ⟨.func, 1, 8, [.nilfn], false⟩
  | 78 => some ⟨.func, 1, 8, [.nilfn], false⟩
  | 79 => some ⟨.ptr, 1, 8, [.nilp], false⟩
  | 80 => some ⟨.func, 1, 8, [.nilfn], false⟩
  | 81 => some ⟨.func, 1, 8, [.nilfn], false⟩
  | 82 => some ⟨.struct [(0, 3), (1, 3)], 2, 16, [.int .i64 0, .int .i64 0], false⟩
  | 83 => some ⟨.struct [(0, 3), (1, 3)], 2, 16, [.int .i64 0, .int .i64 0], false⟩
  | 84 => some ⟨.func, 1, 8, [.nilfn], false⟩
  | 85 => some ⟨.struct [(0, 83), (2, 4)], 3, 24, [.int .i64 0, .int .i64 0, .bool false], false⟩
  | 86 => some ⟨.struct [(0, 83), (2, 4)], 3, 24, [.int .i64 0, .int .i64 0, .bool false], true⟩
  | 87 => some ⟨.func, 1, 8, [.nilfn], false⟩
  | 88 => some ⟨.func, 1, 8, [.nilfn], false⟩
  | 90 => some ⟨.struct [(0, 3), (1, 3)], 2, 16, [.int .i64 0, .int .i64 0], false⟩
  | 91 => some ⟨.struct [(0, 3), (1, 3)], 2, 16, [.int .i64 0, .int .i64 0], true⟩
  | 92 => some ⟨.func, 1, 8, [.nilfn], false⟩
  | 93 => some ⟨.func, 1, 8, [.nilfn], false⟩
  | 94 => some ⟨.func, 1, 8, [.nilfn], false⟩
  | 95 => some ⟨.arr 8 3, 8, 64, [.int .i64 0, .int .i64 0, .int .i64 0, .int .i64 0, .int .i64 0, .int .i64 0, .int .i64 0, .int .i64 0], false⟩
  | 96 => some ⟨.func, 1, 8, [.nilfn], false⟩
  | 97 => some ⟨.func, 1, 8, [.nilfn], false⟩
  | 98 => some ⟨.func, 1, 8, [.nilfn], false⟩
  | 99 => some ⟨.func, 1, 8, [.nilfn], false⟩
  | 101 => some ⟨.func, 1, 8, [.nilfn], false⟩
  | 102 => some ⟨.func, 1, 8, [.nilfn], false⟩
  | 104 => some ⟨.func, 1, 8, [.nilfn], false⟩
  | 105 => some ⟨.func, 1, 8, [.nilfn], false⟩
  | 106 => some ⟨.func, 1, 8, [.nilfn], false⟩
  | 107 => some ⟨.func, 1, 8, [.nilfn], false⟩
  | 108 => some ⟨.func, 1, 8, [.nilfn], false⟩
  | 109 => some ⟨.func, 1, 8, [.nilfn], false⟩
  | 110 => some ⟨.func, 1, 8, [.nilfn], false⟩
  | 111 => some ⟨.func, 1, 8, [.nilfn], false⟩
  | 112 => some ⟨.func, 1, 8, [.nilfn], false⟩
  | 113 => some ⟨.func, 1, 8, [.nilfn], false⟩
  | 114 => some ⟨.func, 1, 8, [.nilfn], false⟩
  | 115 => some ⟨.slice 5, 1, 24, [.nils], false⟩
  | 116 => some ⟨.func, 1, 8, [.nilfn], false⟩
  | 117 => some ⟨.func, 1, 8, [.nilfn], false⟩
  | 118 => some ⟨.func, 1, 8, [.nilfn], false⟩
  | 119 => some ⟨.func, 1, 8, [.nilfn], false⟩
  | 120 => some ⟨.func, 1, 8, [.nilfn], false⟩
  | 121 => some ⟨.func, 1, 8, [.nilfn], false⟩
  | 122 => some ⟨.func, 1, 8, [.nilfn], false⟩
  | 123 => some ⟨.func, 1, 8, [.nilfn], false⟩
  | 124 => some ⟨.map 86 4, 1, 8, [.nilm], false⟩
  | 125 => some ⟨.struct [(0, 24), (4, 124)], 5, 56, [.int .i64 0, .int .i64 0, .int .i64 0, .nils, .nilm], false⟩
  | 126 => some ⟨.struct [(0, 24), (4, 124)], 5, 56, [.int .i64 0, .int .i64 0, .int .i64 0, .nils, .nilm], false⟩
  | 128 => some ⟨.func, 1, 8, [.nilfn], false⟩
  | 129 => some ⟨.arr 8 3, 8, 64, [.int .i64 0, .int .i64 0, .int .i64 0, .int .i64 0, .int .i64 0, .int .i64 0, .int .i64 0, .int .i64 0], false⟩
  | 130 => some ⟨.func, 1, 8, [.nilfn], false⟩
  | 131 => some ⟨.func, 1, 8, [.nilfn], false⟩
  | 132 => some ⟨.func, 1, 8, [.nilfn], false⟩
  | 133 => some ⟨.func, 1, 8, [.nilfn], false⟩
  | 134 => some ⟨.func, 1, 8, [.nilfn], false⟩
  | 135 => some ⟨.func, 1, 8, [.nilfn], false⟩
  | 136 => some ⟨.func, 1, 8, [.nilfn], false⟩
  | 140 => some ⟨.func, 1, 8, [.nilfn], false⟩
  | 141 => some ⟨.func, 1, 8, [.nilfn], false⟩
  | 142 => some ⟨.ptr, 1, 8, [.nilp], false⟩
  | 143 => some ⟨.func, 1, 8, [.nilfn], false⟩
  | 144 => some ⟨.func, 1, 8, [.nilfn], false⟩
  | 145 => some ⟨.func, 1, 8, [.nilfn], false⟩
  | 146 => some ⟨.int .u32, 1, 4, [.int .u32 0], false⟩
  | 147 => some ⟨.func, 1, 8, [.nilfn], false⟩
  | 148 => some ⟨.int .u64, 1, 8, [.int .u64 0], false⟩
  | 149 => some ⟨.ptr, 1, 8, [.nilp], false⟩
  | 150 => some ⟨.func, 1, 8, [.nilfn], false⟩
  | 152 => some ⟨.func, 1, 8, [.nilfn], false⟩
  | 153 => some ⟨.func, 1, 8, [.nilfn], false⟩
  | 154 => some ⟨.func, 1, 8, [.nilfn], false⟩
  | 155 => some ⟨.int .i64, 1, 8, [.int .i64 0], false⟩
  | 157 => some ⟨.func, 1, 8, [.nilfn], false⟩
  | 158 => some ⟨.func, 1, 8, [.nilfn], false⟩
  | 159 => some ⟨.func, 1, 8, [.nilfn], false⟩
  | 160 => some ⟨.func, 1, 8, [.nilfn], false⟩
  | 161 => some ⟨.arr 32 5, 32, 32, List.replicate 32 (.int .u8 0), false⟩
  | 162 => some ⟨.arr 64 5, 64, 64, List.replicate 64 (.int .u8 0), false⟩
  | 163 => some ⟨.func, 1, 8, [.nilfn], false⟩
  | 164 => some ⟨.int .u64, 1, 8, [.int .u64 0], false⟩
  | 165 => some ⟨.func, 1, 8, [.nilfn], false⟩
  | 166 => some ⟨.func, 1, 8, [.nilfn], false⟩
  | 167 => some ⟨.func, 1, 8, [.nilfn], false⟩
  | 168 => some ⟨.ptr, 1, 8, [.nilp], false⟩
  | 169 => some ⟨.func, 1, 8, [.nilfn], false⟩
  | 171 => some ⟨.struct [(0, 5), (1, 5)], 2, 2, [.int .u8 0, .int .u8 0], false⟩
  | 172 => some ⟨.struct [(0, 5), (1, 5)], 2, 2, [.int .u8 0, .int .u8 0], false⟩
  | 173 => some ⟨.arr 16 172, 32, 32, List.replicate 32 (.int .u8 0), false⟩
  | 174 => some ⟨.func, 1, 8, [.nilfn], false⟩
  | 175 => some ⟨.func, 1, 8, [.nilfn], false⟩
  | 176 => some ⟨.func, 1, 8, [.nilfn], false⟩
  | 177 => some ⟨.ptr, 1, 8, [.nilp], false⟩
  | 179 => some ⟨.func, 1, 8, [.nilfn], false⟩
  | 180 => some ⟨.func, 1, 8, [.nilfn], false⟩
  | 181 => some ⟨.struct [(0, 17), (1, 17), (2, 17), (3, 9)], 4, 40, [.nilp, .nilp, .nilp, .str ByteArray.empty], false⟩
  | 182 => some ⟨.struct [(0, 17), (1, 17), (2, 17), (3, 9)], 4, 40, [.nilp, .nilp, .nilp, .str ByteArray.empty], false⟩
  | 183 => some ⟨.arr 0 16, 0, 0, [], false⟩
  | 184 => some ⟨.struct [(0, 183)], 0, 0, [], false⟩
  | 185 => some ⟨.struct [(0, 183)], 0, 0, [], false⟩
  | 186 => some ⟨.int .u8, 1, 1, [.int .u8 0], false⟩
  | 187 => some ⟨.int .u8, 1, 1, [.int .u8 0], false⟩
  | 188 => some ⟨.func, 1, 8, [.nilfn], false⟩
  | 189 => some ⟨.ptr, 1, 8, [.nilp], false⟩
  | 190 => some ⟨.int .i32, 1, 4, [.int .i32 0], false⟩
  | 191 => some ⟨.int .i32, 1, 4, [.int .i32 0], false⟩
  | 192 => some ⟨.struct [(0, 12), (1, 12), (2, 146), (3, 186), (4, 5), (5, 5), (6, 187), (7, 188), (8, 189), (9, 190), (10, 191)], 11, 48, [.int .u64 0, .int .u64 0, .int .u32 0, .int .u8 0, .int .u8 0, .int .u8 0, .int .u8 0, .nilfn, .nilp, .int .i32 0, .int .i32 0], false⟩
  | 193 => some ⟨.struct [(0, 12), (1, 12), (2, 146), (3, 186), (4, 5), (5, 5), (6, 187), (7, 188), (8, 189), (9, 190), (10, 191)], 11, 48, [.int .u64 0, .int .u64 0, .int .u32 0, .int .u8 0, .int .u8 0, .int .u8 0, .int .u8 0, .nilfn, .nilp, .int .i32 0, .int .i32 0], false⟩
  | _ => none

theorem tt_1 : tt 1 = some ⟨.func, 1, 8, [.nilfn], false⟩ := rfl
theorem tt_2 : tt 2 = some ⟨.int .i64, 1, 8, [.int .i64 0], false⟩ := rfl
theorem tt_3 : tt 3 = some ⟨.int .i64, 1, 8, [.int .i64 0], false⟩ := rfl
theorem tt_4 : tt 4 = some ⟨.bool, 1, 1, [.bool false], false⟩ := rfl
theorem tt_5 : tt 5 = some ⟨.int .u8, 1, 1, [.int .u8 0], false⟩ := rfl
theorem tt_6 : tt 6 = some ⟨.int .u8, 1, 1, [.int .u8 0], false⟩ := rfl
theorem tt_7 : tt 7 = some ⟨.struct [(0, 2), (1, 3), (2, 4), (3, 6)], 4, 24, [.int .i64 0, .int .i64 0, .bool false, .int .u8 0], false⟩ := rfl
theorem tt_8 : tt 8 = some ⟨.struct [(0, 2), (1, 3), (2, 4), (3, 6)], 4, 24, [.int .i64 0, .int .i64 0, .bool false, .int .u8 0], false⟩ := rfl
theorem tt_9 : tt 9 = some ⟨.str, 1, 16, [.str ByteArray.empty], false⟩ := rfl
theorem tt_10 : tt 10 = some ⟨.str, 1, 16, [.str ByteArray.empty], false⟩ := rfl
theorem tt_11 : tt 11 = some ⟨.str, 1, 16, [.str ByteArray.empty], false⟩ := rfl
theorem tt_12 : tt 12 = some ⟨.int .u64, 1, 8, [.int .u64 0], false⟩ := rfl
theorem tt_13 : tt 13 = some ⟨.struct [(0, 9), (1, 12)], 2, 24, [.str ByteArray.empty, .int .u64 0], false⟩ := rfl
theorem tt_14 : tt 14 = some ⟨.struct [(0, 9), (1, 12)], 2, 24, [.str ByteArray.empty, .int .u64 0], false⟩ := rfl
theorem tt_15 : tt 15 = some ⟨.ptr, 1, 8, [.nilp], false⟩ := rfl
theorem tt_16 : tt 16 = some ⟨.ptr, 1, 8, [.nilp], false⟩ := rfl
theorem tt_17 : tt 17 = some ⟨.ptr, 1, 8, [.nilp], false⟩ := rfl
theorem tt_18 : tt 18 = some ⟨.struct [(0, 17)], 1, 8, [.nilp], false⟩ := rfl
theorem tt_19 : tt 19 = some ⟨.struct [(0, 17)], 1, 8, [.nilp], false⟩ := rfl
theorem tt_21 : tt 21 = some ⟨.int .i32, 1, 4, [.int .i32 0], false⟩ := rfl
theorem tt_22 : tt 22 = some ⟨.slice 60, 1, 24, [.nils], false⟩ := rfl
theorem tt_23 : tt 23 = some ⟨.struct [(0, 3), (1, 3), (2, 3), (3, 22)], 4, 48, [.int .i64 0, .int .i64 0, .int .i64 0, .nils], false⟩ := rfl
theorem tt_24 : tt 24 = some ⟨.struct [(0, 3), (1, 3), (2, 3), (3, 22)], 4, 48, [.int .i64 0, .int .i64 0, .int .i64 0, .nils], false⟩ := rfl
theorem tt_25 : tt 25 = some ⟨.struct [(0, 3), (1, 3), (2, 3), (3, 22)], 4, 48, [.int .i64 0, .int .i64 0, .int .i64 0, .nils], false⟩ := rfl
theorem tt_26 : tt 26 = some ⟨.func, 1, 8, [.nilfn], false⟩ := rfl
theorem tt_27 : tt 27 = some ⟨.int .i64, 1, 8, [.int .i64 0], false⟩ := rfl
theorem tt_29 : tt 29 = some ⟨.func, 1, 8, [.nilfn], false⟩ := rfl
theorem tt_30 : tt 30 = some ⟨.func, 1, 8, [.nilfn], false⟩ := rfl
theorem tt_31 : tt 31 = some ⟨.func, 1, 8, [.nilfn], false⟩ := rfl
theorem tt_32 : tt 32 = some ⟨.func, 1, 8, [.nilfn], false⟩ := rfl
theorem tt_33 : tt 33 = some ⟨.func, 1, 8, [.nilfn], false⟩ := rfl
theorem tt_35 : tt 35 = some ⟨.func, 1, 8, [.nilfn], false⟩ := rfl
theorem tt_36 : tt 36 = some ⟨.func, 1, 8, [.nilfn], false⟩ := rfl
theorem tt_37 : tt 37 = some ⟨.slice 3, 1, 24, [.nils], false⟩ := rfl
theorem tt_38 : tt 38 = some ⟨.arr 2 37, 2, 48, [.nils, .nils], false⟩ := rfl
theorem tt_40 : tt 40 = some ⟨.func, 1, 8, [.nilfn], false⟩ := rfl
theorem tt_41 : tt 41 = some ⟨.slice 37, 1, 24, [.nils], false⟩ := rfl
theorem tt_43 : tt 43 = some ⟨.func, 1, 8, [.nilfn], false⟩ := rfl
theorem tt_44 : tt 44 = some ⟨.func, 1, 8, [.nilfn], false⟩ := rfl
theorem tt_45 : tt 45 = some ⟨.func, 1, 8, [.nilfn], false⟩ := rfl
theorem tt_46 : tt 46 = some ⟨.func, 1, 8, [.nilfn], false⟩ := rfl
theorem tt_47 : tt 47 = some ⟨.func, 1, 8, [.nilfn], false⟩ := rfl
theorem tt_48 : tt 48 = some ⟨.func, 1, 8, [.nilfn], false⟩ := rfl
theorem tt_50 : tt 50 = some ⟨.func, 1, 8, [.nilfn], false⟩ := rfl
theorem tt_51 : tt 51 = some ⟨.func, 1, 8, [.nilfn], false⟩ := rfl
theorem tt_52 : tt 52 = some ⟨.int .u64, 1, 8, [.int .u64 0], false⟩ := rfl
theorem tt_53 : tt 53 = some ⟨.func, 1, 8, [.nilfn], false⟩ := rfl
theorem tt_55 : tt 55 = some ⟨.func, 1, 8, [.nilfn], false⟩ := rfl
theorem tt_56 : tt 56 = some ⟨.func, 1, 8, [.nilfn], false⟩ := rfl
theorem tt_57 : tt 57 = some ⟨.func, 1, 8, [.nilfn], false⟩ := rfl
theorem tt_59 : tt 59 = some ⟨.func, 1, 8, [.nilfn], false⟩ := rfl
theorem tt_60 : tt 60 = some ⟨.arr 2 3, 2, 16, [.int .i64 0, .int .i64 0], true⟩ := rfl
theorem tt_61 : tt 61 = some ⟨.func, 1, 8, [.nilfn], false⟩ := rfl
theorem tt_62 : tt 62 = some ⟨.func, 1, 8, [.nilfn], false⟩ := rfl
theorem tt_63 : tt 63 = some ⟨.func, 1, 8, [.nilfn], false⟩ := rfl
theorem tt_64 : tt 64 = some ⟨.func, 1, 8, [.nilfn], false⟩ := rfl
theorem tt_65 : tt 65 = some ⟨.func, 1, 8, [.nilfn], false⟩ := rfl
theorem tt_66 : tt 66 = some ⟨.func, 1, 8, [.nilfn], false⟩ := rfl
theorem tt_67 : tt 67 = some ⟨.func, 1, 8, [.nilfn], false⟩ := rfl
theorem tt_68 : tt 68 = some ⟨.func, 1, 8, [.nilfn], false⟩ := rfl
theorem tt_69 : tt 69 = some ⟨.func, 1, 8, [.nilfn], false⟩ := rfl
theorem tt_70 : tt 70 = some ⟨.func, 1, 8, [.nilfn], false⟩ := rfl
theorem tt_71 : tt 71 = some ⟨.func, 1, 8, [.nilfn], false⟩ := rfl
theorem tt_72 : tt 72 = some ⟨.func, 1, 8, [.nilfn], false⟩ := rfl
theorem tt_73 : tt 73 = some ⟨.func, 1, 8, [.nilfn], false⟩ := rfl
theorem tt_74 : tt 74 = some ⟨.func, 1, 8, [.nilfn], false⟩ := rfl
theorem tt_75 : tt 75 = some ⟨.func, 1, 8, [.nilfn], false⟩ := rfl
theorem tt_76 : tt 76 = some ⟨.func, 1, 8, [.nilfn], false⟩ := rfl
theorem tt_77 : tt 77 = some ⟨.func, 1, 8, [.nilfn], false⟩ := rfl
theorem tt_78 : tt 78 = some ⟨.func, 1, 8, [.nilfn], false⟩ := rfl
theorem tt_79 : tt 79 = some ⟨.ptr, 1, 8, [.nilp], false⟩ := rfl
theorem tt_80 : tt 80 = some ⟨.func, 1, 8, [.nilfn], false⟩ := rfl
theorem tt_81 : tt 81 = some ⟨.func, 1, 8, [.nilfn], false⟩ := rfl
theorem tt_82 : tt 82 = some ⟨.struct [(0, 3), (1, 3)], 2, 16, [.int .i64 0, .int .i64 0], false⟩ := rfl
theorem tt_83 : tt 83 = some ⟨.struct [(0, 3), (1, 3)], 2, 16, [.int .i64 0, .int .i64 0], false⟩ := rfl
theorem tt_84 : tt 84 = some ⟨.func, 1, 8, [.nilfn], false⟩ := rfl
theorem tt_85 : tt 85 = some ⟨.struct [(0, 83), (2, 4)], 3, 24, [.int .i64 0, .int .i64 0, .bool false], false⟩ := rfl
theorem tt_86 : tt 86 = some ⟨.struct [(0, 83), (2, 4)], 3, 24, [.int .i64 0, .int .i64 0, .bool false], true⟩ := rfl
theorem tt_87 : tt 87 = some ⟨.func, 1, 8, [.nilfn], false⟩ := rfl
theorem tt_88 : tt 88 = some ⟨.func, 1, 8, [.nilfn], false⟩ := rfl
theorem tt_90 : tt 90 = some ⟨.struct [(0, 3), (1, 3)], 2, 16, [.int .i64 0, .int .i64 0], false⟩ := rfl
theorem tt_91 : tt 91 = some ⟨.struct [(0, 3), (1, 3)], 2, 16, [.int .i64 0, .int .i64 0], true⟩ := rfl
theorem tt_92 : tt 92 = some ⟨.func, 1, 8, [.nilfn], false⟩ := rfl
theorem tt_93 : tt 93 = some ⟨.func, 1, 8, [.nilfn], false⟩ := rfl
theorem tt_94 : tt 94 = some ⟨.func, 1, 8, [.nilfn], false⟩ := rfl
theorem tt_95 : tt 95 = some ⟨.arr 8 3, 8, 64, [.int .i64 0, .int .i64 0, .int .i64 0, .int .i64 0, .int .i64 0, .int .i64 0, .int .i64 0, .int .i64 0], false⟩ := rfl
theorem tt_96 : tt 96 = some ⟨.func, 1, 8, [.nilfn], false⟩ := rfl
theorem tt_97 : tt 97 = some ⟨.func, 1, 8, [.nilfn], false⟩ := rfl
theorem tt_98 : tt 98 = some ⟨.func, 1, 8, [.nilfn], false⟩ := rfl
theorem tt_99 : tt 99 = some ⟨.func, 1, 8, [.nilfn], false⟩ := rfl
theorem tt_101 : tt 101 = some ⟨.func, 1, 8, [.nilfn], false⟩ := rfl
theorem tt_102 : tt 102 = some ⟨.func, 1, 8, [.nilfn], false⟩ := rfl
theorem tt_104 : tt 104 = some ⟨.func, 1, 8, [.nilfn], false⟩ := rfl
theorem tt_105 : tt 105 = some ⟨.func, 1, 8, [.nilfn], false⟩ := rfl
theorem tt_106 : tt 106 = some ⟨.func, 1, 8, [.nilfn], false⟩ := rfl
theorem tt_107 : tt 107 = some ⟨.func, 1, 8, [.nilfn], false⟩ := rfl
theorem tt_108 : tt 108 = some ⟨.func, 1, 8, [.nilfn], false⟩ := rfl
theorem tt_109 : tt 109 = some ⟨.func, 1, 8, [.nilfn], false⟩ := rfl
theorem tt_110 : tt 110 = some ⟨.func, 1, 8, [.nilfn], false⟩ := rfl
theorem tt_111 : tt 111 = some ⟨.func, 1, 8, [.nilfn], false⟩ := rfl
theorem tt_112 : tt 112 = some ⟨.func, 1, 8, [.nilfn], false⟩ := rfl
theorem tt_113 : tt 113 = some ⟨.func, 1, 8, [.nilfn], false⟩ := rfl
theorem tt_114 : tt 114 = some ⟨.func, 1, 8, [.nilfn], false⟩ := rfl
theorem tt_115 : tt 115 = some ⟨.slice 5, 1, 24, [.nils], false⟩ := rfl
theorem tt_116 : tt 116 = some ⟨.func, 1, 8, [.nilfn], false⟩ := rfl
theorem tt_117 : tt 117 = some ⟨.func, 1, 8, [.nilfn], false⟩ := rfl
theorem tt_118 : tt 118 = some ⟨.func, 1, 8, [.nilfn], false⟩ := rfl
theorem tt_119 : tt 119 = some ⟨.func, 1, 8, [.nilfn], false⟩ := rfl
theorem tt_120 : tt 120 = some ⟨.func, 1, 8, [.nilfn], false⟩ := rfl
theorem tt_121 : tt 121 = some ⟨.func, 1, 8, [.nilfn], false⟩ := rfl
theorem tt_122 : tt 122 = some ⟨.func, 1, 8, [.nilfn], false⟩ := rfl
theorem tt_123 : tt 123 = some ⟨.func, 1, 8, [.nilfn], false⟩ := rfl
theorem tt_124 : tt 124 = some ⟨.map 86 4, 1, 8, [.nilm], false⟩ := rfl
theorem tt_125 : tt 125 = some ⟨.struct [(0, 24), (4, 124)], 5, 56, [.int .i64 0, .int .i64 0, .int .i64 0, .nils, .nilm], false⟩ := rfl
theorem tt_126 : tt 126 = some ⟨.struct [(0, 24), (4, 124)], 5, 56, [.int .i64 0, .int .i64 0, .int .i64 0, .nils, .nilm], false⟩ := rfl
theorem tt_128 : tt 128 = some ⟨.func, 1, 8, [.nilfn], false⟩ := rfl
theorem tt_129 : tt 129 = some ⟨.arr 8 3, 8, 64, [.int .i64 0, .int .i64 0, .int .i64 0, .int .i64 0, .int .i64 0, .int .i64 0, .int .i64 0, .int .i64 0], false⟩ := rfl
theorem tt_130 : tt 130 = some ⟨.func, 1, 8, [.nilfn], false⟩ := rfl
theorem tt_131 : tt 131 = some ⟨.func, 1, 8, [.nilfn], false⟩ := rfl
theorem tt_132 : tt 132 = some ⟨.func, 1, 8, [.nilfn], false⟩ := rfl
theorem tt_133 : tt 133 = some ⟨.func, 1, 8, [.nilfn], false⟩ := rfl
theorem tt_134 : tt 134 = some ⟨.func, 1, 8, [.nilfn], false⟩ := rfl
theorem tt_135 : tt 135 = some ⟨.func, 1, 8, [.nilfn], false⟩ := rfl
theorem tt_136 : tt 136 = some ⟨.func, 1, 8, [.nilfn], false⟩ := rfl
theorem tt_140 : tt 140 = some ⟨.func, 1, 8, [.nilfn], false⟩ := rfl
theorem tt_141 : tt 141 = some ⟨.func, 1, 8, [.nilfn], false⟩ := rfl
theorem tt_142 : tt 142 = some ⟨.ptr, 1, 8, [.nilp], false⟩ := rfl
theorem tt_143 : tt 143 = some ⟨.func, 1, 8, [.nilfn], false⟩ := rfl
theorem tt_144 : tt 144 = some ⟨.func, 1, 8, [.nilfn], false⟩ := rfl
theorem tt_145 : tt 145 = some ⟨.func, 1, 8, [.nilfn], false⟩ := rfl
theorem tt_146 : tt 146 = some ⟨.int .u32, 1, 4, [.int .u32 0], false⟩ := rfl
theorem tt_147 : tt 147 = some ⟨.func, 1, 8, [.nilfn], false⟩ := rfl
theorem tt_148 : tt 148 = some ⟨.int .u64, 1, 8, [.int .u64 0], false⟩ := rfl
theorem tt_149 : tt 149 = some ⟨.ptr, 1, 8, [.nilp], false⟩ := rfl
theorem tt_150 : tt 150 = some ⟨.func, 1, 8, [.nilfn], false⟩ := rfl
theorem tt_152 : tt 152 = some ⟨.func, 1, 8, [.nilfn], false⟩ := rfl
theorem tt_153 : tt 153 = some ⟨.func, 1, 8, [.nilfn], false⟩ := rfl
theorem tt_154 : tt 154 = some ⟨.func, 1, 8, [.nilfn], false⟩ := rfl
theorem tt_155 : tt 155 = some ⟨.int .i64, 1, 8, [.int .i64 0], false⟩ := rfl
theorem tt_157 : tt 157 = some ⟨.func, 1, 8, [.nilfn], false⟩ := rfl
theorem tt_158 : tt 158 = some ⟨.func, 1, 8, [.nilfn], false⟩ := rfl
theorem tt_159 : tt 159 = some ⟨.func, 1, 8, [.nilfn], false⟩ := rfl
theorem tt_160 : tt 160 = some ⟨.func, 1, 8, [.nilfn], false⟩ := rfl
theorem tt_161 : tt 161 = some ⟨.arr 32 5, 32, 32, List.replicate 32 (.int .u8 0), false⟩ := rfl
theorem tt_162 : tt 162 = some ⟨.arr 64 5, 64, 64, List.replicate 64 (.int .u8 0), false⟩ := rfl
theorem tt_163 : tt 163 = some ⟨.func, 1, 8, [.nilfn], false⟩ := rfl
theorem tt_164 : tt 164 = some ⟨.int .u64, 1, 8, [.int .u64 0], false⟩ := rfl
theorem tt_165 : tt 165 = some ⟨.func, 1, 8, [.nilfn], false⟩ := rfl
theorem tt_166 : tt 166 = some ⟨.func, 1, 8, [.nilfn], false⟩ := rfl
theorem tt_167 : tt 167 = some ⟨.func, 1, 8, [.nilfn], false⟩ := rfl
theorem tt_168 : tt 168 = some ⟨.ptr, 1, 8, [.nilp], false⟩ := rfl
theorem tt_169 : tt 169 = some ⟨.func, 1, 8, [.nilfn], false⟩ := rfl
theorem tt_171 : tt 171 = some ⟨.struct [(0, 5), (1, 5)], 2, 2, [.int .u8 0, .int .u8 0], false⟩ := rfl
theorem tt_172 : tt 172 = some ⟨.struct [(0, 5), (1, 5)], 2, 2, [.int .u8 0, .int .u8 0], false⟩ := rfl
theorem tt_173 : tt 173 = some ⟨.arr 16 172, 32, 32, List.replicate 32 (.int .u8 0), false⟩ := rfl
theorem tt_174 : tt 174 = some ⟨.func, 1, 8, [.nilfn], false⟩ := rfl
theorem tt_175 : tt 175 = some ⟨.func, 1, 8, [.nilfn], false⟩ := rfl
theorem tt_176 : tt 176 = some ⟨.func, 1, 8, [.nilfn], false⟩ := rfl
theorem tt_177 : tt 177 = some ⟨.ptr, 1, 8, [.nilp], false⟩ := rfl
theorem tt_179 : tt 179 = some ⟨.func, 1, 8, [.nilfn], false⟩ := rfl
theorem tt_180 : tt 180 = some ⟨.func, 1, 8, [.nilfn], false⟩ := rfl
theorem tt_181 : tt 181 = some ⟨.struct [(0, 17), (1, 17), (2, 17), (3, 9)], 4, 40, [.nilp, .nilp, .nilp, .str ByteArray.empty], false⟩ := rfl
theorem tt_182 : tt 182 = some ⟨.struct [(0, 17), (1, 17), (2, 17), (3, 9)], 4, 40, [.nilp, .nilp, .nilp, .str ByteArray.empty], false⟩ := rfl
theorem tt_183 : tt 183 = some ⟨.arr 0 16, 0, 0, [], false⟩ := rfl
theorem tt_184 : tt 184 = some ⟨.struct [(0, 183)], 0, 0, [], false⟩ := rfl
theorem tt_185 : tt 185 = some ⟨.struct [(0, 183)], 0, 0, [], false⟩ := rfl
theorem tt_186 : tt 186 = some ⟨.int .u8, 1, 1, [.int .u8 0], false⟩ := rfl
theorem tt_187 : tt 187 = some ⟨.int .u8, 1, 1, [.int .u8 0], false⟩ := rfl
theorem tt_188 : tt 188 = some ⟨.func, 1, 8, [.nilfn], false⟩ := rfl
theorem tt_189 : tt 189 = some ⟨.ptr, 1, 8, [.nilp], false⟩ := rfl
theorem tt_190 : tt 190 = some ⟨.int .i32, 1, 4, [.int .i32 0], false⟩ := rfl
theorem tt_191 : tt 191 = some ⟨.int .i32, 1, 4, [.int .i32 0], false⟩ := rfl
theorem tt_192 : tt 192 = some ⟨.struct [(0, 12), (1, 12), (2, 146), (3, 186), (4, 5), (5, 5), (6, 187), (7, 188), (8, 189), (9, 190), (10, 191)], 11, 48, [.int .u64 0, .int .u64 0, .int .u32 0, .int .u8 0, .int .u8 0, .int .u8 0, .int .u8 0, .nilfn, .nilp, .int .i32 0, .int .i32 0], false⟩ := rfl
theorem tt_193 : tt 193 = some ⟨.struct [(0, 12), (1, 12), (2, 146), (3, 186), (4, 5), (5, 5), (6, 187), (7, 188), (8, 189), (9, 190), (10, 191)], 11, 48, [.int .u64 0, .int .u64 0, .int .u32 0, .int .u8 0, .int .u8 0, .int .u8 0, .int .u8 0, .nilfn, .nilp, .int .i32 0, .int .i32 0], false⟩ := rfl

theorem tok : TOk Tryd.prog tt := by
  intro t i h
  unfold tt at h
  split at h <;> first | (cases h; done) | (injection h with h; subst h; exact tiok_of (by kernel_rfl) (by kernel_rfl)) 

end Go.Proofs.YtfphkpdobbffeaaDoor
