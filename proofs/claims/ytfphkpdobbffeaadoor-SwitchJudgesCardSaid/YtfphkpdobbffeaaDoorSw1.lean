/-
  The types of this translation, as a table that the kernel holds against the program.
-/
import Derived.Test.YtfphkpdobbffeaaDoorRows
import Derived.Test.YtfphkpdobbffeaaDoorAh4
import Derived.Test.YtfphkpdobbffeaaDoorAh6
import Derived.Test.YtfphkpdobbffeaaDoorAh5
import Derived.RangeFuncLeaves
import Derived.OwnWalkIn
import Derived.TacticsInMore
import Derived.LoopNIn
import Derived.LoopIn
set_option linter.unusedSimpArgs false
set_option linter.unusedVariables false
namespace Go.Proofs.YtfphkpdobbffeaaDoor
open Go.AH
set_option maxRecDepth 100000

def tt : Nat → Option TI
  | 1 => some ⟨.func, 1, 8, [.nilfn], false⟩
  | 2 => some ⟨.int .i64, 1, 8, [.int .i64 0], false⟩
  | 3 => some ⟨.int .i64, 1, 8, [.int .i64 0], false⟩
  | 4 => some ⟨.bool, 1, 1, [.bool false], false⟩
  | 5 => some ⟨.int .u8, 1, 1, [.int .u8 0], false⟩
  | 6 => some ⟨.int .u8, 1, 1, [.int .u8 0], false⟩
  | 7 => some ⟨.struct [(0, 2), (1, 3), (2, 4), (3, 6)], 4, 24, [.int .i64 0, .int .i64 0, .bool false, .int .u8 0], false⟩
  | 8 => some ⟨.struct [(0, 2), (1, 3), (2, 4), (3, 6)], 4, 24, [.int .i64 0, .int .i64 0, .bool false, .int .u8 0], false⟩
  | 9 => some ⟨.str, 1, 16, [.str ByteArray.empty], false⟩
  | 10 => some ⟨.str, 1, 16, [.str ByteArray.empty], false⟩
  | 11 => some ⟨.str, 1, 16, [.str ByteArray.empty], false⟩
  | 12 => some ⟨.int .u64, 1, 8, [.int .u64 0], false⟩
  | 13 => some ⟨.struct [(0, 9), (1, 12)], 2, 24, [.str ByteArray.empty, .int .u64 0], false⟩
  | 14 => some ⟨.struct [(0, 9), (1, 12)], 2, 24, [.str ByteArray.empty, .int .u64 0], false⟩
  | 15 => some ⟨.ptr, 1, 8, [.nilp], false⟩
  | 16 => some ⟨.ptr, 1, 8, [.nilp], false⟩
  | 17 => some ⟨.ptr, 1, 8, [.nilp], false⟩
  | 18 => some ⟨.struct [(0, 17)], 1, 8, [.nilp], false⟩
  | 19 => some ⟨.struct [(0, 17)], 1, 8, [.nilp], false⟩
  | 21 => some ⟨.int .i32, 1, 4, [.int .i32 0], false⟩
  | 22 => some ⟨.slice 60, 1, 24, [.nils], false⟩
  | 23 => some ⟨.struct [(0, 3), (1, 3), (2, 3), (3, 22)], 4, 48, [.int .i64 0, .int .i64 0, .int .i64 0, .nils], false⟩
  | 24 => some ⟨.struct [(0, 3), (1, 3), (2, 3), (3, 22)], 4, 48, [.int .i64 0, .int .i64 0, .int .i64 0, .nils], false⟩
  | 25 => some ⟨.struct [(0, 3), (1, 3), (2, 3), (3, 22)], 4, 48, [.int .i64 0, .int .i64 0, .int .i64 0, .nils], false⟩
  | 26 => some ⟨.func, 1, 8, [.nilfn], false⟩
  | 27 => some ⟨.int .i64, 1, 8, [.int .i64 0], false⟩
  | 29 => some ⟨.func, 1, 8, [.nilfn], false⟩
  | 30 => some ⟨.func, 1, 8, [.nilfn], false⟩
  | 31 => some ⟨.func, 1, 8, [.nilfn], false⟩
  | 32 => some ⟨.func, 1, 8, [.nilfn], false⟩
  | 33 => some ⟨.func, 1, 8, [.nilfn], false⟩
  | 35 => some ⟨.func, 1, 8, [.nilfn], false⟩
  | 36 => some ⟨.func, 1, 8, [.nilfn], false⟩
  | 37 => some ⟨.slice 3, 1, 24, [.nils], false⟩
  | 38 => some ⟨.arr 2 37, 2, 48, [.nils, .nils], false⟩
  | 40 => some ⟨.func, 1, 8, [.nilfn], false⟩
  | 41 => some ⟨.slice 37, 1, 24, [.nils], false⟩
  | 43 => some ⟨.func, 1, 8, [.nilfn], false⟩
  | 44 => some ⟨.func, 1, 8, [.nilfn], false⟩
  | 45 => some ⟨.func, 1, 8, [.nilfn], false⟩
  | 46 => some ⟨.func, 1, 8, [.nilfn], false⟩
  | 47 => some ⟨.func, 1, 8, [.nilfn], false⟩
  | 48 => some ⟨.func, 1, 8, [.nilfn], false⟩
  | 50 => some ⟨.func, 1, 8, [.nilfn], false⟩
  | 51 => some ⟨.func, 1, 8, [.nilfn], false⟩
  | 52 => some ⟨.int .u64, 1, 8, [.int .u64 0], false⟩
  | 53 => some ⟨.func, 1, 8, [.nilfn], false⟩
  | 55 => some ⟨.func, 1, 8, [.nilfn], false⟩
  | 56 => some ⟨.func, 1, 8, [.nilfn], false⟩
  | 57 => some ⟨.func, 1, 8, [.nilfn], false⟩
  | 59 => some ⟨.func, 1, 8, [.nilfn], false⟩
  | 60 => some ⟨.arr 2 3, 2, 16, [.int .i64 0, .int .i64 0], true⟩
  | 61 => some ⟨.func, 1, 8, [.nilfn], false⟩
  | 62 => some ⟨.func, 1, 8, [.nilfn], false⟩
  | 63 => some ⟨.func, 1, 8, [.nilfn], false⟩
  | 64 => some ⟨.func, 1, 8, [.nilfn], false⟩
  | 65 => some ⟨.func, 1, 8, [.nilfn], false⟩
  | 66 => some ⟨.func, 1, 8, [.nilfn], false⟩
  | 67 => some ⟨.func, 1, 8, [.nilfn], false⟩
  | 68 => some ⟨.func, 1, 8, [.nilfn], false⟩
  | 69 => some ⟨.func, 1, 8, [.nilfn], false⟩
  | 70 => some ⟨.func, 1, 8, [.nilfn], false⟩
  | 71 => some ⟨.func, 1, 8, [.nilfn], false⟩
  | 72 => some ⟨.func, 1, 8, [.nilfn], false⟩
  | 73 => some ⟨.func, 1, 8, [.nilfn], false⟩
  | 74 => some ⟨.func, 1, 8, [.nilfn], false⟩
  | 75 => some ⟨.func, 1, 8, [.nilfn], false⟩
  | 76 => some ⟨.func, 1, 8, [.nilfn], false⟩
  | 77 => some ⟨.func, 1, 8, [.nilfn], false⟩
  | 78 => some ⟨.func, 1, 8, [.nilfn], false⟩
  | 79 => some ⟨.ptr, 1, 8, [.nilp], false⟩
  | 80 => some ⟨.func, 1, 8, [.nilfn], false⟩
  | 81 => some ⟨.func, 1, 8, [.nilfn], false⟩
  | 82 => some ⟨.struct [(0, 3), (1, 3)], 2, 16, [.int .i64 0, .int .i64 0], false⟩
  | 83 => some ⟨.struct [(0, 3), (1, 3)], 2, 16, [.int .i64 0, .int .i64 0], false⟩
  | 84 => some ⟨.func, 1, 8, [.nilfn], false⟩
  | 85 => some ⟨.struct [(0, 83), (2, 4)], 3, 24, [.int .i64 0, .int .i64 0, .bool false], false⟩
  | 86 => some ⟨.struct [(0, 83), (2, 4)], 3, 24, [.int .i64 0, .int .i64 0, .bool false], true⟩
  | 87 => some ⟨.func, 1, 8, [.nilfn], false⟩
  | 88 => some ⟨.func, 1, 8, [.nilfn], false⟩
  | 90 => some ⟨.struct [(0, 3), (1, 3)], 2, 16, [.int .i64 0, .int .i64 0], false⟩
  | 91 => some ⟨.struct [(0, 3), (1, 3)], 2, 16, [.int .i64 0, .int .i64 0], true⟩
  | 92 => some ⟨.func, 1, 8, [.nilfn], false⟩
  | 93 => some ⟨.func, 1, 8, [.nilfn], false⟩
  | 94 => some ⟨.func, 1, 8, [.nilfn], false⟩
  | 95 => some ⟨.arr 8 3, 8, 64, [.int .i64 0, .int .i64 0, .int .i64 0, .int .i64 0, .int .i64 0, .int .i64 0, .int .i64 0, .int .i64 0], false⟩
  | 96 => some ⟨.func, 1, 8, [.nilfn], false⟩
  | 97 => some ⟨.func, 1, 8, [.nilfn], false⟩
  | 98 => some ⟨.func, 1, 8, [.nilfn], false⟩
  | 99 => some ⟨.func, 1, 8, [.nilfn], false⟩
  | 101 => some ⟨.func, 1, 8, [.nilfn], false⟩
  | 102 => some ⟨.func, 1, 8, [.nilfn], false⟩
  | 104 => some ⟨.func, 1, 8, [.nilfn], false⟩
  | 105 => some ⟨.func, 1, 8, [.nilfn], false⟩
  | 106 => some ⟨.func, 1, 8, [.nilfn], false⟩
  | 107 => some ⟨.func, 1, 8, [.nilfn], false⟩
  | 108 => some ⟨.func, 1, 8, [.nilfn], false⟩
  | 109 => some ⟨.func, 1, 8, [.nilfn], false⟩
  | 110 => some ⟨.func, 1, 8, [.nilfn], false⟩
  | 111 => some ⟨.func, 1, 8, [.nilfn], false⟩
  | 112 => some ⟨.func, 1, 8, [.nilfn], false⟩
  | 113 => some ⟨.func, 1, 8, [.nilfn], false⟩
  | 114 => some ⟨.func, 1, 8, [.nilfn], false⟩
  | 115 => some ⟨.slice 5, 1, 24, [.nils], false⟩
  | 116 => some ⟨.func, 1, 8, [.nilfn], false⟩
  | 117 => some ⟨.func, 1, 8, [.nilfn], false⟩
  | 118 => some ⟨.func, 1, 8, [.nilfn], false⟩
  | 119 => some ⟨.func, 1, 8, [.nilfn], false⟩
  | 120 => some ⟨.func, 1, 8, [.nilfn], false⟩
  | 121 => some ⟨.func, 1, 8, [.nilfn], false⟩
  | 122 => some ⟨.func, 1, 8, [.nilfn], false⟩
  | 123 => some ⟨.func, 1, 8, [.nilfn], false⟩
  | 124 => some ⟨.map 86 4, 1, 8, [.nilm], false⟩
  | 125 => some ⟨.struct [(0, 24), (4, 124)], 5, 56, [.int .i64 0, .int .i64 0, .int .i64 0, .nils, .nilm], false⟩
  | 126 => some ⟨.struct [(0, 24), (4, 124)], 5, 56, [.int .i64 0, .int .i64 0, .int .i64 0, .nils, .nilm], false⟩
  | 128 => some ⟨.func, 1, 8, [.nilfn], false⟩
  | 129 => some ⟨.arr 8 3, 8, 64, [.int .i64 0, .int .i64 0, .int .i64 0, .int .i64 0, .int .i64 0, .int .i64 0, .int .i64 0, .int .i64 0], false⟩
  | 130 => some ⟨.func, 1, 8, [.nilfn], false⟩
  | 131 => some ⟨.func, 1, 8, [.nilfn], false⟩
  | 132 => some ⟨.func, 1, 8, [.nilfn], false⟩
  | 133 => some ⟨.func, 1, 8, [.nilfn], false⟩
  | 134 => some ⟨.func, 1, 8, [.nilfn], false⟩
  | 135 => some ⟨.func, 1, 8, [.nilfn], false⟩
  | 136 => some ⟨.func, 1, 8, [.nilfn], false⟩
  | 137 => some ⟨.arr 256 4, 256, 256, List.replicate 256 (.bool false), false⟩
  | 138 => some ⟨.arr 256 4, 256, 256, List.replicate 256 (.bool false), false⟩
  | 140 => some ⟨.func, 1, 8, [.nilfn], false⟩
  | 141 => some ⟨.func, 1, 8, [.nilfn], false⟩
  | 142 => some ⟨.ptr, 1, 8, [.nilp], false⟩
  | 143 => some ⟨.func, 1, 8, [.nilfn], false⟩
  | 144 => some ⟨.func, 1, 8, [.nilfn], false⟩
  | 145 => some ⟨.func, 1, 8, [.nilfn], false⟩
  | 146 => some ⟨.int .u32, 1, 4, [.int .u32 0], false⟩
  | 147 => some ⟨.func, 1, 8, [.nilfn], false⟩
  | 148 => some ⟨.int .u64, 1, 8, [.int .u64 0], false⟩
  | 149 => some ⟨.ptr, 1, 8, [.nilp], false⟩
  | 150 => some ⟨.func, 1, 8, [.nilfn], false⟩
  | 152 => some ⟨.func, 1, 8, [.nilfn], false⟩
  | 153 => some ⟨.func, 1, 8, [.nilfn], false⟩
  | 154 => some ⟨.func, 1, 8, [.nilfn], false⟩
  | 155 => some ⟨.int .i64, 1, 8, [.int .i64 0], false⟩
  | 157 => some ⟨.func, 1, 8, [.nilfn], false⟩
  | 158 => some ⟨.func, 1, 8, [.nilfn], false⟩
  | 159 => some ⟨.func, 1, 8, [.nilfn], false⟩
  | 160 => some ⟨.func, 1, 8, [.nilfn], false⟩
  | 161 => some ⟨.arr 32 5, 32, 32, List.replicate 32 (.int .u8 0), false⟩
  | 162 => some ⟨.arr 64 5, 64, 64, List.replicate 64 (.int .u8 0), false⟩
  | 163 => some ⟨.func, 1, 8, [.nilfn], false⟩
  | 164 => some ⟨.int .u64, 1, 8, [.int .u64 0], false⟩
  | 165 => some ⟨.func, 1, 8, [.nilfn], false⟩
  | 166 => some ⟨.func, 1, 8, [.nilfn], false⟩
  | 167 => some ⟨.func, 1, 8, [.nilfn], false⟩
  | 168 => some ⟨.ptr, 1, 8, [.nilp], false⟩
  | 169 => some ⟨.func, 1, 8, [.nilfn], false⟩
  | 170 => some ⟨.arr 256 5, 256, 256, List.replicate 256 (.int .u8 0), false⟩
  | 171 => some ⟨.struct [(0, 5), (1, 5)], 2, 2, [.int .u8 0, .int .u8 0], false⟩
  | 172 => some ⟨.struct [(0, 5), (1, 5)], 2, 2, [.int .u8 0, .int .u8 0], false⟩
  | 173 => some ⟨.arr 16 172, 32, 32, List.replicate 32 (.int .u8 0), false⟩
  | 174 => some ⟨.func, 1, 8, [.nilfn], false⟩
  | 175 => some ⟨.func, 1, 8, [.nilfn], false⟩
  | 176 => some ⟨.func, 1, 8, [.nilfn], false⟩
  | 177 => some ⟨.ptr, 1, 8, [.nilp], false⟩
  | 179 => some ⟨.func, 1, 8, [.nilfn], false⟩
  | 180 => some ⟨.func, 1, 8, [.nilfn], false⟩
  | 181 => some ⟨.struct [(0, 17), (1, 17), (2, 17), (3, 9)], 4, 40, [.nilp, .nilp, .nilp, .str ByteArray.empty], false⟩
  | 182 => some ⟨.struct [(0, 17), (1, 17), (2, 17), (3, 9)], 4, 40, [.nilp, .nilp, .nilp, .str ByteArray.empty], false⟩
  | 183 => some ⟨.arr 0 16, 0, 0, [], false⟩
  | 184 => some ⟨.struct [(0, 183)], 0, 0, [], false⟩
  | 185 => some ⟨.struct [(0, 183)], 0, 0, [], false⟩
  | 186 => some ⟨.int .u8, 1, 1, [.int .u8 0], false⟩
  | 187 => some ⟨.int .u8, 1, 1, [.int .u8 0], false⟩
  | 188 => some ⟨.func, 1, 8, [.nilfn], false⟩
  | 189 => some ⟨.ptr, 1, 8, [.nilp], false⟩
  | 190 => some ⟨.int .i32, 1, 4, [.int .i32 0], false⟩
  | 191 => some ⟨.int .i32, 1, 4, [.int .i32 0], false⟩
  | 192 => some ⟨.struct [(0, 12), (1, 12), (2, 146), (3, 186), (4, 5), (5, 5), (6, 187), (7, 188), (8, 189), (9, 190), (10, 191)], 11, 48, [.int .u64 0, .int .u64 0, .int .u32 0, .int .u8 0, .int .u8 0, .int .u8 0, .int .u8 0, .nilfn, .nilp, .int .i32 0, .int .i32 0], false⟩
  | 193 => some ⟨.struct [(0, 12), (1, 12), (2, 146), (3, 186), (4, 5), (5, 5), (6, 187), (7, 188), (8, 189), (9, 190), (10, 191)], 11, 48, [.int .u64 0, .int .u64 0, .int .u32 0, .int .u8 0, .int .u8 0, .int .u8 0, .int .u8 0, .nilfn, .nilp, .int .i32 0, .int .i32 0], false⟩
  | _ => none

theorem tok : TOk Tryd.prog tt := by
  intro t i h
  unfold tt at h
  split at h <;> first | (cases h; done) | (injection h with h; subst h; exact tiok_of (by kernel_rfl) (by kernel_rfl)) 

end Go.Proofs.YtfphkpdobbffeaaDoor

/-
  Contracts: groups of places.
-/
namespace Go.Proofs.YtfphkpdobbffeaaDoor
open Go Go.AH
set_option maxRecDepth 100000
set_option maxHeartbeats 1000000

def aloneSt (i : Nat) : List Int := (List.range 8).map fun j => if j < i then (j : Int) else 0
theorem aloneSt_len (i : Nat) : (aloneSt i).length = 8 := by simp [aloneSt]
theorem aloneSt_set {i : Nat} (h : i < 8) : (aloneSt i).set i (i : Int) = aloneSt (i + 1) := by
  have : i = 0 ∨ i = 1 ∨ i = 2 ∨ i = 3 ∨ i = 4 ∨ i = 5 ∨ i = 6 ∨ i = 7 := by omega
  rcases this with rfl | rfl | rfl | rfl | rfl | rfl | rfl | rfl <;> rfl
theorem alone_spec : FDet Tryd.prog 94 [] [] 0 (.g (ints (aloneSt 8))) [] 0 := by
  refine FSpec.of_body tok true Tryd.func94 rfl (by kernel_rfl) (by decide) (by simp) (by simp [hpLt]) (by decide) ?_
  refine Wk.on ?_
  refine Tr.loop (md := true) (X := Nat) (st := fun i => ⟨[(3, .c (.int .i64 i)), (1, .c (.ptr 1 0)), (0, .c (.ptr 0 0))], [(1, .own (ints (aloneSt i))), (0, .own (ints (aloneSt 0)))], 2, 11, 0⟩) (inv := fun i => i ≤ 8) (μ := fun i => 8 - i) (x0 := 0) (l := []) tok (by decide) ?_ ?_
  · refine Sub.nil ?_ ?_ ?_
    · exact ⟨rfl, rfl, (by simp), rfl, (by simp [tupA, hpLt, tmLt, AV.lt, AE.lt, AC.lt, LL_cons, LL_nil, idOk, ABlk.lt, ints_LL, GB]), (by simp [tupA, hpLt, tmLt, AV.lt, AE.lt, AC.lt, LL_cons, LL_nil, idOk, ABlk.lt, ints_LL, GB])⟩
    · exact ⟨rfl, rfl, rfl, trivial⟩
    · exact ⟨rfl, rfl, trivial⟩
  · intro i hi
    refine Wk.on ?_
    refine ⟨fun h => ?_, fun h => ?_⟩ <;> simp only [decide_eq_true_eq, decide_eq_false_iff_not] at h
    · refine Wk.on ?_
      refine ⟨⟨rfl, by simp [ints_len, aloneSt_len]; omega⟩, ?_⟩
      refine Wk.on ?_
      refine Again.mk (i + 1) (Sub.nil ?_ ?_ ?_) (by omega) (by omega)
      · exact ⟨rfl, rfl, (by simp), rfl, (by simp [tupA, hpLt, tmLt, AV.lt, AE.lt, AC.lt, LL_cons, LL_nil, idOk, ABlk.lt, ints_LL, GB]), (by simp [tupA, hpLt, tmLt, AV.lt, AE.lt, AC.lt, LL_cons, LL_nil, idOk, ABlk.lt, ints_LL, GB])⟩
      · exact ⟨rfl, rfl, rfl, trivial⟩
      · refine ⟨?_, rfl, trivial⟩
        show ABlk.own _ = ABlk.own _
        simp [ints_set, aloneSt_set (show i < 8 by omega)]
    · obtain rfl : i = 8 := by omega
      refine Wk.on ?_
      exact Fin.nil [] ⟨rfl, rfl, rfl⟩ (ints_LL _ _) trivial trivial rfl (by decide)

def Grp (xs : List Int) : Prop := xs.length = 8 ∧ ∀ i, i < 8 → 0 ≤ xs.getD i 0 ∧ xs.getD i 0 ≤ i
def rootF (xs : List Int) : Nat → Nat → Nat
  | 0, n => n
  | f + 1, n => if xs.getD n 0 = n then n else rootF xs f (xs.getD n 0).toNat
def root (xs : List Int) (n : Nat) : Nat := rootF xs (n + 1) n
theorem rootF_enough {xs : List Int} (h : Grp xs) : ∀ f g n, n < 8 → n < f → n < g → rootF xs f n = rootF xs g n
  | 0, _, _, _, h1, _ => by omega
  | _, 0, _, _, _, h2 => by omega
  | f + 1, g + 1, n, hn, h1, h2 => by
    simp only [rootF]
    have := h.2 n hn
    split
    · rfl
    · exact rootF_enough h f g _ (by omega) (by omega) (by omega)
theorem root_stop {xs : List Int} {n : Nat} (h : xs.getD n 0 = n) : root xs n = n := by simp only [root, rootF, if_pos h]
theorem root_go {xs : List Int} (h : Grp xs) {n : Nat} (hn : n < 8) (hne : xs.getD n 0 ≠ n) : root xs n = root xs (xs.getD n 0).toNat := by
  have := h.2 n hn
  simp only [root]
  rw [show rootF xs (n + 1) n = rootF xs n (xs.getD n 0).toNat by simp only [rootF, if_neg hne]]
  exact rootF_enough h _ _ _ (by omega) (by omega) (by omega)
theorem root_le {xs : List Int} (h : Grp xs) {n : Nat} (hn : n < 8) : root xs n ≤ n := by
  have : ∀ f n, n < 8 → rootF xs f n ≤ n := by
    intro f
    induction f with
    | zero => intro n _; exact Nat.le_refl _
    | succ f ih =>
      intro n hn
      have h1 := h.2 n hn
      simp only [rootF]
      split
      · exact Nat.le_refl _
      · have := ih (xs.getD n 0).toNat (by omega); omega
  exact this _ n hn

theorem first_spec {xs : List Int} (h : Grp xs) {x : Nat} (hx : x < 8) : FDet Tryd.prog 110 [.c (.ptr 0 0), .c (.int .i64 x)] [(0, .ro (ints xs))] 1 (.c (.int .i64 (root xs x))) [] 1 := by
  refine FSpec.of_body tok true Tryd.func110 rfl (by kernel_rfl) (by decide) (by simp [AV.lt, AC.lt, idOk]) (by simp [hpLt, idOk, ABlk.lt, ints_LL]) (by show 2 ≤ _; decide) ?_
  refine Wk.on ?_
  refine Tr.loop (md := true) (X := Nat) (st := fun n => ⟨[(0, .c (.ptr 0 0)), (1, .c (.int .i64 n))], [(0, .ro (ints xs))], 1, 18, 1⟩) (inv := fun n => n < 8 ∧ root xs n = root xs x) (μ := fun n => n) (x0 := x) (l := []) tok ⟨hx, rfl⟩ ?_ ?_
  · exact Sub.nil ⟨rfl, rfl, (by simp), rfl, (by simp [tupA, hpLt, tmLt, AV.lt, AE.lt, AC.lt, LL_cons, LL_nil, idOk, ABlk.lt, ints_LL, GB]), (by simp [tupA, hpLt, tmLt, AV.lt, AE.lt, AC.lt, LL_cons, LL_nil, idOk, ABlk.lt, ints_LL, GB])⟩ ⟨rfl, rfl, trivial⟩ ⟨rfl, trivial⟩
  · rintro n ⟨hn, hr⟩
    have hg := h.2 n hn
    refine Wk.on ?_
    refine ⟨by simp [ints_len, h.1]; omega, ?_⟩
    simp only [ints_getD, Int.toNat_natCast, Nat.zero_add, Nat.mul_one]
    refine Wk.on ?_
    refine ⟨fun hc => ?_, fun hc => ?_⟩ <;> simp only [decide_eq_true_eq, decide_eq_false_iff_not, Decidable.not_not] at hc
    · refine Wk.on ?_
      refine ⟨by simp [ints_len, h.1]; omega, ?_⟩
      simp only [ints_getD, Int.toNat_natCast, Nat.zero_add, Nat.mul_one]
      refine Wk.on ?_
      refine Again.mk (xs.getD n 0).toNat (Sub.nil ⟨rfl, rfl, (by simp), rfl, (by simp [tupA, hpLt, tmLt, AV.lt, AE.lt, AC.lt, LL_cons, LL_nil, idOk, ABlk.lt, ints_LL, GB]), (by simp [tupA, hpLt, tmLt, AV.lt, AE.lt, AC.lt, LL_cons, LL_nil, idOk, ABlk.lt, ints_LL, GB])⟩ ⟨rfl, ?_, trivial⟩ ⟨rfl, trivial⟩) ⟨by omega, by rw [← root_go h hn hc]; exact hr⟩ (by omega)
      show AV.c _ = AV.c _
      rw [Int.toNat_of_nonneg hg.1]
    · refine Wk.on ?_
      exact Fin.nil [] ⟨by rw [← hr, root_stop hc]; rfl, rfl, rfl⟩ trivial trivial trivial rfl (by simp [GB])

def joinL (xs : List Int) (a b : Nat) : List Int := xs.set (max (root xs a) (root xs b)) (min (root xs a) (root xs b) : Nat)
theorem join_spec {xs : List Int} (h : Grp xs) {a b : Nat} (ha : a < 8) (hb : b < 8) : FDet Tryd.prog 95 [.c (.ptr 0 0), .g [.int .i64 a, .int .i64 b]] [(0, .own (ints xs))] 1 (.c (.bool (decide (root xs a ≠ root xs b)))) [(0, .own (ints (joinL xs a b)))] 1 := by
  have hra := root_le h ha
  have hrb := root_le h hb
  refine FSpec.of_body tok true Tryd.func95 rfl (by kernel_rfl) (by decide) (by simp [AV.lt, AC.lt, idOk, LL]) (by simp [hpLt, idOk, ABlk.lt, ints_LL]) (by show 2 ≤ _; decide) ?_
  refine Wk.on ?_
  refine Tr.draw (md := true) [⟨[], [8, 9, 11, 12, 13], [], [], []⟩, ⟨[], [7, 11, 12, 13], [0], [], []⟩, ⟨[1], [7, 11, 12, 13], [0], [], []⟩, ⟨[0, 1, 2], [11, 12, 13], [], [], []⟩, ⟨[], [7, 8, 9, 10, 12, 13], [0, 1, 2, 3], [], []⟩, ⟨[], [7, 8, 9, 10, 11], [0, 1, 2, 3, 4], [], []⟩, ⟨[5], [7, 8, 9, 10, 11], [0, 1, 2, 3, 4], [], []⟩] tok (by kernel_rfl) (by kernel_rfl) ?_
  refine Wk.on ?_
  refine CallQ.ro [0] (.c (.int .i64 (root xs a))) (first_spec h ha) rfl rfl ⟨⟨.inl (by decide), ?_⟩, trivial⟩ rfl ?_
  · exact Or.inl (congrArg some (ints_ren _ _).symm)
  refine Wk.on ?_
  refine CallA.ro [0] (.c (.int .i64 (root xs b))) (first_spec h hb) rfl rfl ⟨⟨.inl (by decide), ?_⟩, trivial⟩ rfl ?_
  · exact Or.inl (congrArg some (ints_ren _ _).symm)
  refine Wk.on ?_
  refine ⟨⟨rfl, by simp only [ints_len, h.1]; omega⟩, ?_⟩
  refine Wk.on ?_
  refine Fin.nil [(0, .own (ints (joinL xs a b)))] ⟨?_, rfl, rfl⟩ trivial ⟨?_, trivial⟩ (by simp [tupA, hpLt, tmLt, AV.lt, AE.lt, AC.lt, LL_cons, LL_nil, idOk, ABlk.lt, ints_LL, GB]) rfl (by simp [GB])
  · show AV.c (.bool _) = AV.c (.bool _)
    simp; omega
  · show ABlk.own _ = ABlk.own _
    have e : (0 + (max ((root xs a : Nat) : Int) ((root xs b : Nat) : Int)).toNat * 1) = max (root xs a) (root xs b) := by omega
    have e2 : (min ((root xs a : Nat) : Int) ((root xs b : Nat) : Int)) = ((min (root xs a) (root xs b) : Nat) : Int) := by omega
    rw [e, e2, ints_set]; rfl
end Go.Proofs.YtfphkpdobbffeaaDoor

/-
  Contracts: sets of places and wires as numbers.
-/
namespace Go.Proofs.YtfphkpdobbffeaaDoor
open Go Go.AH
set_option maxRecDepth 100000
set_option maxHeartbeats 1000000

def tabI : List Int := [0, 1, 56, 2, 57, 49, 28, 3, 61, 58, 42, 50, 38, 29, 17, 4, 62, 47, 59, 36, 45, 43, 51, 22, 53, 39, 33, 30, 24, 18, 12, 5, 63, 55, 48, 27, 60, 41, 37, 16, 46, 35, 44, 21, 52, 32, 23, 11, 54, 26, 40, 15, 34, 20, 31, 10, 25, 14, 19, 9, 13, 8, 7, 6]
def tab64 : List AC := tabI.map (AC.int .u8)
theorem tab64_getD (i : Nat) : tab64.getD i (.int .u8 0) = .int .u8 (tabI.getD i 0) := by
  simp [tab64, List.getD_eq_getElem?_getD]
theorem tab64_LL (n : Nat) : LL n tab64 := fun x hx => by
  obtain ⟨y, _, rfl⟩ := List.mem_map.1 hx; trivial
theorem tab64_ren (q : Nat → Nat) : tab64.map (AC.ren q) = tab64 := by
  simp [tab64, Function.comp_def, AC.ren]
theorem tab64_len : tab64.length = 64 := rfl

def tzF : Nat → Nat → Nat
  | 0, _ => 0
  | f + 1, n => if n % 2 = 1 then 0 else tzF f (n / 2) + 1
def tz (n : Nat) : Nat := tzF 10 n

def dbIdx (n : Int) : Int := (IntKind.u64.wrap (IntKind.u64.wrap ((BitVec.ofInt 64 n &&& BitVec.ofInt 64 (IntKind.u64.wrap (0 - n))).toNat) * 285870213051353865)).fdiv (2 ^ (min (58 : Int).toNat 64))
theorem dbIdx_ok : ∀ n : Nat, n < 1024 → 0 < n → (0 ≤ dbIdx n ∧ dbIdx n < 64) ∧ tabI.getD (dbIdx n).toNat 0 = tz n ∧ IntKind.i64.wrap (tz n) = tz n := by
  decide +kernel

theorem tz64_spec {n : Nat} (hn : n < 1024) (h0 : 0 < n) : FDet Tryd.prog 116 [.c (.int .u64 n)] [(100002, .ro tab64)] 0 (.c (.int .i64 (tz n))) [] 0 := by
  obtain ⟨k1, k2, k3⟩ := dbIdx_ok n hn h0
  refine FSpec.of_body tok false Tryd.func116 rfl (by kernel_rfl) (by decide) (by simp [AV.lt, AC.lt, idOk]) (by simp [hpLt, idOk, ABlk.lt, tab64_LL, GB]) (by show 1 ≤ _; decide) ?_
  refine Wk.on ?_
  refine ⟨fun hc => ?_, fun hc => ?_⟩ <;> simp only [decide_eq_true_eq, decide_eq_false_iff_not, Decidable.not_not] at hc
  · omega
  refine Wk.on ?_
  refine ⟨k1, ?_⟩
  refine Wk.on ?_
  refine ⟨by rw [tab64_len]; show 0 + (dbIdx n).toNat * 1 + 1 ≤ 64; omega, ?_⟩
  rw [tab64_getD, show (0 + Int.toNat _ * 1) = (dbIdx n).toNat from by rw [Nat.zero_add, Nat.mul_one]; rfl, k2]
  refine Wk.on ?_
  exact Fin.nil [] ⟨by show AV.c (.int .i64 (IntKind.i64.wrap (tz n))) = _; rw [k3], rfl, rfl⟩ trivial trivial trivial rfl (by simp [GB])
theorem tz_spec {n : Nat} (hn : n < 1024) (h0 : 0 < n) : FDet Tryd.prog 99 [.c (.int .u64 n)] [(100002, .ro tab64)] 0 (.c (.int .i64 (tz n))) [] 0 := by
  refine FSpec.of_body tok false Tryd.func99 rfl (by kernel_rfl) (by decide) (by simp [AV.lt, AC.lt, idOk]) (by simp [hpLt, idOk, ABlk.lt, tab64_LL, GB]) (by show 1 ≤ _; decide) ?_
  refine Wk.on ?_
  refine CallA.ro [] (.c (.int .i64 (tz n))) (tz64_spec hn h0) rfl rfl ⟨⟨.inr (by decide), ?_⟩, trivial⟩ rfl ?_
  · exact Or.inl (congrArg some (tab64_ren _).symm)
  refine Wk.on ?_
  exact Fin.nil [] ⟨rfl, rfl, rfl⟩ trivial trivial trivial rfl (by simp [GB])

def memN (n : Nat) : List Nat := (List.range 10).filter n.testBit
def mem (n : Nat) : List Int := (memN n).map Int.ofNat
theorem memN_step : ∀ n, n < 1024 → 0 < n → memN n = tz n :: memN (n &&& (n - 1)) ∧ (n &&& (n - 1)) < n := by decide +kernel
theorem memN_zero : memN 0 = [] := by decide
theorem mem_step {n : Nat} (hn : n < 1024) (h0 : 0 < n) : mem n = (tz n : Int) :: mem (n &&& (n - 1)) := by
  simp only [mem, (memN_step n hn h0).1]; rfl
end Go.Proofs.YtfphkpdobbffeaaDoor

/-
  The iterator over a set's elements.
-/
namespace Go.Proofs.YtfphkpdobbffeaaDoor
open Go Go.AH Go.RowKit Go.Shelf
attribute [local go_sem] Oper.semAt_some
set_option maxRecDepth 100000
set_option maxHeartbeats 1000000

theorem tz_calls {n : Nat} (hn : n < 1024) (h0 : 0 < n) {R : AH.Ren} (hok : R.ok) {w : World} (H : HRel R [(100002, .ro tab64)] w) : Calls Tryd.prog 99 #[.int .u64 n] w fun e w' => e = .returned (.int .i64 (tz n)) ∧ Below w.heap.size w w' := by
  refine ((tz_spec hn h0).run w R #[.int .u64 n] hok rfl ?_ H).mono ?_
  · intro i v hi
    cases i with
    | zero => simp at hi; subst hi; exact ⟨_, rfl, rfl⟩
    | succ i => simp at hi
  · rintro e w' ⟨u, r, hp', k', R', rfl, ⟨rfl, rfl, rfl⟩, _, _, _, hc, _, _, _, _, _, hf, _⟩
    have hc : u = _ := hc
    subst hc
    refine ⟨rfl, (hf.mono (M' := fun _ => False) ?_).below⟩
    rintro k ⟨i, b, hb, hw, _⟩
    simp only [lk] at hb
    split at hb
    · injection hb with hb; subst hb; cases hw
    · cases hb

theorem and_bits : ∀ x : Nat, x < 1024 → 0 < x → bits BinOp.and IntKind.u64 (x : Int) ((x : Int) - 1) = ((x &&& (x - 1) : Nat) : Int) := by decide +kernel
theorem members1_in (F : Fence) (m : Nat) (h98 : F.fn 98) (h99 : F.fn 99) (hro : F.round = none) (hm : 1 ≤ m) {n : Nat} (hn : n < 1024) (R : AH.Ren) (hz : R.z = fun _ => none)
    (ht : ∀ (k x : Nat) (w : World), x < 1024 → 0 < x → HRel R [(100002, .ro tab64)] w → CallsIn F k Tryd.prog 99 #[.int .u64 x] w fun e w' => e = .returned (.int .i64 (tz x)) ∧ Below w.heap.size w w') (l : Nat) (A : Addr)
    (J Jx : List { x // x ∈ mem n } → World → Prop) (W : World) (hJ : AbidesFrom W.heap.size J)
    (hY : ∀ pre x W1, J pre W1 → pre.length < (mem n).length → YieldAt F (m - 1) Tryd.prog l #[Value.int .i64 x.1] W1 fun e W' =>
      (e = .returned (.bool true) ∧ J (pre ++ [x]) W' ∧ W'.heap[R.ρ 100002]? = W1.heap[R.ρ 100002]?) ∨ (e = .returned (.bool false) ∧ Jx (pre ++ [x]) W'))
    (hc : W.cell? A = some (.int .i64 n)) (hT : HRel R [(100002, .ro tab64)] W) (h0 : J [] W) :
    CallsIn F m Tryd.prog 98 #[.func (.yield l) #[] #[], .pointer (some A)] W fun e W' => (∃ v, e = .returned v) ∧ ((∃ xs, xs.map Subtype.val = mem n ∧ J xs W') ∨ (∃ pre, pre.map Subtype.val <+: mem n ∧ Jx pre W')) := by
  have hwrap : IntKind.u64.wrap (n : Int) = n := by
    have : ∀ n : Nat, n < 1024 → IntKind.u64.wrap (n : Int) = n := by decide +kernel
    exact this n hn
  refine callsIn_of_wp Tryd.func98 rfl h98 ?_ hro
  simp only [Tryd.ntmps98, List.size_toArray, List.length_cons, List.length_nil, Nat.reduceAdd, Nat.reduceSub, Array.replicate_succ, Array.replicate_zero, List.push_toArray, List.append_toArray, List.nil_append, List.cons_append]
  gi_wp2
  gi_loopw [3] (fun p wr => ∃ (z : Int) (x : Nat) (pre : List { x // x ∈ mem n }), p = .int .u64 z ∧ z = x ∧ x < 1024 ∧ mem n = pre.map Subtype.val ++ mem x ∧ J pre wr ∧ HRel R [(100002, .ro tab64)] wr)
    (fun p _ => match p with | .int _ k => k.toNat | _ => 0)
  case atStart =>
    exact ⟨_, n, [], rfl, rfl, hn, rfl, h0, hT⟩
  case round =>
    obtain ⟨z, x, pre, rfl, hz, hx, hmem, hJs, hT'⟩ := hrel
    by_cases hx0 : x = 0
    · subst hx0
      obtain rfl : z = 0 := hz
      gi_wp2
      go_end0
      exact ⟨⟨_, rfl⟩, .inl ⟨pre, by simpa [mem, memN_zero] using hmem.symm, hJs⟩⟩
    · subst hz
      have hxi : ((x : Int) == 0) = false := by simpa using hx0
      have hpos : 0 < x := by omega
      have hst := mem_step hx hpos
      have hin : (tz x : Int) ∈ mem n := by rw [hmem, hst]; simp
      have hlen : pre.length < (mem n).length := by
        have := congrArg List.length hmem
        rw [hst] at this
        simp at this ⊢; omega
      gi_wp2_with (gi_at_call 99; refine (ht (m - 1) x wr hx hpos hT').mono ?_; rintro e w2 ⟨rfl, hb⟩; have hg : wr.grownBy w2 none := ⟨hb.os, hb.tape, hb.output, hb.size, fun k hk _ => hb.block k hk⟩; have hJ2 : J pre w2 := hJ pre wr w2 none hJs hg (fun r e => by cases e); obtain ⟨fn, tmps, assign, body, hy, hR⟩ := hY pre ⟨tz x, hin⟩ w2 hJ2 hlen)
      refine hR.mono ?_
      rintro e W3 (⟨rfl, hJ3, hk3⟩ | ⟨rfl, hJx3⟩)
      · gi_wp2
        go_roundw
        case rel =>
          refine ⟨_, x &&& (x - 1), pre ++ [⟨tz x, hin⟩], rfl, and_bits x hx hpos, by have := (memN_step x hx hpos).2; omega, hmem.trans (by rw [hst]; simp), hJ3, ?_⟩
          have hT2 : HRel R [(100002, .ro tab64)] w2 := ⟨fun i b hi => (hT'.blk i b hi).of_block (hb.block _ (hT'.blk i b hi).lt), hT'.inj, fun b c h => (by rw [hz] at h; cases h), fun i b hi hw => by rw [hz]⟩
          refine ⟨fun i b hi => (hT2.blk i b hi).of_block ?_, hT'.inj, fun b c h => (by rw [hz] at h; cases h), fun i b hi hw => by rw [hz]⟩
          simp only [lk] at hi
          split at hi
          · rename_i e; subst e; exact hk3
          · cases hi
        case measure =>
          have h1 := and_bits x hx hpos
          have h2 := (memN_step x hx hpos).2
          simp only [h1]
          show (((x &&& (x - 1) : Nat) : Int)).toNat < ((x : Nat) : Int).toNat
          omega
      · gi_wp2
        refine bodyPost_ret (results_none rfl _ _ _) rfl ?_
        exact ⟨⟨_, rfl⟩, .inr ⟨pre ++ [⟨tz x, hin⟩], ⟨mem (x &&& (x - 1)), (hmem.trans (by rw [hst]; simp)).symm⟩, hJx3⟩⟩

theorem members1_iter {n : Nat} (hn : n < 1024) (id : Nat) (hid : id < GB) : FIter Tryd.prog 98 [id] [(id, .ro [.int .i64 n]), (100002, .ro tab64)] (mem n) := by
  have hne : id ≠ 100002 := by unfold GB at hid; omega
  refine ⟨Go.Proofs.enters_of Tryd.func98 (by kernel_rfl) rfl, fun R w m hok hm H l J Jx W hW hlW hJ hJx hY h0 => ?_⟩
  have hB := H.blk id (.ro [.int .i64 n]) (by simp [lk])
  obtain ⟨c, t, z, h1, h2⟩ := hB
  obtain ⟨v, h3, h4⟩ := h2 0 (.int .i64 n) rfl
  have h4 : v = .int .i64 n := h4
  subst h4
  have hlt : R.ρ id < w.heap.size := (Array.getElem?_eq_some_iff.1 h1).1
  have hc : W.cell? (R.adr id 0) = some (.int .i64 n) := by
    simp only [World.cell?, AH.Ren.adr, hW.block _ hlt, h1]
    simpa using h3
  have hT : HRel ⟨R.ρ, R.δ, R.κ, fun _ => none⟩ [(100002, .ro tab64)] W := by
    refine ⟨fun i b hi => ?_, fun i j b c hi _ _ hw => ?_, fun b c h => (by cases h), fun i b hi hw => rfl⟩
    · simp only [lk] at hi
      split at hi
      · rename_i e; subst e; injection hi with hi; subst hi
        have := H.blk 100002 (.ro tab64) (by simp [lk, hne])
        obtain ⟨c, t, z, g1, g2⟩ := this.of_block (hW.block _ this.lt)
        exact ⟨c, t, z, g1, conL_prim (by decide) g2⟩
      · cases hi
    · simp only [lk] at hi
      split at hi
      · injection hi with hi; subst hi; cases hw
      · cases hi
  refine members1_in (FW none) m trivial trivial rfl hm hn ⟨R.ρ, R.δ, R.κ, fun _ => none⟩ rfl (fun k x w hx h0 H => callsFW (tz_calls (R := ⟨R.ρ, R.δ, R.κ, fun _ => none⟩) hx h0 ⟨hok.g, hok.d, hok.c⟩ H)) l (R.adr id 0) J Jx W (own_abides hJ) (fun pre x W1 hJ1 hl => ?_) hc hT h0
  obtain ⟨fn, tmps, assign, body, hy, hR⟩ := hY pre x W1 hJ1 hl
  refine ⟨fn, tmps, assign, body, hy, hR.mono ?_⟩
  rintro e W' (⟨h5, h6, h7⟩ | h5)
  · exact .inl ⟨h5, h6, h7.1 100002 (.ro tab64) (by simp [lk, hne])⟩
  · exact .inr ⟨h5.1, h5.2.1⟩

theorem members_spec (n : Nat) : FDet Tryd.prog 74 [.c (.int .i64 n)] [] 0 (.c (.fn 98 [] [0])) [(0, .own [.int .i64 n])] 1 := by
  refine FSpec.of_body tok true Tryd.func74 rfl (by kernel_rfl) (by decide) (by simp [tupA, hpLt, tmLt, AV.lt, AE.lt, AC.lt, LL_cons, LL_nil, idOk, ABlk.lt, ints_LL, GB]) (by simp [tupA, hpLt, tmLt, AV.lt, AE.lt, AC.lt, LL_cons, LL_nil, idOk, ABlk.lt, ints_LL, GB]) (by show 1 ≤ _; decide) ?_
  refine Wk.on ?_
  exact AH.Fin.new [0] _ _ ⟨rfl, rfl, rfl⟩ rfl (by simp only [hpAll]; exact (by (repeat (first | exact trivial | refine ⟨rfl, ?_⟩)))) rfl (by simp [tupA, hpLt, tmLt, AV.lt, AE.lt, AC.lt, LL_cons, LL_nil, idOk, ABlk.lt, ints_LL, GB]) (by simp [tupA, hpLt, tmLt, AV.lt, AE.lt, AC.lt, LL_cons, LL_nil, idOk, ABlk.lt, ints_LL, GB])
end Go.Proofs.YtfphkpdobbffeaaDoor

/-
  Contracts: the places of a set of wires, the groups that it makes, whether it is a tree.
-/
namespace Go.Proofs.YtfphkpdobbffeaaDoor
open Go Go.AH
set_option maxRecDepth 100000
set_option maxHeartbeats 1000000

structure Gm where
  n : Nat
  s : Nat
  t : Nat
  ws : List (Nat × Nat)
structure Gm.ok (g : Gm) : Prop where
  n2 : 2 ≤ g.n
  n8 : g.n ≤ 8
  s : g.s < g.n
  t : g.t < g.n
  len : g.ws.length ≤ 10
  ends : ∀ i, i < g.ws.length → (g.ws.getD i (0, 0)).1 < (g.ws.getD i (0, 0)).2 ∧ (g.ws.getD i (0, 0)).2 < g.n
def fl (ws : List (Nat × Nat)) : List Int := ws.flatMap fun w => [(w.1 : Int), (w.2 : Int)]
theorem fl_len (ws : List (Nat × Nat)) : (fl ws).length = ws.length * 2 := by
  induction ws with
  | nil => rfl
  | cons w ws ih => simp [fl] at ih ⊢; omega
theorem fl_get (ws : List (Nat × Nat)) (i : Nat) : (fl ws).getD (i * 2) 0 = ((ws.getD i (0, 0)).1 : Int) ∧ (fl ws).getD (i * 2 + 1) 0 = ((ws.getD i (0, 0)).2 : Int) := by
  induction ws generalizing i with
  | nil => simp [fl]
  | cons w ws ih =>
    cases i with
    | zero => simp [fl]
    | succ i =>
      have := ih i
      simp only [fl, List.flatMap_cons, List.getD_eq_getElem?_getD, List.cons_append, List.nil_append] at this ⊢
      rw [show (i + 1) * 2 = i * 2 + 1 + 1 by omega]
      simpa using this
def gC (g : Gm) (id : Nat) : List AC := [.int .i64 g.n, .int .i64 g.s, .int .i64 g.t, .rs id 0 g.ws.length]
def wB (g : Gm) : ABlk := .ro (ints (fl g.ws))


theorem wget0 (ws : List (Nat × Nat)) (i : Nat) : (ints (fl ws)).getD (0 + i * 2 + Int.toNat 0 * 1) (.int .i64 0) = .int .i64 ((ws.getD i (0, 0)).1 : Nat) := by
  rw [ints_getD, show 0 + i * 2 + Int.toNat 0 * 1 = i * 2 by simp, (fl_get ws i).1]
theorem wget1 (ws : List (Nat × Nat)) (i : Nat) : (ints (fl ws)).getD (0 + i * 2 + Int.toNat 1 * 1) (.int .i64 0) = .int .i64 ((ws.getD i (0, 0)).2 : Nat) := by
  rw [ints_getD, show 0 + i * 2 + Int.toNat 1 * 1 = i * 2 + 1 by simp, (fl_get ws i).2]
theorem wrapU {n : Nat} (h : n < 9223372036854775808) : IntKind.u64.wrap (n : Int) = n := AH.wrap_small _ _ (by omega) (by show (n : Int) < 2 ^ 64; omega) (by intro h; cases h)
theorem shl1 {n q : Nat} (h : q = 2 ^ n) : (1 : Int) * 2 ^ (Int.toNat (n : Int)) = (q : Int) := by simp [h]
theorem or_lt {a b k : Nat} (h : a < 2 ^ k) (h2 : b < 2 ^ k) : a ||| b < 2 ^ k := Nat.or_lt_two_pow h h2
theorem pow_small {n : Nat} (h : n < 11) : 2 ^ n < 2048 := by
  have : 2 ^ n < 2 ^ 11 := (Nat.pow_lt_pow_iff_right (by omega)).2 h
  omega

def placesF (g : Gm) (a : Nat) (i : Int) : Nat := a ||| (2 ^ (g.ws.getD i.toNat (0, 0)).1 ||| 2 ^ (g.ws.getD i.toNat (0, 0)).2)
def placesN (g : Gm) (n : Nat) : Nat := (mem n).foldl (placesF g) 0

theorem placesN_lt {g : Gm} (hg : g.ok) : ∀ pre : List Int, (∀ y ∈ pre, y.toNat < g.ws.length) → pre.foldl (placesF g) 0 < 2 ^ 8 := by
  have : ∀ (pre : List Int) (a : Nat), a < 2 ^ 8 → (∀ y ∈ pre, y.toNat < g.ws.length) → pre.foldl (placesF g) a < 2 ^ 8 := by
    intro pre
    induction pre with
    | nil => intro a h _; exact h
    | cons y pre ih =>
      intro a h hy
      refine ih _ ?_ (fun z hz => hy z (by simp [hz]))
      have he := hg.ends _ (hy y (by simp))
      have h8 := hg.n8
      exact or_lt h (or_lt ((Nat.pow_lt_pow_iff_right (by omega)).2 (by omega)) ((Nat.pow_lt_pow_iff_right (by omega)).2 (by omega)))
  exact fun pre h => this pre 0 (by decide) h
theorem mem_lt {n k : Nat} (hk : k ≤ 10) (hn : n < 2 ^ k) {x : Int} (hx : x ∈ mem n) : 0 ≤ x ∧ x.toNat < k := by
  simp only [mem, List.mem_map, memN, List.mem_filter, List.mem_range] at hx
  obtain ⟨i, ⟨h1, h2⟩, rfl⟩ := hx
  refine ⟨Int.natCast_nonneg i, ?_⟩
  have : 2 ^ i ≤ n := Nat.ge_two_pow_of_testBit h2
  have h4 : 2 ^ i < 2 ^ k := by omega
  have := (Nat.pow_lt_pow_iff_right (a := 2) (by omega)).1 h4
  show (Int.ofNat i).toNat < k
  simpa using this

theorem places_spec {g : Gm} (hg : g.ok) {n : Nat} (hn : n < 2 ^ g.ws.length) : FDet Tryd.prog 75 [.g (gC g 0), .c (.int .i64 n)] [(0, wB g), (100002, .ro tab64)] 1 (.c (.int .i64 (placesN g n))) [] 1 := by
  have hn' : n < 1024 := by have : 2 ^ g.ws.length ≤ 2 ^ 10 := Nat.pow_le_pow_right (by omega) hg.len; omega
  refine FSpec.of_body tok true Tryd.func75 rfl (by kernel_rfl) (by decide) (by simp [tupA, hpLt, tmLt, AV.lt, AE.lt, AC.lt, LL_cons, LL_nil, idOk, ABlk.lt, ints_LL, GB, tab64_LL, gC, wB]) (by simp [tupA, hpLt, tmLt, AV.lt, AE.lt, AC.lt, LL_cons, LL_nil, idOk, ABlk.lt, ints_LL, GB, tab64_LL, gC, wB]) (by show 2 ≤ _; decide) ?_
  refine Wk.on ?_
  refine CallA.det [] (.c (.fn 98 [] [3])) ([(2, .own [.int .i64 0]), (1, .own (gC g 0)), (0, wB g), (100002, .ro tab64), (3, .own [.int .i64 n])]) (members_spec n) (by first | rfl | exact congrArg AV.g (ints_ren _ _) | (simp [ints_ren, AV.ren, ABlk.ren, AC.ren, AE.ren, qq]; done)) rfl (by (repeat (first | exact trivial | refine ⟨⟨(by first | exact .inl (by decide) | exact .inr (by decide)), (by first | (refine Or.inl ?_; first | rfl | exact congrArg some (ints_ren _ _).symm | exact congrArg ABlk.own (ints_ren _ _).symm | exact congrArg some (tab64_ren _).symm) | rfl | exact congrArg some (ints_ren _ _).symm | exact congrArg ABlk.own (ints_ren _ _).symm | exact congrArg some (tab64_ren _).symm | exact Or.inr ⟨rfl, rfl⟩)⟩, ?_⟩))) (by first | rfl | exact congrArg AV.g (ints_ren _ _) | (simp [ints_ren, AV.ren, ABlk.ren, AC.ren, AE.ren, qq]; done)) (by first | rfl | (simp [behind, gone, lk, up, del, qq, ABlk.wr, GB, ints_ren, AV.ren, ABlk.ren, AC.ren, AE.ren]; done) | (simp [behind, gone, lk, up, del, qq, ABlk.wr, GB, ints_ren, AV.ren, ABlk.ren, AC.ren, AE.ren]; rfl)) ?_
  refine Wk.on ?_
  refine Tr.range (md := true) tok rfl (mem n) ([(3, .ro [.int .i64 n]), (100002, .ro tab64)]) (members1_iter hn' 3 (by decide)) (by (repeat (first | exact trivial | refine ⟨trivial, ?_⟩ | refine ⟨rfl, ?_⟩))) rfl (fun pre => [(3, .ro [.int .i64 n]), (2, .own [.int .i64 (pre.foldl (placesF g) 0 : Nat)]), (1, .own (gC g 0)), (0, wB g), (100002, .ro tab64)]) (fun _ => True) (4) (by decide) (by first | trivial | rfl | decide | simp) (by (repeat (first | exact trivial | refine ⟨trivial, ?_⟩ | refine ⟨rfl, ?_⟩))) (fun pre hpre => (by simp [tupA, hpLt, tmLt, AV.lt, AE.lt, AC.lt, LL_cons, LL_nil, idOk, ABlk.lt, ints_LL, GB, tab64_LL, gC, wB])) (fun pre hpre => ⟨(by (repeat (first | exact trivial | refine ⟨trivial, ?_⟩ | refine ⟨rfl, ?_⟩))), (by (repeat (first | exact trivial | refine ⟨trivial, ?_⟩ | refine ⟨rfl, ?_⟩)))⟩) rfl rfl (by decide) ?_ ?_
  · intro pre x hpre _ hx hl
    obtain ⟨x0, x1⟩ := mem_lt hg.len hn hx
    refine Wk.on ?_
    have he := hg.ends _ x1
    have h8 := hg.n8
    obtain ⟨w1, hw1⟩ : ∃ w, w = (g.ws.getD x.toNat (0, 0)).1 := ⟨_, rfl⟩
    obtain ⟨w2, hw2⟩ : ∃ w, w = (g.ws.getD x.toNat (0, 0)).2 := ⟨_, rfl⟩
    obtain ⟨q1, hq1⟩ : ∃ q, q = 2 ^ w1 := ⟨_, rfl⟩
    obtain ⟨q2, hq2⟩ : ∃ q, q = 2 ^ w2 := ⟨_, rfl⟩
    have p1 : q1 < 2 ^ 8 := by rw [hq1]; exact (Nat.pow_lt_pow_iff_right (by omega)).2 (by omega)
    have p2 : q2 < 2 ^ 8 := by rw [hq2]; exact (Nat.pow_lt_pow_iff_right (by omega)).2 (by omega)
    obtain ⟨a, ha⟩ : ∃ a, a = pre.foldl (placesF g) 0 := ⟨_, rfl⟩
    have ha8 : a < 2 ^ 8 := by rw [ha]; exact placesN_lt hg pre fun y hy => (mem_lt hg.len hn (hpre y hy)).2
    have h12 := or_lt p1 p2
    obtain ⟨q3, hq3⟩ : ∃ q, q = q1 ||| q2 := ⟨_, rfl⟩
    rw [← hq3] at h12
    simp only [← ha]
    have hlen : 0 + x.toNat * 2 + Int.toNat 0 * 1 + 1 ≤ (ints (fl g.ws)).length ∧ 0 + x.toNat * 2 + Int.toNat 1 * 1 + 1 ≤ (ints (fl g.ws)).length := by
      rw [ints_len, fl_len]; simp; omega
    refine Tr.draw (md := true) [⟨[], [11, 12, 13, 14, 15, 16, 17, 18, 19, 20, 21, 22, 23, 24, 25, 26, 27], [], [], []⟩, ⟨[], [10, 13, 19, 20, 21, 22, 23, 24, 25, 26], [0], [], []⟩, ⟨[1], [10, 13, 19, 20, 21, 22, 23, 24, 25, 26], [0], [], []⟩, ⟨[], [10, 11, 12, 19, 20, 21, 22, 23, 24, 25, 26], [0, 1, 2], [], []⟩, ⟨[1, 2, 3], [10, 19, 20, 21, 22, 23, 24, 25, 26], [0], [], []⟩, ⟨[1, 2, 3, 4], [10, 19, 20, 21, 22, 23, 24, 25, 26], [0], [], []⟩, ⟨[1, 2, 3, 4, 5], [10, 19, 20, 21, 22, 23, 24, 25, 26], [0], [], []⟩, ⟨[1, 2, 3, 4, 5, 6], [10, 19, 20, 21, 22, 23, 24, 25, 26], [0], [], []⟩, ⟨[1, 2, 3, 4, 5, 6, 7], [10, 19, 20, 21, 22, 23, 24, 25, 26], [0], [], []⟩, ⟨[], [10, 11, 12, 13, 14, 15, 16, 17, 18, 21], [0, 1, 2, 3, 4, 5, 6, 7, 8], [], []⟩, ⟨[9], [10, 11, 12, 13, 14, 15, 16, 17, 18, 21], [0, 1, 2, 3, 4, 5, 6, 7, 8], [], []⟩, ⟨[], [10, 11, 12, 13, 14, 15, 16, 17, 18, 19, 20], [0, 1, 2, 3, 4, 5, 6, 7, 8, 9, 10], [], []⟩, ⟨[9, 10, 11], [10, 11, 12, 13, 14, 15, 16, 17, 18], [0, 1, 2, 3, 4, 5, 6, 7, 8], [], []⟩, ⟨[9, 10, 11, 12], [10, 11, 12, 13, 14, 15, 16, 17, 18], [0, 1, 2, 3, 4, 5, 6, 7, 8], [], []⟩, ⟨[9, 10, 11, 12, 13], [10, 11, 12, 13, 14, 15, 16, 17, 18], [0, 1, 2, 3, 4, 5, 6, 7, 8], [], []⟩, ⟨[9, 10, 11, 12, 13, 14], [10, 11, 12, 13, 14, 15, 16, 17, 18], [0, 1, 2, 3, 4, 5, 6, 7, 8], [], []⟩, ⟨[9, 10, 11, 12, 13, 14, 15], [10, 11, 12, 13, 14, 15, 16, 17, 18], [0, 1, 2, 3, 4, 5, 6, 7, 8], [], []⟩, ⟨[1, 2, 3, 4, 5, 6, 7, 8, 9, 10, 11, 12, 13, 14, 15, 16], [10], [0], [], []⟩] tok (by kernel_rfl) (by kernel_rfl) ?_
    refine Wk.on ?_
    rw [wget0, ← hw1]
    refine Wk.on ?_
    rw [wrapU (by omega)]
    refine Wk.on ?_
    refine ⟨⟨by omega, by omega, by rw [shl1 hq1]; unfold I64; omega⟩, ?_⟩
    rw [shl1 hq1]
    refine Wk.on ?_
    rw [wget1, ← hw2]
    refine Wk.on ?_
    rw [wrapU (by omega)]
    refine Wk.on ?_
    refine ⟨⟨by omega, by omega, by rw [shl1 hq2]; unfold I64; omega⟩, ?_⟩
    rw [shl1 hq2]
    refine Wk.on ?_
    simp only [Int.toNat_natCast, ← hq3]
    refine Wk.on ?_
    refine Wk.on ?_
    refine ⟨(), trivial, RoundOk.nil ⟨rfl, ?_, rfl, rfl, rfl, trivial⟩ rfl⟩
    show ABlk.own _ = ABlk.own _
    simp only [List.foldl_append, List.foldl_cons, List.foldl_nil, ← ha, placesF, ← hw1, ← hw2, ← hq1, ← hq2, ← hq3]
    rfl
  · intro _
    refine Wk.on ?_
    exact AH.Fin.nil [] ⟨rfl, rfl, rfl⟩ trivial trivial trivial rfl (by simp [GB])
end Go.Proofs.YtfphkpdobbffeaaDoor

/-
  Contracts: how many elements a set has; the groups that wires make; whether wires are a tree.
-/
namespace Go.Proofs.YtfphkpdobbffeaaDoor
open Go Go.AH
set_option maxRecDepth 100000
set_option maxHeartbeats 1000000

def pop (n : Nat) : Nat := (memN n).length
def andU (a b : Int) : Int := IntKind.u64.wrap ((BitVec.ofInt 64 a &&& BitVec.ofInt 64 b).toNat)
def shrU (a k : Int) : Int := a.fdiv (2 ^ min k.toNat 64)
def pop1 (n : Int) : Int := IntKind.u64.wrap (andU (shrU n 1) 6148914691236517205 + andU n 6148914691236517205)
def pop2 (n : Int) : Int := IntKind.u64.wrap (andU (shrU n 2) 3689348814741910323 + andU n 3689348814741910323)
def pop3 (n : Int) : Int := andU (IntKind.u64.wrap (shrU n 4 + n)) 1085102592571150095
def pop4 (n k : Int) : Int := IntKind.u64.wrap (n + shrU n k)
def popF (n : Int) : Int := IntKind.i64.wrap ((BitVec.ofInt 64 (IntKind.i64.wrap (pop4 (pop4 (pop4 (pop3 (pop2 (pop1 n))) 8) 16) 32)) &&& BitVec.ofInt 64 127).toNat)
theorem popF_ok : ∀ n : Nat, n < 1024 → popF n = pop n := by decide +kernel
theorem ones64_spec {n : Nat} (hn : n < 1024) : FDet Tryd.prog 114 [.c (.int .u64 n)] [] 0 (.c (.int .i64 (pop n))) [] 0 := by
  refine FSpec.of_body tok false Tryd.func114 rfl (by kernel_rfl) (by decide) (by simp [tupA, hpLt, tmLt, AV.lt, AE.lt, AC.lt, LL_cons, LL_nil, idOk, ABlk.lt, ints_LL, GB, tab64_LL, gC, wB]) (by simp [tupA, hpLt, tmLt, AV.lt, AE.lt, AC.lt, LL_cons, LL_nil, idOk, ABlk.lt, ints_LL, GB, tab64_LL, gC, wB]) (by show 1 ≤ _; decide) ?_
  refine Wk.on ?_
  exact AH.Fin.nil [] ⟨by show AV.c (.int .i64 (popF n)) = _; rw [popF_ok n hn], rfl, rfl⟩ trivial trivial trivial rfl (by simp [GB])
theorem ones_spec {n : Nat} (hn : n < 1024) : FDet Tryd.prog 93 [.c (.int .u64 n)] [] 0 (.c (.int .i64 (pop n))) [] 0 := by
  refine FSpec.of_body tok false Tryd.func93 rfl (by kernel_rfl) (by decide) (by simp [tupA, hpLt, tmLt, AV.lt, AE.lt, AC.lt, LL_cons, LL_nil, idOk, ABlk.lt, ints_LL, GB, tab64_LL, gC, wB]) (by simp [tupA, hpLt, tmLt, AV.lt, AE.lt, AC.lt, LL_cons, LL_nil, idOk, ABlk.lt, ints_LL, GB, tab64_LL, gC, wB]) (by show 1 ≤ _; decide) ?_
  refine Wk.on ?_
  refine CallA.ro [] (.c (.int .i64 (pop n))) (ones64_spec hn) (by first | rfl | exact congrArg AV.g (ints_ren _ _) | (simp [ints_ren, AV.ren, ABlk.ren, AC.ren, AE.ren, qq]; done)) rfl (by (repeat (first | exact trivial | refine ⟨⟨(by first | exact .inl (by decide) | exact .inr (by decide)), (by first | (refine Or.inl ?_; first | rfl | exact congrArg some (ints_ren _ _).symm | exact congrArg ABlk.own (ints_ren _ _).symm | exact congrArg some (tab64_ren _).symm) | rfl | exact congrArg some (ints_ren _ _).symm | exact congrArg ABlk.own (ints_ren _ _).symm | exact congrArg some (tab64_ren _).symm | exact Or.inr ⟨rfl, rfl⟩)⟩, ?_⟩))) (by first | rfl | exact congrArg AV.g (ints_ren _ _) | (simp [ints_ren, AV.ren, ABlk.ren, AC.ren, AE.ren, qq]; done)) ?_
  refine Wk.on ?_
  exact AH.Fin.nil [] ⟨rfl, rfl, rfl⟩ trivial trivial trivial rfl (by simp [GB])

def joinF (g : Gm) (xs : List Int) (i : Int) : List Int := joinL xs (g.ws.getD i.toNat (0, 0)).1 (g.ws.getD i.toNat (0, 0)).2
def keptL (g : Gm) (n : Nat) : List Int := (mem n).foldl (joinF g) (aloneSt 8)
theorem Grp.alone : Grp (aloneSt 8) := by
  refine ⟨rfl, fun i hi => ?_⟩
  have : i = 0 ∨ i = 1 ∨ i = 2 ∨ i = 3 ∨ i = 4 ∨ i = 5 ∨ i = 6 ∨ i = 7 := by omega
  rcases this with rfl | rfl | rfl | rfl | rfl | rfl | rfl | rfl <;> decide
theorem Grp.join {xs : List Int} (h : Grp xs) {a b : Nat} (ha : a < 8) (hb : b < 8) : Grp (joinL xs a b) := by
  have h1 := root_le h ha
  have h2 := root_le h hb
  refine ⟨by simp [joinL, h.1], fun i hi => ?_⟩
  have := h.2 i hi
  simp only [joinL, List.getD_eq_getElem?_getD, List.getElem?_set]
  split
  · split
    · simp; omega
    · simp
  · simpa [List.getD_eq_getElem?_getD] using this
theorem Grp.fold {g : Gm} (hg : g.ok) : ∀ (pre : List Int) (xs : List Int), Grp xs → (∀ y ∈ pre, y.toNat < g.ws.length) → Grp (pre.foldl (joinF g) xs)
  | [], xs, h, _ => h
  | y :: pre, xs, h, hy => by
    have he := hg.ends _ (hy y (by simp))
    have h8 := hg.n8
    exact Grp.fold hg pre _ (h.join (by omega) (by omega)) fun z hz => hy z (by simp [hz])

theorem wgetW (ws : List (Nat × Nat)) (i : Nat) : rdn (ints (fl ws)) (0 + i * 2) [.int .i64 0, .int .i64 0] = [.int .i64 ((ws.getD i (0, 0)).1 : Nat), .int .i64 ((ws.getD i (0, 0)).2 : Nat)] := by
  simp only [rdn, ints_getD, Nat.zero_add, (fl_get ws i).1, (fl_get ws i).2]

theorem kept_spec {g : Gm} (hg : g.ok) {n : Nat} (hn : n < 2 ^ g.ws.length) : FDet Tryd.prog 109 [.g (gC g 0), .c (.int .i64 n)] [(0, wB g), (100002, .ro tab64)] 1 (.g (ints (keptL g n))) [] 1 := by
  have hn' : n < 1024 := by have : 2 ^ g.ws.length ≤ 2 ^ 10 := Nat.pow_le_pow_right (by omega) hg.len; omega
  refine FSpec.of_body tok true Tryd.func109 rfl (by kernel_rfl) (by decide) (by simp [tupA, hpLt, tmLt, AV.lt, AE.lt, AC.lt, LL_cons, LL_nil, idOk, ABlk.lt, ints_LL, GB, tab64_LL, gC, wB]) (by simp [tupA, hpLt, tmLt, AV.lt, AE.lt, AC.lt, LL_cons, LL_nil, idOk, ABlk.lt, ints_LL, GB, tab64_LL, gC, wB]) (by show 2 ≤ _; decide) ?_
  refine Wk.on ?_
  refine CallA.ro [] (.g (ints (aloneSt 8))) (alone_spec) (by first | rfl | exact congrArg AV.g (ints_ren _ _) | (simp [ints_ren, AV.ren, ABlk.ren, AC.ren, AE.ren, qq]; done)) rfl (by (repeat (first | exact trivial | refine ⟨⟨(by first | exact .inl (by decide) | exact .inr (by decide)), (by first | (refine Or.inl ?_; first | rfl | exact congrArg some (ints_ren _ _).symm | exact congrArg ABlk.own (ints_ren _ _).symm | exact congrArg some (tab64_ren _).symm) | rfl | exact congrArg some (ints_ren _ _).symm | exact congrArg ABlk.own (ints_ren _ _).symm | exact congrArg some (tab64_ren _).symm | exact Or.inr ⟨rfl, rfl⟩)⟩, ?_⟩))) (by first | rfl | exact congrArg AV.g (ints_ren _ _) | (simp [ints_ren, AV.ren, ABlk.ren, AC.ren, AE.ren, qq]; done)) ?_
  refine Wk.on ?_
  refine CallA.det [] (.c (.fn 98 [] [5])) ([(4, .own [.fn 95 [3] []]), (3, .own (ints (aloneSt 8))), (2, .own (ints (aloneSt 0))), (1, .own (gC g 0)), (0, wB g), (100002, .ro tab64), (5, .own [.int .i64 n])]) (members_spec n) (by first | rfl | exact congrArg AV.g (ints_ren _ _) | (simp [ints_ren, AV.ren, ABlk.ren, AC.ren, AE.ren, qq]; done)) rfl (by (repeat (first | exact trivial | refine ⟨⟨(by first | exact .inl (by decide) | exact .inr (by decide)), (by first | (refine Or.inl ?_; first | rfl | exact congrArg some (ints_ren _ _).symm | exact congrArg ABlk.own (ints_ren _ _).symm | exact congrArg some (tab64_ren _).symm) | rfl | exact congrArg some (ints_ren _ _).symm | exact congrArg ABlk.own (ints_ren _ _).symm | exact congrArg some (tab64_ren _).symm | exact Or.inr ⟨rfl, rfl⟩)⟩, ?_⟩))) (by first | rfl | exact congrArg AV.g (ints_ren _ _) | (simp [ints_ren, AV.ren, ABlk.ren, AC.ren, AE.ren, qq]; done)) (by first | rfl | (simp [behind, gone, lk, up, del, qq, ABlk.wr, GB, ints_ren, AV.ren, ABlk.ren, AC.ren, AE.ren]; done) | (simp [behind, gone, lk, up, del, qq, ABlk.wr, GB, ints_ren, AV.ren, ABlk.ren, AC.ren, AE.ren]; rfl)) ?_
  refine Wk.on ?_
  refine Tr.range (md := true) tok rfl (mem n) ([(5, .ro [.int .i64 n]), (100002, .ro tab64)]) (members1_iter hn' 5 (by decide)) (by (repeat (first | exact trivial | refine ⟨trivial, ?_⟩ | refine ⟨rfl, ?_⟩))) rfl (fun pre => [(5, .ro [.int .i64 n]), (4, .own [.fn 95 [3] []]), (3, .own (ints (pre.foldl (joinF g) (aloneSt 8)))), (2, .own (ints (aloneSt 0))), (1, .own (gC g 0)), (0, wB g), (100002, .ro tab64)]) (fun _ => True) (6) (by decide) (by first | trivial | rfl | decide | simp) (by (repeat (first | exact trivial | refine ⟨trivial, ?_⟩ | refine ⟨rfl, ?_⟩))) (fun pre hpre => (by simp [tupA, hpLt, tmLt, AV.lt, AE.lt, AC.lt, LL_cons, LL_nil, idOk, ABlk.lt, ints_LL, GB, tab64_LL, gC, wB])) (fun pre hpre => ⟨(by (repeat (first | exact trivial | refine ⟨trivial, ?_⟩ | refine ⟨rfl, ?_⟩))), (by (repeat (first | exact trivial | refine ⟨trivial, ?_⟩ | refine ⟨rfl, ?_⟩)))⟩) rfl rfl (by decide) ?_ ?_
  · intro pre x hpre _ hx hl
    obtain ⟨x0, x1⟩ := mem_lt hg.len hn hx
    have he := hg.ends _ x1
    have h8 := hg.n8
    have hG := Grp.fold hg pre _ Grp.alone fun y hy => (mem_lt hg.len hn (hpre y hy)).2
    have hlen : 0 + x.toNat * 2 + 2 ≤ (ints (fl g.ws)).length := by
      rw [ints_len, fl_len]; simp; omega
    refine Wk.on ?_
    refine Tr.draw (md := true) [⟨[], [14, 15, 16, 17, 18], [], [], []⟩, ⟨[], [13, 16], [0], [], []⟩, ⟨[1], [13, 16], [0], [], []⟩, ⟨[], [13, 14, 15], [0, 1, 2], [], []⟩, ⟨[1, 2, 3], [13], [0], [], []⟩, ⟨[1, 2, 3, 4], [13], [0], [], []⟩] tok (by kernel_rfl) (by kernel_rfl) ?_
    refine Wk.on ?_
    rw [wgetW]
    refine CallA.det [3] (.c (.bool (decide (root (pre.foldl (joinF g) (aloneSt 8)) (g.ws.getD x.toNat (0, 0)).1 ≠ root (pre.foldl (joinF g) (aloneSt 8)) (g.ws.getD x.toNat (0, 0)).2)))) ([(5, .ro [.int .i64 n]), (4, .own [.fn 95 [3] []]), (2, .own (ints (aloneSt 0))), (1, .own (gC g 0)), (0, wB g), (100002, .ro tab64), (3, .own (ints ((pre ++ [x]).foldl (joinF g) (aloneSt 8))))]) (join_spec (a := (g.ws.getD x.toNat (0, 0)).1) (b := (g.ws.getD x.toNat (0, 0)).2) hG (by omega) (by omega)) (by first | rfl | exact congrArg AV.g (ints_ren _ _) | (simp [ints_ren, AV.ren, ABlk.ren, AC.ren, AE.ren, qq]; done)) rfl (by (repeat (first | exact trivial | refine ⟨⟨(by first | exact .inl (by decide) | exact .inr (by decide)), (by first | (refine Or.inl ?_; first | rfl | exact congrArg some (ints_ren _ _).symm | exact congrArg ABlk.own (ints_ren _ _).symm | exact congrArg some (tab64_ren _).symm) | rfl | exact congrArg some (ints_ren _ _).symm | exact congrArg ABlk.own (ints_ren _ _).symm | exact congrArg some (tab64_ren _).symm | exact Or.inr ⟨rfl, rfl⟩)⟩, ?_⟩))) (by first | rfl | exact congrArg AV.g (ints_ren _ _) | (simp [ints_ren, AV.ren, ABlk.ren, AC.ren, AE.ren, qq]; done)) (by first | rfl | (simp [behind, gone, lk, up, del, qq, ABlk.wr, GB, ints_ren, AV.ren, ABlk.ren, AC.ren, AE.ren]; done) | (simp [behind, gone, lk, up, del, qq, ABlk.wr, GB, ints_ren, AV.ren, ABlk.ren, AC.ren, AE.ren]; rfl)) ?_
    refine Wk.on ?_
    exact ⟨(), trivial, RoundOk.nil ⟨rfl, rfl, rfl, rfl, rfl, rfl, rfl, trivial⟩ rfl⟩
  · intro _
    have hG := Grp.fold hg (mem n) _ Grp.alone fun y hy => (mem_lt hg.len hn hy).2
    have hl8 : (ints ((mem n).foldl (joinF g) (aloneSt 8))).length = 8 := by rw [ints_len]; exact hG.1
    refine Wk.on ?_
    exact AH.Fin.nil [] ⟨rfl, rfl, rfl⟩ (ints_LL _ _) trivial trivial rfl (by simp [GB])
end Go.Proofs.YtfphkpdobbffeaaDoor

/-
  Contracts: whether wires are a tree on some places; the number of trees.
-/
namespace Go.Proofs.YtfphkpdobbffeaaDoor
open Go Go.AH
set_option maxRecDepth 100000
set_option maxHeartbeats 1000000

def acyF (g : Gm) : List Int → List Int → Bool
  | _, [] => true
  | xs, i :: r => decide (root xs (g.ws.getD i.toNat (0, 0)).1 ≠ root xs (g.ws.getD i.toNat (0, 0)).2) && acyF g (joinF g xs i) r
theorem acyF_app (g : Gm) : ∀ (p q xs : List Int), acyF g xs (p ++ q) = (acyF g xs p && acyF g (p.foldl (joinF g) xs) q)
  | [], q, xs => by simp [acyF]
  | i :: p, q, xs => by simp [acyF, acyF_app g p q, Bool.and_assoc]
def isTreeB (g : Gm) (n pl : Nat) : Bool := decide (placesN g n = pl) && decide ((pop n : Int) = pop pl - 1) && acyF g (aloneSt 8) (mem n)
theorem pop_le : ∀ n, n < 1024 → pop n ≤ 10 := by decide +kernel
theorem placesN_lt8 {g : Gm} (hg : g.ok) {n : Nat} (hn : n < 2 ^ g.ws.length) : placesN g n < 256 := placesN_lt hg (mem n) fun y hy => (mem_lt hg.len hn hy).2

theorem isTree_spec {g : Gm} (hg : g.ok) {n pl : Nat} (hn : n < 2 ^ g.ws.length) (hp : pl < 1024) : FDet Tryd.prog 59 [.g (gC g 0), .c (.int .i64 n), .c (.int .i64 pl)] [(0, wB g), (100002, .ro tab64)] 1 (.c (.bool (isTreeB g n pl))) [] 1 := by
  have hn' : n < 1024 := by have : 2 ^ g.ws.length ≤ 2 ^ 10 := Nat.pow_le_pow_right (by omega) hg.len; omega
  have hq := pop_le n hn'
  have hq2 := pop_le pl hp
  have h8 := placesN_lt8 hg hn
  refine FSpec.of_body tok true Tryd.func59 rfl (by kernel_rfl) (by decide) (by simp [tupA, hpLt, tmLt, AV.lt, AE.lt, AC.lt, LL_cons, LL_nil, idOk, ABlk.lt, ints_LL, GB, tab64_LL, gC, wB]) (by simp [tupA, hpLt, tmLt, AV.lt, AE.lt, AC.lt, LL_cons, LL_nil, idOk, ABlk.lt, ints_LL, GB, tab64_LL, gC, wB]) (by show 3 ≤ _; decide) ?_
  refine Wk.on ?_
  refine CallA.ro [0] (.c (.int .i64 (placesN g n))) (places_spec hg hn) (by first | rfl | exact congrArg AV.g (ints_ren _ _) | (simp [ints_ren, AV.ren, ABlk.ren, AC.ren, AE.ren, qq]; done)) rfl (by (repeat (first | exact trivial | refine ⟨⟨(by first | exact .inl (by decide) | exact .inr (by decide)), (by first | (refine Or.inl ?_; first | rfl | exact congrArg some (ints_ren _ _).symm | exact congrArg ABlk.own (ints_ren _ _).symm | exact congrArg some (tab64_ren _).symm) | rfl | exact congrArg some (ints_ren _ _).symm | exact congrArg ABlk.own (ints_ren _ _).symm | exact congrArg some (tab64_ren _).symm | exact Or.inr ⟨rfl, rfl⟩)⟩, ?_⟩))) (by first | rfl | exact congrArg AV.g (ints_ren _ _) | (simp [ints_ren, AV.ren, ABlk.ren, AC.ren, AE.ren, qq]; done)) ?_
  refine Wk.on ?_
  refine ⟨fun hc => ?_, fun hc => ?_⟩ <;> (try simp only [decide_eq_true_eq, decide_eq_false_iff_not, Decidable.not_not, Bool.not_true, Bool.not_false, ne_eq, cond_true, cond_false, Bool.not_eq_true', Bool.not_eq_false'] at hc)
  · refine Wk.on ?_
    rw [wrapU (n := n) (by omega)]
    refine CallA.ro [] (.c (.int .i64 (pop n))) (ones_spec hn') (by first | rfl | exact congrArg AV.g (ints_ren _ _) | (simp [ints_ren, AV.ren, ABlk.ren, AC.ren, AE.ren, qq]; done)) rfl (by (repeat (first | exact trivial | refine ⟨⟨(by first | exact .inl (by decide) | exact .inr (by decide)), (by first | (refine Or.inl ?_; first | rfl | exact congrArg some (ints_ren _ _).symm | exact congrArg ABlk.own (ints_ren _ _).symm | exact congrArg some (tab64_ren _).symm) | rfl | exact congrArg some (ints_ren _ _).symm | exact congrArg ABlk.own (ints_ren _ _).symm | exact congrArg some (tab64_ren _).symm | exact Or.inr ⟨rfl, rfl⟩)⟩, ?_⟩))) (by first | rfl | exact congrArg AV.g (ints_ren _ _) | (simp [ints_ren, AV.ren, ABlk.ren, AC.ren, AE.ren, qq]; done)) ?_
    refine Wk.on ?_
    rw [wrapU (n := pl) (by omega)]
    refine CallA.ro [] (.c (.int .i64 (pop pl))) (ones_spec hp) (by first | rfl | exact congrArg AV.g (ints_ren _ _) | (simp [ints_ren, AV.ren, ABlk.ren, AC.ren, AE.ren, qq]; done)) rfl (by (repeat (first | exact trivial | refine ⟨⟨(by first | exact .inl (by decide) | exact .inr (by decide)), (by first | (refine Or.inl ?_; first | rfl | exact congrArg some (ints_ren _ _).symm | exact congrArg ABlk.own (ints_ren _ _).symm | exact congrArg some (tab64_ren _).symm) | rfl | exact congrArg some (ints_ren _ _).symm | exact congrArg ABlk.own (ints_ren _ _).symm | exact congrArg some (tab64_ren _).symm | exact Or.inr ⟨rfl, rfl⟩)⟩, ?_⟩))) (by first | rfl | exact congrArg AV.g (ints_ren _ _) | (simp [ints_ren, AV.ren, ABlk.ren, AC.ren, AE.ren, qq]; done)) ?_
    refine Wk.on ?_
    refine ⟨fun hc => ?_, fun hc => ?_⟩ <;> (try simp only [decide_eq_true_eq, decide_eq_false_iff_not, Decidable.not_not, Bool.not_true, Bool.not_false, ne_eq, cond_true, cond_false, Bool.not_eq_true', Bool.not_eq_false'] at hc)
    · refine Wk.on ?_
      refine AH.Fin.nil [] ⟨?_, rfl, rfl⟩ trivial trivial trivial rfl (by simp [GB])
      show AV.c (.bool _) = AV.c (.bool _)
      simp only [isTreeB, decide_eq_false hc, Bool.and_false, Bool.false_and]
    · refine Wk.on ?_
      refine CallA.ro [] (.g (ints (aloneSt 8))) (alone_spec) (by first | rfl | exact congrArg AV.g (ints_ren _ _) | (simp [ints_ren, AV.ren, ABlk.ren, AC.ren, AE.ren, qq]; done)) rfl (by (repeat (first | exact trivial | refine ⟨⟨(by first | exact .inl (by decide) | exact .inr (by decide)), (by first | (refine Or.inl ?_; first | rfl | exact congrArg some (ints_ren _ _).symm | exact congrArg ABlk.own (ints_ren _ _).symm | exact congrArg some (tab64_ren _).symm) | rfl | exact congrArg some (ints_ren _ _).symm | exact congrArg ABlk.own (ints_ren _ _).symm | exact congrArg some (tab64_ren _).symm | exact Or.inr ⟨rfl, rfl⟩)⟩, ?_⟩))) (by first | rfl | exact congrArg AV.g (ints_ren _ _) | (simp [ints_ren, AV.ren, ABlk.ren, AC.ren, AE.ren, qq]; done)) ?_
      refine Wk.on ?_
      refine CallA.det [] (.c (.fn 98 [] [4])) ([(3, .own (ints (aloneSt 8))), (2, .own [.bool false]), (1, .own (gC g 0)), (0, wB g), (100002, .ro tab64), (4, .own [.int .i64 n])]) (members_spec n) (by first | rfl | exact congrArg AV.g (ints_ren _ _) | (simp [ints_ren, AV.ren, ABlk.ren, AC.ren, AE.ren, qq]; done)) rfl (by (repeat (first | exact trivial | refine ⟨⟨(by first | exact .inl (by decide) | exact .inr (by decide)), (by first | (refine Or.inl ?_; first | rfl | exact congrArg some (ints_ren _ _).symm | exact congrArg ABlk.own (ints_ren _ _).symm | exact congrArg some (tab64_ren _).symm) | rfl | exact congrArg some (ints_ren _ _).symm | exact congrArg ABlk.own (ints_ren _ _).symm | exact congrArg some (tab64_ren _).symm | exact Or.inr ⟨rfl, rfl⟩)⟩, ?_⟩))) (by first | rfl | exact congrArg AV.g (ints_ren _ _) | (simp [ints_ren, AV.ren, ABlk.ren, AC.ren, AE.ren, qq]; done)) (by first | rfl | (simp [behind, gone, lk, up, del, qq, ABlk.wr, GB, ints_ren, AV.ren, ABlk.ren, AC.ren, AE.ren]; done) | (simp [behind, gone, lk, up, del, qq, ABlk.wr, GB, ints_ren, AV.ren, ABlk.ren, AC.ren, AE.ren]; rfl)) ?_
      refine Wk.on ?_
      refine Tr.range (md := true) tok rfl (mem n) ([(4, .ro [.int .i64 n]), (100002, .ro tab64)]) (members1_iter hn' 4 (by decide)) (by (repeat (first | exact trivial | refine ⟨trivial, ?_⟩ | refine ⟨rfl, ?_⟩))) rfl (fun pre => [(4, .ro [.int .i64 n]), (3, .own (ints (pre.foldl (joinF g) (aloneSt 8)))), (2, .own [.bool false]), (1, .own (gC g 0)), (0, wB g), (100002, .ro tab64)]) (fun pre => acyF g (aloneSt 8) pre = true) (5) (by decide) (by first | trivial | rfl | decide | simp) (by (repeat (first | exact trivial | refine ⟨trivial, ?_⟩ | refine ⟨rfl, ?_⟩))) (fun pre hpre => (by simp [tupA, hpLt, tmLt, AV.lt, AE.lt, AC.lt, LL_cons, LL_nil, idOk, ABlk.lt, ints_LL, GB, tab64_LL, gC, wB])) (fun pre hpre => ⟨(by (repeat (first | exact trivial | refine ⟨trivial, ?_⟩ | refine ⟨rfl, ?_⟩))), (by (repeat (first | exact trivial | refine ⟨trivial, ?_⟩ | refine ⟨rfl, ?_⟩)))⟩) rfl rfl (by decide) ?_ ?_
      · intro pre x hpre hinv hx hl
        obtain ⟨x0, x1⟩ := mem_lt hg.len hn hx
        have he := hg.ends _ x1
        have h8 := hg.n8
        have hG := Grp.fold hg pre _ Grp.alone fun y hy => (mem_lt hg.len hn (hpre y hy)).2
        have hlen : 0 + x.toNat * 2 + 2 ≤ (ints (fl g.ws)).length := by
          rw [ints_len, fl_len]; simp; omega
        refine Wk.on ?_
        rw [wgetW]
        refine CallA.det [3] (.c (.bool (decide (root (pre.foldl (joinF g) (aloneSt 8)) (g.ws.getD x.toNat (0, 0)).1 ≠ root (pre.foldl (joinF g) (aloneSt 8)) (g.ws.getD x.toNat (0, 0)).2)))) ([(4, .ro [.int .i64 n]), (2, .own [.bool false]), (1, .own (gC g 0)), (0, wB g), (100002, .ro tab64), (3, .own (ints ((pre ++ [x]).foldl (joinF g) (aloneSt 8))))]) (join_spec (a := (g.ws.getD x.toNat (0, 0)).1) (b := (g.ws.getD x.toNat (0, 0)).2) hG (by omega) (by omega)) (by first | rfl | exact congrArg AV.g (ints_ren _ _) | (simp [ints_ren, AV.ren, ABlk.ren, AC.ren, AE.ren, qq]; done)) rfl (by (repeat (first | exact trivial | refine ⟨⟨(by first | exact .inl (by decide) | exact .inr (by decide)), (by first | (refine Or.inl ?_; first | rfl | exact congrArg some (ints_ren _ _).symm | exact congrArg ABlk.own (ints_ren _ _).symm | exact congrArg some (tab64_ren _).symm) | rfl | exact congrArg some (ints_ren _ _).symm | exact congrArg ABlk.own (ints_ren _ _).symm | exact congrArg some (tab64_ren _).symm | exact Or.inr ⟨rfl, rfl⟩)⟩, ?_⟩))) (by first | rfl | exact congrArg AV.g (ints_ren _ _) | (simp [ints_ren, AV.ren, ABlk.ren, AC.ren, AE.ren, qq]; done)) (by first | rfl | (simp [behind, gone, lk, up, del, qq, ABlk.wr, GB, ints_ren, AV.ren, ABlk.ren, AC.ren, AE.ren]; done) | (simp [behind, gone, lk, up, del, qq, ABlk.wr, GB, ints_ren, AV.ren, ABlk.ren, AC.ren, AE.ren]; rfl)) ?_
        refine Wk.on ?_
        refine ⟨fun hc => ?_, fun hc => ?_⟩ <;> (try simp only [decide_eq_true_eq, decide_eq_false_iff_not, Decidable.not_not, Bool.not_true, Bool.not_false, ne_eq, cond_true, cond_false, Bool.not_eq_true', Bool.not_eq_false'] at hc)
        · refine Wk.on ?_
          intro hpfx
          refine Wk.on ?_
          refine AH.Fin.nil [] ⟨?_, rfl, rfl⟩ trivial trivial trivial rfl (by simp [GB])
          show AV.c (.bool false) = AV.c (.bool _)
          obtain ⟨r, hr⟩ := hpfx
          have : acyF g (aloneSt 8) (mem n) = false := by
            rw [← hr, acyF_app, acyF_app, hinv]
            trace_state
            simp only [acyF, ne_eq, hc, not_true, decide_false, decide_true, Bool.false_and, Bool.and_false, Bool.true_and]
          rw [isTreeB, this, Bool.and_false]
        · refine Wk.on ?_
          refine ⟨(), ?_, RoundOk.nil ⟨rfl, rfl, rfl, rfl, rfl, rfl, trivial⟩ rfl⟩
          show acyF g (aloneSt 8) (pre ++ [x]) = true
          rw [acyF_app, hinv]
          simp only [acyF, ne_eq, hc, not_false_eq_true, decide_true, Bool.and_true]
      · intro hinv
        refine Wk.on ?_
        refine AH.Fin.nil [] ⟨?_, rfl, rfl⟩ trivial trivial trivial rfl (by simp [GB])
        show AV.c (.bool true) = AV.c (.bool _)
        have e1 : placesN g n = pl := by omega
        rw [isTreeB, hinv, decide_eq_true e1, decide_eq_true hc]; rfl
  · refine Wk.on ?_
    refine AH.Fin.nil [] ⟨?_, rfl, rfl⟩ trivial trivial trivial rfl (by simp [GB])
    have : ¬ placesN g n = pl := by omega
    show AV.c (.bool _) = AV.c (.bool _)
    simp only [isTreeB, decide_eq_false this, Bool.and_false, Bool.false_and]
end Go.Proofs.YtfphkpdobbffeaaDoor

/-
  Contracts: lists of numbers compared.
-/
namespace Go.Proofs.YtfphkpdobbffeaaDoor
open Go Go.AH
set_option maxRecDepth 100000
set_option maxHeartbeats 1000000

theorem isNaN_spec (x : Int) : FDet Tryd.prog 117 [.c (.int .i64 x)] [] 0 (.c (.bool false)) [] 0 := by
  refine FSpec.of_body tok true Tryd.func117 rfl (by kernel_rfl) (by decide) (by simp [tupA, hpLt, tmLt, AV.lt, AE.lt, AC.lt, LL_cons, LL_nil, idOk, ABlk.lt, ints_LL, GB, tab64_LL, gC, wB]) (by simp [tupA, hpLt, tmLt, AV.lt, AE.lt, AC.lt, LL_cons, LL_nil, idOk, ABlk.lt, ints_LL, GB, tab64_LL, gC, wB]) (by show 1 ≤ _; decide) ?_
  refine Wk.on ?_
  exact AH.Fin.nil [] ⟨by simp [tupA], rfl, rfl⟩ trivial trivial trivial rfl (by simp [GB])
def cmpI (a b : Int) : Int := if a < b then -1 else if b < a then 1 else 0
theorem cmpI_spec (x y : Int) : FDet Tryd.prog 100 [.c (.int .i64 x), .c (.int .i64 y)] [] 0 (.c (.int .i64 (cmpI x y))) [] 0 := by
  refine FSpec.of_body tok true Tryd.func100 rfl (by kernel_rfl) (by decide) (by simp [tupA, hpLt, tmLt, AV.lt, AE.lt, AC.lt, LL_cons, LL_nil, idOk, ABlk.lt, ints_LL, GB, tab64_LL, gC, wB]) (by simp [tupA, hpLt, tmLt, AV.lt, AE.lt, AC.lt, LL_cons, LL_nil, idOk, ABlk.lt, ints_LL, GB, tab64_LL, gC, wB]) (by show 2 ≤ _; decide) ?_
  refine Wk.on ?_
  refine CallA.ro [] (.c (.bool false)) (isNaN_spec x) (by first | rfl | exact congrArg AV.g (ints_ren _ _) | (simp [ints_ren, AV.ren, ABlk.ren, AC.ren, AE.ren, qq]; done)) rfl (by (repeat (first | exact trivial | refine ⟨⟨(by first | exact .inl (by decide) | exact .inr (by decide)), (by first | (refine Or.inl ?_; first | rfl | exact congrArg some (ints_ren _ _).symm | exact congrArg ABlk.own (ints_ren _ _).symm | exact congrArg some (tab64_ren _).symm) | rfl | exact congrArg some (ints_ren _ _).symm | exact congrArg ABlk.own (ints_ren _ _).symm | exact congrArg some (tab64_ren _).symm | exact Or.inr ⟨rfl, rfl⟩)⟩, ?_⟩))) (by first | rfl | exact congrArg AV.g (ints_ren _ _) | (simp [ints_ren, AV.ren, ABlk.ren, AC.ren, AE.ren, qq]; done)) ?_
  refine Wk.on ?_
  refine CallA.ro [] (.c (.bool false)) (isNaN_spec y) (by first | rfl | exact congrArg AV.g (ints_ren _ _) | (simp [ints_ren, AV.ren, ABlk.ren, AC.ren, AE.ren, qq]; done)) rfl (by (repeat (first | exact trivial | refine ⟨⟨(by first | exact .inl (by decide) | exact .inr (by decide)), (by first | (refine Or.inl ?_; first | rfl | exact congrArg some (ints_ren _ _).symm | exact congrArg ABlk.own (ints_ren _ _).symm | exact congrArg some (tab64_ren _).symm) | rfl | exact congrArg some (ints_ren _ _).symm | exact congrArg ABlk.own (ints_ren _ _).symm | exact congrArg some (tab64_ren _).symm | exact Or.inr ⟨rfl, rfl⟩)⟩, ?_⟩))) (by first | rfl | exact congrArg AV.g (ints_ren _ _) | (simp [ints_ren, AV.ren, ABlk.ren, AC.ren, AE.ren, qq]; done)) ?_
  refine Wk.on ?_
  refine ⟨fun hc => ?_, fun hc => ?_⟩ <;> (try simp only [decide_eq_true_eq, decide_eq_false_iff_not, Decidable.not_not, Bool.not_true, Bool.not_false, ne_eq, cond_true, cond_false, Bool.not_eq_true', Bool.not_eq_false'] at hc)
  · refine Wk.on ?_
    exact AH.Fin.nil [] ⟨by simp only [cmpI, if_pos hc]; rfl, rfl, rfl⟩ trivial trivial trivial rfl (by simp [GB])
  · refine Wk.on ?_
    have hc1 := hc
    refine ⟨fun hc => ?_, fun hc => ?_⟩ <;> (try simp only [decide_eq_true_eq, decide_eq_false_iff_not, Decidable.not_not, Bool.not_true, Bool.not_false, ne_eq, cond_true, cond_false, Bool.not_eq_true', Bool.not_eq_false'] at hc)
    · refine Wk.on ?_
      exact AH.Fin.nil [] ⟨by simp only [cmpI, if_neg hc1, if_pos hc]; rfl, rfl, rfl⟩ trivial trivial trivial rfl (by simp [GB])
    · refine Wk.on ?_
      exact AH.Fin.nil [] ⟨by simp only [cmpI, if_neg hc1, if_neg hc]; rfl, rfl, rfl⟩ trivial trivial trivial rfl (by simp [GB])
def cmpL : List Int → List Int → Int
  | [], [] => 0
  | [], _ :: _ => -1
  | _ :: _, [] => 1
  | x :: xs, y :: ys => if cmpI x y = 0 then cmpL xs ys else cmpI x y
theorem cmpL_step {A B : List Int} {i : Nat} (h1 : i < A.length) (h2 : i < B.length) : cmpL (A.drop i) (B.drop i) = if cmpI (A.getD i 0) (B.getD i 0) = 0 then cmpL (A.drop (i + 1)) (B.drop (i + 1)) else cmpI (A.getD i 0) (B.getD i 0) := by
  rw [List.drop_eq_getElem_cons h1, List.drop_eq_getElem_cons h2]
  simp [cmpL, List.getD_eq_getElem?_getD, h1, h2]
def win (A : List Int) (o n : Nat) : List Int := (A.drop o).take n
theorem win_len {A : List Int} {o n : Nat} (h : o + n ≤ A.length) : (win A o n).length = n := by simp [win]; omega
theorem win_get {A : List Int} {o n i : Nat} (hi : i < n) : (win A o n).getD i 0 = A.getD (o + i) 0 := by
  simp [win, List.getD_eq_getElem?_getD, List.getElem?_take, hi]
theorem cmpS_spec {A B : List Int} {o n p m : Nat} (hA : o + n ≤ A.length) (hB : p + m ≤ B.length) (hn : n < 1000000) (hm : m < 1000000) :
    FDet Tryd.prog 76 [.c (.rs 0 o n), .c (.rs 1 p m)] [(0, .ro (ints A)), (1, .ro (ints B))] 2 (.c (.int .i64 (cmpL (win A o n) (win B p m)))) [] 2 := by
  refine FSpec.of_body tok true Tryd.func76 rfl (by kernel_rfl) (by decide) (by simp [tupA, hpLt, tmLt, AV.lt, AE.lt, AC.lt, LL_cons, LL_nil, idOk, ABlk.lt, ints_LL, GB, tab64_LL, gC, wB]) (by simp [tupA, hpLt, tmLt, AV.lt, AE.lt, AC.lt, LL_cons, LL_nil, idOk, ABlk.lt, ints_LL, GB, tab64_LL, gC, wB]) (by show 2 ≤ _; decide) ?_
  refine Wk.on ?_
  refine Tr.loop (md := true) (X := Nat) (st := fun i => ⟨[(0, .c (.rs 0 o n)), (1, .c (.rs 1 p m)), (9, .c (.rs 0 o n)), (10, .c (.int .i64 n)), (11, .c (.int .i64 i))], [(0, .ro (ints A)), (1, .ro (ints B))], 2, 36, 2⟩) (inv := fun i => i ≤ n ∧ i ≤ m ∧ cmpL (win A o n) (win B p m) = cmpL ((win A o n).drop i) ((win B p m).drop i)) (μ := fun i => n - i) (x0 := 0) (l := []) tok ⟨by omega, by omega, rfl⟩ ?_ ?_
  · exact Sub.nil ⟨rfl, rfl, (by simp [tab64_LL, gC, wB]), rfl, (by simp [tupA, hpLt, tmLt, AV.lt, AE.lt, AC.lt, LL_cons, LL_nil, idOk, ABlk.lt, ints_LL, GB, tab64_LL, gC, wB]), (by simp [tupA, hpLt, tmLt, AV.lt, AE.lt, AC.lt, LL_cons, LL_nil, idOk, ABlk.lt, ints_LL, GB, tab64_LL, gC, wB])⟩ ⟨rfl, rfl, rfl, rfl, rfl, trivial⟩ ⟨rfl, rfl, trivial⟩
  · rintro i ⟨hi, hj, he⟩
    have l1 := win_len hA
    have l2 := win_len hB
    have lA : o + i * 1 + 1 ≤ (ints A).length ∨ n ≤ i := by rw [ints_len]; omega
    have lB : p + i * 1 + 1 ≤ (ints B).length ∨ m ≤ i := by rw [ints_len]; omega
    refine Wk.on ?_
    refine ⟨fun hc => ?_, fun hc => ?_⟩ <;> (try simp only [decide_eq_true_eq, decide_eq_false_iff_not, Decidable.not_not, Bool.not_true, Bool.not_false, ne_eq, cond_true, cond_false, Bool.not_eq_true', Bool.not_eq_false'] at hc)
    · have hin : i < n := by omega
      refine Wk.on ?_
      refine ⟨fun hc => ?_, fun hc => ?_⟩ <;> (try simp only [decide_eq_true_eq, decide_eq_false_iff_not, Decidable.not_not, Bool.not_true, Bool.not_false, ne_eq, cond_true, cond_false, Bool.not_eq_true', Bool.not_eq_false'] at hc)
      · refine Wk.on ?_
        refine AH.Fin.nil [] ⟨?_, rfl, rfl⟩ trivial trivial trivial rfl (by simp [GB])
        show AV.c (.int .i64 1) = _
        obtain rfl : i = m := by omega
        rw [he, List.drop_eq_getElem_cons (by omega), show (win B p i).drop i = [] by rw [List.drop_eq_nil_iff]; omega]; rfl
      · have hjn : i < m := by omega
        refine Wk.on ?_
        simp only [ints_getD, Nat.mul_one, Int.toNat_natCast]
        rw [← win_get (A := A) (o := o) hin, ← win_get (A := B) (o := p) hjn]
        refine CallA.ro [] (.c (.int .i64 (cmpI ((win A o n).getD i 0) ((win B p m).getD i 0)))) (cmpI_spec _ _) (by first | rfl | exact congrArg AV.g (ints_ren _ _) | (simp [ints_ren, AV.ren, ABlk.ren, AC.ren, AE.ren, qq]; done)) rfl (by (repeat (first | exact trivial | refine ⟨⟨(by first | exact .inl (by decide) | exact .inr (by decide)), (by first | (refine Or.inl ?_; first | rfl | exact congrArg some (ints_ren _ _).symm | exact congrArg ABlk.own (ints_ren _ _).symm | exact congrArg some (tab64_ren _).symm) | rfl | exact congrArg some (ints_ren _ _).symm | exact congrArg ABlk.own (ints_ren _ _).symm | exact congrArg some (tab64_ren _).symm | exact Or.inr ⟨rfl, rfl⟩)⟩, ?_⟩))) (by first | rfl | exact congrArg AV.g (ints_ren _ _) | (simp [ints_ren, AV.ren, ABlk.ren, AC.ren, AE.ren, qq]; done)) ?_
        refine Wk.on ?_
        have hst := cmpL_step (A := win A o n) (B := win B p m) (i := i) (by omega) (by omega)
        refine ⟨fun hc => ?_, fun hc => ?_⟩ <;> (try simp only [decide_eq_true_eq, decide_eq_false_iff_not, Decidable.not_not, Bool.not_true, Bool.not_false, ne_eq, cond_true, cond_false, Bool.not_eq_true', Bool.not_eq_false'] at hc)
        · refine Wk.on ?_
          refine AH.Fin.nil [] ⟨?_, rfl, rfl⟩ trivial trivial trivial rfl (by simp [GB])
          show AV.c (.int .i64 _) = _
          rw [he, hst, if_neg hc]
        · refine Wk.on ?_
          refine Again.mk (i + 1) (Sub.nil ⟨rfl, rfl, (by simp [tab64_LL, gC, wB]), rfl, (by simp [tupA, hpLt, tmLt, AV.lt, AE.lt, AC.lt, LL_cons, LL_nil, idOk, ABlk.lt, ints_LL, GB, tab64_LL, gC, wB]), (by simp [tupA, hpLt, tmLt, AV.lt, AE.lt, AC.lt, LL_cons, LL_nil, idOk, ABlk.lt, ints_LL, GB, tab64_LL, gC, wB])⟩ ⟨rfl, rfl, rfl, rfl, rfl, trivial⟩ ⟨rfl, rfl, trivial⟩) ⟨by omega, by omega, by rw [he, hst, if_pos hc]⟩ (by omega)
    · have hin : i = n := by omega
      refine Wk.on ?_
      refine ⟨fun hc => ?_, fun hc => ?_⟩ <;> (try simp only [decide_eq_true_eq, decide_eq_false_iff_not, Decidable.not_not, Bool.not_true, Bool.not_false, ne_eq, cond_true, cond_false, Bool.not_eq_true', Bool.not_eq_false'] at hc)
      · refine Wk.on ?_
        refine AH.Fin.nil [] ⟨?_, rfl, rfl⟩ trivial trivial trivial rfl (by simp [GB])
        show AV.c (.int .i64 (-1)) = _
        rw [he, show (win A o n).drop i = [] by rw [List.drop_eq_nil_iff]; omega, List.drop_eq_getElem_cons (by omega)]; rfl
      · refine Wk.on ?_
        refine AH.Fin.nil [] ⟨?_, rfl, rfl⟩ trivial trivial trivial rfl (by simp [GB])
        show AV.c (.int .i64 0) = _
        rw [he, show (win A o n).drop i = [] by rw [List.drop_eq_nil_iff]; omega, show (win B p m).drop i = [] by rw [List.drop_eq_nil_iff]; omega]; rfl
end Go.Proofs.YtfphkpdobbffeaaDoor

/-
  Contracts: what is a game.
-/
namespace Go.Proofs.YtfphkpdobbffeaaDoor
open Go Go.AH
set_option maxRecDepth 100000
set_option maxHeartbeats 1000000

def giC (n s t : Int) (len id : Nat) : List AC := [.int .i64 n, .int .i64 s, .int .i64 t, .rs id 0 len]
def bad0 (n s t : Int) (len : Nat) : Prop := n < 2 ∨ 8 < n ∨ min s t < 0 ∨ n ≤ max s t ∨ s = t ∨ 10 < len
def badW (n : Int) (fw : List Int) (i : Nat) : Prop :=
  fw.getD (i * 2) 0 < 0 ∨ fw.getD (i * 2 + 1) 0 ≤ fw.getD (i * 2) 0 ∨ n ≤ fw.getD (i * 2 + 1) 0 ∨ (0 < i ∧ 0 < cmpL (win fw ((i - 1) * 2) 2) (win fw (i * 2) 2))
def isGame (n s t : Int) (fw : List Int) (len : Nat) : Prop := ¬ bad0 n s t len ∧ ∀ i, i < len → ¬ badW n fw i
def CheckPost (n s t : Int) (fw : List Int) (len : Nat) (r : AV) (hp : List (Nat × ABlk)) (k : Nat) : Prop :=
  ((isGame n s t fw len ∧ r = .c (.int .i64 0)) ∨ (¬ isGame n s t fw len ∧ r = .c (.int .i64 80))) ∧ hp = [] ∧ k = 1

theorem cmpS2_spec {A : List Int} {o : Nat} (a b : Int) (hA : o + 2 ≤ A.length) :
    FDet Tryd.prog 76 [.c (.sl 0 o 2 (some 2)), .c (.sl 1 0 2 (some 2))] [(0, .ro (ints A)), (1, .ro (ints [a, b]))] 2 (.c (.int .i64 (cmpL (win A o 2) [a, b]))) [] 2 :=
  FDet.wk (cmpS_spec (A := A) (B := [a, b]) (o := o) (p := 0) (n := 2) (m := 2) hA (by simp) (by omega) (by omega)) ⟨⟨rfl, rfl, rfl⟩, ⟨rfl, rfl, rfl⟩, trivial⟩ ⟨.inl rfl, .inl rfl, trivial⟩
theorem win2 {A : List Int} {o : Nat} (h : o + 2 ≤ A.length) : win A o 2 = [A.getD o 0, A.getD (o + 1) 0] := by
  refine List.ext_getElem (by rw [win_len h]; rfl) fun i h1 h2 => ?_
  have h3 : i < 2 := by simpa using h2
  have := win_get (A := A) (o := o) (n := 2) h3
  rw [List.getD_eq_getElem?_getD, List.getElem?_eq_getElem h1, Option.getD_some] at this
  rw [this]
  have : i = 0 ∨ i = 1 := by omega
  rcases this with rfl | rfl <;> rfl

theorem check_spec (n s t : Int) (fw : List Int) (len : Nat) (hl : fw.length = len * 2) : FSpec Tryd.prog 55 [.g (giC n s t len 0)] [(0, .ro (ints fw))] 1 (CheckPost n s t fw len) := by
  have bad : bad0 n s t len → CheckPost n s t fw len (.c (.int .i64 80)) [] 1 := fun h => ⟨.inr ⟨fun g => g.1 h, rfl⟩, rfl, rfl⟩
  refine FSpec.of_body tok true Tryd.func55 rfl (by kernel_rfl) (by decide) (by simp [tupA, hpLt, tmLt, AV.lt, AE.lt, AC.lt, LL_cons, LL_nil, idOk, ABlk.lt, ints_LL, GB, tab64_LL, gC, wB, giC]) (by simp [tupA, hpLt, tmLt, AV.lt, AE.lt, AC.lt, LL_cons, LL_nil, idOk, ABlk.lt, ints_LL, GB, tab64_LL, gC, wB, giC]) (by show 1 ≤ _; decide) ?_
  refine Wk.on ?_
  refine ⟨fun hc => ?_, fun hc => ?_⟩ <;> (try simp only [decide_eq_true_eq, decide_eq_false_iff_not, Decidable.not_not, Bool.not_true, Bool.not_false, ne_eq, cond_true, cond_false, Bool.not_eq_true', Bool.not_eq_false'] at hc)
  rotate_left
  · refine Wk.on ?_
    exact AH.Fin.nil [] (bad (.inl (by omega))) trivial trivial trivial rfl (by simp [GB])
  have h1 := hc
  refine Wk.on ?_
  refine ⟨fun hc => ?_, fun hc => ?_⟩ <;> (try simp only [decide_eq_true_eq, decide_eq_false_iff_not, Decidable.not_not, Bool.not_true, Bool.not_false, ne_eq, cond_true, cond_false, Bool.not_eq_true', Bool.not_eq_false'] at hc)
  rotate_left
  · refine Wk.on ?_
    exact AH.Fin.nil [] (bad (.inr (.inl (by omega)))) trivial trivial trivial rfl (by simp [GB])
  have h2 := hc
  refine Wk.on ?_
  refine ⟨fun hc => ?_, fun hc => ?_⟩ <;> (try simp only [decide_eq_true_eq, decide_eq_false_iff_not, Decidable.not_not, Bool.not_true, Bool.not_false, ne_eq, cond_true, cond_false, Bool.not_eq_true', Bool.not_eq_false'] at hc)
  rotate_left
  · refine Wk.on ?_
    exact AH.Fin.nil [] (bad (.inr (.inr (.inl (by omega))))) trivial trivial trivial rfl (by simp [GB])
  have h3 := hc
  refine Wk.on ?_
  refine ⟨fun hc => ?_, fun hc => ?_⟩ <;> (try simp only [decide_eq_true_eq, decide_eq_false_iff_not, Decidable.not_not, Bool.not_true, Bool.not_false, ne_eq, cond_true, cond_false, Bool.not_eq_true', Bool.not_eq_false'] at hc)
  rotate_left
  · refine Wk.on ?_
    exact AH.Fin.nil [] (bad (.inr (.inr (.inr (.inl (by omega)))))) trivial trivial trivial rfl (by simp [GB])
  have h4 := hc
  refine Wk.on ?_
  refine ⟨fun hc => ?_, fun hc => ?_⟩ <;> (try simp only [decide_eq_true_eq, decide_eq_false_iff_not, Decidable.not_not, Bool.not_true, Bool.not_false, ne_eq, cond_true, cond_false, Bool.not_eq_true', Bool.not_eq_false'] at hc)
  rotate_left
  · refine Wk.on ?_
    exact AH.Fin.nil [] (bad (.inr (.inr (.inr (.inr (.inl (by omega))))))) trivial trivial trivial rfl (by simp [GB])
  have h5 := hc
  refine Wk.on ?_
  refine ⟨fun hc => ?_, fun hc => ?_⟩ <;> (try simp only [decide_eq_true_eq, decide_eq_false_iff_not, Decidable.not_not, Bool.not_true, Bool.not_false, ne_eq, cond_true, cond_false, Bool.not_eq_true', Bool.not_eq_false'] at hc)
  · refine Wk.on ?_
    exact AH.Fin.nil [] (bad (.inr (.inr (.inr (.inr (.inr (by omega))))))) trivial trivial trivial rfl (by simp [GB])
  have h6 := hc
  have hgood : ¬ bad0 n s t len := by
    unfold bad0; omega
  refine Wk.on ?_
  refine Tr.loop (md := true) (X := Nat) (st := fun i => ⟨[(1, .c (.ptr 1 0)), (45, .c (.rs 0 0 len)), (46, .c (.int .i64 len)), (47, .c (.int .i64 i))], [(1, .own (giC n s t len 0)), (0, .ro (ints fw))], 2, 85, 1⟩) (inv := fun i => i ≤ len ∧ ∀ j, j < i → ¬ badW n fw j) (μ := fun i => len - i) (x0 := 0) (l := []) tok ⟨by omega, fun j hj => by omega⟩ ?_ ?_
  · exact Sub.nil ⟨rfl, rfl, (by simp [tab64_LL, gC, wB, giC]), rfl, (by simp [tupA, hpLt, tmLt, AV.lt, AE.lt, AC.lt, LL_cons, LL_nil, idOk, ABlk.lt, ints_LL, GB, tab64_LL, gC, wB, giC]), (by simp [tupA, hpLt, tmLt, AV.lt, AE.lt, AC.lt, LL_cons, LL_nil, idOk, ABlk.lt, ints_LL, GB, tab64_LL, gC, wB, giC])⟩ ⟨rfl, rfl, rfl, rfl, trivial⟩ ⟨rfl, rfl, trivial⟩
  · rintro i ⟨hi, hj⟩
    refine Wk.on ?_
    refine ⟨fun hc => ?_, fun hc => ?_⟩ <;> (try simp only [decide_eq_true_eq, decide_eq_false_iff_not, Decidable.not_not, Bool.not_true, Bool.not_false, ne_eq, cond_true, cond_false, Bool.not_eq_true', Bool.not_eq_false'] at hc)
    rotate_left
    · have : i = len := by omega
      subst this
      refine Wk.on ?_
      exact AH.Fin.nil [] ⟨.inl ⟨⟨hgood, hj⟩, rfl⟩, rfl, rfl⟩ trivial trivial trivial rfl (by simp [GB])
    have hil : i < len := by omega
    have badI : badW n fw i → CheckPost n s t fw len (.c (.int .i64 80)) [] 1 := fun h => ⟨.inr ⟨fun g => g.2 i hil h, rfl⟩, rfl, rfl⟩
    have hl2 : 0 + (i : Int).toNat * 2 + 2 ≤ (ints fw).length := by rw [ints_len]; omega
    refine Wk.on ?_
    simp only [rdn, ints_getD, Int.toNat_natCast, Nat.zero_add]
    obtain ⟨a, ha⟩ : ∃ a, a = fw.getD (i * 2) 0 := ⟨_, rfl⟩
    obtain ⟨b, hb⟩ : ∃ b, b = fw.getD (i * 2 + 1) 0 := ⟨_, rfl⟩
    rw [← ha, ← hb]
    refine Tr.draw (md := true) [⟨[], [], [], [], []⟩, ⟨[0], [], [], [], []⟩, ⟨[0, 1], [], [], [], []⟩, ⟨[0, 1, 2], [], [], [], []⟩, ⟨[0, 1, 2, 3], [58, 59], [], [], []⟩, ⟨[0, 1, 2, 3, 4], [58, 59], [], [], []⟩, ⟨[0, 1, 2, 3], [56, 57], [4, 5], [], []⟩, ⟨[0, 1, 2, 3, 6], [56, 57], [4, 5], [], []⟩, ⟨[0, 1, 2, 3, 4, 5, 6, 7], [], [], [], []⟩, ⟨[0, 1, 2, 3, 4, 5, 6, 7, 8], [], [], [], []⟩, ⟨[0, 1, 2, 3, 4, 5, 6, 7, 8, 9], [], [], [], []⟩, ⟨[0, 1, 2, 3, 4, 5, 6, 7, 8, 9, 10], [65, 66], [], [], []⟩, ⟨[0, 1, 2, 3, 4, 5, 6, 7, 8, 9, 10, 11], [65, 66], [], [], []⟩, ⟨[0, 1, 2, 3, 4, 5, 6, 7, 8, 9, 10], [63, 64], [11, 12], [], []⟩, ⟨[0, 1, 2, 3, 4, 5, 6, 7, 8, 9, 10, 13], [63, 64], [11, 12], [], []⟩, ⟨[0, 1, 2, 3, 4, 5, 6, 7, 8, 9, 10, 11, 12, 13, 14], [], [], [], []⟩, ⟨[0, 1, 2, 3, 4, 5, 6, 7, 8, 9, 10, 11, 12, 13, 14, 15], [], [], [], []⟩, ⟨[0, 1, 2, 3, 4, 5, 6, 7, 8, 9, 10, 11, 12, 13, 14, 15, 16], [], [], [], []⟩, ⟨[0, 1, 2, 3, 4, 5, 6, 7, 8, 9, 10, 11, 12, 13, 14, 15, 16, 17], [], [], [], []⟩, ⟨[0, 1, 2, 3, 4, 5, 6, 7, 8, 9, 10, 11, 12, 13, 14, 15, 16, 17, 18], [], [], [], []⟩, ⟨[0, 1, 2, 3, 4, 5, 6, 7, 8, 9, 10, 11, 12, 13, 14, 15, 16, 17, 18, 19], [], [], [], []⟩, ⟨[0, 1, 2, 3, 4, 5, 6, 7, 8, 9, 10, 11, 12, 13, 14, 15, 16, 17, 18, 19, 20], [75, 76, 79], [], [], []⟩, ⟨[0, 1, 2, 3, 4, 5, 6, 7, 8, 9, 10, 11, 12, 13, 14, 15, 16, 17, 18, 19, 20, 21], [75, 76, 79], [], [], []⟩, ⟨[0, 1, 2, 3, 4, 5, 6, 7, 8, 9, 10, 11, 12, 13, 14, 15, 16, 17, 18, 19, 20], [73, 74, 79], [21, 22], [], []⟩, ⟨[0, 1, 2, 3, 4, 5, 6, 7, 8, 9, 10, 11, 12, 13, 14, 15, 16, 17, 18, 19, 20, 23], [73, 74, 79], [21, 22], [], []⟩, ⟨[0, 1, 2, 3, 4, 5, 6, 7, 8, 9, 10, 11, 12, 13, 14, 15, 16, 17, 18, 19, 20, 21, 22, 23, 24], [79], [], [], []⟩, ⟨[0, 1, 2, 3, 4, 5, 6, 7, 8, 9, 10, 11, 12, 13, 14, 15, 16, 17, 18, 19, 20, 21, 22, 23, 24, 25], [79], [], [], []⟩, ⟨[0, 1, 2, 3, 4, 5, 6, 7, 8, 9, 10, 11, 12, 13, 14, 15, 16, 17, 18, 19, 20], [73, 74, 75, 76, 77, 78], [21, 22, 23, 24, 25, 26], [], []⟩] tok (by kernel_rfl) (by kernel_rfl) ?_
    refine Wk.on ?_
    refine ⟨fun hc => ?_, fun hc => ?_⟩ <;> (try simp only [decide_eq_true_eq, decide_eq_false_iff_not, Decidable.not_not, Bool.not_true, Bool.not_false, ne_eq, cond_true, cond_false, Bool.not_eq_true', Bool.not_eq_false'] at hc)
    rotate_left
    · refine Wk.on ?_
      exact AH.Fin.nil [] (badI (.inl (by omega))) trivial trivial trivial rfl (by simp [GB])
    have g1 := hc
    refine Wk.on ?_
    refine ⟨fun hc => ?_, fun hc => ?_⟩ <;> (try simp only [decide_eq_true_eq, decide_eq_false_iff_not, Decidable.not_not, Bool.not_true, Bool.not_false, ne_eq, cond_true, cond_false, Bool.not_eq_true', Bool.not_eq_false'] at hc)
    rotate_left
    · refine Wk.on ?_
      exact AH.Fin.nil [] (badI (.inr (.inl (by omega)))) trivial trivial trivial rfl (by simp [GB])
    have g2 := hc
    refine Wk.on ?_
    refine ⟨fun hc => ?_, fun hc => ?_⟩ <;> (try simp only [decide_eq_true_eq, decide_eq_false_iff_not, Decidable.not_not, Bool.not_true, Bool.not_false, ne_eq, cond_true, cond_false, Bool.not_eq_true', Bool.not_eq_false'] at hc)
    rotate_left
    · refine Wk.on ?_
      exact AH.Fin.nil [] (badI (.inr (.inr (.inl (by omega))))) trivial trivial trivial rfl (by simp [GB])
    have g3 := hc
    refine Wk.on ?_
    have next : ¬ badW n fw i → i + 1 ≤ len ∧ ∀ j, j < i + 1 → ¬ badW n fw j := fun h => ⟨hil, fun j hj2 => by
      by_cases e : j = i
      · exact e ▸ h
      · exact hj j (by omega)⟩
    refine ⟨fun hc => ?_, fun hc => ?_⟩ <;> (try simp only [decide_eq_true_eq, decide_eq_false_iff_not, Decidable.not_not, Bool.not_true, Bool.not_false, ne_eq, cond_true, cond_false, Bool.not_eq_true', Bool.not_eq_false'] at hc)
    · have g4 := hc
      refine Wk.on ?_
      have ho : 0 + ((i : Int) - 1).toNat * 2 = (i - 1) * 2 := by omega
      refine CallA.ro [0, 2] (.c (.int .i64 (cmpL (win fw (0 + ((i : Int) - 1).toNat * 2) 2) [a, b]))) (cmpS2_spec (A := fw) (o := 0 + ((i : Int) - 1).toNat * 2) a b (by omega)) (by first | rfl | exact congrArg AV.g (ints_ren _ _) | (simp [ints_ren, AV.ren, ABlk.ren, AC.ren, AE.ren, qq]; done)) rfl (by (repeat (first | exact trivial | refine ⟨⟨(by first | exact .inl (by decide) | exact .inr (by decide)), (by first | (refine Or.inl ?_; first | rfl | exact congrArg some (ints_ren _ _).symm | exact congrArg ABlk.own (ints_ren _ _).symm | exact congrArg some (tab64_ren _).symm) | rfl | exact congrArg some (ints_ren _ _).symm | exact congrArg ABlk.own (ints_ren _ _).symm | exact congrArg some (tab64_ren _).symm | exact Or.inr ⟨rfl, rfl⟩)⟩, ?_⟩))) (by first | rfl | exact congrArg AV.g (ints_ren _ _) | (simp [ints_ren, AV.ren, ABlk.ren, AC.ren, AE.ren, qq]; done)) ?_
      have hw : cmpL (win fw (0 + ((i : Int) - 1).toNat * 2) 2) [a, b] = cmpL (win fw ((i - 1) * 2) 2) (win fw (i * 2) 2) := by
        rw [ho, win2 (A := fw) (o := i * 2) (by omega), ← ha, ← hb]
      rw [hw]
      refine Wk.on ?_
      refine ⟨fun hc => ?_, fun hc => ?_⟩ <;> (try simp only [decide_eq_true_eq, decide_eq_false_iff_not, Decidable.not_not, Bool.not_true, Bool.not_false, ne_eq, cond_true, cond_false, Bool.not_eq_true', Bool.not_eq_false'] at hc)
      · refine Wk.on ?_
        exact AH.Fin.nil [] (badI (.inr (.inr (.inr ⟨by omega, by omega⟩)))) trivial trivial trivial rfl (by simp [GB])
      · refine Wk.on ?_
        refine Again.mk (i + 1) (Sub.nil ⟨rfl, rfl, (by simp [tab64_LL, gC, wB, giC]), rfl, (by simp [tupA, hpLt, tmLt, AV.lt, AE.lt, AC.lt, LL_cons, LL_nil, idOk, ABlk.lt, ints_LL, GB, tab64_LL, gC, wB, giC]), (by simp [tupA, hpLt, tmLt, AV.lt, AE.lt, AC.lt, LL_cons, LL_nil, idOk, ABlk.lt, ints_LL, GB, tab64_LL, gC, wB, giC])⟩ ⟨rfl, rfl, rfl, rfl, trivial⟩ ⟨rfl, rfl, trivial⟩) (next ?_) (by omega)
        unfold badW
        rw [← ha, ← hb]; omega
    · have g4 := hc
      refine Wk.on ?_
      refine Again.mk (i + 1) (Sub.nil ⟨rfl, rfl, (by simp [tab64_LL, gC, wB, giC]), rfl, (by simp [tupA, hpLt, tmLt, AV.lt, AE.lt, AC.lt, LL_cons, LL_nil, idOk, ABlk.lt, ints_LL, GB, tab64_LL, gC, wB, giC]), (by simp [tupA, hpLt, tmLt, AV.lt, AE.lt, AC.lt, LL_cons, LL_nil, idOk, ABlk.lt, ints_LL, GB, tab64_LL, gC, wB, giC])⟩ ⟨rfl, rfl, rfl, rfl, trivial⟩ ⟨rfl, rfl, trivial⟩) (next ?_) (by omega)
      unfold badW
      rw [← ha, ← hb]; omega
end Go.Proofs.YtfphkpdobbffeaaDoor

/-
  Contracts: games that are games; all wires; the number of trees.
-/
namespace Go.Proofs.YtfphkpdobbffeaaDoor
open Go Go.AH
set_option maxRecDepth 100000
set_option maxHeartbeats 1000000

def Gm.game (g : Gm) : Prop := isGame g.n g.s g.t (fl g.ws) g.ws.length
theorem Gm.game.ok {g : Gm} (h : g.game) : g.ok := by
  obtain ⟨h1, h2⟩ := h
  unfold bad0 at h1
  refine ⟨by omega, by omega, by omega, by omega, by omega, fun i hi => ?_⟩
  have := h2 i hi
  unfold badW at this
  rw [(fl_get g.ws i).1, (fl_get g.ws i).2] at this
  omega
theorem check_ok {g : Gm} (h : g.game) : FDet Tryd.prog 55 [.g (gC g 0)] [(0, wB g)] 1 (.c (.int .i64 0)) [] 1 :=
  FSpec.imp (check_spec g.n g.s g.t (fl g.ws) g.ws.length (fl_len _)) fun r hq k' ⟨h1, h2, h3⟩ => by
    rcases h1 with ⟨_, h1⟩ | ⟨h1, _⟩
    · exact ⟨h1, h2, h3⟩
    · exact absurd h h1
theorem subN {p : Nat} (h : 0 < p) : (p : Int) - 1 = ((p - 1 : Nat) : Int) := by omega
theorem pow_pos2 (n : Nat) : 0 < 2 ^ n := Nat.pow_pos (by omega)
theorem all_spec {g : Gm} (hg : g.ok) : FDet Tryd.prog 57 [.g (gC g 0)] [(0, wB g)] 1 (.c (.int .i64 (2 ^ g.ws.length - 1 : Nat))) [] 1 := by
  have hl := hg.len
  obtain ⟨q, hq⟩ : ∃ q, q = 2 ^ g.ws.length := ⟨_, rfl⟩
  have hq2 : q < 2048 := by rw [hq]; exact pow_small (by omega)
  have hq3 : 0 < q := by rw [hq]; exact pow_pos2 _
  refine FSpec.of_body tok true Tryd.func57 rfl (by kernel_rfl) (by decide) (by simp [tupA, hpLt, tmLt, AV.lt, AE.lt, AC.lt, LL_cons, LL_nil, idOk, ABlk.lt, ints_LL, GB, tab64_LL, gC, wB, giC]) (by simp [tupA, hpLt, tmLt, AV.lt, AE.lt, AC.lt, LL_cons, LL_nil, idOk, ABlk.lt, ints_LL, GB, tab64_LL, gC, wB, giC]) (by show 1 ≤ _; decide) ?_
  refine Wk.on ?_
  rw [wrapU (by omega)]
  refine Wk.on ?_
  refine ⟨⟨by omega, by omega, by rw [shl1 hq]; unfold I64; omega⟩, ?_⟩
  rw [shl1 hq]
  refine Wk.on ?_
  refine AH.Fin.nil [] ⟨?_, rfl, rfl⟩ trivial trivial trivial rfl (by simp [GB])
  show AV.c (.int .i64 ((q : Int) - 1)) = _
  rw [← hq, Int.ofNat_sub (by omega)]; rfl

def cntT (g : Gm) (k : Nat) : Nat := (List.range k).countP fun a => isTreeB g a (2 ^ g.n - 1)
theorem cntT_succ (g : Gm) (k : Nat) : cntT g (k + 1) = cntT g k + if isTreeB g k (2 ^ g.n - 1) then 1 else 0 := by
  simp [cntT, List.range_succ, List.countP_append, List.countP_cons]
theorem cntT_le (g : Gm) (k : Nat) : cntT g k ≤ k := by
  unfold cntT; exact Nat.le_trans List.countP_le_length (by simp)
theorem count_spec {g : Gm} (hg : g.game) : FDet Tryd.prog 23 [.g (gC g 0)] [(0, wB g), (100002, .ro tab64)] 1 (.t [.c (.int .i64 (cntT g (2 ^ g.ws.length))), .c (.int .i64 0)]) [] 1 := by
  have hl := hg.ok.len
  have hn8 := hg.ok.n8
  obtain ⟨q, hq⟩ : ∃ q, q = 2 ^ g.ws.length := ⟨_, rfl⟩
  have hq2 : q < 2048 := by rw [hq]; exact pow_small (by omega)
  have hq3 : 0 < q := by rw [hq]; exact pow_pos2 _
  have hall := all_spec hg.ok
  rw [← hq] at hall
  refine FSpec.of_body tok true Tryd.func23 rfl (by kernel_rfl) (by decide) (by simp [tupA, hpLt, tmLt, AV.lt, AE.lt, AC.lt, LL_cons, LL_nil, idOk, ABlk.lt, ints_LL, GB, tab64_LL, gC, wB, giC]) (by simp [tupA, hpLt, tmLt, AV.lt, AE.lt, AC.lt, LL_cons, LL_nil, idOk, ABlk.lt, ints_LL, GB, tab64_LL, gC, wB, giC]) (by show 1 ≤ _; decide) ?_
  refine Wk.on ?_
  refine CallA.ro [0] (.c (.int .i64 0)) (check_ok hg) (by first | rfl | exact congrArg AV.g (ints_ren _ _) | (simp [ints_ren, AV.ren, ABlk.ren, AC.ren, AE.ren, qq]; done)) rfl (by (repeat (first | exact trivial | refine ⟨⟨(by first | exact .inl (by decide) | exact .inr (by decide)), (by first | (refine Or.inl ?_; first | rfl | exact congrArg some (ints_ren _ _).symm | exact congrArg ABlk.own (ints_ren _ _).symm | exact congrArg some (tab64_ren _).symm) | rfl | exact congrArg some (ints_ren _ _).symm | exact congrArg ABlk.own (ints_ren _ _).symm | exact congrArg some (tab64_ren _).symm | exact Or.inr ⟨rfl, rfl⟩)⟩, ?_⟩))) (by first | rfl | exact congrArg AV.g (ints_ren _ _) | (simp [ints_ren, AV.ren, ABlk.ren, AC.ren, AE.ren, qq]; done)) ?_
  refine Wk.on ?_
  refine CallA.ro [0] (.c (.int .i64 (q - 1 : Nat))) (hall) (by first | rfl | exact congrArg AV.g (ints_ren _ _) | (simp [ints_ren, AV.ren, ABlk.ren, AC.ren, AE.ren, qq]; done)) rfl (by (repeat (first | exact trivial | refine ⟨⟨(by first | exact .inl (by decide) | exact .inr (by decide)), (by first | (refine Or.inl ?_; first | rfl | exact congrArg some (ints_ren _ _).symm | exact congrArg ABlk.own (ints_ren _ _).symm | exact congrArg some (tab64_ren _).symm) | rfl | exact congrArg some (ints_ren _ _).symm | exact congrArg ABlk.own (ints_ren _ _).symm | exact congrArg some (tab64_ren _).symm | exact Or.inr ⟨rfl, rfl⟩)⟩, ?_⟩))) (by first | rfl | exact congrArg AV.g (ints_ren _ _) | (simp [ints_ren, AV.ren, ABlk.ren, AC.ren, AE.ren, qq]; done)) ?_
  refine Wk.on ?_
  refine Tr.loop (md := true) (X := Nat) (st := fun i => ⟨[(1, .c (.ptr 1 0)), (14, .c (.int .i64 q)), (15, .c (.int .i64 i)), (5, .c (.int .i64 (cntT g i)))], [(1, .own (gC g 0)), (0, wB g), (100002, .ro tab64)], 2, 30, 1⟩) (inv := fun i => i ≤ q) (μ := fun i => q - i) (x0 := 0) (l := []) tok (by omega) ?_ ?_
  · exact Sub.nil ⟨rfl, rfl, (by simp [tab64_LL, gC, wB, giC]), rfl, (by simp [tupA, hpLt, tmLt, AV.lt, AE.lt, AC.lt, LL_cons, LL_nil, idOk, ABlk.lt, ints_LL, GB, tab64_LL, gC, wB, giC]), (by simp [tupA, hpLt, tmLt, AV.lt, AE.lt, AC.lt, LL_cons, LL_nil, idOk, ABlk.lt, ints_LL, GB, tab64_LL, gC, wB, giC])⟩ ⟨rfl, by show AV.c (.int .i64 _) = AV.c (.int .i64 _); congr 2; omega, rfl, rfl, trivial⟩ ⟨rfl, rfl, rfl, trivial⟩
  · intro i hi
    have hci := cntT_le g i
    have hsu := cntT_succ g i
    obtain ⟨p, hp⟩ : ∃ p, p = 2 ^ g.n := ⟨_, rfl⟩
    have hp2 : p < 512 := by rw [hp]; exact Nat.lt_of_le_of_lt (Nat.pow_le_pow_right (by omega) hn8) (by omega)
    have hp3 : 0 < p := by rw [hp]; exact pow_pos2 _
    refine Wk.on ?_
    refine ⟨fun hc => ?_, fun hc => ?_⟩ <;> (try simp only [decide_eq_true_eq, decide_eq_false_iff_not, Decidable.not_not, Bool.not_true, Bool.not_false, ne_eq, cond_true, cond_false, Bool.not_eq_true', Bool.not_eq_false'] at hc)
    · refine Wk.on ?_
      rw [wrapU (by omega)]
      refine Wk.on ?_
      refine ⟨⟨by omega, by omega, by rw [shl1 hp]; unfold I64; omega⟩, ?_⟩
      rw [shl1 hp]
      refine Wk.on ?_
      rw [subN hp3]
      refine CallA.ro [0] (.c (.bool (isTreeB g i (p - 1)))) (isTree_spec hg.ok (n := i) (pl := p - 1) (by rw [← hq]; omega) (by omega)) (by first | rfl | exact congrArg AV.g (ints_ren _ _) | (simp [ints_ren, AV.ren, ABlk.ren, AC.ren, AE.ren, qq]; done)) rfl (by (repeat (first | exact trivial | refine ⟨⟨(by first | exact .inl (by decide) | exact .inr (by decide)), (by first | (refine Or.inl ?_; first | rfl | exact congrArg some (ints_ren _ _).symm | exact congrArg ABlk.own (ints_ren _ _).symm | exact congrArg some (tab64_ren _).symm) | rfl | exact congrArg some (ints_ren _ _).symm | exact congrArg ABlk.own (ints_ren _ _).symm | exact congrArg some (tab64_ren _).symm | exact Or.inr ⟨rfl, rfl⟩)⟩, ?_⟩))) (by first | rfl | exact congrArg AV.g (ints_ren _ _) | (simp [ints_ren, AV.ren, ABlk.ren, AC.ren, AE.ren, qq]; done)) ?_
      refine Wk.on ?_
      rw [← hp] at hsu
      refine ⟨fun hc => ?_, fun hc => ?_⟩ <;> (try simp only [decide_eq_true_eq, decide_eq_false_iff_not, Decidable.not_not, Bool.not_true, Bool.not_false, ne_eq, cond_true, cond_false, Bool.not_eq_true', Bool.not_eq_false'] at hc)
      · refine Wk.on ?_
        refine Again.mk (i + 1) (Sub.nil ⟨rfl, rfl, (by simp [tab64_LL, gC, wB, giC]), rfl, (by simp [tupA, hpLt, tmLt, AV.lt, AE.lt, AC.lt, LL_cons, LL_nil, idOk, ABlk.lt, ints_LL, GB, tab64_LL, gC, wB, giC]), (by simp [tupA, hpLt, tmLt, AV.lt, AE.lt, AC.lt, LL_cons, LL_nil, idOk, ABlk.lt, ints_LL, GB, tab64_LL, gC, wB, giC])⟩ ⟨rfl, rfl, rfl, ?_, trivial⟩ ⟨rfl, rfl, rfl, trivial⟩) (by omega) (by omega)
        show AV.c (.int .i64 _) = AV.c (.int .i64 _)
        rw [hsu, hc]; rfl
      · refine Wk.on ?_
        refine Again.mk (i + 1) (Sub.nil ⟨rfl, rfl, (by simp [tab64_LL, gC, wB, giC]), rfl, (by simp [tupA, hpLt, tmLt, AV.lt, AE.lt, AC.lt, LL_cons, LL_nil, idOk, ABlk.lt, ints_LL, GB, tab64_LL, gC, wB, giC]), (by simp [tupA, hpLt, tmLt, AV.lt, AE.lt, AC.lt, LL_cons, LL_nil, idOk, ABlk.lt, ints_LL, GB, tab64_LL, gC, wB, giC])⟩ ⟨rfl, rfl, rfl, ?_, trivial⟩ ⟨rfl, rfl, rfl, trivial⟩) (by omega) (by omega)
        show AV.c (.int .i64 _) = AV.c (.int .i64 _)
        rw [hsu, hc]; rfl
    · have : i = q := by omega
      subst this
      refine Wk.on ?_
      exact AH.Fin.nil [] ⟨by rw [← hq]; rfl, rfl, rfl⟩ (by first | exact trivial | (simp [tupA, hpLt, tmLt, AV.lt, AE.lt, AC.lt, LL_cons, LL_nil, idOk, ABlk.lt, ints_LL, GB, tab64_LL, gC, wB, giC]; done) | (simp [tupA, hpLt, tmLt, AV.lt, AE.lt, AC.lt, LL_cons, LL_nil, idOk, ABlk.lt, ints_LL, GB, tab64_LL, gC, wB, giC, rdn, wrn]; done)) trivial trivial rfl (by simp [GB])
end Go.Proofs.YtfphkpdobbffeaaDoor

/-
  Contracts: the ends of a game; the elements of a set, listed.
-/
namespace Go.Proofs.YtfphkpdobbffeaaDoor
open Go Go.AH
set_option maxRecDepth 100000
set_option maxHeartbeats 1000000

def endsN (g : Gm) : Nat := 2 ^ g.s ||| 2 ^ g.t
theorem ends_spec {g : Gm} (hg : g.ok) : FDet Tryd.prog 63 [.g (gC g 0)] [(0, wB g)] 1 (.c (.int .i64 (endsN g))) [] 1 := by
  have h8 := hg.n8
  have hs := hg.s
  have ht := hg.t
  obtain ⟨p, hp⟩ : ∃ p, p = 2 ^ g.s := ⟨_, rfl⟩
  obtain ⟨q, hq⟩ : ∃ q, q = 2 ^ g.t := ⟨_, rfl⟩
  have hp2 := pow_small (n := g.s) (by omega)
  have hq2 := pow_small (n := g.t) (by omega)
  rw [← hp] at hp2
  rw [← hq] at hq2
  refine FSpec.of_body tok true Tryd.func63 rfl (by kernel_rfl) (by decide) (by simp [tupA, hpLt, tmLt, AV.lt, AE.lt, AC.lt, LL_cons, LL_nil, idOk, ABlk.lt, ints_LL, GB, tab64_LL, gC, wB, giC]) (by simp [tupA, hpLt, tmLt, AV.lt, AE.lt, AC.lt, LL_cons, LL_nil, idOk, ABlk.lt, ints_LL, GB, tab64_LL, gC, wB, giC]) (by show 1 ≤ _; decide) ?_
  refine Wk.on ?_
  rw [wrapU (by omega)]
  refine Wk.on ?_
  refine ⟨⟨by omega, by omega, by rw [shl1 hp]; unfold I64; omega⟩, ?_⟩
  rw [shl1 hp]
  refine Wk.on ?_
  rw [wrapU (by omega)]
  refine Wk.on ?_
  refine ⟨⟨by omega, by omega, by rw [shl1 hq]; unfold I64; omega⟩, ?_⟩
  rw [shl1 hq]
  refine Wk.on ?_
  exact AH.Fin.nil [] ⟨by rw [endsN, ← hp, ← hq]; simp [tupA], rfl, rfl⟩ (by first | exact trivial | (simp [tupA, hpLt, tmLt, AV.lt, AE.lt, AC.lt, LL_cons, LL_nil, idOk, ABlk.lt, ints_LL, GB, tab64_LL, gC, wB, giC]; done) | (simp [tupA, hpLt, tmLt, AV.lt, AE.lt, AC.lt, LL_cons, LL_nil, idOk, ABlk.lt, ints_LL, GB, tab64_LL, gC, wB, giC, rdn, wrn]; done)) trivial trivial rfl (by simp [GB])
theorem endsN_lt {g : Gm} (hg : g.ok) : endsN g < 256 := by
  have h8 := hg.n8
  have hs := hg.s
  have ht := hg.t
  exact or_lt (k := 8) ((Nat.pow_lt_pow_iff_right (by omega)).2 (by omega)) ((Nat.pow_lt_pow_iff_right (by omega)).2 (by omega))
theorem allowT_spec {g : Gm} (hg : g.ok) {pl : Nat} (hp : pl < 256) : FDet Tryd.prog 62 [.c (.int .i64 pl), .c (.ptr 1 0)] [(0, wB g), (1, .ro (gC g 0))] 2 (.c (.bool (decide (pl &&& endsN g = endsN g)))) [] 2 := by
  have he := endsN_lt hg
  refine FSpec.of_body tok true Tryd.func62 rfl (by kernel_rfl) (by decide) (by simp [tupA, hpLt, tmLt, AV.lt, AE.lt, AC.lt, LL_cons, LL_nil, idOk, ABlk.lt, ints_LL, GB, tab64_LL, gC, wB, giC]) (by simp [tupA, hpLt, tmLt, AV.lt, AE.lt, AC.lt, LL_cons, LL_nil, idOk, ABlk.lt, ints_LL, GB, tab64_LL, gC, wB, giC]) (by show 2 ≤ _; decide) ?_
  refine Wk.on ?_
  refine Tr.draw (md := true) [⟨[], [5, 6, 8, 9], [], [], []⟩, ⟨[], [4, 8], [0], [], []⟩, ⟨[1], [4, 8], [0], [], []⟩, ⟨[0, 1, 2], [8, 9], [], [], []⟩, ⟨[], [4, 5, 6, 7], [0, 1, 2, 3], [], []⟩, ⟨[1, 2, 4], [4, 7], [0, 3], [], []⟩] tok (by kernel_rfl) (by kernel_rfl) ?_
  refine Wk.on ?_
  refine CallQ.ro [0] (.c (.int .i64 (endsN g))) (ends_spec hg) (by first | rfl | exact congrArg AV.g (ints_ren _ _) | (simp [ints_ren, AV.ren, ABlk.ren, AC.ren, AE.ren, qq]; done)) rfl (by (repeat (first | exact trivial | refine ⟨⟨(by first | exact .inl (by decide) | exact .inr (by decide)), (by first | (refine Or.inl ?_; first | rfl | exact congrArg some (ints_ren _ _).symm | exact congrArg ABlk.own (ints_ren _ _).symm | exact congrArg some (tab64_ren _).symm) | rfl | exact congrArg some (ints_ren _ _).symm | exact congrArg ABlk.own (ints_ren _ _).symm | exact congrArg some (tab64_ren _).symm | exact Or.inr ⟨rfl, rfl⟩)⟩, ?_⟩))) (by first | rfl | exact congrArg AV.g (ints_ren _ _) | (simp [ints_ren, AV.ren, ABlk.ren, AC.ren, AE.ren, qq]; done)) ?_
  refine Wk.on ?_
  simp only [Int.toNat_natCast]
  refine Wk.on ?_
  refine CallQ.ro [0] (.c (.int .i64 (endsN g))) (ends_spec hg) (by first | rfl | exact congrArg AV.g (ints_ren _ _) | (simp [ints_ren, AV.ren, ABlk.ren, AC.ren, AE.ren, qq]; done)) rfl (by (repeat (first | exact trivial | refine ⟨⟨(by first | exact .inl (by decide) | exact .inr (by decide)), (by first | (refine Or.inl ?_; first | rfl | exact congrArg some (ints_ren _ _).symm | exact congrArg ABlk.own (ints_ren _ _).symm | exact congrArg some (tab64_ren _).symm) | rfl | exact congrArg some (ints_ren _ _).symm | exact congrArg ABlk.own (ints_ren _ _).symm | exact congrArg some (tab64_ren _).symm | exact Or.inr ⟨rfl, rfl⟩)⟩, ?_⟩))) (by first | rfl | exact congrArg AV.g (ints_ren _ _) | (simp [ints_ren, AV.ren, ABlk.ren, AC.ren, AE.ren, qq]; done)) ?_
  refine Wk.on ?_
  exact AH.Fin.nil [] ⟨by show AV.c (.bool _) = AV.c (.bool _); congr 2; exact decide_eq_decide.2 (by omega), rfl, rfl⟩ (by first | exact trivial | (simp [tupA, hpLt, tmLt, AV.lt, AE.lt, AC.lt, LL_cons, LL_nil, idOk, ABlk.lt, ints_LL, GB, tab64_LL, gC, wB, giC]; done) | (simp [tupA, hpLt, tmLt, AV.lt, AE.lt, AC.lt, LL_cons, LL_nil, idOk, ABlk.lt, ints_LL, GB, tab64_LL, gC, wB, giC, rdn, wrn]; done)) trivial trivial rfl (by simp [GB])
theorem mem_len {n : Nat} (hn : n < 1024) : (mem n).length ≤ 10 := by
  have := pop_le n hn
  simpa [mem, pop] using this
theorem mem_ne {n : Nat} (hn : n < 1024) (h0 : 0 < n) : ∃ y ys, mem n = y :: ys := ⟨_, _, mem_step hn h0⟩
theorem listed_spec {n : Nat} (hn : n < 1024) (h0 : 0 < n) : FDet Tryd.prog 96 [.c (.int .i64 n)] [(100002, .ro tab64)] 0 (.c (.row 0 (mem n).length)) [(0, .row 3 1 (ints (mem n)))] 1 := by
  have hml := mem_len hn
  refine FSpec.of_body tok true Tryd.func96 rfl (by kernel_rfl) (by decide) (by simp [tupA, hpLt, tmLt, AV.lt, AE.lt, AC.lt, LL_cons, LL_nil, idOk, ABlk.lt, ints_LL, GB, tab64_LL, gC, wB, giC]) (by simp [tupA, hpLt, tmLt, AV.lt, AE.lt, AC.lt, LL_cons, LL_nil, idOk, ABlk.lt, ints_LL, GB, tab64_LL, gC, wB, giC]) (by show 1 ≤ _; decide) ?_
  refine Wk.on ?_
  refine CallA.det [] (.c (.fn 98 [] [1])) ([(0, .own [.nils]), (100002, .ro tab64), (1, .own [.int .i64 n])]) (members_spec n) (by first | rfl | exact congrArg AV.g (ints_ren _ _) | (simp [ints_ren, AV.ren, ABlk.ren, AC.ren, AE.ren, qq]; done)) rfl (by (repeat (first | exact trivial | refine ⟨⟨(by first | exact .inl (by decide) | exact .inr (by decide)), (by first | (refine Or.inl ?_; first | rfl | exact congrArg some (ints_ren _ _).symm | exact congrArg ABlk.own (ints_ren _ _).symm | exact congrArg some (tab64_ren _).symm) | rfl | exact congrArg some (ints_ren _ _).symm | exact congrArg ABlk.own (ints_ren _ _).symm | exact congrArg some (tab64_ren _).symm | exact Or.inr ⟨rfl, rfl⟩)⟩, ?_⟩))) (by first | rfl | exact congrArg AV.g (ints_ren _ _) | (simp [ints_ren, AV.ren, ABlk.ren, AC.ren, AE.ren, qq]; done)) (by first | rfl | (simp [behind, gone, lk, up, del, qq, ABlk.wr, GB, ints_ren, AV.ren, ABlk.ren, AC.ren, AE.ren]; done) | (simp [behind, gone, lk, up, del, qq, ABlk.wr, GB, ints_ren, AV.ren, ABlk.ren, AC.ren, AE.ren]; rfl)) ?_
  refine Wk.on ?_
  refine Tr.range (md := true) tok rfl (mem n) ([(1, .ro [.int .i64 n]), (100002, .ro tab64)]) (members1_iter hn 1 (by decide)) (by (repeat (first | exact trivial | refine ⟨trivial, ?_⟩ | refine ⟨rfl, ?_⟩))) rfl (fun pre => match pre with | [] => [(1, .ro [.int .i64 n]), (0, .own [.nils]), (100002, .ro tab64)] | y :: ys => [(1, .ro [.int .i64 n]), (0, .own [.row 2 (ys.length + 1)]), (2, .row 3 1 (ints (y :: ys))), (100002, .ro tab64)]) (fun _ => True) (3) (by decide) (by first | trivial | rfl | decide | simp) (by (repeat (first | exact trivial | refine ⟨trivial, ?_⟩ | refine ⟨rfl, ?_⟩))) (fun pre hpre => by cases pre <;> exact (by simp [tupA, hpLt, tmLt, AV.lt, AE.lt, AC.lt, LL_cons, LL_nil, idOk, ABlk.lt, ints_LL, GB, tab64_LL, gC, wB, giC])) (fun pre hpre => by cases pre <;> exact ⟨(by (repeat (first | exact trivial | refine ⟨trivial, ?_⟩ | refine ⟨rfl, ?_⟩))), (by (repeat (first | exact trivial | refine ⟨trivial, ?_⟩ | refine ⟨rfl, ?_⟩)))⟩) rfl rfl (by decide) ?_ ?_
  · intro pre x hpre _ hx hl
    cases pre with
    | nil =>
      refine Wk.on ?_
      exact ⟨(), trivial, RoundOk.new [(2, 4)] rfl ⟨rfl, rfl, rfl, rfl, trivial⟩ rfl⟩
    | cons y ys =>
      have hl2 : ys.length + 1 < 10 := by simp at hl; omega
      refine Wk.on ?_
      refine ⟨⟨Nat.le_of_ble_eq_true rfl, rfl, rfl, by rw [ints_len]; simp, by show ((ys.length + 1 + 1 : Nat) : Int) * 8 ≤ _; omega, by omega⟩, ?_⟩
      refine Wk.on ?_
      refine ⟨(), trivial, RoundOk.new [(2, 4)] rfl ⟨rfl, ?_, ?_, rfl, trivial⟩ rfl⟩
      · show some (ABlk.own [AC.row 4 (ys.length + 1 + 1)]) = some (ABlk.own [AC.row 4 ((ys ++ [x]).length + 1)])
        simp
      · show some (ABlk.row 3 1 (ints (y :: ys) ++ [.int .i64 x])) = some (ABlk.row 3 1 ((ints (y :: (ys ++ [x]))).map _))
        rw [ints_ren]; simp [ints]
  · intro _
    obtain ⟨y, ys, hy⟩ := mem_ne hn h0
    rw [hy]
    refine Wk.on ?_
    exact AH.Fin.new [2] _ _ ⟨rfl, rfl, rfl⟩ rfl ⟨by show some (ABlk.row 3 1 _) = some (ABlk.row 3 1 ((ints (y :: ys)).map _)); rw [ints_ren], trivial⟩ rfl (by simp [tupA, hpLt, tmLt, AV.lt, AE.lt, AC.lt, LL_cons, LL_nil, idOk, ABlk.lt, ints_LL, GB, tab64_LL, gC, wB, giC]) (by simp [tupA, hpLt, tmLt, AV.lt, AE.lt, AC.lt, LL_cons, LL_nil, idOk, ABlk.lt, ints_LL, GB, tab64_LL, gC, wB, giC])
end Go.Proofs.YtfphkpdobbffeaaDoor
