/-
  The tables, and the statement SwitchCounts.
-/
import Derived.Test.YtfphkpdobbffeaaDoorSwD1
set_option linter.unusedSimpArgs false
set_option linter.unusedVariables false
namespace Go.Proofs.YtfphkpdobbffeaaDoor
open Go Go.AH Go.ChangeShapes Go.WideShapes Go.ChangeAt Go.RowKit
set_option maxRecDepth 100000

theorem own : ownKnob Tryd.prog.godebug = none := by kernel_rfl
theorem gTab64Type : (Tryd.prog.globals[2]?).map (·.type) = some 162 := by kernel_rfl
theorem gNoneType : (Tryd.prog.globals[0]?).map (·.type) = some 91 := by kernel_rfl
theorem cells162 : Tryd.prog.cellsOf 162 = 64 := by kernel_rfl
theorem cells91 : Tryd.prog.cellsOf 91 = 2 := by kernel_rfl
theorem cells5 : Tryd.prog.cellsOf 5 = 1 := by kernel_rfl
def lays : List (String × DataW Unit) := [("math/bits.deBruijn32tab", Rows.laid_math_bits_deBruijn32tab), ("math/bits.deBruijn64tab", Rows.laid_math_bits_deBruijn64tab), ("bibelot/switches.none", Rows.laid_bibelot_switches_none)]
theorem tab_cells {W : World} {g : Nat} {k : IntKind} {zs : List Int} (hl : 0 < zs.length) (h : ∀ i, i < zs.length → W.cell? ⟨g, i, none⟩ = some (.int k (zs.getD i 0))) : ∃ c t z, W.heap[g]? = some (.cells c t z) ∧ ∀ R : Ren, conL R (zs.map (AC.int k)) c 0 := by
  obtain ⟨c, t, z, hh, _, _⟩ := cell_inv (h 0 hl)
  refine ⟨c, t, z, hh, fun R i x hx => ?_⟩
  have hi : i < zs.length := by have := (List.getElem?_eq_some_iff.1 hx).1; simpa using this
  obtain ⟨c', t', z', hh', _, hv⟩ := cell_inv (h i hi)
  rw [show (⟨g, 0, none⟩ : Addr).block = (⟨g, i, none⟩ : Addr).block from rfl, hh'] at hh
  injection hh with hh
  injection hh with e1 _ _
  refine ⟨.int k (zs.getD i 0), by rw [Nat.zero_add, ← e1]; exact hv, ?_⟩
  simp only [List.getElem?_map] at hx
  rw [List.getD_eq_getElem?_getD]
  obtain ⟨y, hy, rfl⟩ := Option.map_eq_some_iff.1 hx
  rw [hy]; rfl
def lay (vs : Array Value) : Obj → Obj
  | .cells _ t z => .cells vs t z
  | o => o
/-- A world for the witness: the settled one, with the tables as they are laid. -/
noncomputable def laidWorld (os : Os) : World :=
  { World.holding Tryd.prog os ⟨#[], #[], []⟩ with heap := (((World.holding Tryd.prog os ⟨#[], #[], []⟩).heap.modify 0 (lay #[.int .i64 (-1), .int .i64 (-1)])).modify 1 (lay ((([0, 1, 28, 2, 29, 14, 24, 3, 30, 22, 20, 15, 25, 17, 4, 8, 31, 27, 13, 23, 21, 19, 16, 7, 26, 12, 18, 6, 11, 5, 10, 9] : List Int).map (Value.int .u8)).toArray))).modify 2 (lay ((tabI.map (Value.int .u8)).toArray)) }
def wit : Value := .agg #[.int .i64 0, .int .i64 0, .int .i64 0, .slice none 0 0]
end Go.Proofs.YtfphkpdobbffeaaDoor
