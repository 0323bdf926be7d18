/-
  The tables, and the statement SwitchCounts.
-/
import Derived.Test.YtfphkpdobbffeaaDoorSwD1
set_option linter.unusedSimpArgs false
set_option linter.unusedVariables false
namespace Go.Proofs.YtfphkpdobbffeaaDoor
open Go Go.AH Go.ChangeShapes Go.WideShapes Go.ChangeAt Go.RowKit
set_option maxRecDepth 100000

theorem own : ownKnob Tryd.prog.godebug = none := by kernel_rfl
theorem gTab64Type : (Tryd.prog.globals[2]?).map (·.type) = some 162 := by kernel_rfl
theorem gNoneType : (Tryd.prog.globals[0]?).map (·.type) = some 91 := by kernel_rfl
theorem cells162 : Tryd.prog.cellsOf 162 = 64 := by kernel_rfl
theorem cells91 : Tryd.prog.cellsOf 91 = 2 := by kernel_rfl
theorem cells5 : Tryd.prog.cellsOf 5 = 1 := by kernel_rfl
def lays : List (String × DataW Unit) := [("math/bits.deBruijn32tab", Rows.laid_math_bits_deBruijn32tab), ("math/bits.deBruijn64tab", Rows.laid_math_bits_deBruijn64tab), ("bibelot/switches.none", Rows.laid_bibelot_switches_none)]
theorem tab64_is {W : World} (h : laidMet Tryd.prog lays W) : Lib.TabIs Tryd.prog W "math/bits.deBruijn64tab" .u8 tabI :=
  Lib.tabIs_of_head (rest := [("bibelot/switches.none", Rows.laid_bibelot_switches_none)]) gTab64 gTab64Type Tryd.underlying162 Tryd.underlying5 cells5 cells162 (laidMet.tail h)
theorem none_is {W : World} (h : laidMet Tryd.prog lays W) : Lib.TabIs Tryd.prog W "bibelot/switches.none" .i64 [-1, -1] := by
  obtain ⟨ps, ⟨g', t', cs, fuel, p, q, hg', ht', hvar, hd, _, _⟩, _⟩ := laidMet.tail (laidMet.tail h)
  obtain rfl := Option.some.inj (gNone.symm.trans hg')
  obtain rfl := Option.some.inj (gNoneType.symm.trans ht')
  obtain ⟨y0, y1, n, he, hl, h0, h1⟩ := trod_struct2 Tryd.underlying91 hd
  have h0 : DataW.trod _ Tryd.prog W _ _ _ n 3 (List.take (Tryd.prog.cellsOf 3) (List.drop 0 cs.toList)) = some y0 := h0
  have h1 : DataW.trod _ Tryd.prog W _ _ _ n 3 (List.take (Tryd.prog.cellsOf 3) (List.drop 1 cs.toList)) = some y1 := h1
  rw [cells3] at h0 h1
  obtain ⟨z0, c0, e0, _⟩ := DataW.trod_int Tryd.underlying3 h0
  obtain ⟨z1, c1, e1, _⟩ := DataW.trod_int Tryd.underlying3 h1
  rw [cells91] at hl
  subst e0; subst e1
  have he : (DataW.agg [.lit (.int .i64 (-1)), .lit (.int .i64 (-1))] : DataW Unit) = .agg [.lit (.int .i64 z0), .lit (.int .i64 z1)] := congrArg Prod.fst he
  simp at he
  obtain ⟨rfl, rfl⟩ := he
  unfold Lib.TabIs
  rw [hvar]
  congr 1
  apply Array.ext'
  match hq : cs.toList, hl with
  | [u, v], _ =>
    rw [hq] at c0 c1
    simp at c0 c1
    simp [c0, c1]
theorem tab_cells {W : World} {g : Nat} {k : IntKind} {zs : List Int} (hl : 0 < zs.length) (h : ∀ i, i < zs.length → W.cell? ⟨g, i, none⟩ = some (.int k (zs.getD i 0))) : ∃ c t z, W.heap[g]? = some (.cells c t z) ∧ ∀ R : Ren, conL R (zs.map (AC.int k)) c 0 := by
  obtain ⟨c, t, z, hh, _, _⟩ := cell_inv (h 0 hl)
  refine ⟨c, t, z, hh, fun R i x hx => ?_⟩
  have hi : i < zs.length := by have := (List.getElem?_eq_some_iff.1 hx).1; simpa using this
  obtain ⟨c', t', z', hh', _, hv⟩ := cell_inv (h i hi)
  rw [show (⟨g, 0, none⟩ : Addr).block = (⟨g, i, none⟩ : Addr).block from rfl, hh'] at hh
  injection hh with hh
  injection hh with e1 _ _
  refine ⟨.int k (zs.getD i 0), by rw [Nat.zero_add, ← e1]; exact hv, ?_⟩
  simp only [List.getElem?_map] at hx
  rw [List.getD_eq_getElem?_getD]
  obtain ⟨y, hy, rfl⟩ := Option.map_eq_some_iff.1 hx
  rw [hy]; rfl
theorem tab64_cells {W : World} (h : laidMet Tryd.prog lays W) : ∃ c t z, W.heap[2]? = some (.cells c t z) ∧ ∀ R : Ren, conL R tab64 c 0 :=
  tab_cells (zs := tabI) (by decide) fun i hi => (tab64_is h).cell gTab64 i hi
theorem none_cells {W : World} (h : laidMet Tryd.prog lays W) : ∃ c t z, W.heap[0]? = some (.cells c t z) ∧ ∀ R : Ren, conL R [.int .i64 (-1), .int .i64 (-1)] c 0 :=
  tab_cells (zs := [-1, -1]) (by decide) fun i hi => (none_is h).cell gNone i hi

def lay (vs : Array Value) : Obj → Obj
  | .cells _ t z => .cells vs t z
  | o => o
noncomputable def laidWorld (os : Os) : World :=
  { World.holding Tryd.prog os ⟨#[], #[], []⟩ with heap := (((World.holding Tryd.prog os ⟨#[], #[], []⟩).heap.modify 0 (lay #[.int .i64 (-1), .int .i64 (-1)])).modify 1 (lay ((([0, 1, 28, 2, 29, 14, 24, 3, 30, 22, 20, 15, 25, 17, 4, 8, 31, 27, 13, 23, 21, 19, 16, 7, 26, 12, 18, 6, 11, 5, 10, 9] : List Int).map (Value.int .u8)).toArray))).modify 2 (lay ((tabI.map (Value.int .u8)).toArray)) }
def wit : Value := .agg #[.int .i64 0, .int .i64 0, .int .i64 0, .slice none 0 0]
end Go.Proofs.YtfphkpdobbffeaaDoor
