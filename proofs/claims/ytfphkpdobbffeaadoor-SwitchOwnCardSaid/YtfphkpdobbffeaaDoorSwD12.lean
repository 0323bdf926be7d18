/-
  A whole number, read.
-/
import Derived.Test.YtfphkpdobbffeaaDoorSwD5
set_option linter.unusedSimpArgs false
set_option linter.unusedVariables false
namespace Go.Proofs.YtfphkpdobbffeaaDoor
open Go Go.AH Go.ChangeShapes Go.WideShapes Go.ChangeAt Go.RowKit
set_option maxRecDepth 100000

theorem open_int {W : World} {base : Nat} {v : Value} (hv : Value.okWide Tryd.prog W .any base 3 v) : ∃ n, v = .int .i64 n := by
  unfold Value.okWide at hv
  rw [Tryd.underlying3] at hv
  have hv : Cell.okWide Tryd.prog W .any base 3 v := hv
  unfold Cell.okWide at hv
  rw [Tryd.underlying3] at hv
  have hv : Cell.ok Tryd.prog W .any base 3 v := by cases v <;> exact hv
  unfold Cell.ok at hv
  rw [Tryd.underlying3] at hv
  cases v <;> first | exact False.elim hv | (obtain ⟨rfl, _⟩ := hv; exact ⟨_, rfl⟩)
end Go.Proofs.YtfphkpdobbffeaaDoor
