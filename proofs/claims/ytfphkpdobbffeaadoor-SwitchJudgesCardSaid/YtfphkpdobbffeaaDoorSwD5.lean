/-
  Laws of a game and of prime values; the tables of five.
-/
import Derived.Test.YtfphkpdobbffeaaDoorSwD2
set_option linter.unusedSimpArgs false
set_option linter.unusedVariables false
namespace Go.Proofs.YtfphkpdobbffeaaDoor
open Go Go.AH Go.ChangeShapes Go.WideShapes Go.ChangeAt Go.RowKit
set_option maxRecDepth 100000

end Go.Proofs.YtfphkpdobbffeaaDoor
