/-
  Closed facts: the reference's rank and the greatest common divisor, for c above 45. (By the kernel.)
-/
import Derived.Test.YtimknijehaamlaaDoorSwS140
set_option linter.unusedSimpArgs false
set_option linter.unusedVariables false
namespace Go.Proofs.YtimknijehaamlaaDoor
open Go Go.AH Go.Lin
set_option maxRecDepth 1000000

theorem kG4 : okR false 45 15 = true := by decide +kernel
end Go.Proofs.YtimknijehaamlaaDoor
