/-
  Closed facts: the reference's rank and the greatest common divisor, for c above 30. (By the kernel.)
-/
import Derived.Test.YtimknijehaamlaaDoorSwS140
set_option linter.unusedSimpArgs false
set_option linter.unusedVariables false
namespace Go.Proofs.YtimknijehaamlaaDoor
open Go Go.AH Go.Lin
set_option maxRecDepth 1000000

theorem kG1 : okR true 30 15 = true := by decide +kernel
end Go.Proofs.YtimknijehaamlaaDoor
