/-
  Closed facts on the polynomials of paths of at most 60 lamps. (By the kernel.)
-/
import Derived.Test.YtimknijehaamlaaDoorSwS8
set_option linter.unusedSimpArgs false
set_option linter.unusedVariables false
namespace Go.Proofs.YtimknijehaamlaaDoor
open Go Go.AH Go.Lin
set_option maxRecDepth 1000000

theorem kA_all : ((List.range 60).all fun r => (List.range r).all fun c => Nat.beq (gN true (r + 1) (c + 1)) (gN true (c + 1) (r + 1))) = true := by decide +kernel
theorem kD_all : ((List.range 61).all fun k => Nat.beq (lenK (stp 300 (pN false k).2 (pN true k).2)) (gN true k k)) = true := by decide +kernel
theorem kL_all : ((List.range 61).all fun k => Nat.beq (lenK (pN false k).2) (k + 1) && Nat.beq (lenK (pN true k).2) (k + 1)) = true := by decide +kernel
theorem kS_all : ((List.range 61).all fun k => Nat.beq (hD (pN false k).2 201) (pN true k).2) = true := by decide +kernel
end Go.Proofs.YtimknijehaamlaaDoor
