/-
  Closed facts: the reference's rank and the greatest common divisor. (By the kernel.)
-/
import Derived.Test.YtimknijehaamlaaDoorSwS13
set_option linter.unusedSimpArgs false
set_option linter.unusedVariables false
namespace Go.Proofs.YtimknijehaamlaaDoor
open Go Go.AH Go.Lin
set_option maxRecDepth 1000000

def okG (own : Bool) (c r : Nat) : Bool := Nat.beq (Nat.add (prk c c 0 (pW own c r).2 0) (gN own r c)) (Nat.succ c)
def okR (own : Bool) (lo n : Nat) : Bool := (List.range n).all fun c => (List.range 60).all fun r => okG own (lo + c + 1) (r + 1)
theorem kG0 : okR true 0 30 = true ∧ okR false 0 30 = true := by decide +kernel
end Go.Proofs.YtimknijehaamlaaDoor
