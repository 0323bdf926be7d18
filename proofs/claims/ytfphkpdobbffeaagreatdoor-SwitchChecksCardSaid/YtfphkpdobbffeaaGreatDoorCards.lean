/-
  DERIVED. GIVEN WITH THE SEED: THE CARDS: each row of YtfphkpdobbffeaaGreatDoorRows.lean that lists a variable, with what it lists TIED to the program's text (the seventh form; the later family's looks); each row that meets fmt, with fmt's text TOLD by the authors' own Lean function (tested against real Go, not proved from fmt's source: count such statements apart). THE CARD IS WHAT COUNTS. Prove the row's statement (the work); the ties are given (YtfphkpdobbffeaaGreatDoorTie.lean); close each card by the builder's one call (the guide's Derived/Test/ToyasCard.lean, 'card_holds'). Laid BY PROGRAM, IN A SANDBOX (cutbox-door.mjs). By AI agents, Wed Nov 11 2026. No macro, syntax, notation, axiom, sorry.
-/
import Derived.Test.YtfphkpdobbffeaaGreatDoorRows
import GoSem.ClaimSeven
namespace Go.Proofs.YtfphkpdobbffeaaGreatDoor
namespace Rows

/-- THE TIED CARD OF 'bibelotlaw08.SwitchChecks'. -/
def switchChecksCard : Claim7 := { stood := { row := switchChecksRow, standIns := [], harness := (true, "23612b708af6e0f47761b73189243899be4153caede183e38d3e07f7ba2d16a2"), looks := false }, kinds := [], alts := [], laidByText := true, laidKinds := [.data, .data, .data, .data, .pinned], laidTests := true, laidLooks := .later }
def SwitchChecksCardSaid : Prop := Claim7.holds Tryz.pinned (.plain (OpenSpec.ofChange switchChecksSpec)) switchChecksCard

/-- THE SECOND FORM's CARD OF 'bibelotlaw08.SwitchChecks'. -/
def switchChecksUptoCard : Claim7 := { stood := { row := switchChecksUptoRow, standIns := [], harness := (true, "23612b708af6e0f47761b73189243899be4153caede183e38d3e07f7ba2d16a2"), looks := false }, kinds := [], alts := [], laidByText := true, laidKinds := [.data, .data, .data, .data, .pinned], laidTests := true, laidLooks := .later }
def SwitchChecksUptoCardSaid : Prop := Claim7.holds Tryz.pinned (.plain (OpenSpec.upto switchChecksSpec)) switchChecksUptoCard
end Rows
end Go.Proofs.YtfphkpdobbffeaaGreatDoor
