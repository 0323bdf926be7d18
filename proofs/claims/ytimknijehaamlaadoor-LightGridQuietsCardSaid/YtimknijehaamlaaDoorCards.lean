/-
  DERIVED. GIVEN WITH THE SEED: THE CARDS: each row of YtimknijehaamlaaDoorRows.lean that lists a variable, with what it lists TIED to the program's text (the seventh form; the later family's looks); each row that meets fmt, with fmt's text TOLD by the authors' own Lean function (tested against real Go, not proved from fmt's source: count such statements apart). THE CARD IS WHAT COUNTS. Prove the row's statement (the work); the ties are given (YtimknijehaamlaaDoorTie.lean); close each card by the builder's one call (the guide's Derived/Test/ToyasCard.lean, 'card_holds'). Laid BY PROGRAM, IN A SANDBOX (cutbox-door.mjs). By AI agents, Wed Nov 11 2026. No macro, syntax, notation, axiom, sorry.
-/
import Derived.Test.YtimknijehaamlaaDoorRows
import GoSem.ClaimSeven
namespace Go.Proofs.YtimknijehaamlaaDoor
namespace Rows

/-- THE TIED CARD OF 'bibelotlaw04.LightQuiets'. -/
def lightQuietsCard : Claim7 := { stood := { row := lightQuietsRow, standIns := [], harness := (true, "8581ad4f7f18ff986098cb5659e78aa8a4f1dcc1b775fc736560668993d611b4"), looks := false }, kinds := [], alts := [], laidByText := true, laidKinds := [.data, .data], laidTests := true, laidLooks := .later }
def LightQuietsCardSaid : Prop := Claim7.holds Tryd.pinned (.plain (OpenSpec.ofChange lightQuietsSpec)) lightQuietsCard

/-- THE TIED CARD OF 'bibelotlaw04.LightGrids'. -/
def lightGridsCard : Claim7 := { stood := { row := lightGridsRow, standIns := [], harness := (true, "8581ad4f7f18ff986098cb5659e78aa8a4f1dcc1b775fc736560668993d611b4"), looks := false }, kinds := [], alts := [], laidByText := true, laidKinds := [.data, .data], laidTests := true, laidLooks := .later }
def LightGridsCardSaid : Prop := Claim7.holds Tryd.pinned (.plain (OpenSpec.ofChange lightGridsSpec)) lightGridsCard

/-- THE TIED CARD OF 'bibelotlaw04.LightGridQuiets'. -/
def lightGridQuietsCard : Claim7 := { stood := { row := lightGridQuietsRow, standIns := [], harness := (true, "8581ad4f7f18ff986098cb5659e78aa8a4f1dcc1b775fc736560668993d611b4"), looks := false }, kinds := [], alts := [], laidByText := true, laidKinds := [.data, .data], laidTests := true, laidLooks := .later }
def LightGridQuietsCardSaid : Prop := Claim7.holds Tryd.pinned (.plain (OpenSpec.ofChange lightGridQuietsSpec)) lightGridQuietsCard

/-- THE TIED CARD OF 'bibelotlaw04.LightPolynomials'. -/
def lightPolynomialsCard : Claim7 := { stood := { row := lightPolynomialsRow, standIns := [], harness := (true, "8581ad4f7f18ff986098cb5659e78aa8a4f1dcc1b775fc736560668993d611b4"), looks := false }, kinds := [], alts := [], laidByText := true, laidKinds := [.data, .data], laidTests := true, laidLooks := .later }
def LightPolynomialsCardSaid : Prop := Claim7.holds Tryd.pinned (.plain (OpenSpec.ofChange lightPolynomialsSpec)) lightPolynomialsCard

/-- THE TIED CARD OF 'bibelotlaw04.LightPaths'. -/
def lightPathsCard : Claim7 := { stood := { row := lightPathsRow, standIns := [], harness := (true, "8581ad4f7f18ff986098cb5659e78aa8a4f1dcc1b775fc736560668993d611b4"), looks := false }, kinds := [], alts := [], laidByText := true, laidKinds := [.data, .data], laidTests := true, laidLooks := .later }
def LightPathsCardSaid : Prop := Claim7.holds Tryd.pinned (.plain (OpenSpec.ofChange lightPathsSpec)) lightPathsCard

/-- THE TIED CARD OF 'bibelotlaw04.LightDegrees'. -/
def lightDegreesCard : Claim7 := { stood := { row := lightDegreesRow, standIns := [], harness := (true, "8581ad4f7f18ff986098cb5659e78aa8a4f1dcc1b775fc736560668993d611b4"), looks := false }, kinds := [], alts := [], laidByText := true, laidKinds := [.data, .data], laidTests := true, laidLooks := .later }
def LightDegreesCardSaid : Prop := Claim7.holds Tryd.pinned (.plain (OpenSpec.ofChange lightDegreesSpec)) lightDegreesCard

/-- THE TIED CARD OF 'bibelotlaw04.LightEffects'. -/
def lightEffectsCard : Claim7 := { stood := { row := lightEffectsRow, standIns := [], harness := (true, "8581ad4f7f18ff986098cb5659e78aa8a4f1dcc1b775fc736560668993d611b4"), looks := false }, kinds := [], alts := [], laidByText := true, laidKinds := [.data, .data], laidTests := true, laidLooks := .later }
def LightEffectsCardSaid : Prop := Claim7.holds Tryd.pinned (.plain (OpenSpec.ofChange lightEffectsSpec)) lightEffectsCard

/-- THE TIED CARD OF 'bibelotlaw04.LightOwn'. -/
def lightOwnCard : Claim7 := { stood := { row := lightOwnRow, standIns := [], harness := (true, "8581ad4f7f18ff986098cb5659e78aa8a4f1dcc1b775fc736560668993d611b4"), looks := false }, kinds := [], alts := [], laidByText := true, laidKinds := [.data, .data], laidTests := true, laidLooks := .later }
def LightOwnCardSaid : Prop := Claim7.holds Tryd.pinned (.plain (OpenSpec.ofChange lightOwnSpec)) lightOwnCard

/-- THE TIED CARD OF 'bibelotlaw04.LightSolves'. -/
def lightSolvesCard : Claim7 := { stood := { row := lightSolvesRow, standIns := [], harness := (true, "8581ad4f7f18ff986098cb5659e78aa8a4f1dcc1b775fc736560668993d611b4"), looks := false }, kinds := [], alts := [], laidByText := true, laidKinds := [.data, .data], laidTests := true, laidLooks := .later }
def LightSolvesCardSaid : Prop := Claim7.holds Tryd.pinned (.plain (OpenSpec.ofChange lightSolvesSpec)) lightSolvesCard

/-- THE TIED CARD OF 'bibelotlaw04.LightGauss'. -/
def lightGaussCard : Claim7 := { stood := { row := lightGaussRow, standIns := [], harness := (true, "8581ad4f7f18ff986098cb5659e78aa8a4f1dcc1b775fc736560668993d611b4"), looks := false }, kinds := [], alts := [], laidByText := true, laidKinds := [.data, .data], laidTests := true, laidLooks := .later }
def LightGaussCardSaid : Prop := Claim7.holds Tryd.pinned (.plain (OpenSpec.ofChange lightGaussSpec)) lightGaussCard

/-- THE TIED CARD OF 'bibelotlaw04.LightRefutes'. -/
def lightRefutesCard : Claim7 := { stood := { row := lightRefutesRow, standIns := [], harness := (true, "8581ad4f7f18ff986098cb5659e78aa8a4f1dcc1b775fc736560668993d611b4"), looks := false }, kinds := [], alts := [], laidByText := true, laidKinds := [.data, .data], laidTests := true, laidLooks := .later }
def LightRefutesCardSaid : Prop := Claim7.holds Tryd.pinned (.plain (OpenSpec.ofChange lightRefutesSpec)) lightRefutesCard

/-- THE TIED CARD OF 'bibelotlaw04.LightSutner'. -/
def lightSutnerCard : Claim7 := { stood := { row := lightSutnerRow, standIns := [], harness := (true, "8581ad4f7f18ff986098cb5659e78aa8a4f1dcc1b775fc736560668993d611b4"), looks := false }, kinds := [], alts := [], laidByText := true, laidKinds := [.data, .data], laidTests := true, laidLooks := .later }
def LightSutnerCardSaid : Prop := Claim7.holds Tryd.pinned (.plain (OpenSpec.ofChange lightSutnerSpec)) lightSutnerCard

/-- THE TIED CARD OF 'bibelotlaw04.LightReaches'. -/
def lightReachesCard : Claim7 := { stood := { row := lightReachesRow, standIns := [], harness := (true, "8581ad4f7f18ff986098cb5659e78aa8a4f1dcc1b775fc736560668993d611b4"), looks := false }, kinds := [], alts := [], laidByText := true, laidKinds := [.data, .data], laidTests := true, laidLooks := .later }
def LightReachesCardSaid : Prop := Claim7.holds Tryd.pinned (.plain (OpenSpec.ofChange lightReachesSpec)) lightReachesCard

/-- THE TIED CARD OF 'bibelotlaw04.LightChecks'. -/
def lightChecksCard : Claim7 := { stood := { row := lightChecksRow, standIns := [], harness := (true, "8581ad4f7f18ff986098cb5659e78aa8a4f1dcc1b775fc736560668993d611b4"), looks := false }, kinds := [], alts := [], laidByText := true, laidKinds := [.data, .data], laidTests := true, laidLooks := .later }
def LightChecksCardSaid : Prop := Claim7.holds Tryd.pinned (.plain (OpenSpec.ofChange lightChecksSpec)) lightChecksCard

/-- THE SECOND FORM's CARD OF 'bibelotlaw04.LightQuiets'. -/
def lightQuietsUptoCard : Claim7 := { stood := { row := lightQuietsUptoRow, standIns := [], harness := (true, "8581ad4f7f18ff986098cb5659e78aa8a4f1dcc1b775fc736560668993d611b4"), looks := false }, kinds := [], alts := [], laidByText := true, laidKinds := [.data, .data], laidTests := true, laidLooks := .later }
def LightQuietsUptoCardSaid : Prop := Claim7.holds Tryd.pinned (.plain (OpenSpec.upto lightQuietsSpec)) lightQuietsUptoCard

/-- THE SECOND FORM's CARD OF 'bibelotlaw04.LightGrids'. -/
def lightGridsUptoCard : Claim7 := { stood := { row := lightGridsUptoRow, standIns := [], harness := (true, "8581ad4f7f18ff986098cb5659e78aa8a4f1dcc1b775fc736560668993d611b4"), looks := false }, kinds := [], alts := [], laidByText := true, laidKinds := [.data, .data], laidTests := true, laidLooks := .later }
def LightGridsUptoCardSaid : Prop := Claim7.holds Tryd.pinned (.plain (OpenSpec.upto lightGridsSpec)) lightGridsUptoCard

/-- THE SECOND FORM's CARD OF 'bibelotlaw04.LightGridQuiets'. -/
def lightGridQuietsUptoCard : Claim7 := { stood := { row := lightGridQuietsUptoRow, standIns := [], harness := (true, "8581ad4f7f18ff986098cb5659e78aa8a4f1dcc1b775fc736560668993d611b4"), looks := false }, kinds := [], alts := [], laidByText := true, laidKinds := [.data, .data], laidTests := true, laidLooks := .later }
def LightGridQuietsUptoCardSaid : Prop := Claim7.holds Tryd.pinned (.plain (OpenSpec.upto lightGridQuietsSpec)) lightGridQuietsUptoCard

/-- THE SECOND FORM's CARD OF 'bibelotlaw04.LightPolynomials'. -/
def lightPolynomialsUptoCard : Claim7 := { stood := { row := lightPolynomialsUptoRow, standIns := [], harness := (true, "8581ad4f7f18ff986098cb5659e78aa8a4f1dcc1b775fc736560668993d611b4"), looks := false }, kinds := [], alts := [], laidByText := true, laidKinds := [.data, .data], laidTests := true, laidLooks := .later }
def LightPolynomialsUptoCardSaid : Prop := Claim7.holds Tryd.pinned (.plain (OpenSpec.upto lightPolynomialsSpec)) lightPolynomialsUptoCard

/-- THE SECOND FORM's CARD OF 'bibelotlaw04.LightPaths'. -/
def lightPathsUptoCard : Claim7 := { stood := { row := lightPathsUptoRow, standIns := [], harness := (true, "8581ad4f7f18ff986098cb5659e78aa8a4f1dcc1b775fc736560668993d611b4"), looks := false }, kinds := [], alts := [], laidByText := true, laidKinds := [.data, .data], laidTests := true, laidLooks := .later }
def LightPathsUptoCardSaid : Prop := Claim7.holds Tryd.pinned (.plain (OpenSpec.upto lightPathsSpec)) lightPathsUptoCard

/-- THE SECOND FORM's CARD OF 'bibelotlaw04.LightDegrees'. -/
def lightDegreesUptoCard : Claim7 := { stood := { row := lightDegreesUptoRow, standIns := [], harness := (true, "8581ad4f7f18ff986098cb5659e78aa8a4f1dcc1b775fc736560668993d611b4"), looks := false }, kinds := [], alts := [], laidByText := true, laidKinds := [.data, .data], laidTests := true, laidLooks := .later }
def LightDegreesUptoCardSaid : Prop := Claim7.holds Tryd.pinned (.plain (OpenSpec.upto lightDegreesSpec)) lightDegreesUptoCard

/-- THE SECOND FORM's CARD OF 'bibelotlaw04.LightEffects'. -/
def lightEffectsUptoCard : Claim7 := { stood := { row := lightEffectsUptoRow, standIns := [], harness := (true, "8581ad4f7f18ff986098cb5659e78aa8a4f1dcc1b775fc736560668993d611b4"), looks := false }, kinds := [], alts := [], laidByText := true, laidKinds := [.data, .data], laidTests := true, laidLooks := .later }
def LightEffectsUptoCardSaid : Prop := Claim7.holds Tryd.pinned (.plain (OpenSpec.upto lightEffectsSpec)) lightEffectsUptoCard

/-- THE SECOND FORM's CARD OF 'bibelotlaw04.LightOwn'. -/
def lightOwnUptoCard : Claim7 := { stood := { row := lightOwnUptoRow, standIns := [], harness := (true, "8581ad4f7f18ff986098cb5659e78aa8a4f1dcc1b775fc736560668993d611b4"), looks := false }, kinds := [], alts := [], laidByText := true, laidKinds := [.data, .data], laidTests := true, laidLooks := .later }
def LightOwnUptoCardSaid : Prop := Claim7.holds Tryd.pinned (.plain (OpenSpec.upto lightOwnSpec)) lightOwnUptoCard

/-- THE SECOND FORM's CARD OF 'bibelotlaw04.LightSolves'. -/
def lightSolvesUptoCard : Claim7 := { stood := { row := lightSolvesUptoRow, standIns := [], harness := (true, "8581ad4f7f18ff986098cb5659e78aa8a4f1dcc1b775fc736560668993d611b4"), looks := false }, kinds := [], alts := [], laidByText := true, laidKinds := [.data, .data], laidTests := true, laidLooks := .later }
def LightSolvesUptoCardSaid : Prop := Claim7.holds Tryd.pinned (.plain (OpenSpec.upto lightSolvesSpec)) lightSolvesUptoCard

/-- THE SECOND FORM's CARD OF 'bibelotlaw04.LightGauss'. -/
def lightGaussUptoCard : Claim7 := { stood := { row := lightGaussUptoRow, standIns := [], harness := (true, "8581ad4f7f18ff986098cb5659e78aa8a4f1dcc1b775fc736560668993d611b4"), looks := false }, kinds := [], alts := [], laidByText := true, laidKinds := [.data, .data], laidTests := true, laidLooks := .later }
def LightGaussUptoCardSaid : Prop := Claim7.holds Tryd.pinned (.plain (OpenSpec.upto lightGaussSpec)) lightGaussUptoCard

/-- THE SECOND FORM's CARD OF 'bibelotlaw04.LightRefutes'. -/
def lightRefutesUptoCard : Claim7 := { stood := { row := lightRefutesUptoRow, standIns := [], harness := (true, "8581ad4f7f18ff986098cb5659e78aa8a4f1dcc1b775fc736560668993d611b4"), looks := false }, kinds := [], alts := [], laidByText := true, laidKinds := [.data, .data], laidTests := true, laidLooks := .later }
def LightRefutesUptoCardSaid : Prop := Claim7.holds Tryd.pinned (.plain (OpenSpec.upto lightRefutesSpec)) lightRefutesUptoCard

/-- THE SECOND FORM's CARD OF 'bibelotlaw04.LightSutner'. -/
def lightSutnerUptoCard : Claim7 := { stood := { row := lightSutnerUptoRow, standIns := [], harness := (true, "8581ad4f7f18ff986098cb5659e78aa8a4f1dcc1b775fc736560668993d611b4"), looks := false }, kinds := [], alts := [], laidByText := true, laidKinds := [.data, .data], laidTests := true, laidLooks := .later }
def LightSutnerUptoCardSaid : Prop := Claim7.holds Tryd.pinned (.plain (OpenSpec.upto lightSutnerSpec)) lightSutnerUptoCard

/-- THE SECOND FORM's CARD OF 'bibelotlaw04.LightReaches'. -/
def lightReachesUptoCard : Claim7 := { stood := { row := lightReachesUptoRow, standIns := [], harness := (true, "8581ad4f7f18ff986098cb5659e78aa8a4f1dcc1b775fc736560668993d611b4"), looks := false }, kinds := [], alts := [], laidByText := true, laidKinds := [.data, .data], laidTests := true, laidLooks := .later }
def LightReachesUptoCardSaid : Prop := Claim7.holds Tryd.pinned (.plain (OpenSpec.upto lightReachesSpec)) lightReachesUptoCard

/-- THE SECOND FORM's CARD OF 'bibelotlaw04.LightChecks'. -/
def lightChecksUptoCard : Claim7 := { stood := { row := lightChecksUptoRow, standIns := [], harness := (true, "8581ad4f7f18ff986098cb5659e78aa8a4f1dcc1b775fc736560668993d611b4"), looks := false }, kinds := [], alts := [], laidByText := true, laidKinds := [.data, .data], laidTests := true, laidLooks := .later }
def LightChecksUptoCardSaid : Prop := Claim7.holds Tryd.pinned (.plain (OpenSpec.upto lightChecksSpec)) lightChecksUptoCard
end Rows
end Go.Proofs.YtimknijehaamlaaDoor
