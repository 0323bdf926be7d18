/-
  DERIVED. GIVEN WITH THE SEED: THE CARDS: each row of YtfphkpdobbffeaaDoorRows.lean that lists a variable, with what it lists TIED to the program's text (the seventh form; the later family's looks); each row that meets fmt, with fmt's text TOLD by the authors' own Lean function (tested against real Go, not proved from fmt's source: count such statements apart). THE CARD IS WHAT COUNTS. Prove the row's statement (the work); the ties are given (YtfphkpdobbffeaaDoorTie.lean); close each card by the builder's one call (the guide's Derived/Test/ToyasCard.lean, 'card_holds'). Laid BY PROGRAM, IN A SANDBOX (cutbox-door.mjs). By AI agents, Wed Nov 11 2026. No macro, syntax, notation, axiom, sorry.
-/
import Derived.Test.YtfphkpdobbffeaaDoorRows
import GoSem.ClaimSeven
namespace Go.Proofs.YtfphkpdobbffeaaDoor
namespace Rows

/-- THE TIED CARD OF 'bibelotlaw08.SwitchKinds'. -/
def switchKindsCard : Claim7 := { stood := { row := switchKindsRow, standIns := [], harness := (true, "16629f37c3268c27d93865444af1c8ae972b048ca080187e83728eabd8abbcdf"), looks := false }, kinds := [], alts := [], laidByText := true, laidKinds := [.data, .data, .data], laidTests := true, laidLooks := .later }
def SwitchKindsCardSaid : Prop := Claim7.holds Tryd.pinned (.plain (OpenSpec.ofChange switchKindsSpec)) switchKindsCard

/-- THE TIED CARD OF 'bibelotlaw08.SwitchCounts'. -/
def switchCountsCard : Claim7 := { stood := { row := switchCountsRow, standIns := [], harness := (true, "16629f37c3268c27d93865444af1c8ae972b048ca080187e83728eabd8abbcdf"), looks := false }, kinds := [], alts := [], laidByText := true, laidKinds := [.data, .data, .data], laidTests := true, laidLooks := .later }
def SwitchCountsCardSaid : Prop := Claim7.holds Tryd.pinned (.plain (OpenSpec.ofChange switchCountsSpec)) switchCountsCard

/-- THE TIED CARD OF 'bibelotlaw08.SwitchTrees'. -/
def switchTreesCard : Claim7 := { stood := { row := switchTreesRow, standIns := [], harness := (true, "16629f37c3268c27d93865444af1c8ae972b048ca080187e83728eabd8abbcdf"), looks := false }, kinds := [], alts := [], laidByText := true, laidKinds := [.data, .data, .data], laidTests := true, laidLooks := .later }
def SwitchTreesCardSaid : Prop := Claim7.holds Tryd.pinned (.plain (OpenSpec.ofChange switchTreesSpec)) switchTreesCard

/-- THE TIED CARD OF 'bibelotlaw08.SwitchReplies'. -/
def switchRepliesCard : Claim7 := { stood := { row := switchRepliesRow, standIns := [], harness := (true, "16629f37c3268c27d93865444af1c8ae972b048ca080187e83728eabd8abbcdf"), looks := false }, kinds := [], alts := [], laidByText := true, laidKinds := [.data, .data, .data], laidTests := true, laidLooks := .later }
def SwitchRepliesCardSaid : Prop := Claim7.holds Tryd.pinned (.plain (OpenSpec.ofChange switchRepliesSpec)) switchRepliesCard

/-- THE TIED CARD OF 'bibelotlaw08.SwitchJudges'. -/
def switchJudgesCard : Claim7 := { stood := { row := switchJudgesRow, standIns := [], harness := (true, "16629f37c3268c27d93865444af1c8ae972b048ca080187e83728eabd8abbcdf"), looks := false }, kinds := [], alts := [], laidByText := true, laidKinds := [.data, .data, .data], laidTests := true, laidLooks := .later }
def SwitchJudgesCardSaid : Prop := Claim7.holds Tryd.pinned (.plain (OpenSpec.ofChange switchJudgesSpec)) switchJudgesCard

/-- THE TIED CARD OF 'bibelotlaw08.SwitchOwn'. -/
def switchOwnCard : Claim7 := { stood := { row := switchOwnRow, standIns := [], harness := (true, "16629f37c3268c27d93865444af1c8ae972b048ca080187e83728eabd8abbcdf"), looks := false }, kinds := [], alts := [], laidByText := true, laidKinds := [.data, .data, .data], laidTests := true, laidLooks := .later }
def SwitchOwnCardSaid : Prop := Claim7.holds Tryd.pinned (.plain (OpenSpec.ofChange switchOwnSpec)) switchOwnCard

/-- THE TIED CARD OF 'bibelotlaw08.SwitchTutte'. -/
def switchTutteCard : Claim7 := { stood := { row := switchTutteRow, standIns := [], harness := (true, "16629f37c3268c27d93865444af1c8ae972b048ca080187e83728eabd8abbcdf"), looks := false }, kinds := [], alts := [], laidByText := true, laidKinds := [.data, .data, .data], laidTests := true, laidLooks := .later }
def SwitchTutteCardSaid : Prop := Claim7.holds Tryd.pinned (.plain (OpenSpec.ofChange switchTutteSpec)) switchTutteCard

/-- THE TIED CARD OF 'bibelotlaw08.SwitchLehman'. -/
def switchLehmanCard : Claim7 := { stood := { row := switchLehmanRow, standIns := [], harness := (true, "16629f37c3268c27d93865444af1c8ae972b048ca080187e83728eabd8abbcdf"), looks := false }, kinds := [], alts := [], laidByText := true, laidKinds := [.data, .data, .data, .data, .pinned], laidTests := true, laidLooks := .later }
def SwitchLehmanCardSaid : Prop := Claim7.holds Tryd.pinned (.plain (OpenSpec.ofChange switchLehmanSpec)) switchLehmanCard

/-- THE TIED CARD OF 'bibelotlaw08.SwitchWins'. -/
def switchWinsCard : Claim7 := { stood := { row := switchWinsRow, standIns := [], harness := (true, "16629f37c3268c27d93865444af1c8ae972b048ca080187e83728eabd8abbcdf"), looks := false }, kinds := [], alts := [], laidByText := true, laidKinds := [.data, .data, .data, .data, .pinned], laidTests := true, laidLooks := .later }
def SwitchWinsCardSaid : Prop := Claim7.holds Tryd.pinned (.plain (OpenSpec.ofChange switchWinsSpec)) switchWinsCard

/-- THE TIED CARD OF 'bibelotlaw08.SwitchPositions'. -/
def switchPositionsCard : Claim7 := { stood := { row := switchPositionsRow, standIns := [], harness := (true, "16629f37c3268c27d93865444af1c8ae972b048ca080187e83728eabd8abbcdf"), looks := false }, kinds := [], alts := [], laidByText := true, laidKinds := [.data, .data, .data, .data, .pinned], laidTests := true, laidLooks := .later }
def SwitchPositionsCardSaid : Prop := Claim7.holds Tryd.pinned (.plain (OpenSpec.ofChange switchPositionsSpec)) switchPositionsCard

/-- THE TIED CARD OF 'bibelotlaw08.SwitchPlays'. -/
def switchPlaysCard : Claim7 := { stood := { row := switchPlaysRow, standIns := [], harness := (true, "16629f37c3268c27d93865444af1c8ae972b048ca080187e83728eabd8abbcdf"), looks := false }, kinds := [], alts := [], laidByText := true, laidKinds := [.data, .data, .data, .data, .pinned], laidTests := true, laidLooks := .later }
def SwitchPlaysCardSaid : Prop := Claim7.holds Tryd.pinned (.plain (OpenSpec.ofChange switchPlaysSpec)) switchPlaysCard

/-- THE TIED CARD OF 'bibelotlaw08.SwitchMore'. -/
def switchMoreCard : Claim7 := { stood := { row := switchMoreRow, standIns := [], harness := (true, "16629f37c3268c27d93865444af1c8ae972b048ca080187e83728eabd8abbcdf"), looks := false }, kinds := [], alts := [], laidByText := true, laidKinds := [.data, .data, .data, .data, .pinned], laidTests := true, laidLooks := .later }
def SwitchMoreCardSaid : Prop := Claim7.holds Tryd.pinned (.plain (OpenSpec.ofChange switchMoreSpec)) switchMoreCard

/-- THE TIED CARD OF 'bibelotlaw08.SwitchSmaller'. -/
def switchSmallerCard : Claim7 := { stood := { row := switchSmallerRow, standIns := [], harness := (true, "16629f37c3268c27d93865444af1c8ae972b048ca080187e83728eabd8abbcdf"), looks := false }, kinds := [], alts := [], laidByText := true, laidKinds := [.data, .data, .data], laidTests := true, laidLooks := .later }
def SwitchSmallerCardSaid : Prop := Claim7.holds Tryd.pinned (.plain (OpenSpec.ofChange switchSmallerSpec)) switchSmallerCard

/-- THE TIED CARD OF 'bibelotlaw08.SwitchDeletes'. -/
def switchDeletesCard : Claim7 := { stood := { row := switchDeletesRow, standIns := [], harness := (true, "16629f37c3268c27d93865444af1c8ae972b048ca080187e83728eabd8abbcdf"), looks := false }, kinds := [], alts := [], laidByText := true, laidKinds := [.data, .data, .data], laidTests := true, laidLooks := .later }
def SwitchDeletesCardSaid : Prop := Claim7.holds Tryd.pinned (.plain (OpenSpec.ofChange switchDeletesSpec)) switchDeletesCard

/-- THE TIED CARD OF 'bibelotlaw08.SwitchAnswers'. -/
def switchAnswersCard : Claim7 := { stood := { row := switchAnswersRow, standIns := [], harness := (true, "16629f37c3268c27d93865444af1c8ae972b048ca080187e83728eabd8abbcdf"), looks := false }, kinds := [], alts := [], laidByText := true, laidKinds := [.data, .data, .data], laidTests := true, laidLooks := .later }
def SwitchAnswersCardSaid : Prop := Claim7.holds Tryd.pinned (.plain (OpenSpec.ofChange switchAnswersSpec)) switchAnswersCard

/-- THE SECOND FORM's CARD OF 'bibelotlaw08.SwitchKinds'. -/
def switchKindsUptoCard : Claim7 := { stood := { row := switchKindsUptoRow, standIns := [], harness := (true, "16629f37c3268c27d93865444af1c8ae972b048ca080187e83728eabd8abbcdf"), looks := false }, kinds := [], alts := [], laidByText := true, laidKinds := [.data, .data, .data], laidTests := true, laidLooks := .later }
def SwitchKindsUptoCardSaid : Prop := Claim7.holds Tryd.pinned (.plain (OpenSpec.upto switchKindsSpec)) switchKindsUptoCard

/-- THE SECOND FORM's CARD OF 'bibelotlaw08.SwitchCounts'. -/
def switchCountsUptoCard : Claim7 := { stood := { row := switchCountsUptoRow, standIns := [], harness := (true, "16629f37c3268c27d93865444af1c8ae972b048ca080187e83728eabd8abbcdf"), looks := false }, kinds := [], alts := [], laidByText := true, laidKinds := [.data, .data, .data], laidTests := true, laidLooks := .later }
def SwitchCountsUptoCardSaid : Prop := Claim7.holds Tryd.pinned (.plain (OpenSpec.upto switchCountsSpec)) switchCountsUptoCard

/-- THE SECOND FORM's CARD OF 'bibelotlaw08.SwitchTrees'. -/
def switchTreesUptoCard : Claim7 := { stood := { row := switchTreesUptoRow, standIns := [], harness := (true, "16629f37c3268c27d93865444af1c8ae972b048ca080187e83728eabd8abbcdf"), looks := false }, kinds := [], alts := [], laidByText := true, laidKinds := [.data, .data, .data], laidTests := true, laidLooks := .later }
def SwitchTreesUptoCardSaid : Prop := Claim7.holds Tryd.pinned (.plain (OpenSpec.upto switchTreesSpec)) switchTreesUptoCard

/-- THE SECOND FORM's CARD OF 'bibelotlaw08.SwitchReplies'. -/
def switchRepliesUptoCard : Claim7 := { stood := { row := switchRepliesUptoRow, standIns := [], harness := (true, "16629f37c3268c27d93865444af1c8ae972b048ca080187e83728eabd8abbcdf"), looks := false }, kinds := [], alts := [], laidByText := true, laidKinds := [.data, .data, .data], laidTests := true, laidLooks := .later }
def SwitchRepliesUptoCardSaid : Prop := Claim7.holds Tryd.pinned (.plain (OpenSpec.upto switchRepliesSpec)) switchRepliesUptoCard

/-- THE SECOND FORM's CARD OF 'bibelotlaw08.SwitchJudges'. -/
def switchJudgesUptoCard : Claim7 := { stood := { row := switchJudgesUptoRow, standIns := [], harness := (true, "16629f37c3268c27d93865444af1c8ae972b048ca080187e83728eabd8abbcdf"), looks := false }, kinds := [], alts := [], laidByText := true, laidKinds := [.data, .data, .data], laidTests := true, laidLooks := .later }
def SwitchJudgesUptoCardSaid : Prop := Claim7.holds Tryd.pinned (.plain (OpenSpec.upto switchJudgesSpec)) switchJudgesUptoCard

/-- THE SECOND FORM's CARD OF 'bibelotlaw08.SwitchOwn'. -/
def switchOwnUptoCard : Claim7 := { stood := { row := switchOwnUptoRow, standIns := [], harness := (true, "16629f37c3268c27d93865444af1c8ae972b048ca080187e83728eabd8abbcdf"), looks := false }, kinds := [], alts := [], laidByText := true, laidKinds := [.data, .data, .data], laidTests := true, laidLooks := .later }
def SwitchOwnUptoCardSaid : Prop := Claim7.holds Tryd.pinned (.plain (OpenSpec.upto switchOwnSpec)) switchOwnUptoCard

/-- THE SECOND FORM's CARD OF 'bibelotlaw08.SwitchTutte'. -/
def switchTutteUptoCard : Claim7 := { stood := { row := switchTutteUptoRow, standIns := [], harness := (true, "16629f37c3268c27d93865444af1c8ae972b048ca080187e83728eabd8abbcdf"), looks := false }, kinds := [], alts := [], laidByText := true, laidKinds := [.data, .data, .data], laidTests := true, laidLooks := .later }
def SwitchTutteUptoCardSaid : Prop := Claim7.holds Tryd.pinned (.plain (OpenSpec.upto switchTutteSpec)) switchTutteUptoCard

/-- THE SECOND FORM's CARD OF 'bibelotlaw08.SwitchLehman'. -/
def switchLehmanUptoCard : Claim7 := { stood := { row := switchLehmanUptoRow, standIns := [], harness := (true, "16629f37c3268c27d93865444af1c8ae972b048ca080187e83728eabd8abbcdf"), looks := false }, kinds := [], alts := [], laidByText := true, laidKinds := [.data, .data, .data, .data, .pinned], laidTests := true, laidLooks := .later }
def SwitchLehmanUptoCardSaid : Prop := Claim7.holds Tryd.pinned (.plain (OpenSpec.upto switchLehmanSpec)) switchLehmanUptoCard

/-- THE SECOND FORM's CARD OF 'bibelotlaw08.SwitchWins'. -/
def switchWinsUptoCard : Claim7 := { stood := { row := switchWinsUptoRow, standIns := [], harness := (true, "16629f37c3268c27d93865444af1c8ae972b048ca080187e83728eabd8abbcdf"), looks := false }, kinds := [], alts := [], laidByText := true, laidKinds := [.data, .data, .data, .data, .pinned], laidTests := true, laidLooks := .later }
def SwitchWinsUptoCardSaid : Prop := Claim7.holds Tryd.pinned (.plain (OpenSpec.upto switchWinsSpec)) switchWinsUptoCard

/-- THE SECOND FORM's CARD OF 'bibelotlaw08.SwitchPositions'. -/
def switchPositionsUptoCard : Claim7 := { stood := { row := switchPositionsUptoRow, standIns := [], harness := (true, "16629f37c3268c27d93865444af1c8ae972b048ca080187e83728eabd8abbcdf"), looks := false }, kinds := [], alts := [], laidByText := true, laidKinds := [.data, .data, .data, .data, .pinned], laidTests := true, laidLooks := .later }
def SwitchPositionsUptoCardSaid : Prop := Claim7.holds Tryd.pinned (.plain (OpenSpec.upto switchPositionsSpec)) switchPositionsUptoCard

/-- THE SECOND FORM's CARD OF 'bibelotlaw08.SwitchPlays'. -/
def switchPlaysUptoCard : Claim7 := { stood := { row := switchPlaysUptoRow, standIns := [], harness := (true, "16629f37c3268c27d93865444af1c8ae972b048ca080187e83728eabd8abbcdf"), looks := false }, kinds := [], alts := [], laidByText := true, laidKinds := [.data, .data, .data, .data, .pinned], laidTests := true, laidLooks := .later }
def SwitchPlaysUptoCardSaid : Prop := Claim7.holds Tryd.pinned (.plain (OpenSpec.upto switchPlaysSpec)) switchPlaysUptoCard

/-- THE SECOND FORM's CARD OF 'bibelotlaw08.SwitchMore'. -/
def switchMoreUptoCard : Claim7 := { stood := { row := switchMoreUptoRow, standIns := [], harness := (true, "16629f37c3268c27d93865444af1c8ae972b048ca080187e83728eabd8abbcdf"), looks := false }, kinds := [], alts := [], laidByText := true, laidKinds := [.data, .data, .data, .data, .pinned], laidTests := true, laidLooks := .later }
def SwitchMoreUptoCardSaid : Prop := Claim7.holds Tryd.pinned (.plain (OpenSpec.upto switchMoreSpec)) switchMoreUptoCard

/-- THE SECOND FORM's CARD OF 'bibelotlaw08.SwitchSmaller'. -/
def switchSmallerUptoCard : Claim7 := { stood := { row := switchSmallerUptoRow, standIns := [], harness := (true, "16629f37c3268c27d93865444af1c8ae972b048ca080187e83728eabd8abbcdf"), looks := false }, kinds := [], alts := [], laidByText := true, laidKinds := [.data, .data, .data], laidTests := true, laidLooks := .later }
def SwitchSmallerUptoCardSaid : Prop := Claim7.holds Tryd.pinned (.plain (OpenSpec.upto switchSmallerSpec)) switchSmallerUptoCard

/-- THE SECOND FORM's CARD OF 'bibelotlaw08.SwitchDeletes'. -/
def switchDeletesUptoCard : Claim7 := { stood := { row := switchDeletesUptoRow, standIns := [], harness := (true, "16629f37c3268c27d93865444af1c8ae972b048ca080187e83728eabd8abbcdf"), looks := false }, kinds := [], alts := [], laidByText := true, laidKinds := [.data, .data, .data], laidTests := true, laidLooks := .later }
def SwitchDeletesUptoCardSaid : Prop := Claim7.holds Tryd.pinned (.plain (OpenSpec.upto switchDeletesSpec)) switchDeletesUptoCard

/-- THE SECOND FORM's CARD OF 'bibelotlaw08.SwitchAnswers'. -/
def switchAnswersUptoCard : Claim7 := { stood := { row := switchAnswersUptoRow, standIns := [], harness := (true, "16629f37c3268c27d93865444af1c8ae972b048ca080187e83728eabd8abbcdf"), looks := false }, kinds := [], alts := [], laidByText := true, laidKinds := [.data, .data, .data], laidTests := true, laidLooks := .later }
def SwitchAnswersUptoCardSaid : Prop := Claim7.holds Tryd.pinned (.plain (OpenSpec.upto switchAnswersSpec)) switchAnswersUptoCard
end Rows
end Go.Proofs.YtfphkpdobbffeaaDoor
