/-
  NARROWER THAN 'FOR EVERY INPUT', by the rows' own cells (each row's printed sentence says how): SwitchKinds: laid · SwitchCounts: laid · SwitchTrees: laid · SwitchReplies: laid · SwitchJudges: laid · SwitchOwn: laid · SwitchTutte: laid · SwitchLehman: laid · SwitchWins: laid · SwitchPositions: laid · SwitchPlays: laid · SwitchMore: laid · SwitchSmaller: laid · SwitchDeletes: laid · SwitchAnswers: laid.
  DERIVED. THE GIVEN ROWS OF THIS SEAT. 15 by the template 'for every input the law returns true; each argument reads behind the call as it read before'; 0 by the template 'total and deterministic' (their statements: YtfphkpdobbffeaaDoorTotals.lean).
  GIVEN WITH THE SEED: the statements are not yours to turn. If you find one false, say at which input.
  Laid BY PROGRAM, IN A SANDBOX (cutbox-rows.mjs): the forced cells as the released guide's own fill.sh prints them over the translation 4587c2402a2592fa… (all of the seat's roots in one cut). By AI agents, Wed Nov 11 2026. No macro, syntax, notation, axiom, sorry.
-/
import Derived.Test.YtfphkpdobbffeaaDoorChecked
import GoSem.PinnedTables
import GoSem.Claim
import GoSem.ClaimJoined
import GoSem.ClaimMapViews
import Derived.JoinedTies
import Derived.KernelRfl
namespace Go.Proofs.YtfphkpdobbffeaaDoor
/- THE CELL 'sum', in the pinned program and in every row, IS THE sha256 OF THE DUMP (.gsa) THAT YtfphkpdobbffeaaDoorProg.lean LOADS. Nothing in Lean hashes anything: it is a label: what it is worth is what the hold of that sum in a sandbox is worth. -/
noncomputable def Tryd.pinned : Pinned := { name := "ytfphkpdobbffeaadoor", sum := "4587c2402a2592fa8d44d00a6dbfbac7ec10eb4eddaf3f94739b9b6df72e887f", checked := Tryd.checked }
namespace Rows
def none {H : Type} : Left H := { results := [], args := [] }

/- WHAT THE LISTED PACKAGE-LEVEL VARIABLES READ AS WHEN THE CALL BEGINS. Each datum BY PROGRAM (the guide's laid-datum.mjs) off the statement by which the dump's own 'gosem.cut.vars' lays the variable. In a bare row this is a premise. The card (YtfphkpdobbffeaaDoorCards.lean) ties it to the program's text. -/
def laid_math_bits_deBruijn32tab {H : Type} : DataW H := .agg [.lit (.int .u8 0), .lit (.int .u8 1), .lit (.int .u8 28), .lit (.int .u8 2), .lit (.int .u8 29), .lit (.int .u8 14), .lit (.int .u8 24), .lit (.int .u8 3), .lit (.int .u8 30), .lit (.int .u8 22), .lit (.int .u8 20), .lit (.int .u8 15), .lit (.int .u8 25), .lit (.int .u8 17), .lit (.int .u8 4), .lit (.int .u8 8), .lit (.int .u8 31), .lit (.int .u8 27), .lit (.int .u8 13), .lit (.int .u8 23), .lit (.int .u8 21), .lit (.int .u8 19), .lit (.int .u8 16), .lit (.int .u8 7), .lit (.int .u8 26), .lit (.int .u8 12), .lit (.int .u8 18), .lit (.int .u8 6), .lit (.int .u8 11), .lit (.int .u8 5), .lit (.int .u8 10), .lit (.int .u8 9)]
def laid_math_bits_deBruijn64tab {H : Type} : DataW H := .agg [.lit (.int .u8 0), .lit (.int .u8 1), .lit (.int .u8 56), .lit (.int .u8 2), .lit (.int .u8 57), .lit (.int .u8 49), .lit (.int .u8 28), .lit (.int .u8 3), .lit (.int .u8 61), .lit (.int .u8 58), .lit (.int .u8 42), .lit (.int .u8 50), .lit (.int .u8 38), .lit (.int .u8 29), .lit (.int .u8 17), .lit (.int .u8 4), .lit (.int .u8 62), .lit (.int .u8 47), .lit (.int .u8 59), .lit (.int .u8 36), .lit (.int .u8 45), .lit (.int .u8 43), .lit (.int .u8 51), .lit (.int .u8 22), .lit (.int .u8 53), .lit (.int .u8 39), .lit (.int .u8 33), .lit (.int .u8 30), .lit (.int .u8 24), .lit (.int .u8 18), .lit (.int .u8 12), .lit (.int .u8 5), .lit (.int .u8 63), .lit (.int .u8 55), .lit (.int .u8 48), .lit (.int .u8 27), .lit (.int .u8 60), .lit (.int .u8 41), .lit (.int .u8 37), .lit (.int .u8 16), .lit (.int .u8 46), .lit (.int .u8 35), .lit (.int .u8 44), .lit (.int .u8 21), .lit (.int .u8 52), .lit (.int .u8 32), .lit (.int .u8 23), .lit (.int .u8 11), .lit (.int .u8 54), .lit (.int .u8 26), .lit (.int .u8 40), .lit (.int .u8 15), .lit (.int .u8 34), .lit (.int .u8 20), .lit (.int .u8 31), .lit (.int .u8 10), .lit (.int .u8 25), .lit (.int .u8 14), .lit (.int .u8 19), .lit (.int .u8 9), .lit (.int .u8 13), .lit (.int .u8 8), .lit (.int .u8 7), .lit (.int .u8 6)]
def laid_bibelot_switches_none {H : Type} : DataW H := .agg [.lit (.int .i64 (-1)), .lit (.int .i64 (-1))]
def laid_unicode_utf8_acceptRanges {H : Type} : DataW H := .agg [.agg [.lit (.int .u8 128), .lit (.int .u8 191)], .agg [.lit (.int .u8 160), .lit (.int .u8 191)], .agg [.lit (.int .u8 128), .lit (.int .u8 159)], .agg [.lit (.int .u8 144), .lit (.int .u8 191)], .agg [.lit (.int .u8 128), .lit (.int .u8 143)], .agg [.lit (.int .u8 0), .lit (.int .u8 0)], .agg [.lit (.int .u8 0), .lit (.int .u8 0)], .agg [.lit (.int .u8 0), .lit (.int .u8 0)], .agg [.lit (.int .u8 0), .lit (.int .u8 0)], .agg [.lit (.int .u8 0), .lit (.int .u8 0)], .agg [.lit (.int .u8 0), .lit (.int .u8 0)], .agg [.lit (.int .u8 0), .lit (.int .u8 0)], .agg [.lit (.int .u8 0), .lit (.int .u8 0)], .agg [.lit (.int .u8 0), .lit (.int .u8 0)], .agg [.lit (.int .u8 0), .lit (.int .u8 0)], .agg [.lit (.int .u8 0), .lit (.int .u8 0)]]
/-- One of Go's own tables, pinned by name: the form's constant. -/
def laid_unicode_utf8_first : DataW Unit := Go.Pinned.utf8First

/-- 'bibelotlaw08.SwitchKinds': WHATEVER THE INPUT: true; the input reads as it did. -/
def switchKindsSpec : ChangeSpec := { name := "switchKinds", fn := fun _ => fun
  | [d] => { results := [.lit (.bool true)], args := [d] }
  | _ => none }
def switchKindsRow : OpenClaim := { program := "ytfphkpdobbffeaadoor", sum := "4587c2402a2592fa8d44d00a6dbfbac7ec10eb4eddaf3f94739b9b6df72e887f", func := "bibelot/bibelotlaw08.SwitchKinds", spec := "switchKinds", unfollowed := true, recurses := true, named := ["math/bits.deBruijn32tab", "math/bits.deBruijn64tab", "bibelot/switches.none"], plainKeys := false, apart := false, laid := [("math/bits.deBruijn32tab", laid_math_bits_deBruijn32tab), ("math/bits.deBruijn64tab", laid_math_bits_deBruijn64tab), ("bibelot/switches.none", laid_bibelot_switches_none)] }
def SwitchKindsSaid : Prop := switchKindsRow.holds Tryd.pinned (OpenSpec.ofChange switchKindsSpec)

/-- ITS FALSE NEIGHBOUR: 'it returns false'. Refute it at one input. -/
def switchKindsWrong : ChangeSpec := { name := "switchKinds", fn := fun _ => fun
  | [d] => { results := [.lit (.bool false)], args := [d] }
  | _ => none }
def SwitchKindsWrongFalsely : Prop := switchKindsRow.holds Tryd.pinned (OpenSpec.ofChange switchKindsWrong)

/-- 'bibelotlaw08.SwitchCounts': WHATEVER THE INPUT: true; the input reads as it did. -/
def switchCountsSpec : ChangeSpec := { name := "switchCounts", fn := fun _ => fun
  | [d] => { results := [.lit (.bool true)], args := [d] }
  | _ => none }
def switchCountsRow : OpenClaim := { program := "ytfphkpdobbffeaadoor", sum := "4587c2402a2592fa8d44d00a6dbfbac7ec10eb4eddaf3f94739b9b6df72e887f", func := "bibelot/bibelotlaw08.SwitchCounts", spec := "switchCounts", unfollowed := true, recurses := true, named := ["math/bits.deBruijn32tab", "math/bits.deBruijn64tab", "bibelot/switches.none"], plainKeys := false, apart := false, laid := [("math/bits.deBruijn32tab", laid_math_bits_deBruijn32tab), ("math/bits.deBruijn64tab", laid_math_bits_deBruijn64tab), ("bibelot/switches.none", laid_bibelot_switches_none)] }
def SwitchCountsSaid : Prop := switchCountsRow.holds Tryd.pinned (OpenSpec.ofChange switchCountsSpec)

/-- ITS FALSE NEIGHBOUR: 'it returns false'. Refute it at one input. -/
def switchCountsWrong : ChangeSpec := { name := "switchCounts", fn := fun _ => fun
  | [d] => { results := [.lit (.bool false)], args := [d] }
  | _ => none }
def SwitchCountsWrongFalsely : Prop := switchCountsRow.holds Tryd.pinned (OpenSpec.ofChange switchCountsWrong)

/-- 'bibelotlaw08.SwitchTrees': WHATEVER THE INPUT: true; the input reads as it did. -/
def switchTreesSpec : ChangeSpec := { name := "switchTrees", fn := fun _ => fun
  | [d] => { results := [.lit (.bool true)], args := [d] }
  | _ => none }
def switchTreesRow : OpenClaim := { program := "ytfphkpdobbffeaadoor", sum := "4587c2402a2592fa8d44d00a6dbfbac7ec10eb4eddaf3f94739b9b6df72e887f", func := "bibelot/bibelotlaw08.SwitchTrees", spec := "switchTrees", unfollowed := true, recurses := true, named := ["bibelot/switches.none", "math/bits.deBruijn32tab", "math/bits.deBruijn64tab"], plainKeys := false, apart := false, laid := [("math/bits.deBruijn32tab", laid_math_bits_deBruijn32tab), ("math/bits.deBruijn64tab", laid_math_bits_deBruijn64tab), ("bibelot/switches.none", laid_bibelot_switches_none)] }
def SwitchTreesSaid : Prop := switchTreesRow.holds Tryd.pinned (OpenSpec.ofChange switchTreesSpec)

/-- ITS FALSE NEIGHBOUR: 'it returns false'. Refute it at one input. -/
def switchTreesWrong : ChangeSpec := { name := "switchTrees", fn := fun _ => fun
  | [d] => { results := [.lit (.bool false)], args := [d] }
  | _ => none }
def SwitchTreesWrongFalsely : Prop := switchTreesRow.holds Tryd.pinned (OpenSpec.ofChange switchTreesWrong)

/-- 'bibelotlaw08.SwitchReplies': WHATEVER THE INPUT: true; the input reads as it did. -/
def switchRepliesSpec : ChangeSpec := { name := "switchReplies", fn := fun _ => fun
  | [d1, d2, d3] => { results := [.lit (.bool true)], args := [d1, d2, d3] }
  | _ => none }
def switchRepliesRow : OpenClaim := { program := "ytfphkpdobbffeaadoor", sum := "4587c2402a2592fa8d44d00a6dbfbac7ec10eb4eddaf3f94739b9b6df72e887f", func := "bibelot/bibelotlaw08.SwitchReplies", spec := "switchReplies", unfollowed := true, recurses := true, named := ["math/bits.deBruijn32tab", "math/bits.deBruijn64tab", "bibelot/switches.none"], plainKeys := false, apart := false, laid := [("math/bits.deBruijn32tab", laid_math_bits_deBruijn32tab), ("math/bits.deBruijn64tab", laid_math_bits_deBruijn64tab), ("bibelot/switches.none", laid_bibelot_switches_none)] }
def SwitchRepliesSaid : Prop := switchRepliesRow.holds Tryd.pinned (OpenSpec.ofChange switchRepliesSpec)

/-- ITS FALSE NEIGHBOUR: 'it returns false'. Refute it at one input. -/
def switchRepliesWrong : ChangeSpec := { name := "switchReplies", fn := fun _ => fun
  | [d1, d2, d3] => { results := [.lit (.bool false)], args := [d1, d2, d3] }
  | _ => none }
def SwitchRepliesWrongFalsely : Prop := switchRepliesRow.holds Tryd.pinned (OpenSpec.ofChange switchRepliesWrong)

/-- 'bibelotlaw08.SwitchJudges': WHATEVER THE INPUT: true; the input reads as it did. -/
def switchJudgesSpec : ChangeSpec := { name := "switchJudges", fn := fun _ => fun
  | [d1, d2, d3] => { results := [.lit (.bool true)], args := [d1, d2, d3] }
  | _ => none }
def switchJudgesRow : OpenClaim := { program := "ytfphkpdobbffeaadoor", sum := "4587c2402a2592fa8d44d00a6dbfbac7ec10eb4eddaf3f94739b9b6df72e887f", func := "bibelot/bibelotlaw08.SwitchJudges", spec := "switchJudges", unfollowed := true, recurses := true, named := ["math/bits.deBruijn32tab", "math/bits.deBruijn64tab", "bibelot/switches.none"], plainKeys := false, apart := false, laid := [("math/bits.deBruijn32tab", laid_math_bits_deBruijn32tab), ("math/bits.deBruijn64tab", laid_math_bits_deBruijn64tab), ("bibelot/switches.none", laid_bibelot_switches_none)] }
def SwitchJudgesSaid : Prop := switchJudgesRow.holds Tryd.pinned (OpenSpec.ofChange switchJudgesSpec)

/-- ITS FALSE NEIGHBOUR: 'it returns false'. Refute it at one input. -/
def switchJudgesWrong : ChangeSpec := { name := "switchJudges", fn := fun _ => fun
  | [d1, d2, d3] => { results := [.lit (.bool false)], args := [d1, d2, d3] }
  | _ => none }
def SwitchJudgesWrongFalsely : Prop := switchJudgesRow.holds Tryd.pinned (OpenSpec.ofChange switchJudgesWrong)

/-- 'bibelotlaw08.SwitchOwn': WHATEVER THE INPUT: true; the input reads as it did. -/
def switchOwnSpec : ChangeSpec := { name := "switchOwn", fn := fun _ => fun
  | [d1, d2] => { results := [.lit (.bool true)], args := [d1, d2] }
  | _ => none }
def switchOwnRow : OpenClaim := { program := "ytfphkpdobbffeaadoor", sum := "4587c2402a2592fa8d44d00a6dbfbac7ec10eb4eddaf3f94739b9b6df72e887f", func := "bibelot/bibelotlaw08.SwitchOwn", spec := "switchOwn", unfollowed := true, recurses := true, named := ["bibelot/switches.none", "math/bits.deBruijn32tab", "math/bits.deBruijn64tab"], plainKeys := false, apart := false, laid := [("math/bits.deBruijn32tab", laid_math_bits_deBruijn32tab), ("math/bits.deBruijn64tab", laid_math_bits_deBruijn64tab), ("bibelot/switches.none", laid_bibelot_switches_none)] }
def SwitchOwnSaid : Prop := switchOwnRow.holds Tryd.pinned (OpenSpec.ofChange switchOwnSpec)

/-- ITS FALSE NEIGHBOUR: 'it returns false'. Refute it at one input. -/
def switchOwnWrong : ChangeSpec := { name := "switchOwn", fn := fun _ => fun
  | [d1, d2] => { results := [.lit (.bool false)], args := [d1, d2] }
  | _ => none }
def SwitchOwnWrongFalsely : Prop := switchOwnRow.holds Tryd.pinned (OpenSpec.ofChange switchOwnWrong)

/-- 'bibelotlaw08.SwitchTutte': WHATEVER THE INPUT: true; the input reads as it did. -/
def switchTutteSpec : ChangeSpec := { name := "switchTutte", fn := fun _ => fun
  | [d] => { results := [.lit (.bool true)], args := [d] }
  | _ => none }
def switchTutteRow : OpenClaim := { program := "ytfphkpdobbffeaadoor", sum := "4587c2402a2592fa8d44d00a6dbfbac7ec10eb4eddaf3f94739b9b6df72e887f", func := "bibelot/bibelotlaw08.SwitchTutte", spec := "switchTutte", unfollowed := true, recurses := true, named := ["bibelot/switches.none", "math/bits.deBruijn32tab", "math/bits.deBruijn64tab"], plainKeys := false, apart := false, laid := [("math/bits.deBruijn32tab", laid_math_bits_deBruijn32tab), ("math/bits.deBruijn64tab", laid_math_bits_deBruijn64tab), ("bibelot/switches.none", laid_bibelot_switches_none)] }
def SwitchTutteSaid : Prop := switchTutteRow.holds Tryd.pinned (OpenSpec.ofChange switchTutteSpec)

/-- ITS FALSE NEIGHBOUR: 'it returns false'. Refute it at one input. -/
def switchTutteWrong : ChangeSpec := { name := "switchTutte", fn := fun _ => fun
  | [d] => { results := [.lit (.bool false)], args := [d] }
  | _ => none }
def SwitchTutteWrongFalsely : Prop := switchTutteRow.holds Tryd.pinned (OpenSpec.ofChange switchTutteWrong)

/-- 'bibelotlaw08.SwitchLehman': WHATEVER THE INPUT: true; the input reads as it did. -/
def switchLehmanSpec : ChangeSpec := { name := "switchLehman", fn := fun _ => fun
  | [d] => { results := [.lit (.bool true)], args := [d] }
  | _ => none }
def switchLehmanRow : OpenClaim := { program := "ytfphkpdobbffeaadoor", sum := "4587c2402a2592fa8d44d00a6dbfbac7ec10eb4eddaf3f94739b9b6df72e887f", func := "bibelot/bibelotlaw08.SwitchLehman", spec := "switchLehman", inPlace := ["internal/bytealg.IndexByteString", "internal/bytealg.IndexString"], unfollowed := true, recurses := true, named := ["unicode/utf8.first", "unicode/utf8.acceptRanges", "math/bits.deBruijn32tab", "math/bits.deBruijn64tab", "bibelot/switches.none", "internal/bytealg.MaxLen"], plainKeys := false, apart := false, laid := [("math/bits.deBruijn32tab", laid_math_bits_deBruijn32tab), ("math/bits.deBruijn64tab", laid_math_bits_deBruijn64tab), ("unicode/utf8.acceptRanges", laid_unicode_utf8_acceptRanges), ("bibelot/switches.none", laid_bibelot_switches_none), ("unicode/utf8.first", laid_unicode_utf8_first)] }
def SwitchLehmanSaid : Prop := switchLehmanRow.holds Tryd.pinned (OpenSpec.ofChange switchLehmanSpec)

/-- ITS FALSE NEIGHBOUR: 'it returns false'. Refute it at one input. -/
def switchLehmanWrong : ChangeSpec := { name := "switchLehman", fn := fun _ => fun
  | [d] => { results := [.lit (.bool false)], args := [d] }
  | _ => none }
def SwitchLehmanWrongFalsely : Prop := switchLehmanRow.holds Tryd.pinned (OpenSpec.ofChange switchLehmanWrong)

/-- 'bibelotlaw08.SwitchWins': WHATEVER THE INPUT: true; the input reads as it did. -/
def switchWinsSpec : ChangeSpec := { name := "switchWins", fn := fun _ => fun
  | [d1, d2] => { results := [.lit (.bool true)], args := [d1, d2] }
  | _ => none }
def switchWinsRow : OpenClaim := { program := "ytfphkpdobbffeaadoor", sum := "4587c2402a2592fa8d44d00a6dbfbac7ec10eb4eddaf3f94739b9b6df72e887f", func := "bibelot/bibelotlaw08.SwitchWins", spec := "switchWins", inPlace := ["internal/bytealg.IndexByteString", "internal/bytealg.IndexString"], unfollowed := true, recurses := true, named := ["unicode/utf8.first", "unicode/utf8.acceptRanges", "math/bits.deBruijn32tab", "math/bits.deBruijn64tab", "bibelot/switches.none", "internal/bytealg.MaxLen"], plainKeys := false, apart := false, laid := [("math/bits.deBruijn32tab", laid_math_bits_deBruijn32tab), ("math/bits.deBruijn64tab", laid_math_bits_deBruijn64tab), ("unicode/utf8.acceptRanges", laid_unicode_utf8_acceptRanges), ("bibelot/switches.none", laid_bibelot_switches_none), ("unicode/utf8.first", laid_unicode_utf8_first)] }
def SwitchWinsSaid : Prop := switchWinsRow.holds Tryd.pinned (OpenSpec.ofChange switchWinsSpec)

/-- ITS FALSE NEIGHBOUR: 'it returns false'. Refute it at one input. -/
def switchWinsWrong : ChangeSpec := { name := "switchWins", fn := fun _ => fun
  | [d1, d2] => { results := [.lit (.bool false)], args := [d1, d2] }
  | _ => none }
def SwitchWinsWrongFalsely : Prop := switchWinsRow.holds Tryd.pinned (OpenSpec.ofChange switchWinsWrong)

/-- 'bibelotlaw08.SwitchPositions': WHATEVER THE INPUT: true; the input reads as it did. -/
def switchPositionsSpec : ChangeSpec := { name := "switchPositions", fn := fun _ => fun
  | [d1, d2] => { results := [.lit (.bool true)], args := [d1, d2] }
  | _ => none }
def switchPositionsRow : OpenClaim := { program := "ytfphkpdobbffeaadoor", sum := "4587c2402a2592fa8d44d00a6dbfbac7ec10eb4eddaf3f94739b9b6df72e887f", func := "bibelot/bibelotlaw08.SwitchPositions", spec := "switchPositions", inPlace := ["internal/bytealg.IndexByteString", "internal/bytealg.IndexString"], unfollowed := true, recurses := true, named := ["unicode/utf8.first", "unicode/utf8.acceptRanges", "math/bits.deBruijn32tab", "math/bits.deBruijn64tab", "bibelot/switches.none", "internal/bytealg.MaxLen"], plainKeys := false, apart := false, laid := [("math/bits.deBruijn32tab", laid_math_bits_deBruijn32tab), ("math/bits.deBruijn64tab", laid_math_bits_deBruijn64tab), ("unicode/utf8.acceptRanges", laid_unicode_utf8_acceptRanges), ("bibelot/switches.none", laid_bibelot_switches_none), ("unicode/utf8.first", laid_unicode_utf8_first)] }
def SwitchPositionsSaid : Prop := switchPositionsRow.holds Tryd.pinned (OpenSpec.ofChange switchPositionsSpec)

/-- ITS FALSE NEIGHBOUR: 'it returns false'. Refute it at one input. -/
def switchPositionsWrong : ChangeSpec := { name := "switchPositions", fn := fun _ => fun
  | [d1, d2] => { results := [.lit (.bool false)], args := [d1, d2] }
  | _ => none }
def SwitchPositionsWrongFalsely : Prop := switchPositionsRow.holds Tryd.pinned (OpenSpec.ofChange switchPositionsWrong)

/-- 'bibelotlaw08.SwitchPlays': WHATEVER THE INPUT: true; the input reads as it did. -/
def switchPlaysSpec : ChangeSpec := { name := "switchPlays", fn := fun _ => fun
  | [d1, d2, d3] => { results := [.lit (.bool true)], args := [d1, d2, d3] }
  | _ => none }
def switchPlaysRow : OpenClaim := { program := "ytfphkpdobbffeaadoor", sum := "4587c2402a2592fa8d44d00a6dbfbac7ec10eb4eddaf3f94739b9b6df72e887f", func := "bibelot/bibelotlaw08.SwitchPlays", spec := "switchPlays", inPlace := ["internal/bytealg.IndexByteString", "internal/bytealg.IndexString"], unfollowed := true, recurses := true, named := ["unicode/utf8.first", "unicode/utf8.acceptRanges", "math/bits.deBruijn32tab", "math/bits.deBruijn64tab", "bibelot/switches.none", "internal/bytealg.MaxLen"], plainKeys := false, apart := false, laid := [("math/bits.deBruijn32tab", laid_math_bits_deBruijn32tab), ("math/bits.deBruijn64tab", laid_math_bits_deBruijn64tab), ("unicode/utf8.acceptRanges", laid_unicode_utf8_acceptRanges), ("bibelot/switches.none", laid_bibelot_switches_none), ("unicode/utf8.first", laid_unicode_utf8_first)] }
def SwitchPlaysSaid : Prop := switchPlaysRow.holds Tryd.pinned (OpenSpec.ofChange switchPlaysSpec)

/-- ITS FALSE NEIGHBOUR: 'it returns false'. Refute it at one input. -/
def switchPlaysWrong : ChangeSpec := { name := "switchPlays", fn := fun _ => fun
  | [d1, d2, d3] => { results := [.lit (.bool false)], args := [d1, d2, d3] }
  | _ => none }
def SwitchPlaysWrongFalsely : Prop := switchPlaysRow.holds Tryd.pinned (OpenSpec.ofChange switchPlaysWrong)

/-- 'bibelotlaw08.SwitchMore': WHATEVER THE INPUT: true; the input reads as it did. -/
def switchMoreSpec : ChangeSpec := { name := "switchMore", fn := fun _ => fun
  | [d1, d2, d3] => { results := [.lit (.bool true)], args := [d1, d2, d3] }
  | _ => none }
def switchMoreRow : OpenClaim := { program := "ytfphkpdobbffeaadoor", sum := "4587c2402a2592fa8d44d00a6dbfbac7ec10eb4eddaf3f94739b9b6df72e887f", func := "bibelot/bibelotlaw08.SwitchMore", spec := "switchMore", inPlace := ["internal/bytealg.IndexByteString", "internal/bytealg.IndexString"], unfollowed := true, recurses := true, named := ["math/bits.deBruijn32tab", "math/bits.deBruijn64tab", "bibelot/switches.none", "unicode/utf8.first", "unicode/utf8.acceptRanges", "internal/bytealg.MaxLen"], plainKeys := false, apart := false, laid := [("math/bits.deBruijn32tab", laid_math_bits_deBruijn32tab), ("math/bits.deBruijn64tab", laid_math_bits_deBruijn64tab), ("unicode/utf8.acceptRanges", laid_unicode_utf8_acceptRanges), ("bibelot/switches.none", laid_bibelot_switches_none), ("unicode/utf8.first", laid_unicode_utf8_first)] }
def SwitchMoreSaid : Prop := switchMoreRow.holds Tryd.pinned (OpenSpec.ofChange switchMoreSpec)

/-- ITS FALSE NEIGHBOUR: 'it returns false'. Refute it at one input. -/
def switchMoreWrong : ChangeSpec := { name := "switchMore", fn := fun _ => fun
  | [d1, d2, d3] => { results := [.lit (.bool false)], args := [d1, d2, d3] }
  | _ => none }
def SwitchMoreWrongFalsely : Prop := switchMoreRow.holds Tryd.pinned (OpenSpec.ofChange switchMoreWrong)

/-- 'bibelotlaw08.SwitchSmaller': WHATEVER THE INPUT: true; the input reads as it did. -/
def switchSmallerSpec : ChangeSpec := { name := "switchSmaller", fn := fun _ => fun
  | [d1, d2] => { results := [.lit (.bool true)], args := [d1, d2] }
  | _ => none }
def switchSmallerRow : OpenClaim := { program := "ytfphkpdobbffeaadoor", sum := "4587c2402a2592fa8d44d00a6dbfbac7ec10eb4eddaf3f94739b9b6df72e887f", func := "bibelot/bibelotlaw08.SwitchSmaller", spec := "switchSmaller", unfollowed := true, recurses := true, named := ["math/bits.deBruijn32tab", "math/bits.deBruijn64tab", "bibelot/switches.none"], plainKeys := false, apart := false, laid := [("math/bits.deBruijn32tab", laid_math_bits_deBruijn32tab), ("math/bits.deBruijn64tab", laid_math_bits_deBruijn64tab), ("bibelot/switches.none", laid_bibelot_switches_none)] }
def SwitchSmallerSaid : Prop := switchSmallerRow.holds Tryd.pinned (OpenSpec.ofChange switchSmallerSpec)

/-- ITS FALSE NEIGHBOUR: 'it returns false'. Refute it at one input. -/
def switchSmallerWrong : ChangeSpec := { name := "switchSmaller", fn := fun _ => fun
  | [d1, d2] => { results := [.lit (.bool false)], args := [d1, d2] }
  | _ => none }
def SwitchSmallerWrongFalsely : Prop := switchSmallerRow.holds Tryd.pinned (OpenSpec.ofChange switchSmallerWrong)

/-- 'bibelotlaw08.SwitchDeletes': WHATEVER THE INPUT: true; the input reads as it did. -/
def switchDeletesSpec : ChangeSpec := { name := "switchDeletes", fn := fun _ => fun
  | [d1, d2] => { results := [.lit (.bool true)], args := [d1, d2] }
  | _ => none }
def switchDeletesRow : OpenClaim := { program := "ytfphkpdobbffeaadoor", sum := "4587c2402a2592fa8d44d00a6dbfbac7ec10eb4eddaf3f94739b9b6df72e887f", func := "bibelot/bibelotlaw08.SwitchDeletes", spec := "switchDeletes", unfollowed := true, recurses := true, named := ["math/bits.deBruijn32tab", "math/bits.deBruijn64tab", "bibelot/switches.none"], plainKeys := false, apart := false, laid := [("math/bits.deBruijn32tab", laid_math_bits_deBruijn32tab), ("math/bits.deBruijn64tab", laid_math_bits_deBruijn64tab), ("bibelot/switches.none", laid_bibelot_switches_none)] }
def SwitchDeletesSaid : Prop := switchDeletesRow.holds Tryd.pinned (OpenSpec.ofChange switchDeletesSpec)

/-- ITS FALSE NEIGHBOUR: 'it returns false'. Refute it at one input. -/
def switchDeletesWrong : ChangeSpec := { name := "switchDeletes", fn := fun _ => fun
  | [d1, d2] => { results := [.lit (.bool false)], args := [d1, d2] }
  | _ => none }
def SwitchDeletesWrongFalsely : Prop := switchDeletesRow.holds Tryd.pinned (OpenSpec.ofChange switchDeletesWrong)

/-- 'bibelotlaw08.SwitchAnswers': WHATEVER THE INPUT: true; the input reads as it did. -/
def switchAnswersSpec : ChangeSpec := { name := "switchAnswers", fn := fun _ => fun
  | [d1, d2] => { results := [.lit (.bool true)], args := [d1, d2] }
  | _ => none }
def switchAnswersRow : OpenClaim := { program := "ytfphkpdobbffeaadoor", sum := "4587c2402a2592fa8d44d00a6dbfbac7ec10eb4eddaf3f94739b9b6df72e887f", func := "bibelot/bibelotlaw08.SwitchAnswers", spec := "switchAnswers", unfollowed := true, recurses := true, named := ["bibelot/switches.none", "math/bits.deBruijn32tab", "math/bits.deBruijn64tab"], plainKeys := false, apart := false, laid := [("math/bits.deBruijn32tab", laid_math_bits_deBruijn32tab), ("math/bits.deBruijn64tab", laid_math_bits_deBruijn64tab), ("bibelot/switches.none", laid_bibelot_switches_none)] }
def SwitchAnswersSaid : Prop := switchAnswersRow.holds Tryd.pinned (OpenSpec.ofChange switchAnswersSpec)

/-- ITS FALSE NEIGHBOUR: 'it returns false'. Refute it at one input. -/
def switchAnswersWrong : ChangeSpec := { name := "switchAnswers", fn := fun _ => fun
  | [d1, d2] => { results := [.lit (.bool false)], args := [d1, d2] }
  | _ => none }
def SwitchAnswersWrongFalsely : Prop := switchAnswersRow.holds Tryd.pinned (OpenSpec.ofChange switchAnswersWrong)

/- THE SECOND FORM. 'bulk': how many values and letters a reading holds, each counted each time it is reached (what is shared counts as often as it is met; a slice's spare places count too). A statement '..UptoSaid' is the law's where the arguments, and the package variables that the reading takes, are together of bulk at most 1048576: NARROWER than '..Said'. Prove '..Said' where nothing that the law and all that it calls make is longer than what came in: it says more and counts as full. Else prove '..UptoSaid'. A law counts once. -/
mutual
def uptoBulk {H : Type} : DataW H → Nat
  | .lit (.string bytes) => bytes.length + 1
  | .lit _ => 1
  | .nil => 1
  | .ptr d => uptoBulk d + 1
  | .slice elems spare => uptoBulkAll elems + uptoBulkAll spare + 1
  | .agg parts => uptoBulkAll parts + 1
  | .iface _ d => uptoBulk d + 1
  | .map entries => uptoBulkEntries entries + 1
  | .held _ => 1
def uptoBulkAll {H : Type} : List (DataW H) → Nat
  | [] => 0
  | d :: r => uptoBulk d + uptoBulkAll r
def uptoBulkEntries {H : Type} : List (Lit × DataW H) → Nat
  | [] => 0
  | x :: r => uptoBulkEntry x + uptoBulkEntries r
def uptoBulkEntry {H : Type} : Lit × DataW H → Nat
  | (.string bytes, d) => bytes.length + uptoBulk d + 1
  | (_, d) => uptoBulk d + 1
 end
def uptoSmall : (H : Type) → List (DataW H) → Bool := fun _ ds => decide (uptoBulkAll ds ≤ 1048576)
def OpenSpec.upto (s : _root_.Go.ChangeSpec) : _root_.Go.OpenSpec := { _root_.Go.OpenSpec.ofChange s with cond := some uptoSmall }

/-- 'bibelotlaw08.SwitchKinds', WHERE WHAT IT READS IS OF BULK AT MOST 1048576: true; the input reads as it did. -/
def switchKindsUptoRow : OpenClaim := { program := "ytfphkpdobbffeaadoor", sum := "4587c2402a2592fa8d44d00a6dbfbac7ec10eb4eddaf3f94739b9b6df72e887f", func := "bibelot/bibelotlaw08.SwitchKinds", spec := "switchKinds", unfollowed := true, recurses := true, named := ["math/bits.deBruijn32tab", "math/bits.deBruijn64tab", "bibelot/switches.none"], plainKeys := false, apart := false, laid := [("math/bits.deBruijn32tab", laid_math_bits_deBruijn32tab), ("math/bits.deBruijn64tab", laid_math_bits_deBruijn64tab), ("bibelot/switches.none", laid_bibelot_switches_none)], narrowed := true }
def SwitchKindsUptoSaid : Prop := switchKindsUptoRow.holds Tryd.pinned (OpenSpec.upto switchKindsSpec)

/-- 'bibelotlaw08.SwitchCounts', WHERE WHAT IT READS IS OF BULK AT MOST 1048576: true; the input reads as it did. -/
def switchCountsUptoRow : OpenClaim := { program := "ytfphkpdobbffeaadoor", sum := "4587c2402a2592fa8d44d00a6dbfbac7ec10eb4eddaf3f94739b9b6df72e887f", func := "bibelot/bibelotlaw08.SwitchCounts", spec := "switchCounts", unfollowed := true, recurses := true, named := ["math/bits.deBruijn32tab", "math/bits.deBruijn64tab", "bibelot/switches.none"], plainKeys := false, apart := false, laid := [("math/bits.deBruijn32tab", laid_math_bits_deBruijn32tab), ("math/bits.deBruijn64tab", laid_math_bits_deBruijn64tab), ("bibelot/switches.none", laid_bibelot_switches_none)], narrowed := true }
def SwitchCountsUptoSaid : Prop := switchCountsUptoRow.holds Tryd.pinned (OpenSpec.upto switchCountsSpec)

/-- 'bibelotlaw08.SwitchTrees', WHERE WHAT IT READS IS OF BULK AT MOST 1048576: true; the input reads as it did. -/
def switchTreesUptoRow : OpenClaim := { program := "ytfphkpdobbffeaadoor", sum := "4587c2402a2592fa8d44d00a6dbfbac7ec10eb4eddaf3f94739b9b6df72e887f", func := "bibelot/bibelotlaw08.SwitchTrees", spec := "switchTrees", unfollowed := true, recurses := true, named := ["bibelot/switches.none", "math/bits.deBruijn32tab", "math/bits.deBruijn64tab"], plainKeys := false, apart := false, laid := [("math/bits.deBruijn32tab", laid_math_bits_deBruijn32tab), ("math/bits.deBruijn64tab", laid_math_bits_deBruijn64tab), ("bibelot/switches.none", laid_bibelot_switches_none)], narrowed := true }
def SwitchTreesUptoSaid : Prop := switchTreesUptoRow.holds Tryd.pinned (OpenSpec.upto switchTreesSpec)

/-- 'bibelotlaw08.SwitchReplies', WHERE WHAT IT READS IS OF BULK AT MOST 1048576: true; the input reads as it did. -/
def switchRepliesUptoRow : OpenClaim := { program := "ytfphkpdobbffeaadoor", sum := "4587c2402a2592fa8d44d00a6dbfbac7ec10eb4eddaf3f94739b9b6df72e887f", func := "bibelot/bibelotlaw08.SwitchReplies", spec := "switchReplies", unfollowed := true, recurses := true, named := ["math/bits.deBruijn32tab", "math/bits.deBruijn64tab", "bibelot/switches.none"], plainKeys := false, apart := false, laid := [("math/bits.deBruijn32tab", laid_math_bits_deBruijn32tab), ("math/bits.deBruijn64tab", laid_math_bits_deBruijn64tab), ("bibelot/switches.none", laid_bibelot_switches_none)], narrowed := true }
def SwitchRepliesUptoSaid : Prop := switchRepliesUptoRow.holds Tryd.pinned (OpenSpec.upto switchRepliesSpec)

/-- 'bibelotlaw08.SwitchJudges', WHERE WHAT IT READS IS OF BULK AT MOST 1048576: true; the input reads as it did. -/
def switchJudgesUptoRow : OpenClaim := { program := "ytfphkpdobbffeaadoor", sum := "4587c2402a2592fa8d44d00a6dbfbac7ec10eb4eddaf3f94739b9b6df72e887f", func := "bibelot/bibelotlaw08.SwitchJudges", spec := "switchJudges", unfollowed := true, recurses := true, named := ["math/bits.deBruijn32tab", "math/bits.deBruijn64tab", "bibelot/switches.none"], plainKeys := false, apart := false, laid := [("math/bits.deBruijn32tab", laid_math_bits_deBruijn32tab), ("math/bits.deBruijn64tab", laid_math_bits_deBruijn64tab), ("bibelot/switches.none", laid_bibelot_switches_none)], narrowed := true }
def SwitchJudgesUptoSaid : Prop := switchJudgesUptoRow.holds Tryd.pinned (OpenSpec.upto switchJudgesSpec)

/-- 'bibelotlaw08.SwitchOwn', WHERE WHAT IT READS IS OF BULK AT MOST 1048576: true; the input reads as it did. -/
def switchOwnUptoRow : OpenClaim := { program := "ytfphkpdobbffeaadoor", sum := "4587c2402a2592fa8d44d00a6dbfbac7ec10eb4eddaf3f94739b9b6df72e887f", func := "bibelot/bibelotlaw08.SwitchOwn", spec := "switchOwn", unfollowed := true, recurses := true, named := ["bibelot/switches.none", "math/bits.deBruijn32tab", "math/bits.deBruijn64tab"], plainKeys := false, apart := false, laid := [("math/bits.deBruijn32tab", laid_math_bits_deBruijn32tab), ("math/bits.deBruijn64tab", laid_math_bits_deBruijn64tab), ("bibelot/switches.none", laid_bibelot_switches_none)], narrowed := true }
def SwitchOwnUptoSaid : Prop := switchOwnUptoRow.holds Tryd.pinned (OpenSpec.upto switchOwnSpec)

/-- 'bibelotlaw08.SwitchTutte', WHERE WHAT IT READS IS OF BULK AT MOST 1048576: true; the input reads as it did. -/
def switchTutteUptoRow : OpenClaim := { program := "ytfphkpdobbffeaadoor", sum := "4587c2402a2592fa8d44d00a6dbfbac7ec10eb4eddaf3f94739b9b6df72e887f", func := "bibelot/bibelotlaw08.SwitchTutte", spec := "switchTutte", unfollowed := true, recurses := true, named := ["bibelot/switches.none", "math/bits.deBruijn32tab", "math/bits.deBruijn64tab"], plainKeys := false, apart := false, laid := [("math/bits.deBruijn32tab", laid_math_bits_deBruijn32tab), ("math/bits.deBruijn64tab", laid_math_bits_deBruijn64tab), ("bibelot/switches.none", laid_bibelot_switches_none)], narrowed := true }
def SwitchTutteUptoSaid : Prop := switchTutteUptoRow.holds Tryd.pinned (OpenSpec.upto switchTutteSpec)

/-- 'bibelotlaw08.SwitchLehman', WHERE WHAT IT READS IS OF BULK AT MOST 1048576: true; the input reads as it did. -/
def switchLehmanUptoRow : OpenClaim := { program := "ytfphkpdobbffeaadoor", sum := "4587c2402a2592fa8d44d00a6dbfbac7ec10eb4eddaf3f94739b9b6df72e887f", func := "bibelot/bibelotlaw08.SwitchLehman", spec := "switchLehman", inPlace := ["internal/bytealg.IndexByteString", "internal/bytealg.IndexString"], unfollowed := true, recurses := true, named := ["unicode/utf8.first", "unicode/utf8.acceptRanges", "math/bits.deBruijn32tab", "math/bits.deBruijn64tab", "bibelot/switches.none", "internal/bytealg.MaxLen"], plainKeys := false, apart := false, laid := [("math/bits.deBruijn32tab", laid_math_bits_deBruijn32tab), ("math/bits.deBruijn64tab", laid_math_bits_deBruijn64tab), ("unicode/utf8.acceptRanges", laid_unicode_utf8_acceptRanges), ("bibelot/switches.none", laid_bibelot_switches_none), ("unicode/utf8.first", laid_unicode_utf8_first)], narrowed := true }
def SwitchLehmanUptoSaid : Prop := switchLehmanUptoRow.holds Tryd.pinned (OpenSpec.upto switchLehmanSpec)

/-- 'bibelotlaw08.SwitchWins', WHERE WHAT IT READS IS OF BULK AT MOST 1048576: true; the input reads as it did. -/
def switchWinsUptoRow : OpenClaim := { program := "ytfphkpdobbffeaadoor", sum := "4587c2402a2592fa8d44d00a6dbfbac7ec10eb4eddaf3f94739b9b6df72e887f", func := "bibelot/bibelotlaw08.SwitchWins", spec := "switchWins", inPlace := ["internal/bytealg.IndexByteString", "internal/bytealg.IndexString"], unfollowed := true, recurses := true, named := ["unicode/utf8.first", "unicode/utf8.acceptRanges", "math/bits.deBruijn32tab", "math/bits.deBruijn64tab", "bibelot/switches.none", "internal/bytealg.MaxLen"], plainKeys := false, apart := false, laid := [("math/bits.deBruijn32tab", laid_math_bits_deBruijn32tab), ("math/bits.deBruijn64tab", laid_math_bits_deBruijn64tab), ("unicode/utf8.acceptRanges", laid_unicode_utf8_acceptRanges), ("bibelot/switches.none", laid_bibelot_switches_none), ("unicode/utf8.first", laid_unicode_utf8_first)], narrowed := true }
def SwitchWinsUptoSaid : Prop := switchWinsUptoRow.holds Tryd.pinned (OpenSpec.upto switchWinsSpec)

/-- 'bibelotlaw08.SwitchPositions', WHERE WHAT IT READS IS OF BULK AT MOST 1048576: true; the input reads as it did. -/
def switchPositionsUptoRow : OpenClaim := { program := "ytfphkpdobbffeaadoor", sum := "4587c2402a2592fa8d44d00a6dbfbac7ec10eb4eddaf3f94739b9b6df72e887f", func := "bibelot/bibelotlaw08.SwitchPositions", spec := "switchPositions", inPlace := ["internal/bytealg.IndexByteString", "internal/bytealg.IndexString"], unfollowed := true, recurses := true, named := ["unicode/utf8.first", "unicode/utf8.acceptRanges", "math/bits.deBruijn32tab", "math/bits.deBruijn64tab", "bibelot/switches.none", "internal/bytealg.MaxLen"], plainKeys := false, apart := false, laid := [("math/bits.deBruijn32tab", laid_math_bits_deBruijn32tab), ("math/bits.deBruijn64tab", laid_math_bits_deBruijn64tab), ("unicode/utf8.acceptRanges", laid_unicode_utf8_acceptRanges), ("bibelot/switches.none", laid_bibelot_switches_none), ("unicode/utf8.first", laid_unicode_utf8_first)], narrowed := true }
def SwitchPositionsUptoSaid : Prop := switchPositionsUptoRow.holds Tryd.pinned (OpenSpec.upto switchPositionsSpec)

/-- 'bibelotlaw08.SwitchPlays', WHERE WHAT IT READS IS OF BULK AT MOST 1048576: true; the input reads as it did. -/
def switchPlaysUptoRow : OpenClaim := { program := "ytfphkpdobbffeaadoor", sum := "4587c2402a2592fa8d44d00a6dbfbac7ec10eb4eddaf3f94739b9b6df72e887f", func := "bibelot/bibelotlaw08.SwitchPlays", spec := "switchPlays", inPlace := ["internal/bytealg.IndexByteString", "internal/bytealg.IndexString"], unfollowed := true, recurses := true, named := ["unicode/utf8.first", "unicode/utf8.acceptRanges", "math/bits.deBruijn32tab", "math/bits.deBruijn64tab", "bibelot/switches.none", "internal/bytealg.MaxLen"], plainKeys := false, apart := false, laid := [("math/bits.deBruijn32tab", laid_math_bits_deBruijn32tab), ("math/bits.deBruijn64tab", laid_math_bits_deBruijn64tab), ("unicode/utf8.acceptRanges", laid_unicode_utf8_acceptRanges), ("bibelot/switches.none", laid_bibelot_switches_none), ("unicode/utf8.first", laid_unicode_utf8_first)], narrowed := true }
def SwitchPlaysUptoSaid : Prop := switchPlaysUptoRow.holds Tryd.pinned (OpenSpec.upto switchPlaysSpec)

/-- 'bibelotlaw08.SwitchMore', WHERE WHAT IT READS IS OF BULK AT MOST 1048576: true; the input reads as it did. -/
def switchMoreUptoRow : OpenClaim := { program := "ytfphkpdobbffeaadoor", sum := "4587c2402a2592fa8d44d00a6dbfbac7ec10eb4eddaf3f94739b9b6df72e887f", func := "bibelot/bibelotlaw08.SwitchMore", spec := "switchMore", inPlace := ["internal/bytealg.IndexByteString", "internal/bytealg.IndexString"], unfollowed := true, recurses := true, named := ["math/bits.deBruijn32tab", "math/bits.deBruijn64tab", "bibelot/switches.none", "unicode/utf8.first", "unicode/utf8.acceptRanges", "internal/bytealg.MaxLen"], plainKeys := false, apart := false, laid := [("math/bits.deBruijn32tab", laid_math_bits_deBruijn32tab), ("math/bits.deBruijn64tab", laid_math_bits_deBruijn64tab), ("unicode/utf8.acceptRanges", laid_unicode_utf8_acceptRanges), ("bibelot/switches.none", laid_bibelot_switches_none), ("unicode/utf8.first", laid_unicode_utf8_first)], narrowed := true }
def SwitchMoreUptoSaid : Prop := switchMoreUptoRow.holds Tryd.pinned (OpenSpec.upto switchMoreSpec)

/-- 'bibelotlaw08.SwitchSmaller', WHERE WHAT IT READS IS OF BULK AT MOST 1048576: true; the input reads as it did. -/
def switchSmallerUptoRow : OpenClaim := { program := "ytfphkpdobbffeaadoor", sum := "4587c2402a2592fa8d44d00a6dbfbac7ec10eb4eddaf3f94739b9b6df72e887f", func := "bibelot/bibelotlaw08.SwitchSmaller", spec := "switchSmaller", unfollowed := true, recurses := true, named := ["math/bits.deBruijn32tab", "math/bits.deBruijn64tab", "bibelot/switches.none"], plainKeys := false, apart := false, laid := [("math/bits.deBruijn32tab", laid_math_bits_deBruijn32tab), ("math/bits.deBruijn64tab", laid_math_bits_deBruijn64tab), ("bibelot/switches.none", laid_bibelot_switches_none)], narrowed := true }
def SwitchSmallerUptoSaid : Prop := switchSmallerUptoRow.holds Tryd.pinned (OpenSpec.upto switchSmallerSpec)

/-- 'bibelotlaw08.SwitchDeletes', WHERE WHAT IT READS IS OF BULK AT MOST 1048576: true; the input reads as it did. -/
def switchDeletesUptoRow : OpenClaim := { program := "ytfphkpdobbffeaadoor", sum := "4587c2402a2592fa8d44d00a6dbfbac7ec10eb4eddaf3f94739b9b6df72e887f", func := "bibelot/bibelotlaw08.SwitchDeletes", spec := "switchDeletes", unfollowed := true, recurses := true, named := ["math/bits.deBruijn32tab", "math/bits.deBruijn64tab", "bibelot/switches.none"], plainKeys := false, apart := false, laid := [("math/bits.deBruijn32tab", laid_math_bits_deBruijn32tab), ("math/bits.deBruijn64tab", laid_math_bits_deBruijn64tab), ("bibelot/switches.none", laid_bibelot_switches_none)], narrowed := true }
def SwitchDeletesUptoSaid : Prop := switchDeletesUptoRow.holds Tryd.pinned (OpenSpec.upto switchDeletesSpec)

/-- 'bibelotlaw08.SwitchAnswers', WHERE WHAT IT READS IS OF BULK AT MOST 1048576: true; the input reads as it did. -/
def switchAnswersUptoRow : OpenClaim := { program := "ytfphkpdobbffeaadoor", sum := "4587c2402a2592fa8d44d00a6dbfbac7ec10eb4eddaf3f94739b9b6df72e887f", func := "bibelot/bibelotlaw08.SwitchAnswers", spec := "switchAnswers", unfollowed := true, recurses := true, named := ["bibelot/switches.none", "math/bits.deBruijn32tab", "math/bits.deBruijn64tab"], plainKeys := false, apart := false, laid := [("math/bits.deBruijn32tab", laid_math_bits_deBruijn32tab), ("math/bits.deBruijn64tab", laid_math_bits_deBruijn64tab), ("bibelot/switches.none", laid_bibelot_switches_none)], narrowed := true }
def SwitchAnswersUptoSaid : Prop := switchAnswersUptoRow.holds Tryd.pinned (OpenSpec.upto switchAnswersSpec)

end Rows
end Go.Proofs.YtfphkpdobbffeaaDoor
