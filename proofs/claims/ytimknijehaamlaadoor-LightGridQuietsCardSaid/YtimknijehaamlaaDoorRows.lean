/-
  NARROWER THAN 'FOR EVERY INPUT', by the rows' own cells (each row's printed sentence says how): LightQuiets: laid · LightGrids: laid · LightGridQuiets: laid · LightPolynomials: laid · LightPaths: laid · LightDegrees: laid · LightEffects: laid · LightOwn: laid · LightSolves: laid · LightGauss: laid · LightRefutes: laid · LightSutner: laid · LightReaches: laid · LightChecks: laid.
  DERIVED. THE GIVEN ROWS OF THIS SEAT. 14 by the template 'for every input the law returns true; each argument reads behind the call as it read before'; 0 by the template 'total and deterministic' (their statements: YtimknijehaamlaaDoorTotals.lean).
  GIVEN WITH THE SEED: the statements are not yours to turn. If you find one false, say at which input.
  Laid BY PROGRAM, IN A SANDBOX (cutbox-rows.mjs): the forced cells as the released guide's own fill.sh prints them over the translation 97cc642325a1ce90… (all of the seat's roots in one cut). By AI agents, Wed Nov 11 2026. No macro, syntax, notation, axiom, sorry.
-/
import Derived.Test.YtimknijehaamlaaDoorChecked
import GoSem.Claim
import GoSem.ClaimJoined
import GoSem.ClaimMapViews
import Derived.JoinedTies
import Derived.KernelRfl
namespace Go.Proofs.YtimknijehaamlaaDoor
/- THE CELL 'sum', in the pinned program and in every row, IS THE sha256 OF THE DUMP (.gsa) THAT YtimknijehaamlaaDoorProg.lean LOADS. Nothing in Lean hashes anything: it is a label: what it is worth is what the hold of that sum in a sandbox is worth. -/
noncomputable def Tryd.pinned : Pinned := { name := "ytimknijehaamlaadoor", sum := "97cc642325a1ce90e7a94cb7fad4757c45ab344715eb489da62af1d10df0243c", checked := Tryd.checked }
namespace Rows
def none {H : Type} : Left H := { results := [], args := [] }

/- WHAT THE LISTED PACKAGE-LEVEL VARIABLES READ AS WHEN THE CALL BEGINS. Each datum BY PROGRAM (the guide's laid-datum.mjs) off the statement by which the dump's own 'gosem.cut.vars' lays the variable. In a bare row this is a premise. The card (YtimknijehaamlaaDoorCards.lean) ties it to the program's text. -/
def laid_math_bits_deBruijn32tab {H : Type} : DataW H := .agg [.lit (.int .u8 0), .lit (.int .u8 1), .lit (.int .u8 28), .lit (.int .u8 2), .lit (.int .u8 29), .lit (.int .u8 14), .lit (.int .u8 24), .lit (.int .u8 3), .lit (.int .u8 30), .lit (.int .u8 22), .lit (.int .u8 20), .lit (.int .u8 15), .lit (.int .u8 25), .lit (.int .u8 17), .lit (.int .u8 4), .lit (.int .u8 8), .lit (.int .u8 31), .lit (.int .u8 27), .lit (.int .u8 13), .lit (.int .u8 23), .lit (.int .u8 21), .lit (.int .u8 19), .lit (.int .u8 16), .lit (.int .u8 7), .lit (.int .u8 26), .lit (.int .u8 12), .lit (.int .u8 18), .lit (.int .u8 6), .lit (.int .u8 11), .lit (.int .u8 5), .lit (.int .u8 10), .lit (.int .u8 9)]
def laid_math_bits_deBruijn64tab {H : Type} : DataW H := .agg [.lit (.int .u8 0), .lit (.int .u8 1), .lit (.int .u8 56), .lit (.int .u8 2), .lit (.int .u8 57), .lit (.int .u8 49), .lit (.int .u8 28), .lit (.int .u8 3), .lit (.int .u8 61), .lit (.int .u8 58), .lit (.int .u8 42), .lit (.int .u8 50), .lit (.int .u8 38), .lit (.int .u8 29), .lit (.int .u8 17), .lit (.int .u8 4), .lit (.int .u8 62), .lit (.int .u8 47), .lit (.int .u8 59), .lit (.int .u8 36), .lit (.int .u8 45), .lit (.int .u8 43), .lit (.int .u8 51), .lit (.int .u8 22), .lit (.int .u8 53), .lit (.int .u8 39), .lit (.int .u8 33), .lit (.int .u8 30), .lit (.int .u8 24), .lit (.int .u8 18), .lit (.int .u8 12), .lit (.int .u8 5), .lit (.int .u8 63), .lit (.int .u8 55), .lit (.int .u8 48), .lit (.int .u8 27), .lit (.int .u8 60), .lit (.int .u8 41), .lit (.int .u8 37), .lit (.int .u8 16), .lit (.int .u8 46), .lit (.int .u8 35), .lit (.int .u8 44), .lit (.int .u8 21), .lit (.int .u8 52), .lit (.int .u8 32), .lit (.int .u8 23), .lit (.int .u8 11), .lit (.int .u8 54), .lit (.int .u8 26), .lit (.int .u8 40), .lit (.int .u8 15), .lit (.int .u8 34), .lit (.int .u8 20), .lit (.int .u8 31), .lit (.int .u8 10), .lit (.int .u8 25), .lit (.int .u8 14), .lit (.int .u8 19), .lit (.int .u8 9), .lit (.int .u8 13), .lit (.int .u8 8), .lit (.int .u8 7), .lit (.int .u8 6)]

/-- 'bibelotlaw04.LightQuiets': WHATEVER THE INPUT: true; the input reads as it did. -/
def lightQuietsSpec : ChangeSpec := { name := "lightQuiets", fn := fun _ => fun
  | [d1, d2, d3] => { results := [.lit (.bool true)], args := [d1, d2, d3] }
  | _ => none }
def lightQuietsRow : OpenClaim := { program := "ytimknijehaamlaadoor", sum := "97cc642325a1ce90e7a94cb7fad4757c45ab344715eb489da62af1d10df0243c", func := "bibelot/bibelotlaw04.LightQuiets", spec := "lightQuiets", inPlace := ["slices.overlaps[bibelot/light.pressing]"], unfollowed := true, recurses := true, named := ["math/bits.deBruijn32tab", "math/bits.deBruijn64tab"], apart := false, laid := [("math/bits.deBruijn32tab", laid_math_bits_deBruijn32tab), ("math/bits.deBruijn64tab", laid_math_bits_deBruijn64tab)] }
def LightQuietsSaid : Prop := lightQuietsRow.holds Tryd.pinned (OpenSpec.ofChange lightQuietsSpec)

/-- ITS FALSE NEIGHBOUR: 'it returns false'. Refute it at one input. -/
def lightQuietsWrong : ChangeSpec := { name := "lightQuiets", fn := fun _ => fun
  | [d1, d2, d3] => { results := [.lit (.bool false)], args := [d1, d2, d3] }
  | _ => none }
def LightQuietsWrongFalsely : Prop := lightQuietsRow.holds Tryd.pinned (OpenSpec.ofChange lightQuietsWrong)

/-- 'bibelotlaw04.LightGrids': WHATEVER THE INPUT: true; the input reads as it did. -/
def lightGridsSpec : ChangeSpec := { name := "lightGrids", fn := fun _ => fun
  | [d1, d2] => { results := [.lit (.bool true)], args := [d1, d2] }
  | _ => none }
def lightGridsRow : OpenClaim := { program := "ytimknijehaamlaadoor", sum := "97cc642325a1ce90e7a94cb7fad4757c45ab344715eb489da62af1d10df0243c", func := "bibelot/bibelotlaw04.LightGrids", spec := "lightGrids", inPlace := ["slices.overlaps[bibelot/light.pressing]"], unfollowed := true, recurses := true, named := ["math/bits.deBruijn32tab", "math/bits.deBruijn64tab"], apart := false, laid := [("math/bits.deBruijn32tab", laid_math_bits_deBruijn32tab), ("math/bits.deBruijn64tab", laid_math_bits_deBruijn64tab)] }
def LightGridsSaid : Prop := lightGridsRow.holds Tryd.pinned (OpenSpec.ofChange lightGridsSpec)

/-- ITS FALSE NEIGHBOUR: 'it returns false'. Refute it at one input. -/
def lightGridsWrong : ChangeSpec := { name := "lightGrids", fn := fun _ => fun
  | [d1, d2] => { results := [.lit (.bool false)], args := [d1, d2] }
  | _ => none }
def LightGridsWrongFalsely : Prop := lightGridsRow.holds Tryd.pinned (OpenSpec.ofChange lightGridsWrong)

/-- 'bibelotlaw04.LightGridQuiets': WHATEVER THE INPUT: true; the input reads as it did. -/
def lightGridQuietsSpec : ChangeSpec := { name := "lightGridQuiets", fn := fun _ => fun
  | [d1, d2, d3] => { results := [.lit (.bool true)], args := [d1, d2, d3] }
  | _ => none }
def lightGridQuietsRow : OpenClaim := { program := "ytimknijehaamlaadoor", sum := "97cc642325a1ce90e7a94cb7fad4757c45ab344715eb489da62af1d10df0243c", func := "bibelot/bibelotlaw04.LightGridQuiets", spec := "lightGridQuiets", inPlace := ["slices.overlaps[bibelot/light.pressing]"], unfollowed := true, recurses := true, named := ["math/bits.deBruijn32tab", "math/bits.deBruijn64tab"], apart := false, laid := [("math/bits.deBruijn32tab", laid_math_bits_deBruijn32tab), ("math/bits.deBruijn64tab", laid_math_bits_deBruijn64tab)] }
def LightGridQuietsSaid : Prop := lightGridQuietsRow.holds Tryd.pinned (OpenSpec.ofChange lightGridQuietsSpec)

/-- ITS FALSE NEIGHBOUR: 'it returns false'. Refute it at one input. -/
def lightGridQuietsWrong : ChangeSpec := { name := "lightGridQuiets", fn := fun _ => fun
  | [d1, d2, d3] => { results := [.lit (.bool false)], args := [d1, d2, d3] }
  | _ => none }
def LightGridQuietsWrongFalsely : Prop := lightGridQuietsRow.holds Tryd.pinned (OpenSpec.ofChange lightGridQuietsWrong)

/-- 'bibelotlaw04.LightPolynomials': WHATEVER THE INPUT: true; the input reads as it did. -/
def lightPolynomialsSpec : ChangeSpec := { name := "lightPolynomials", fn := fun _ => fun
  | [d] => { results := [.lit (.bool true)], args := [d] }
  | _ => none }
def lightPolynomialsRow : OpenClaim := { program := "ytimknijehaamlaadoor", sum := "97cc642325a1ce90e7a94cb7fad4757c45ab344715eb489da62af1d10df0243c", func := "bibelot/bibelotlaw04.LightPolynomials", spec := "lightPolynomials", inPlace := ["slices.overlaps[bibelot/light.pressing]"], unfollowed := true, recurses := true, named := ["math/bits.deBruijn32tab", "math/bits.deBruijn64tab"], apart := false, laid := [("math/bits.deBruijn32tab", laid_math_bits_deBruijn32tab), ("math/bits.deBruijn64tab", laid_math_bits_deBruijn64tab)] }
def LightPolynomialsSaid : Prop := lightPolynomialsRow.holds Tryd.pinned (OpenSpec.ofChange lightPolynomialsSpec)

/-- ITS FALSE NEIGHBOUR: 'it returns false'. Refute it at one input. -/
def lightPolynomialsWrong : ChangeSpec := { name := "lightPolynomials", fn := fun _ => fun
  | [d] => { results := [.lit (.bool false)], args := [d] }
  | _ => none }
def LightPolynomialsWrongFalsely : Prop := lightPolynomialsRow.holds Tryd.pinned (OpenSpec.ofChange lightPolynomialsWrong)

/-- 'bibelotlaw04.LightPaths': WHATEVER THE INPUT: true; the input reads as it did. -/
def lightPathsSpec : ChangeSpec := { name := "lightPaths", fn := fun _ => fun
  | [d] => { results := [.lit (.bool true)], args := [d] }
  | _ => none }
def lightPathsRow : OpenClaim := { program := "ytimknijehaamlaadoor", sum := "97cc642325a1ce90e7a94cb7fad4757c45ab344715eb489da62af1d10df0243c", func := "bibelot/bibelotlaw04.LightPaths", spec := "lightPaths", inPlace := ["slices.overlaps[bibelot/light.pressing]"], unfollowed := true, recurses := true, named := ["math/bits.deBruijn32tab", "math/bits.deBruijn64tab"], apart := false, laid := [("math/bits.deBruijn32tab", laid_math_bits_deBruijn32tab), ("math/bits.deBruijn64tab", laid_math_bits_deBruijn64tab)] }
def LightPathsSaid : Prop := lightPathsRow.holds Tryd.pinned (OpenSpec.ofChange lightPathsSpec)

/-- ITS FALSE NEIGHBOUR: 'it returns false'. Refute it at one input. -/
def lightPathsWrong : ChangeSpec := { name := "lightPaths", fn := fun _ => fun
  | [d] => { results := [.lit (.bool false)], args := [d] }
  | _ => none }
def LightPathsWrongFalsely : Prop := lightPathsRow.holds Tryd.pinned (OpenSpec.ofChange lightPathsWrong)

/-- 'bibelotlaw04.LightDegrees': WHATEVER THE INPUT: true; the input reads as it did. -/
def lightDegreesSpec : ChangeSpec := { name := "lightDegrees", fn := fun _ => fun
  | [d1, d2] => { results := [.lit (.bool true)], args := [d1, d2] }
  | _ => none }
def lightDegreesRow : OpenClaim := { program := "ytimknijehaamlaadoor", sum := "97cc642325a1ce90e7a94cb7fad4757c45ab344715eb489da62af1d10df0243c", func := "bibelot/bibelotlaw04.LightDegrees", spec := "lightDegrees", inPlace := ["slices.overlaps[bibelot/light.pressing]"], unfollowed := true, recurses := true, named := ["math/bits.deBruijn32tab", "math/bits.deBruijn64tab"], apart := false, laid := [("math/bits.deBruijn32tab", laid_math_bits_deBruijn32tab), ("math/bits.deBruijn64tab", laid_math_bits_deBruijn64tab)] }
def LightDegreesSaid : Prop := lightDegreesRow.holds Tryd.pinned (OpenSpec.ofChange lightDegreesSpec)

/-- ITS FALSE NEIGHBOUR: 'it returns false'. Refute it at one input. -/
def lightDegreesWrong : ChangeSpec := { name := "lightDegrees", fn := fun _ => fun
  | [d1, d2] => { results := [.lit (.bool false)], args := [d1, d2] }
  | _ => none }
def LightDegreesWrongFalsely : Prop := lightDegreesRow.holds Tryd.pinned (OpenSpec.ofChange lightDegreesWrong)

/-- 'bibelotlaw04.LightEffects': WHATEVER THE INPUT: true; the input reads as it did. -/
def lightEffectsSpec : ChangeSpec := { name := "lightEffects", fn := fun _ => fun
  | [d1, d2, d3] => { results := [.lit (.bool true)], args := [d1, d2, d3] }
  | _ => none }
def lightEffectsRow : OpenClaim := { program := "ytimknijehaamlaadoor", sum := "97cc642325a1ce90e7a94cb7fad4757c45ab344715eb489da62af1d10df0243c", func := "bibelot/bibelotlaw04.LightEffects", spec := "lightEffects", inPlace := ["slices.overlaps[bibelot/light.pressing]"], unfollowed := true, recurses := true, named := ["math/bits.deBruijn32tab", "math/bits.deBruijn64tab"], apart := false, laid := [("math/bits.deBruijn32tab", laid_math_bits_deBruijn32tab), ("math/bits.deBruijn64tab", laid_math_bits_deBruijn64tab)] }
def LightEffectsSaid : Prop := lightEffectsRow.holds Tryd.pinned (OpenSpec.ofChange lightEffectsSpec)

/-- ITS FALSE NEIGHBOUR: 'it returns false'. Refute it at one input. -/
def lightEffectsWrong : ChangeSpec := { name := "lightEffects", fn := fun _ => fun
  | [d1, d2, d3] => { results := [.lit (.bool false)], args := [d1, d2, d3] }
  | _ => none }
def LightEffectsWrongFalsely : Prop := lightEffectsRow.holds Tryd.pinned (OpenSpec.ofChange lightEffectsWrong)

/-- 'bibelotlaw04.LightOwn': WHATEVER THE INPUT: true; the input reads as it did. -/
def lightOwnSpec : ChangeSpec := { name := "lightOwn", fn := fun _ => fun
  | [d1, d2, d3] => { results := [.lit (.bool true)], args := [d1, d2, d3] }
  | _ => none }
def lightOwnRow : OpenClaim := { program := "ytimknijehaamlaadoor", sum := "97cc642325a1ce90e7a94cb7fad4757c45ab344715eb489da62af1d10df0243c", func := "bibelot/bibelotlaw04.LightOwn", spec := "lightOwn", inPlace := ["slices.overlaps[bibelot/light.pressing]"], unfollowed := true, recurses := true, named := ["math/bits.deBruijn32tab", "math/bits.deBruijn64tab"], apart := false, laid := [("math/bits.deBruijn32tab", laid_math_bits_deBruijn32tab), ("math/bits.deBruijn64tab", laid_math_bits_deBruijn64tab)] }
def LightOwnSaid : Prop := lightOwnRow.holds Tryd.pinned (OpenSpec.ofChange lightOwnSpec)

/-- ITS FALSE NEIGHBOUR: 'it returns false'. Refute it at one input. -/
def lightOwnWrong : ChangeSpec := { name := "lightOwn", fn := fun _ => fun
  | [d1, d2, d3] => { results := [.lit (.bool false)], args := [d1, d2, d3] }
  | _ => none }
def LightOwnWrongFalsely : Prop := lightOwnRow.holds Tryd.pinned (OpenSpec.ofChange lightOwnWrong)

/-- 'bibelotlaw04.LightSolves': WHATEVER THE INPUT: true; the input reads as it did. -/
def lightSolvesSpec : ChangeSpec := { name := "lightSolves", fn := fun _ => fun
  | [d1, d2, d3] => { results := [.lit (.bool true)], args := [d1, d2, d3] }
  | _ => none }
def lightSolvesRow : OpenClaim := { program := "ytimknijehaamlaadoor", sum := "97cc642325a1ce90e7a94cb7fad4757c45ab344715eb489da62af1d10df0243c", func := "bibelot/bibelotlaw04.LightSolves", spec := "lightSolves", inPlace := ["slices.overlaps[bibelot/light.pressing]"], unfollowed := true, recurses := true, named := ["math/bits.deBruijn32tab", "math/bits.deBruijn64tab"], apart := false, laid := [("math/bits.deBruijn32tab", laid_math_bits_deBruijn32tab), ("math/bits.deBruijn64tab", laid_math_bits_deBruijn64tab)] }
def LightSolvesSaid : Prop := lightSolvesRow.holds Tryd.pinned (OpenSpec.ofChange lightSolvesSpec)

/-- ITS FALSE NEIGHBOUR: 'it returns false'. Refute it at one input. -/
def lightSolvesWrong : ChangeSpec := { name := "lightSolves", fn := fun _ => fun
  | [d1, d2, d3] => { results := [.lit (.bool false)], args := [d1, d2, d3] }
  | _ => none }
def LightSolvesWrongFalsely : Prop := lightSolvesRow.holds Tryd.pinned (OpenSpec.ofChange lightSolvesWrong)

/-- 'bibelotlaw04.LightGauss': WHATEVER THE INPUT: true; the input reads as it did. -/
def lightGaussSpec : ChangeSpec := { name := "lightGauss", fn := fun _ => fun
  | [d1, d2, d3] => { results := [.lit (.bool true)], args := [d1, d2, d3] }
  | _ => none }
def lightGaussRow : OpenClaim := { program := "ytimknijehaamlaadoor", sum := "97cc642325a1ce90e7a94cb7fad4757c45ab344715eb489da62af1d10df0243c", func := "bibelot/bibelotlaw04.LightGauss", spec := "lightGauss", inPlace := ["slices.overlaps[bibelot/light.pressing]"], unfollowed := true, recurses := true, named := ["math/bits.deBruijn32tab", "math/bits.deBruijn64tab"], apart := false, laid := [("math/bits.deBruijn32tab", laid_math_bits_deBruijn32tab), ("math/bits.deBruijn64tab", laid_math_bits_deBruijn64tab)] }
def LightGaussSaid : Prop := lightGaussRow.holds Tryd.pinned (OpenSpec.ofChange lightGaussSpec)

/-- ITS FALSE NEIGHBOUR: 'it returns false'. Refute it at one input. -/
def lightGaussWrong : ChangeSpec := { name := "lightGauss", fn := fun _ => fun
  | [d1, d2, d3] => { results := [.lit (.bool false)], args := [d1, d2, d3] }
  | _ => none }
def LightGaussWrongFalsely : Prop := lightGaussRow.holds Tryd.pinned (OpenSpec.ofChange lightGaussWrong)

/-- 'bibelotlaw04.LightRefutes': WHATEVER THE INPUT: true; the input reads as it did. -/
def lightRefutesSpec : ChangeSpec := { name := "lightRefutes", fn := fun _ => fun
  | [d1, d2, d3] => { results := [.lit (.bool true)], args := [d1, d2, d3] }
  | _ => none }
def lightRefutesRow : OpenClaim := { program := "ytimknijehaamlaadoor", sum := "97cc642325a1ce90e7a94cb7fad4757c45ab344715eb489da62af1d10df0243c", func := "bibelot/bibelotlaw04.LightRefutes", spec := "lightRefutes", inPlace := ["slices.overlaps[bibelot/light.pressing]"], unfollowed := true, recurses := true, named := ["math/bits.deBruijn32tab", "math/bits.deBruijn64tab"], apart := false, laid := [("math/bits.deBruijn32tab", laid_math_bits_deBruijn32tab), ("math/bits.deBruijn64tab", laid_math_bits_deBruijn64tab)] }
def LightRefutesSaid : Prop := lightRefutesRow.holds Tryd.pinned (OpenSpec.ofChange lightRefutesSpec)

/-- ITS FALSE NEIGHBOUR: 'it returns false'. Refute it at one input. -/
def lightRefutesWrong : ChangeSpec := { name := "lightRefutes", fn := fun _ => fun
  | [d1, d2, d3] => { results := [.lit (.bool false)], args := [d1, d2, d3] }
  | _ => none }
def LightRefutesWrongFalsely : Prop := lightRefutesRow.holds Tryd.pinned (OpenSpec.ofChange lightRefutesWrong)

/-- 'bibelotlaw04.LightSutner': WHATEVER THE INPUT: true; the input reads as it did. -/
def lightSutnerSpec : ChangeSpec := { name := "lightSutner", fn := fun _ => fun
  | [d1, d2] => { results := [.lit (.bool true)], args := [d1, d2] }
  | _ => none }
def lightSutnerRow : OpenClaim := { program := "ytimknijehaamlaadoor", sum := "97cc642325a1ce90e7a94cb7fad4757c45ab344715eb489da62af1d10df0243c", func := "bibelot/bibelotlaw04.LightSutner", spec := "lightSutner", inPlace := ["slices.overlaps[bibelot/light.pressing]"], unfollowed := true, recurses := true, named := ["math/bits.deBruijn32tab", "math/bits.deBruijn64tab"], apart := false, laid := [("math/bits.deBruijn32tab", laid_math_bits_deBruijn32tab), ("math/bits.deBruijn64tab", laid_math_bits_deBruijn64tab)] }
def LightSutnerSaid : Prop := lightSutnerRow.holds Tryd.pinned (OpenSpec.ofChange lightSutnerSpec)

/-- ITS FALSE NEIGHBOUR: 'it returns false'. Refute it at one input. -/
def lightSutnerWrong : ChangeSpec := { name := "lightSutner", fn := fun _ => fun
  | [d1, d2] => { results := [.lit (.bool false)], args := [d1, d2] }
  | _ => none }
def LightSutnerWrongFalsely : Prop := lightSutnerRow.holds Tryd.pinned (OpenSpec.ofChange lightSutnerWrong)

/-- 'bibelotlaw04.LightReaches': WHATEVER THE INPUT: true; the input reads as it did. -/
def lightReachesSpec : ChangeSpec := { name := "lightReaches", fn := fun _ => fun
  | [d1, d2] => { results := [.lit (.bool true)], args := [d1, d2] }
  | _ => none }
def lightReachesRow : OpenClaim := { program := "ytimknijehaamlaadoor", sum := "97cc642325a1ce90e7a94cb7fad4757c45ab344715eb489da62af1d10df0243c", func := "bibelot/bibelotlaw04.LightReaches", spec := "lightReaches", inPlace := ["slices.overlaps[bibelot/light.pressing]"], unfollowed := true, recurses := true, named := ["math/bits.deBruijn32tab", "math/bits.deBruijn64tab"], apart := false, laid := [("math/bits.deBruijn32tab", laid_math_bits_deBruijn32tab), ("math/bits.deBruijn64tab", laid_math_bits_deBruijn64tab)] }
def LightReachesSaid : Prop := lightReachesRow.holds Tryd.pinned (OpenSpec.ofChange lightReachesSpec)

/-- ITS FALSE NEIGHBOUR: 'it returns false'. Refute it at one input. -/
def lightReachesWrong : ChangeSpec := { name := "lightReaches", fn := fun _ => fun
  | [d1, d2] => { results := [.lit (.bool false)], args := [d1, d2] }
  | _ => none }
def LightReachesWrongFalsely : Prop := lightReachesRow.holds Tryd.pinned (OpenSpec.ofChange lightReachesWrong)

/-- 'bibelotlaw04.LightChecks': WHATEVER THE INPUT: true; the input reads as it did. -/
def lightChecksSpec : ChangeSpec := { name := "lightChecks", fn := fun _ => fun
  | [d1, d2, d3] => { results := [.lit (.bool true)], args := [d1, d2, d3] }
  | _ => none }
def lightChecksRow : OpenClaim := { program := "ytimknijehaamlaadoor", sum := "97cc642325a1ce90e7a94cb7fad4757c45ab344715eb489da62af1d10df0243c", func := "bibelot/bibelotlaw04.LightChecks", spec := "lightChecks", inPlace := ["slices.overlaps[bibelot/light.pressing]"], unfollowed := true, recurses := true, named := ["math/bits.deBruijn32tab", "math/bits.deBruijn64tab"], apart := false, laid := [("math/bits.deBruijn32tab", laid_math_bits_deBruijn32tab), ("math/bits.deBruijn64tab", laid_math_bits_deBruijn64tab)] }
def LightChecksSaid : Prop := lightChecksRow.holds Tryd.pinned (OpenSpec.ofChange lightChecksSpec)

/-- ITS FALSE NEIGHBOUR: 'it returns false'. Refute it at one input. -/
def lightChecksWrong : ChangeSpec := { name := "lightChecks", fn := fun _ => fun
  | [d1, d2, d3] => { results := [.lit (.bool false)], args := [d1, d2, d3] }
  | _ => none }
def LightChecksWrongFalsely : Prop := lightChecksRow.holds Tryd.pinned (OpenSpec.ofChange lightChecksWrong)

/- THE SECOND FORM. 'bulk': how many values and letters a reading holds, each counted each time it is reached (what is shared counts as often as it is met; a slice's spare places count too). A statement '..UptoSaid' is the law's where the arguments, and the package variables that the reading takes, are together of bulk at most 1048576: NARROWER than '..Said'. Prove '..Said' where nothing that the law and all that it calls make is longer than what came in: it says more and counts as full. Else prove '..UptoSaid'. A law counts once. -/
mutual
def uptoBulk {H : Type} : DataW H → Nat
  | .lit (.string bytes) => bytes.length + 1
  | .lit _ => 1
  | .nil => 1
  | .ptr d => uptoBulk d + 1
  | .slice elems spare => uptoBulkAll elems + uptoBulkAll spare + 1
  | .agg parts => uptoBulkAll parts + 1
  | .iface _ d => uptoBulk d + 1
  | .map entries => uptoBulkEntries entries + 1
  | .held _ => 1
def uptoBulkAll {H : Type} : List (DataW H) → Nat
  | [] => 0
  | d :: r => uptoBulk d + uptoBulkAll r
def uptoBulkEntries {H : Type} : List (Lit × DataW H) → Nat
  | [] => 0
  | x :: r => uptoBulkEntry x + uptoBulkEntries r
def uptoBulkEntry {H : Type} : Lit × DataW H → Nat
  | (.string bytes, d) => bytes.length + uptoBulk d + 1
  | (_, d) => uptoBulk d + 1
 end
def uptoSmall : (H : Type) → List (DataW H) → Bool := fun _ ds => decide (uptoBulkAll ds ≤ 1048576)
def OpenSpec.upto (s : _root_.Go.ChangeSpec) : _root_.Go.OpenSpec := { _root_.Go.OpenSpec.ofChange s with cond := some uptoSmall }

/-- 'bibelotlaw04.LightQuiets', WHERE WHAT IT READS IS OF BULK AT MOST 1048576: true; the input reads as it did. -/
def lightQuietsUptoRow : OpenClaim := { program := "ytimknijehaamlaadoor", sum := "97cc642325a1ce90e7a94cb7fad4757c45ab344715eb489da62af1d10df0243c", func := "bibelot/bibelotlaw04.LightQuiets", spec := "lightQuiets", inPlace := ["slices.overlaps[bibelot/light.pressing]"], unfollowed := true, recurses := true, named := ["math/bits.deBruijn32tab", "math/bits.deBruijn64tab"], apart := false, laid := [("math/bits.deBruijn32tab", laid_math_bits_deBruijn32tab), ("math/bits.deBruijn64tab", laid_math_bits_deBruijn64tab)], narrowed := true }
def LightQuietsUptoSaid : Prop := lightQuietsUptoRow.holds Tryd.pinned (OpenSpec.upto lightQuietsSpec)

/-- 'bibelotlaw04.LightGrids', WHERE WHAT IT READS IS OF BULK AT MOST 1048576: true; the input reads as it did. -/
def lightGridsUptoRow : OpenClaim := { program := "ytimknijehaamlaadoor", sum := "97cc642325a1ce90e7a94cb7fad4757c45ab344715eb489da62af1d10df0243c", func := "bibelot/bibelotlaw04.LightGrids", spec := "lightGrids", inPlace := ["slices.overlaps[bibelot/light.pressing]"], unfollowed := true, recurses := true, named := ["math/bits.deBruijn32tab", "math/bits.deBruijn64tab"], apart := false, laid := [("math/bits.deBruijn32tab", laid_math_bits_deBruijn32tab), ("math/bits.deBruijn64tab", laid_math_bits_deBruijn64tab)], narrowed := true }
def LightGridsUptoSaid : Prop := lightGridsUptoRow.holds Tryd.pinned (OpenSpec.upto lightGridsSpec)

/-- 'bibelotlaw04.LightGridQuiets', WHERE WHAT IT READS IS OF BULK AT MOST 1048576: true; the input reads as it did. -/
def lightGridQuietsUptoRow : OpenClaim := { program := "ytimknijehaamlaadoor", sum := "97cc642325a1ce90e7a94cb7fad4757c45ab344715eb489da62af1d10df0243c", func := "bibelot/bibelotlaw04.LightGridQuiets", spec := "lightGridQuiets", inPlace := ["slices.overlaps[bibelot/light.pressing]"], unfollowed := true, recurses := true, named := ["math/bits.deBruijn32tab", "math/bits.deBruijn64tab"], apart := false, laid := [("math/bits.deBruijn32tab", laid_math_bits_deBruijn32tab), ("math/bits.deBruijn64tab", laid_math_bits_deBruijn64tab)], narrowed := true }
def LightGridQuietsUptoSaid : Prop := lightGridQuietsUptoRow.holds Tryd.pinned (OpenSpec.upto lightGridQuietsSpec)

/-- 'bibelotlaw04.LightPolynomials', WHERE WHAT IT READS IS OF BULK AT MOST 1048576: true; the input reads as it did. -/
def lightPolynomialsUptoRow : OpenClaim := { program := "ytimknijehaamlaadoor", sum := "97cc642325a1ce90e7a94cb7fad4757c45ab344715eb489da62af1d10df0243c", func := "bibelot/bibelotlaw04.LightPolynomials", spec := "lightPolynomials", inPlace := ["slices.overlaps[bibelot/light.pressing]"], unfollowed := true, recurses := true, named := ["math/bits.deBruijn32tab", "math/bits.deBruijn64tab"], apart := false, laid := [("math/bits.deBruijn32tab", laid_math_bits_deBruijn32tab), ("math/bits.deBruijn64tab", laid_math_bits_deBruijn64tab)], narrowed := true }
def LightPolynomialsUptoSaid : Prop := lightPolynomialsUptoRow.holds Tryd.pinned (OpenSpec.upto lightPolynomialsSpec)

/-- 'bibelotlaw04.LightPaths', WHERE WHAT IT READS IS OF BULK AT MOST 1048576: true; the input reads as it did. -/
def lightPathsUptoRow : OpenClaim := { program := "ytimknijehaamlaadoor", sum := "97cc642325a1ce90e7a94cb7fad4757c45ab344715eb489da62af1d10df0243c", func := "bibelot/bibelotlaw04.LightPaths", spec := "lightPaths", inPlace := ["slices.overlaps[bibelot/light.pressing]"], unfollowed := true, recurses := true, named := ["math/bits.deBruijn32tab", "math/bits.deBruijn64tab"], apart := false, laid := [("math/bits.deBruijn32tab", laid_math_bits_deBruijn32tab), ("math/bits.deBruijn64tab", laid_math_bits_deBruijn64tab)], narrowed := true }
def LightPathsUptoSaid : Prop := lightPathsUptoRow.holds Tryd.pinned (OpenSpec.upto lightPathsSpec)

/-- 'bibelotlaw04.LightDegrees', WHERE WHAT IT READS IS OF BULK AT MOST 1048576: true; the input reads as it did. -/
def lightDegreesUptoRow : OpenClaim := { program := "ytimknijehaamlaadoor", sum := "97cc642325a1ce90e7a94cb7fad4757c45ab344715eb489da62af1d10df0243c", func := "bibelot/bibelotlaw04.LightDegrees", spec := "lightDegrees", inPlace := ["slices.overlaps[bibelot/light.pressing]"], unfollowed := true, recurses := true, named := ["math/bits.deBruijn32tab", "math/bits.deBruijn64tab"], apart := false, laid := [("math/bits.deBruijn32tab", laid_math_bits_deBruijn32tab), ("math/bits.deBruijn64tab", laid_math_bits_deBruijn64tab)], narrowed := true }
def LightDegreesUptoSaid : Prop := lightDegreesUptoRow.holds Tryd.pinned (OpenSpec.upto lightDegreesSpec)

/-- 'bibelotlaw04.LightEffects', WHERE WHAT IT READS IS OF BULK AT MOST 1048576: true; the input reads as it did. -/
def lightEffectsUptoRow : OpenClaim := { program := "ytimknijehaamlaadoor", sum := "97cc642325a1ce90e7a94cb7fad4757c45ab344715eb489da62af1d10df0243c", func := "bibelot/bibelotlaw04.LightEffects", spec := "lightEffects", inPlace := ["slices.overlaps[bibelot/light.pressing]"], unfollowed := true, recurses := true, named := ["math/bits.deBruijn32tab", "math/bits.deBruijn64tab"], apart := false, laid := [("math/bits.deBruijn32tab", laid_math_bits_deBruijn32tab), ("math/bits.deBruijn64tab", laid_math_bits_deBruijn64tab)], narrowed := true }
def LightEffectsUptoSaid : Prop := lightEffectsUptoRow.holds Tryd.pinned (OpenSpec.upto lightEffectsSpec)

/-- 'bibelotlaw04.LightOwn', WHERE WHAT IT READS IS OF BULK AT MOST 1048576: true; the input reads as it did. -/
def lightOwnUptoRow : OpenClaim := { program := "ytimknijehaamlaadoor", sum := "97cc642325a1ce90e7a94cb7fad4757c45ab344715eb489da62af1d10df0243c", func := "bibelot/bibelotlaw04.LightOwn", spec := "lightOwn", inPlace := ["slices.overlaps[bibelot/light.pressing]"], unfollowed := true, recurses := true, named := ["math/bits.deBruijn32tab", "math/bits.deBruijn64tab"], apart := false, laid := [("math/bits.deBruijn32tab", laid_math_bits_deBruijn32tab), ("math/bits.deBruijn64tab", laid_math_bits_deBruijn64tab)], narrowed := true }
def LightOwnUptoSaid : Prop := lightOwnUptoRow.holds Tryd.pinned (OpenSpec.upto lightOwnSpec)

/-- 'bibelotlaw04.LightSolves', WHERE WHAT IT READS IS OF BULK AT MOST 1048576: true; the input reads as it did. -/
def lightSolvesUptoRow : OpenClaim := { program := "ytimknijehaamlaadoor", sum := "97cc642325a1ce90e7a94cb7fad4757c45ab344715eb489da62af1d10df0243c", func := "bibelot/bibelotlaw04.LightSolves", spec := "lightSolves", inPlace := ["slices.overlaps[bibelot/light.pressing]"], unfollowed := true, recurses := true, named := ["math/bits.deBruijn32tab", "math/bits.deBruijn64tab"], apart := false, laid := [("math/bits.deBruijn32tab", laid_math_bits_deBruijn32tab), ("math/bits.deBruijn64tab", laid_math_bits_deBruijn64tab)], narrowed := true }
def LightSolvesUptoSaid : Prop := lightSolvesUptoRow.holds Tryd.pinned (OpenSpec.upto lightSolvesSpec)

/-- 'bibelotlaw04.LightGauss', WHERE WHAT IT READS IS OF BULK AT MOST 1048576: true; the input reads as it did. -/
def lightGaussUptoRow : OpenClaim := { program := "ytimknijehaamlaadoor", sum := "97cc642325a1ce90e7a94cb7fad4757c45ab344715eb489da62af1d10df0243c", func := "bibelot/bibelotlaw04.LightGauss", spec := "lightGauss", inPlace := ["slices.overlaps[bibelot/light.pressing]"], unfollowed := true, recurses := true, named := ["math/bits.deBruijn32tab", "math/bits.deBruijn64tab"], apart := false, laid := [("math/bits.deBruijn32tab", laid_math_bits_deBruijn32tab), ("math/bits.deBruijn64tab", laid_math_bits_deBruijn64tab)], narrowed := true }
def LightGaussUptoSaid : Prop := lightGaussUptoRow.holds Tryd.pinned (OpenSpec.upto lightGaussSpec)

/-- 'bibelotlaw04.LightRefutes', WHERE WHAT IT READS IS OF BULK AT MOST 1048576: true; the input reads as it did. -/
def lightRefutesUptoRow : OpenClaim := { program := "ytimknijehaamlaadoor", sum := "97cc642325a1ce90e7a94cb7fad4757c45ab344715eb489da62af1d10df0243c", func := "bibelot/bibelotlaw04.LightRefutes", spec := "lightRefutes", inPlace := ["slices.overlaps[bibelot/light.pressing]"], unfollowed := true, recurses := true, named := ["math/bits.deBruijn32tab", "math/bits.deBruijn64tab"], apart := false, laid := [("math/bits.deBruijn32tab", laid_math_bits_deBruijn32tab), ("math/bits.deBruijn64tab", laid_math_bits_deBruijn64tab)], narrowed := true }
def LightRefutesUptoSaid : Prop := lightRefutesUptoRow.holds Tryd.pinned (OpenSpec.upto lightRefutesSpec)

/-- 'bibelotlaw04.LightSutner', WHERE WHAT IT READS IS OF BULK AT MOST 1048576: true; the input reads as it did. -/
def lightSutnerUptoRow : OpenClaim := { program := "ytimknijehaamlaadoor", sum := "97cc642325a1ce90e7a94cb7fad4757c45ab344715eb489da62af1d10df0243c", func := "bibelot/bibelotlaw04.LightSutner", spec := "lightSutner", inPlace := ["slices.overlaps[bibelot/light.pressing]"], unfollowed := true, recurses := true, named := ["math/bits.deBruijn32tab", "math/bits.deBruijn64tab"], apart := false, laid := [("math/bits.deBruijn32tab", laid_math_bits_deBruijn32tab), ("math/bits.deBruijn64tab", laid_math_bits_deBruijn64tab)], narrowed := true }
def LightSutnerUptoSaid : Prop := lightSutnerUptoRow.holds Tryd.pinned (OpenSpec.upto lightSutnerSpec)

/-- 'bibelotlaw04.LightReaches', WHERE WHAT IT READS IS OF BULK AT MOST 1048576: true; the input reads as it did. -/
def lightReachesUptoRow : OpenClaim := { program := "ytimknijehaamlaadoor", sum := "97cc642325a1ce90e7a94cb7fad4757c45ab344715eb489da62af1d10df0243c", func := "bibelot/bibelotlaw04.LightReaches", spec := "lightReaches", inPlace := ["slices.overlaps[bibelot/light.pressing]"], unfollowed := true, recurses := true, named := ["math/bits.deBruijn32tab", "math/bits.deBruijn64tab"], apart := false, laid := [("math/bits.deBruijn32tab", laid_math_bits_deBruijn32tab), ("math/bits.deBruijn64tab", laid_math_bits_deBruijn64tab)], narrowed := true }
def LightReachesUptoSaid : Prop := lightReachesUptoRow.holds Tryd.pinned (OpenSpec.upto lightReachesSpec)

/-- 'bibelotlaw04.LightChecks', WHERE WHAT IT READS IS OF BULK AT MOST 1048576: true; the input reads as it did. -/
def lightChecksUptoRow : OpenClaim := { program := "ytimknijehaamlaadoor", sum := "97cc642325a1ce90e7a94cb7fad4757c45ab344715eb489da62af1d10df0243c", func := "bibelot/bibelotlaw04.LightChecks", spec := "lightChecks", inPlace := ["slices.overlaps[bibelot/light.pressing]"], unfollowed := true, recurses := true, named := ["math/bits.deBruijn32tab", "math/bits.deBruijn64tab"], apart := false, laid := [("math/bits.deBruijn32tab", laid_math_bits_deBruijn32tab), ("math/bits.deBruijn64tab", laid_math_bits_deBruijn64tab)], narrowed := true }
def LightChecksUptoSaid : Prop := lightChecksUptoRow.holds Tryd.pinned (OpenSpec.upto lightChecksSpec)

end Rows
end Go.Proofs.YtimknijehaamlaaDoor
