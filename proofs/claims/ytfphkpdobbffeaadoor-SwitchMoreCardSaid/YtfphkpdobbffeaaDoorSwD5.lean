/-
  Laws of a game and of prime values; the tables of five.
-/
import Derived.Test.YtfphkpdobbffeaaDoorSwD2
set_option linter.unusedSimpArgs false
set_option linter.unusedVariables false
namespace Go.Proofs.YtfphkpdobbffeaaDoor
open Go Go.AH Go.ChangeShapes Go.WideShapes Go.ChangeAt Go.RowKit
set_option maxRecDepth 100000

def lays5 : List (String × DataW Unit) := [("math/bits.deBruijn32tab", Rows.laid_math_bits_deBruijn32tab), ("math/bits.deBruijn64tab", Rows.laid_math_bits_deBruijn64tab), ("unicode/utf8.acceptRanges", Rows.laid_unicode_utf8_acceptRanges), ("bibelot/switches.none", Rows.laid_bibelot_switches_none), ("unicode/utf8.first", Rows.laid_unicode_utf8_first)]
theorem none_of {W : World} {rest : List (String × DataW Unit)} (h : laidMet Tryd.prog (("bibelot/switches.none", Rows.laid_bibelot_switches_none) :: rest) W) : Lib.TabIs Tryd.prog W "bibelot/switches.none" .i64 [-1, -1] := by
  obtain ⟨ps, ⟨g', t', cs, fuel, p, q, hg', ht', hvar, hd, _, _⟩, _⟩ := h
  obtain rfl := Option.some.inj (gNone.symm.trans hg')
  obtain rfl := Option.some.inj (gNoneType.symm.trans ht')
  obtain ⟨y0, y1, n, he, hl, h0, h1⟩ := trod_struct2 Tryd.underlying91 hd
  have h0 : DataW.trod _ Tryd.prog W _ _ _ n 3 (List.take (Tryd.prog.cellsOf 3) (List.drop 0 cs.toList)) = some y0 := h0
  have h1 : DataW.trod _ Tryd.prog W _ _ _ n 3 (List.take (Tryd.prog.cellsOf 3) (List.drop 1 cs.toList)) = some y1 := h1
  rw [cells3] at h0 h1
  obtain ⟨z0, c0, e0, _⟩ := DataW.trod_int Tryd.underlying3 h0
  obtain ⟨z1, c1, e1, _⟩ := DataW.trod_int Tryd.underlying3 h1
  rw [cells91] at hl
  subst e0; subst e1
  have he : (DataW.agg [.lit (.int .i64 (-1)), .lit (.int .i64 (-1))] : DataW Unit) = .agg [.lit (.int .i64 z0), .lit (.int .i64 z1)] := congrArg Prod.fst he
  simp at he
  obtain ⟨rfl, rfl⟩ := he
  unfold Lib.TabIs
  rw [hvar]
  congr 1
  apply Array.ext'
  match hq : cs.toList, hl with
  | [u, v], _ =>
    rw [hq] at c0 c1
    simp at c0 c1
    simp [c0, c1]
theorem tab64_cells5 {W : World} (h : laidMet Tryd.prog lays5 W) : ∃ c t z, W.heap[2]? = some (.cells c t z) ∧ ∀ R : Ren, conL R tab64 c 0 :=
  tab_cells (zs := tabI) (by decide) fun i hi => (show Lib.TabIs Tryd.prog W "math/bits.deBruijn64tab" .u8 tabI from Lib.tabIs_of_head (rest := [("unicode/utf8.acceptRanges", Rows.laid_unicode_utf8_acceptRanges), ("bibelot/switches.none", Rows.laid_bibelot_switches_none), ("unicode/utf8.first", Rows.laid_unicode_utf8_first)]) gTab64 gTab64Type Tryd.underlying162 Tryd.underlying5 cells5 cells162 (laidMet.tail h)).cell gTab64 i hi
theorem none_cells5 {W : World} (h : laidMet Tryd.prog lays5 W) : ∃ c t z, W.heap[0]? = some (.cells c t z) ∧ ∀ R : Ren, conL R [.int .i64 (-1), .int .i64 (-1)] c 0 :=
  tab_cells (zs := [-1, -1]) (by decide) fun i hi => (none_of (laidMet.tail (laidMet.tail (laidMet.tail h)))).cell gNone i hi

/-- A law of one game and of prime values: from its contract to its calls. -/
theorem calls_more {f : FuncId} {W : World} {x : Rw} {sv : Value} {args : List AV} {us : List Value} (hc : FDet Tryd.prog f (.g (rC x 0) :: args) [(0, rB x), (100002, .ro tab64), (100000, noneB)] 1 (.c (.bool true)) [] 1)
    (hsv : (sv = .slice none 0 0 ∧ x.ws = []) ∨ ∃ a c, sv = .slice (some a) x.ws.length c ∧ x.ws.length ≤ c ∧ ∀ i, i < x.ws.length → W.cell? (a.add (i * 2)) = some (.int .i64 (x.ws.getD i (0, 0)).1) ∧ W.cell? (a.add (i * 2 + 1)) = some (.int .i64 (x.ws.getD i (0, 0)).2))
    (hl : us.length = args.length) (hA : ∀ (R : Ren) (i : Nat) (v : AV), args[i]? = some v → ∃ u : Value, us[i]? = some u ∧ conV R v u)
    (h64 : ∃ c t z, W.heap[2]? = some (.cells c t z) ∧ ∀ R : Ren, conL R tab64 c 0) (hno : ∃ c t z, W.heap[0]? = some (.cells c t z) ∧ ∀ R : Ren, conL R [.int .i64 (-1), .int .i64 (-1)] c 0) : Calls Tryd.prog f ((Value.agg #[.int .i64 x.n, .int .i64 x.s, .int .i64 x.t, sv]) :: us).toArray W fun e W' => e = .returned (.bool true) ∧ Below W.heap.size W W' := by
  obtain ⟨b, off, hR, hs⟩ := rel_game hsv h64 hno
  refine (hc.run W (renG b off) _ (renG_ok _ _) (by simp [hl]) (fun i v hi => ?_) hR).mono ?_
  · match i, hi with
    | 0, hi =>
      injection hi with hi
      subst hi
      refine ⟨_, rfl, _, rfl, rfl, fun j y hj => ?_⟩
      match j, hj with
      | 0, hj => injection hj with hj; subst hj; exact ⟨_, rfl, rfl⟩
      | 1, hj => injection hj with hj; subst hj; exact ⟨_, rfl, rfl⟩
      | 2, hj => injection hj with hj; subst hj; exact ⟨_, rfl, rfl⟩
      | 3, hj => injection hj with hj; subst hj; exact ⟨_, rfl, hs⟩
      | _ + 4, hj => simp [rC] at hj
    | i + 1, hi =>
      obtain ⟨u, hu, hcv⟩ := hA (renG b off) i v (by simpa using hi)
      exact ⟨u, by simpa using hu, hcv⟩
  · rintro e w' ⟨u, r, hp', k', R', h1, ⟨h2, _, _⟩, _, _, _, h6, _, _, _, _, _, h12, _⟩
    subst h2
    have hu : u = .bool true := h6
    subst hu
    refine ⟨h1, (h12.mono ?_).below⟩
    rintro j ⟨i, bl, g1, g2, _⟩
    simp only [lk] at g1
    split at g1
    · injection g1 with g1; subst g1; cases g2
    · split at g1
      · injection g1 with g1; subst g1; cases g2
      · split at g1
        · injection g1 with g1; subst g1; cases g2
        · cases g1
def litV : DataW Unit → List Value
  | .lit (.int k n) => [.int k n]
  | _ => []
def litVs : DataW Unit → List Value
  | .lit (.int k n) => [.int k n]
  | .agg l => l.flatMap litV
  | _ => []
def flatV : DataW Unit → Array Value
  | .agg l => (l.flatMap litVs).toArray
  | _ => #[]
/-- A world for the witness: the settled one, with the tables as they are laid. -/
noncomputable def laidWorld5 (os : Os) : World :=
  { laidWorld os with heap := ((laidWorld os).heap.modify 3 (lay (flatV Rows.laid_unicode_utf8_first))).modify 4 (lay (flatV Rows.laid_unicode_utf8_acceptRanges)) }
theorem open_str {W : World} {base : Nat} {v : Value} (hv : Value.okWide Tryd.prog W .any base 9 v) : ∃ s, v = .string s := by
  unfold Value.okWide at hv
  rw [Tryd.underlying9] at hv
  have hv : Cell.okWide Tryd.prog W .any base 9 v := hv
  unfold Cell.okWide at hv
  rw [Tryd.underlying9] at hv
  have hv : Cell.ok Tryd.prog W .any base 9 v := by cases v <;> exact hv
  unfold Cell.ok at hv
  rw [Tryd.underlying9] at hv
  cases v <;> first | exact ⟨_, rfl⟩ | exact absurd hv (by simp)
end Go.Proofs.YtfphkpdobbffeaaDoor
