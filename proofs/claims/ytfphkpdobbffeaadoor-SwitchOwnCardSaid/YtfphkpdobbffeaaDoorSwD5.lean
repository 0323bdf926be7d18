/-
  Laws of a game and of prime values; the tables of five.
-/
import Derived.Test.YtfphkpdobbffeaaDoorSwD2
set_option linter.unusedSimpArgs false
set_option linter.unusedVariables false
namespace Go.Proofs.YtfphkpdobbffeaaDoor
open Go Go.AH Go.ChangeShapes Go.WideShapes Go.ChangeAt Go.RowKit
set_option maxRecDepth 100000

theorem calls_more {f : FuncId} {W : World} {x : Rw} {sv : Value} {args : List AV} {us : List Value} (hc : FDet Tryd.prog f (.g (rC x 0) :: args) [(0, rB x), (100002, .ro tab64), (100000, noneB)] 1 (.c (.bool true)) [] 1)
    (hsv : (sv = .slice none 0 0 ∧ x.ws = []) ∨ ∃ a c, sv = .slice (some a) x.ws.length c ∧ x.ws.length ≤ c ∧ ∀ i, i < x.ws.length → W.cell? (a.add (i * 2)) = some (.int .i64 (x.ws.getD i (0, 0)).1) ∧ W.cell? (a.add (i * 2 + 1)) = some (.int .i64 (x.ws.getD i (0, 0)).2))
    (hl : us.length = args.length) (hA : ∀ (R : Ren) (i : Nat) (v : AV), args[i]? = some v → ∃ u : Value, us[i]? = some u ∧ conV R v u)
    (h64 : ∃ c t z, W.heap[2]? = some (.cells c t z) ∧ ∀ R : Ren, conL R tab64 c 0) (hno : ∃ c t z, W.heap[0]? = some (.cells c t z) ∧ ∀ R : Ren, conL R [.int .i64 (-1), .int .i64 (-1)] c 0) : Calls Tryd.prog f ((Value.agg #[.int .i64 x.n, .int .i64 x.s, .int .i64 x.t, sv]) :: us).toArray W fun e W' => e = .returned (.bool true) ∧ Below W.heap.size W W' := by
  obtain ⟨b, off, hR, hs⟩ := rel_game hsv h64 hno
  refine (hc.run W (renG b off) _ (renG_ok _ _) (by simp [hl]) (fun i v hi => ?_) hR).mono ?_
  · match i, hi with
    | 0, hi =>
      injection hi with hi
      subst hi
      refine ⟨_, rfl, _, rfl, rfl, fun j y hj => ?_⟩
      match j, hj with
      | 0, hj => injection hj with hj; subst hj; exact ⟨_, rfl, rfl⟩
      | 1, hj => injection hj with hj; subst hj; exact ⟨_, rfl, rfl⟩
      | 2, hj => injection hj with hj; subst hj; exact ⟨_, rfl, rfl⟩
      | 3, hj => injection hj with hj; subst hj; exact ⟨_, rfl, hs⟩
      | _ + 4, hj => simp [rC] at hj
    | i + 1, hi =>
      obtain ⟨u, hu, hcv⟩ := hA (renG b off) i v (by simpa using hi)
      exact ⟨u, by simpa using hu, hcv⟩
  · rintro e w' ⟨u, r, hp', k', R', h1, ⟨h2, _, _⟩, _, _, _, h6, _, _, _, _, _, h12, _⟩
    subst h2
    have hu : u = .bool true := h6
    subst hu
    refine ⟨h1, (h12.mono ?_).below⟩
    rintro j ⟨i, bl, g1, g2, _⟩
    simp only [lk] at g1
    split at g1
    · injection g1 with g1; subst g1; cases g2
    · split at g1
      · injection g1 with g1; subst g1; cases g2
      · split at g1
        · injection g1 with g1; subst g1; cases g2
        · cases g1
end Go.Proofs.YtfphkpdobbffeaaDoor
