/-
  From a row's condition to the contracts: further parameters beside a number and pairs.
-/
import Derived.Test.YtimknijehaamlaaDoorSwD1
set_option linter.unusedSimpArgs false
set_option linter.unusedVariables false
namespace Go.Proofs.YtimknijehaamlaaDoor
open Go Go.AH Go.Lin Go.ChangeShapes Go.WideShapes Go.ChangeAt Go.RowKit
set_option maxRecDepth 100000

theorem open_bool {W : World} {base : Nat} {v : Value} (hv : Value.okWide Tryd.prog W .any base 4 v) : ∃ b, v = .bool b := by
  unfold Value.okWide at hv
  rw [Tryd.underlying4] at hv
  have hv : Cell.okWide Tryd.prog W .any base 4 v := hv
  unfold Cell.okWide at hv
  rw [Tryd.underlying4] at hv
  have hv : Cell.ok Tryd.prog W .any base 4 v := by cases v <;> exact hv
  unfold Cell.ok at hv
  rw [Tryd.underlying4] at hv
  cases v <;> first | exact False.elim hv | exact ⟨_, rfl⟩
theorem open_arr2 {H : Type} {enc : TypeId × Value → H} {W : World} {base : Nat} {spare : Nat → Bool} {held : Bool} {v : Value} {d : DataW H} {ps : List MemPlace} (hv : Value.okWide Tryd.prog W .any base 38 v) (h : DataW.Trod enc Tryd.prog W 0 spare held 38 v d ps) : ∃ z0 z1, v = .agg #[.int .i64 z0, .int .i64 z1] := by
  obtain ⟨fuel, h⟩ := h
  unfold Value.okWide at hv
  rw [Tryd.underlying38] at hv
  obtain ⟨cs, rfl, _, _⟩ := hv
  have h : DataW.trod enc Tryd.prog W 0 spare held fuel 38 cs.toList = some (d, ps) := h
  obtain ⟨z0, z1, hc⟩ := trod_pair h
  refine ⟨z0, z1, ?_⟩
  cases cs
  simp only at hc
  rw [hc]
theorem conV2 (R : Ren) (x0 x1 : Int) : conV R (.g [.int .i64 x0, .int .i64 x1]) (.agg #[.int .i64 x0, .int .i64 x1]) :=
  ⟨_, rfl, rfl, fun i x hi => match i, hi with
    | 0, hi => by injection hi with hi; subst hi; exact ⟨_, rfl, rfl⟩
    | 1, hi => by injection hi with hi; subst hi; exact ⟨_, rfl, rfl⟩
    | _ + 2, hi => by simp at hi⟩
/-- A law of a number, pairs and more: from its contract to its calls. -/
theorem calls_np3 {f : FuncId} {W : World} {n : Int} {sv : Value} {ws : List (Int × Int)} {av : List AV} {vs : List Value} (hc : FDet Tryd.prog f (.c (.int .i64 n) :: .c (.rs 0 0 ws.length) :: av) [(0, .ro (ints (flI ws))), (100001, .ro tab64)] 1 (.c (.bool true)) [] 1)
    (ha : ∀ (R : Ren) (i : Nat) (v : AV), av[i]? = some v → ∃ u, vs[i]? = some u ∧ conV R v u) (hp : pairsAt W sv ws) (hL : laidMet Tryd.prog lays W) (hl : vs.length = av.length := by rfl) : Calls Tryd.prog f (.int .i64 n :: sv :: vs).toArray W fun e W' => e = .returned (.bool true) ∧ Below W.heap.size W W' := by
  have h64 := tab64_cells hL
  have hc0 : ∃ c t z, W.heap[1]? = some (.cells c t z) := by obtain ⟨c, t, z, h, _⟩ := h64; exact ⟨c, t, z, h⟩
  obtain ⟨b, off, c, t, z, hb, hcc, hs⟩ := pairs_block hp hc0
  obtain ⟨c2, t2, z2, hb2, hcc2⟩ := h64
  have hR : HRel (renL [(b, off)]) [(0, .ro (ints (flI ws))), (100001, .ro tab64)] W := by
    refine hrel_ro rfl fun i bl hi => ?_
    simp only [lk] at hi
    split at hi
    · rename_i e; subst e; injection hi with hi; subst hi; exact ⟨c, t, z, hb, hcc _⟩
    · split at hi
      · rename_i e; subst e; injection hi with hi; subst hi; exact ⟨c2, t2, z2, hb2, hcc2 _⟩
      · cases hi
  refine (hc.run W (renL [(b, off)]) _ (renL_ok _) (by simp [hl]) (fun i v hi => ?_) hR).mono ?_
  · match i, hi with
    | 0, hi => injection hi with hi; subst hi; exact ⟨_, by simp, rfl⟩
    | 1, hi => injection hi with hi; subst hi; exact ⟨_, by simp, hs _ _ rfl rfl⟩
    | i + 2, hi =>
      obtain ⟨u, hu, hcu⟩ := ha (renL [(b, off)]) i v (by simpa using hi)
      exact ⟨u, by simpa using hu, hcu⟩
  · rintro e w' ⟨u, r, hp', k', R', h1, ⟨h2, _, _⟩, _, _, _, h6, _, _, _, _, _, h12⟩
    subst h2
    have hu : u = .bool true := h6
    subst hu
    refine ⟨h1, (h12.mono ?_).below⟩
    rintro j ⟨i, bl, g1, g2, _⟩
    rw [allRo_sound (show allRo [(0, .ro (ints (flI ws))), (100001, .ro tab64)] = true from rfl) i bl g1] at g2
    cases g2
/-- A law of numbers and bools. -/
theorem calls_n3 {f : FuncId} {W : World} {av : List AV} {vs : List Value} (hc : FDet Tryd.prog f av [(100001, .ro tab64)] 0 (.c (.bool true)) [] 0)
    (ha : ∀ (R : Ren) (i : Nat) (v : AV), av[i]? = some v → ∃ u, vs[i]? = some u ∧ conV R v u) (hL : laidMet Tryd.prog lays W) (hl : vs.length = av.length := by rfl) : Calls Tryd.prog f vs.toArray W fun e W' => e = .returned (.bool true) ∧ Below W.heap.size W W' := by
  obtain ⟨c2, t2, z2, hb2, hcc2⟩ := tab64_cells hL
  have hR : HRel (renL []) [(100001, .ro tab64)] W := by
    refine hrel_ro rfl fun i bl hi => ?_
    simp only [lk] at hi
    split at hi
    · rename_i e; subst e; injection hi with hi; subst hi; exact ⟨c2, t2, z2, hb2, hcc2 _⟩
    · cases hi
  refine (hc.run W (renL []) _ (renL_ok _) (by simp [hl]) (fun i v hi => ?_) hR).mono ?_
  · obtain ⟨u, hu, hcu⟩ := ha (renL []) i v hi
    exact ⟨u, by simpa using hu, hcu⟩
  · rintro e w' ⟨u, r, hp', k', R', h1, ⟨h2, _, _⟩, _, _, _, h6, _, _, _, _, _, h12⟩
    subst h2
    have hu : u = .bool true := h6
    subst hu
    refine ⟨h1, (h12.mono ?_).below⟩
    rintro j ⟨i, bl, g1, g2, _⟩
    rw [allRo_sound (show allRo [(100001, .ro tab64)] = true from rfl) i bl g1] at g2
    cases g2
end Go.Proofs.YtimknijehaamlaaDoor
