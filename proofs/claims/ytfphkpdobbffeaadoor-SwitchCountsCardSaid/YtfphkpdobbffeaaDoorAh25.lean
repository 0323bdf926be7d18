/-
  A slice that is nil, where one is read.
-/
import Derived.Test.YtfphkpdobbffeaaDoorAh24
set_option linter.unusedSimpArgs false
set_option linter.unusedVariables false
namespace Go.AH
open Go

variable {P : Program} {f : FuncId} {args : List AV} {hp : List (Nat × ABlk)}

/-- A contract that reads slice 0, at the empty slice: no such block is wanted. -/
theorem FDet.nil0 {r : AV} {k' : Nat} (h : FDet P f args ((0, .ro []) :: hp) 1 r [] k') (args' : List AV) (j : Nat) (cs : List AC) (hj : lk hp j = some (.ro cs)) (hw : wkVs ((0, .ro []) :: hp) args' args)
    (ha : ∀ v ∈ args', v.all (· ≠ 0)) (hb : ∀ p ∈ hp, p.1 ≠ 0 ∧ p.2.all (· ≠ 0)) (hr : r.all (· ≠ 0)) : FDet P f args' hp 1 r [] k' where
  call := h.call
  run := fun w R vs hok hsz hcon H => by
    have hb2 : ∀ i b, lk hp i = some b → i ≠ 0 ∧ b.all (· ≠ 0) := fun i b hi => hb _ (mem_lk hi)
    have hag : AgreeOn (· ≠ 0) R (R.set 0 (R.ρ j) 0 (R.κ j)) := fun i hi => by simp [Ren.set, hi]
    have H1 : HRel (R.set 0 (R.ρ j) 0 (R.κ j)) ((0, .ro []) :: hp) w := by
      refine ⟨fun i b hi => ?_, fun i i' b c hi hi' hne hwr => ?_⟩
      · simp only [lk] at hi
        split at hi
        · rename_i e; subst e; injection hi with hi; subst hi
          obtain ⟨c, t, z, hh, _⟩ := H.blk j _ hj
          exact ⟨c, t, z, by simpa using hh, fun i x hx => by simp at hx⟩
        · obtain ⟨h1, h2⟩ := hb2 i b hi
          exact BRel.agreeOn hag h1 h2 (H.blk i b hi)
      · simp only [lk] at hi hi'
        split at hi
        · injection hi with hi; subst hi; cases hwr
        · have h1 := hb2 i b hi
          rw [(hag i h1.1).1]
          split at hi'
          · rename_i e; subst e
            rw [Ren.set_ρ]
            refine H.inj i j b _ hi hj ?_ hwr
            intro e; subst e; rw [hj] at hi; injection hi with hi; subst hi; cases hwr
          · have h2 := hb2 i' c hi'
            rw [(hag i' h2.1).1]
            exact H.inj i i' b c hi hi' hne hwr
    obtain ⟨hl, hg⟩ := wkVs_get hw
    refine (h.run w _ vs (Ren.set_ok 0 _ _ _ (by decide) hok) (by omega) (fun i v hi => ?_) H1).mono ?_
    · obtain ⟨x, h1, h2⟩ := hg i v hi
      obtain ⟨u, h3, h4⟩ := hcon i x h1
      exact ⟨u, h3, wkV_sound h2 H1 (conV.agreeOn hag (ha x (List.mem_of_getElem? h1)) h4)⟩
    · rintro e w' ⟨u, r', hq, k2, R', h1, ⟨e1, e2, e3⟩, h3, h4, h5, h6, h7, h8, h9, h10, h11, h12⟩
      subst e1; subst e2; subst e3
      have hag2 : AgreeOn (· ≠ 0) R' (R'.set 0 (R.ρ 0) (R.δ 0) (R.κ 0)) := fun i hi => by simp [Ren.set, hi]
      refine ⟨u, r', [], k2, R'.set 0 (R.ρ 0) (R.δ 0) (R.κ 0), h1, ⟨rfl, rfl, rfl⟩, Ren.set_ok 0 _ _ _ (by decide) h3, fun i hi => ?_, h5, conV.agreeOn hag2 hr h6, h7, ⟨(fun i b hb => by cases hb), (fun i i' b c hi => by cases hi)⟩, h9, h10, (fun i b hb => by cases hb), h12.mono ?_⟩
      · by_cases h0 : i = 0
        · subst h0; simp
        · obtain ⟨a, b, c⟩ := h4 i hi
          obtain ⟨a2, b2, c2⟩ := hag i h0
          obtain ⟨a3, b3, c3⟩ := hag2 i h0
          exact ⟨by rw [a3, a, a2], by rw [b3, b, b2], by rw [c3, c, c2]⟩
      · rintro j' ⟨i, b, g1, g2, g3⟩
        simp only [lk] at g1
        split at g1
        · injection g1 with g1; subst g1; cases g2
        · exact ⟨i, b, g1, g2, by rw [← (hag i (hb2 i b g1).1).1]; exact g3⟩
end Go.AH
