/-
  A row of which a law is known: opened at a function's entry.
-/
import Derived.Test.YtfphkpdobbffeaaDoorAh4
set_option linter.unusedSimpArgs false
set_option linter.unusedVariables false
namespace Go.AH
open Go

variable {P : Program} {f : FuncId} {args : List AV} {k : Nat} {Post : AV → List (Nat × ABlk) → Nat → Prop}

def openB (i : Nat) (c : ABlk) : List (Nat × ABlk) → List (Nat × ABlk)
  | [] => []
  | (j, b) :: r => if j = i then (j, c) :: r else (j, b) :: openB i c r
theorem lk_openB (i : Nat) (c : ABlk) : ∀ (hp : List (Nat × ABlk)) (j : Nat), lk (openB i c hp) j = if j = i then (match lk hp i with | some _ => some c | none => none) else lk hp j
  | [], j => by simp [openB, lk]
  | (k, b) :: r, j => by
    simp only [openB]
    by_cases h : k = i
    · subst h
      simp only [if_true, lk]
      by_cases h2 : k = j
      · subst h2; simp
      · simp [h2, Ne.symm h2]
    · simp only [if_neg h, lk]
      by_cases h2 : k = j
      · subst h2; simp [h]
      · simp only [if_neg h2]; exact lk_openB i c r j
/-- A law of a row is some row's. -/
theorem FSpec.li {hp : List (Nat × ABlk)} (i : Nat) {I : List AC → Prop} (hi : lk hp i = some (.li I)) (hc : ∀ (vs : Array Value) (w : World), (callFunc f vs).run P w = .ok (.enter f vs) w) (h : ∀ cs, I cs → (∀ x ∈ cs, x.prim = true) → FSpec P f args (openB i (.own cs) hp) k Post) : FSpec P f args hp k Post where
  call := hc
  run := fun w R vs hok hsz hcon H => by
    obtain ⟨cs, ⟨hI, hp'⟩, hB⟩ := H.blk i _ hi
    have hB : BRel R i w (.own cs) := hB
    have H2 : HRel R (openB i (.own cs) hp) w := by
      refine ⟨fun j b hb => ?_, fun j j' b c hb hb' hne hw => ?_⟩
      · rw [lk_openB] at hb
        split at hb
        · rename_i e; subst e; rw [hi] at hb; injection hb with hb; exact hb ▸ hB
        · exact H.blk j b hb
      · rw [lk_openB] at hb hb'
        have hx : ∀ {j b}, (if j = i then (match lk hp i with | some _ => some (ABlk.own cs) | none => none) else lk hp j) = some b → ∃ b', lk hp j = some b' ∧ (b.wr = true → b'.wr = true) := by
          intro j b hb
          split at hb
          · rename_i e; subst e; exact ⟨_, hi, fun _ => rfl⟩
          · exact ⟨b, hb, fun h => h⟩
        obtain ⟨b1, e1, e2⟩ := hx hb
        obtain ⟨c1, e3, _⟩ := hx hb'
        exact H.inj j j' b1 c1 e1 e3 hne (e2 hw)
    refine ((h cs hI hp').run w R vs hok hsz hcon H2).mono ?_
    have up : ∀ j b, lk (openB i (.own cs) hp) j = some b → b.wr = true → ∃ b', lk hp j = some b' ∧ b'.wr = true := fun j b hb hw => by
      rw [lk_openB] at hb
      split at hb
      · rename_i e; subst e; exact ⟨_, hi, rfl⟩
      · exact ⟨b, hb, hw⟩
    rintro e w' ⟨u, r, hq, k', R', h1, h2, h3, h4, h5, h6, h7, h8, h9, h10, h11, h12⟩
    refine ⟨u, r, hq, k', R', h1, h2, h3, h4, h5, h6, h7, h8, h9, h10, fun j b hb hw => ?_, h12.mono ?_⟩
    · rcases h11 j b hb hw with ⟨i0, b0, g1, g2, g3⟩ | g
      · obtain ⟨b', g4, g5⟩ := up i0 b0 g1 g2
        exact .inl ⟨i0, b', g4, g5, g3⟩
      · exact .inr g
    · rintro j ⟨i0, b, g1, g2, g3⟩
      obtain ⟨b', g4, g5⟩ := up i0 b g1 g2
      exact ⟨i0, b', g4, g5, g3⟩
end Go.AH

/-
  A slice that is nil, where one is read: contracts that give blocks.
-/
namespace Go.AH
open Go

variable {P : Program} {f : FuncId} {args : List AV} {hp : List (Nat × ABlk)}

/-- A contract that reads slice 0, at the empty slice: no such block is wanted; what comes back does not name it. -/
theorem FDet.nil0b {r : AV} {hq : List (Nat × ABlk)} {k k' : Nat} (h : FDet P f args ((0, .ro []) :: hp) k r hq k') (args' : List AV) (j : Nat) (cs : List AC) (hj : lk hp j = some (.ro cs)) (hw : wkVs ((0, .ro []) :: hp) args' args)
    (ha : ∀ v ∈ args', v.all (· ≠ 0)) (hb : ∀ p ∈ hp, p.1 ≠ 0 ∧ p.2.all (· ≠ 0)) (hr : r.all (· ≠ 0)) (hbq : ∀ p ∈ hq, p.1 ≠ 0 ∧ p.2.all (· ≠ 0)) : FDet P f args' hp k r hq k' where
  call := h.call
  run := fun w R vs hok hsz hcon H => by
    have hb2 : ∀ i b, lk hp i = some b → i ≠ 0 ∧ b.all (· ≠ 0) := fun i b hi => hb _ (mem_lk hi)
    have hbq2 : ∀ i b, lk hq i = some b → i ≠ 0 ∧ b.all (· ≠ 0) := fun i b hi => hbq _ (mem_lk hi)
    have hag : AgreeOn (· ≠ 0) R (R.set 0 (R.ρ j) 0 (R.κ j)) := fun i hi => by simp [Ren.set, hi]
    have H1 : HRel (R.set 0 (R.ρ j) 0 (R.κ j)) ((0, .ro []) :: hp) w := by
      refine ⟨fun i b hi => ?_, fun i i' b c hi hi' hne hwr => ?_⟩
      · simp only [lk] at hi
        split at hi
        · rename_i e; subst e; injection hi with hi; subst hi
          obtain ⟨c, t, z, hh, _⟩ := H.blk j _ hj
          exact ⟨c, t, z, by simpa using hh, fun i x hx => by simp at hx⟩
        · obtain ⟨h1, h2⟩ := hb2 i b hi
          exact BRel.agreeOn hag h1 h2 (H.blk i b hi)
      · simp only [lk] at hi hi'
        split at hi
        · injection hi with hi; subst hi; cases hwr
        · have h1 := hb2 i b hi
          rw [(hag i h1.1).1]
          split at hi'
          · rename_i e; subst e
            rw [Ren.set_ρ]
            refine H.inj i j b _ hi hj ?_ hwr
            intro e; subst e; rw [hj] at hi; injection hi with hi; subst hi; cases hwr
          · have h2 := hb2 i' c hi'
            rw [(hag i' h2.1).1]
            exact H.inj i i' b c hi hi' hne hwr
    obtain ⟨hl, hg⟩ := wkVs_get hw
    refine (h.run w _ vs (Ren.set_ok 0 _ _ _ (by decide) hok) (by omega) (fun i v hi => ?_) H1).mono ?_
    · obtain ⟨x, h1, h2⟩ := hg i v hi
      obtain ⟨u, h3, h4⟩ := hcon i x h1
      exact ⟨u, h3, wkV_sound h2 H1 (conV.agreeOn hag (ha x (List.mem_of_getElem? h1)) h4)⟩
    · rintro e w' ⟨u, r', hq', k2, R', h1, ⟨e1, e2, e3⟩, h3, h4, h5, h6, h7, h8, h9, h10, h11, h12⟩
      subst e1; subst e2; subst e3
      have hag2 : AgreeOn (· ≠ 0) R' (R'.set 0 (R.ρ 0) (R.δ 0) (R.κ 0)) := fun i hi => by simp [Ren.set, hi]
      have hlow : ∀ i b, lk ((0, ABlk.ro []) :: hp) i = some b → b.wr = true → lk hp i = some b ∧ i ≠ 0 := fun i b g1 g2 => by
        simp only [lk] at g1
        split at g1
        · injection g1 with g1; subst g1; cases g2
        · exact ⟨g1, (hb2 i b g1).1⟩
      refine ⟨u, r', hq', k2, R'.set 0 (R.ρ 0) (R.δ 0) (R.κ 0), h1, ⟨rfl, rfl, rfl⟩, Ren.set_ok 0 _ _ _ (by decide) h3, fun i hi => ?_, h5, conV.agreeOn hag2 hr h6, h7, ⟨fun i b hi => ?_, fun i i' b c hi hi' hne hwr => ?_⟩, h9, h10, fun i b hi hwr => ?_, h12.mono ?_⟩
      · by_cases h0 : i = 0
        · subst h0; simp
        · obtain ⟨a, b, c⟩ := h4 i hi
          obtain ⟨a2, b2, c2⟩ := hag i h0
          obtain ⟨a3, b3, c3⟩ := hag2 i h0
          exact ⟨by rw [a3, a, a2], by rw [b3, b, b2], by rw [c3, c, c2]⟩
      · obtain ⟨g1, g2⟩ := hbq2 i b hi
        exact BRel.agreeOn hag2 g1 g2 (h8.blk i b hi)
      · rw [(hag2 i (hbq2 i b hi).1).1, (hag2 i' (hbq2 i' c hi').1).1]
        exact h8.inj i i' b c hi hi' hne hwr
      · rw [(hag2 i (hbq2 i b hi).1).1]
        rcases h11 i b hi hwr with ⟨i0, b0, g1, g2, g3⟩ | g
        · obtain ⟨g4, g5⟩ := hlow i0 b0 g1 g2
          exact .inl ⟨i0, b0, g4, g2, by rw [← g3, (hag i0 g5).1]⟩
        · exact .inr g
      · rintro j' ⟨i, b, g1, g2, g3⟩
        obtain ⟨g4, g5⟩ := hlow i b g1 g2
        exact ⟨i, b, g4, g2, by rw [← (hag i g5).1]; exact g3⟩
end Go.AH
