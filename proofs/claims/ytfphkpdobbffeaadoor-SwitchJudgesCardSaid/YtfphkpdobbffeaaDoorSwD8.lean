/-
  Laws of a game, of a list of numbers, and of prime values.
-/
import Derived.Test.YtfphkpdobbffeaaDoorSwD5
set_option linter.unusedSimpArgs false
set_option linter.unusedVariables false
namespace Go.Proofs.YtfphkpdobbffeaaDoor
open Go Go.AH Go.ChangeShapes Go.WideShapes Go.ChangeAt Go.RowKit
set_option maxRecDepth 100000

section
variable {H : Type} {enc : TypeId × Value → H} {W : World} {base : Nat} {spare : Nat → Bool} {held : Bool}
theorem choose_ints {len : Nat} {p : Nat → Int → Prop} (h : ∀ i, i < len → ∃ w, p i w) : ∃ L : List Int, L.length = len ∧ ∀ i, i < len → p i (L.getD i 0) := by
  induction len with
  | zero => exact ⟨[], rfl, fun i hi => by omega⟩
  | succ n ih =>
    obtain ⟨ws, h1, h2⟩ := ih fun i hi => h i (by omega)
    obtain ⟨w, hw⟩ := h n (by omega)
    refine ⟨ws ++ [w], by simp [h1], fun i hi => ?_⟩
    by_cases e : i < n
    · rw [List.getD_eq_getElem?_getD, List.getElem?_append_left (by omega), ← List.getD_eq_getElem?_getD]; exact h2 i e
    · obtain rfl : i = n := by omega
      rw [List.getD_eq_getElem?_getD, List.getElem?_append_right (by omega)]
      simpa [h1] using hw
def intsAt (W : World) (v : Value) (L : List Int) : Prop := (v = .slice none 0 0 ∧ L = []) ∨ ∃ a c, v = .slice (some a) L.length c ∧ L.length ≤ c ∧ ∀ i, i < L.length → W.cell? (a.add i) = some (.int .i64 (L.getD i 0))
end
def renG2 (b off b1 off1 : Nat) : Ren := ⟨fun i => if i < GB then (if i = 0 then b else b1) else i - GB, fun i => if i < GB then (if i = 0 then off else off1) else 0, fun i => if i < GB then 0 else 0, fun _ => none⟩
theorem rel_ints {W : World} {v : Value} {L : List Int} (h : intsAt W v L) (b off : Nat) (h0 : ∃ c t z, W.heap[0]? = some (.cells c t z)) : ∃ b1 off1, BRel (renG2 b off b1 off1) 1 W (.ro (ints L)) ∧ conC (renG2 b off b1 off1) (.rs 1 0 L.length) v := by
  obtain ⟨c0, t0, z0, hh0⟩ := h0
  have nil : ∀ R : Ren, ∀ c o, L = [] → conL R (ints L) c o := fun R c o e i y hi => by rw [e] at hi; simp [ints] at hi
  rcases h with ⟨rfl, hL⟩ | ⟨a, cap, rfl, hcap, hcell⟩
  · exact ⟨0, 0, ⟨c0, t0, z0, hh0, nil _ _ _ hL⟩, .inr ⟨by rw [hL]; rfl, rfl⟩⟩
  · by_cases e0 : L.length = 0
    · exact ⟨0, 0, ⟨c0, t0, z0, hh0, nil _ _ _ (List.length_eq_zero_iff.1 e0)⟩, .inl ⟨a, cap, rfl, fun h => by omega, hcap⟩⟩
    · obtain ⟨c, t, z, hh, _⟩ := add_cell (hcell 0 (by omega))
      have hs : a.spot = none := by
        have h2 := hcell 0 (by omega)
        have e : a.add 0 = a := by simp [Addr.add]
        rw [e] at h2
        obtain ⟨_, _, _, _, h3, _⟩ := cell_inv h2
        exact h3
      have get : ∀ n v, W.cell? (a.add n) = some v → c[a.off + n]? = some v := fun n v h => by
        obtain ⟨c', t', z', hh', hv⟩ := add_cell h
        rw [hh] at hh'
        injection hh' with hh'
        injection hh' with e1 e2 e3
        rw [e1]; exact hv
      refine ⟨a.block, a.off, ⟨c, t, z, hh, conL_ints fun i hi => get _ _ (hcell i hi)⟩, .inl ⟨a, cap, rfl, fun _ => ?_, hcap⟩⟩
      obtain ⟨b', o, sp⟩ := a
      simp only at hs
      subst hs
      rfl
end Go.Proofs.YtfphkpdobbffeaaDoor
