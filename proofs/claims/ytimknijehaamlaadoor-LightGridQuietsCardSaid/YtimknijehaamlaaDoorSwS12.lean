/-
  The reference's elimination has the same rank. (Plain.)
-/
import Derived.Test.YtimknijehaamlaaDoorSwS11
set_option linter.unusedSimpArgs false
set_option linter.unusedVariables false
namespace Go.Proofs.YtimknijehaamlaaDoor
open Go Go.AH Go.Lin

/-- Row k is put in the place of the first one that is left, and added to the others that have the bit. -/
def swpL (rows : List Nat) (k r : Nat) : List Nat := (rows.set k (rows.getD r 0)).set r (rows.getD k 0)
def addW (c b r w : Nat) (L : List Nat) : List Nat := (List.range c).map fun j => if j ≠ r ∧ (L.getD j 0).testBit b = true then L.getD j 0 ^^^ w else L.getD j 0
def fndK (c b r : Nat) (rows : List Nat) : Option Nat := (List.range c).find? fun j => decide (r ≤ j) && (rows.getD j 0).testBit b
def elS (c b : Nat) (s : List Nat × Nat) : List Nat × Nat := match fndK c b s.2 s.1 with
  | none => s
  | some k => (addW c b s.2 (s.1.getD k 0) (swpL s.1 k s.2), s.2 + 1)
def elR (c : Nat) (rows : List Nat) : Nat → List Nat × Nat
  | 0 => (rows, 0)
  | b + 1 => elS c b (elR c rows b)
theorem nset_getD (L : List Nat) (i j v : Nat) (hi : i < L.length) : (L.set i v).getD j 0 = if i = j then v else L.getD j 0 := by
  rw [List.getD_eq_getElem?_getD, List.getElem?_set, List.getD_eq_getElem?_getD]
  by_cases e : i = j
  · rw [if_pos e, if_pos e, if_pos (by omega)]; rfl
  · rw [if_neg e, if_neg e]
theorem swpL_get {rows : List Nat} {k r : Nat} (hk : k < rows.length) (hr : r < rows.length) (j : Nat) : (swpL rows k r).getD j 0 = if j = r then rows.getD k 0 else if j = k then rows.getD r 0 else rows.getD j 0 := by
  unfold swpL
  rw [nset_getD _ _ _ _ (by rw [List.length_set]; exact hr)]
  by_cases e : r = j
  · rw [if_pos e, if_pos e.symm]
  · rw [if_neg e, if_neg (fun h => e h.symm), nset_getD _ _ _ _ hk]
    by_cases e2 : k = j
    · rw [if_pos e2, if_pos e2.symm]
    · rw [if_neg e2, if_neg (fun h => e2 h.symm)]
theorem addW_len (c b r w : Nat) (L : List Nat) : (addW c b r w L).length = c := by simp [addW]
theorem addW_get {c b r w : Nat} {L : List Nat} {j : Nat} (hj : j < c) : (addW c b r w L).getD j 0 = if j ≠ r ∧ (L.getD j 0).testBit b = true then L.getD j 0 ^^^ w else L.getD j 0 := by
  rw [addW, List.getD_eq_getElem?_getD, List.getElem?_map, List.getElem?_range hj]; rfl
theorem fndK_some {c b r k : Nat} {rows : List Nat} (h : fndK c b r rows = some k) : k < c ∧ r ≤ k ∧ (rows.getD k 0).testBit b = true := by
  have h1 := List.find?_some h
  have h2 := List.mem_range.1 (List.mem_of_find?_eq_some h)
  simp only [Bool.and_eq_true, decide_eq_true_eq] at h1
  exact ⟨h2, h1⟩
theorem fndK_none {c b r : Nat} {rows : List Nat} (h : fndK c b r rows = none) {j : Nat} (hj : j < c) (hr : r ≤ j) : (rows.getD j 0).testBit b = false := by
  have := List.find?_eq_none.1 h j (List.mem_range.2 hj)
  simp only [Bool.and_eq_true, decide_eq_true_eq, not_and, Bool.not_eq_true] at this
  exact this hr
/-- What holds on the way. -/
structure ElI (c : Nat) (s : List Nat × Nat) (ρ : Nat → Nat) : Prop where
  len : s.1.length = c
  lt : ∀ j, s.1.getD j 0 < 2 ^ 64
  lt2 : ∀ j, ρ j < 2 ^ 64
  sp : ∀ v, Sp (rowsG (fun j => s.1.getD j 0) s.2 c) v ↔ Sp (rowsG ρ 0 c) v
theorem ph_lt {b w x : Nat} (hw : w < 2 ^ 64) (hx : x < 2 ^ 64) : ph b w x < 2 ^ 64 := by
  unfold ph
  split
  · exact xor64 hx hw
  · exact hx
theorem el_step {c b : Nat} {s : List Nat × Nat} {ρ : Nat → Nat} (h : ElI c s ρ) (hb : b < 64) (f : Nat) : ∃ ρ', ElI c (elS c b s) ρ' ∧ prk c (f + 1) b (packL ρ c) s.2 = prk c f (b + 1) (packL ρ' c) (elS c b s).2 := by
  obtain ⟨rows, r⟩ := s
  obtain ⟨hl, hlt, hlt2, hsp⟩ := h
  dsimp only at hl hlt hsp ⊢
  unfold elS
  dsimp only
  cases e : fndK c b r rows with
  | none =>
    refine ⟨ρ, ⟨hl, hlt, hlt2, hsp⟩, prk_no hlt2 hb fun j hj => ?_⟩
    have h1 : Sp (rowsG ρ 0 c) (ρ j) := Sp.of ⟨j, by omega, hj, rfl⟩
    refine Sp_bit ?_ ((hsp _).2 h1)
    rintro x ⟨i, hi1, hi2, rfl⟩
    exact fndK_none e hi2 hi1
  | some k =>
    obtain ⟨hk, hrk, hkb⟩ := fndK_some e
    obtain ⟨j0, hj0, hj0b⟩ : ∃ j0, j0 < c ∧ (ρ j0).testBit b = true := by
      apply Classical.byContradiction
      intro hno
      have h1 : Sp (rowsG (fun j => rows.getD j 0) r c) (rows.getD k 0) := Sp.of ⟨k, hrk, hk, rfl⟩
      have h2 := Sp_bit (b := b) (fun x ⟨i, _, hi, hx⟩ => by
        rw [hx]
        cases e2 : (ρ i).testBit b
        · rfl
        · exact absurd ⟨i, hi, e2⟩ hno) ((hsp _).1 h1)
      rw [hkb] at h2; cases h2
    obtain ⟨w', ⟨jw, hjw, rfl⟩, hw'b, hprk⟩ := prk_yes (f := f) (k := r) hlt2 hb hj0 hj0b
    have hwl : rows.getD k 0 < 2 ^ 64 := hlt k
    obtain ⟨w, hw⟩ : ∃ w, w = rows.getD k 0 := ⟨_, rfl⟩
    have hsw := swpL_get (rows := rows) (k := k) (r := r) (by omega) (by omega)
    have hnew : ∀ j, j < c → (addW c b r w (swpL rows k r)).getD j 0 = if j = r then w else ph b w (if j = k then rows.getD r 0 else rows.getD j 0) := fun j hj => by
      rw [addW_get hj, hsw]
      by_cases e1 : j = r
      · rw [if_pos e1, if_neg (fun h => h.1 e1), if_pos e1, hw]
      · simp only [if_neg e1]
        unfold ph
        by_cases e2 : (if j = k then rows.getD r 0 else rows.getD j 0).testBit b = true
        · rw [if_pos ⟨e1, e2⟩, if_pos e2]
        · rw [if_neg (fun h => e2 h.2), if_neg e2]
    rw [← hw] at hkb hwl
    dsimp only
    rw [← hw]
    refine ⟨fun j => ph b (ρ jw) (ρ j), ⟨addW_len _ _ _ _ _, ?_, fun j => ph_lt (hlt2 jw) (hlt2 j), ?_⟩, hprk⟩
    · intro j
      dsimp only
      by_cases hj : j < c
      · rw [hnew j hj]
        split
        · exact hwl
        · refine ph_lt hwl ?_
          split
          · exact hlt r
          · exact hlt j
      · rw [List.getD_eq_getElem?_getD, List.getElem?_eq_none (by rw [addW_len]; omega)]
        exact Nat.two_pow_pos 64
    · intro v
      dsimp only
      have c1 := Sp_clear (G := rowsG (fun j => rows.getD j 0) r c) (G' := rowsG (fun j => (addW c b r w (swpL rows k r)).getD j 0) (r + 1) c) hkb ⟨k, hrk, hk, hw⟩ (fun x hx => by
        obtain ⟨j, hj1, hj2, rfl⟩ := hx
        by_cases e1 : j = k
        · subst e1
          dsimp only
          rw [← hw]
          unfold ph
          rw [if_pos hkb, Nat.xor_self]; exact Sp.zero
        · by_cases e2 : j = r
          · refine Sp.of ⟨k, by omega, hk, ?_⟩
            dsimp only
            rw [hnew k hk, if_neg (by omega), if_pos rfl, e2]
          · refine Sp.of ⟨j, by omega, hj2, ?_⟩
            dsimp only
            rw [hnew j hj2, if_neg e2, if_neg e1]) (fun x hx => by
        obtain ⟨j, hj1, hj2, rfl⟩ := hx
        dsimp only
        rw [hnew j hj2, if_neg (by omega)]
        by_cases e1 : j = k
        · exact ⟨rows.getD r 0, ⟨r, Nat.le_refl r, by omega, rfl⟩, by rw [if_pos e1]⟩
        · exact ⟨rows.getD j 0, ⟨j, by omega, hj2, rfl⟩, by rw [if_neg e1]⟩) v
      have c2 := Sp_clear (G := rowsG ρ 0 c) (G' := rowsG (fun j => ph b (ρ jw) (ρ j)) 0 c) hw'b ⟨jw, by omega, hjw, rfl⟩ (fun x hx => by
        obtain ⟨j, hj1, hj2, rfl⟩ := hx
        exact Sp.of ⟨j, hj1, hj2, rfl⟩) (fun x hx => by
        obtain ⟨j, hj1, hj2, rfl⟩ := hx
        exact ⟨ρ j, ⟨j, hj1, hj2, rfl⟩, rfl⟩) v
      rw [c1, c2, hsp]
theorem el_all {c : Nat} {rows : List Nat} (hc : c ≤ 60) (hl : rows.length = c) (hlt : ∀ j, rows.getD j 0 < 2 ^ 64) : ∀ b, b ≤ c → ∃ ρ, ElI c (elR c rows b) ρ ∧ prk c c 0 (packL (fun j => rows.getD j 0) c) 0 = prk c (c - b) b (packL ρ c) (elR c rows b).2
  | 0, _ => ⟨_, ⟨hl, hlt, hlt, fun v => Iff.rfl⟩, rfl⟩
  | b + 1, hb => by
    obtain ⟨ρ, h1, h2⟩ := el_all hc hl hlt b (by omega)
    obtain ⟨ρ', h3, h4⟩ := el_step h1 (b := b) (by omega) (c - (b + 1))
    rw [show c - (b + 1) + 1 = c - b by omega] at h4
    exact ⟨ρ', h3, h2.trans h4⟩
/-- The rank. -/
theorem el_rank {c : Nat} {rows : List Nat} (hc : c ≤ 60) (hl : rows.length = c) (hlt : ∀ j, rows.getD j 0 < 2 ^ 64) : (elR c rows c).2 = prk c c 0 (packL (fun j => rows.getD j 0) c) 0 := by
  obtain ⟨ρ, _, h⟩ := el_all hc hl hlt c (Nat.le_refl c)
  rw [h, Nat.sub_self]; rfl
end Go.Proofs.YtimknijehaamlaaDoor
