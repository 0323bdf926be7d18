/-
  The reference's table of the fewest lamps. (Plain.)
-/
import Derived.Test.YtimknijehaamlaaDoorSwE1
set_option linter.unusedSimpArgs false
set_option linter.unusedVariables false
namespace Go.Proofs.YtimknijehaamlaaDoor
open Go Go.AH Go.Lin

/-- A table that is filled place by place. -/
def tabL (f : Nat → Int) (n i : Nat) : List Int := (List.range n).map fun j => if j < i then f j else 0
theorem tabL_len (f : Nat → Int) (n i : Nat) : (tabL f n i).length = n := by simp [tabL]
theorem tabL_zero (f : Nat → Int) (n : Nat) : tabL f n 0 = List.replicate n 0 := by
  apply List.ext_getElem <;> simp [tabL]
theorem tabL_succ (f : Nat → Int) (n i : Nat) : (tabL f n i).set i (f i) = tabL f n (i + 1) := by
  apply List.ext_getElem
  · simp [tabL]
  · intro j h1 h2
    simp only [tabL, List.getElem_map, List.getElem_range, List.getElem_set]
    by_cases e : i = j
    · subst e; simp
    · rw [if_neg e]
      have : (j < i + 1) = (j < i) := by apply propext; omega
      simp only [this]
theorem tabL_all (c : Int) (n : Nat) : tabL (fun _ => c) n n = List.replicate n c := by
  apply List.ext_getElem
  · simp [tabL]
  · intro j h1 h2
    have : j < n := by simpa [tabL] using h1
    simp [tabL, this]
/-- One set more. -/
def fewS (L : List Nat) (T : List Int) (s : Nat) : List Int := if T.getD (eff L s) 0 < 0 ∨ pop s < pop (T.getD (eff L s) 0).toNat then T.set (eff L s) s else T
def fewT (L : List Nat) (q k : Nat) : List Int := (List.range k).foldl (fewS L) (List.replicate q (-1))
theorem fewT_succ (L : List Nat) (q k : Nat) : fewT L q (k + 1) = fewS L (fewT L q k) k := by rw [fewT, List.range_succ, List.foldl_append]; rfl
theorem fewT_len (L : List Nat) (q k : Nat) : (fewT L q k).length = q := by
  induction k with
  | zero => simp [fewT]
  | succ k ih => rw [fewT_succ, fewS]; split <;> simp [ih]
theorem getD_setI {T : List Int} {i j : Nat} {v : Int} (hi : i < T.length) : (T.set i v).getD j 0 = if i = j then v else T.getD j 0 := by
  rw [List.getD_eq_getElem?_getD, List.getElem?_set]
  by_cases e : i = j
  · subst e; simp [hi]
  · simp [e, List.getD_eq_getElem?_getD]
/-- What stands in the table. -/
def FewAt (L : List Nat) (k t : Nat) (v : Int) : Prop := (v = -1 ∧ ∀ s, s < k → eff L s ≠ t) ∨ ∃ m : Nat, v = m ∧ Least pop (fun s => s < k ∧ eff L s = t) m
theorem fewT_at {L : List Nat} {q : Nat} (hL : ∀ x, eff L x < q) : ∀ k t, t < q → FewAt L k t ((fewT L q k).getD t 0)
  | 0, t, ht => .inl ⟨by simp [fewT, List.getD_eq_getElem?_getD, ht], fun s hs => by omega⟩
  | k + 1, t, ht => by
    have ih := fewT_at hL k t ht
    have hk := hL k
    have hl := fewT_len L q k
    rw [fewT_succ, fewS]
    by_cases e : eff L k = t
    · subst e
      generalize fewT L q k = T at *
      rcases ih with ⟨h1, h2⟩ | ⟨m, h1, h2⟩
      · rw [if_pos (.inl (by omega)), getD_setI (by omega), if_pos rfl]
        refine .inr ⟨k, rfl, ⟨by omega, rfl⟩, fun x hx => ?_⟩
        rw [lessB_iff]
        have : ¬ x < k := fun h => h2 x h hx.2
        have hx1 := hx.1
        have : x = k := by omega
        subst this; omega
      · have hm := h2.is
        rw [h1, Int.toNat_natCast]
        by_cases c : pop k < pop m
        · rw [if_pos (.inr c), getD_setI (by omega), if_pos rfl]
          refine .inr ⟨k, rfl, ⟨by omega, rfl⟩, fun x hx => ?_⟩
          rw [lessB_iff]
          by_cases hxk : x = k
          · subst hxk; omega
          · have h3 := h2.le x ⟨by have := hx.1; omega, hx.2⟩
            rw [lessB_iff] at h3
            omega
        · rw [if_neg (by omega), h1]
          refine .inr ⟨m, rfl, ⟨by have := hm.1; omega, hm.2⟩, fun x hx => ?_⟩
          by_cases hxk : x = k
          · subst hxk
            rw [lessB_iff]
            have := hm.1
            omega
          · exact h2.le x ⟨by have := hx.1; omega, hx.2⟩
    · have key : FewAt L (k + 1) t ((fewT L q k).getD t 0) := by
        rcases ih with ⟨h1, h2⟩ | ⟨m, h1, h2⟩
        · refine .inl ⟨h1, fun s hs h => ?_⟩
          by_cases hs2 : s = k
          · subst hs2; exact e h
          · exact h2 s (by omega) h
        · refine .inr ⟨m, h1, ⟨by have := h2.is.1; omega, h2.is.2⟩, fun x hx => ?_⟩
          by_cases hxk : x = k
          · subst hxk; exact absurd hx.2 e
          · exact h2.le x ⟨by have := hx.1; omega, hx.2⟩
      split
      · rw [getD_setI (by rw [hl]; exact hk), if_neg e]; exact key
      · exact key
theorem FewAt.range {L : List Nat} {k t : Nat} {v : Int} (h : FewAt L k t v) : -1 ≤ v ∧ v < (k : Int) + 1 ∧ v.toNat ≤ k := by
  rcases h with ⟨h, _⟩ | ⟨m, h, hm⟩
  · omega
  · have := hm.is.1; omega
/-- The table of the reference holds what the program says. -/
theorem few_law {n : Nat} {ws : List (Nat × Nat)} (h : Gr n ws) (own : Bool) {t : Nat} (ht : t < 2 ^ n) :
    ((solP (bsR n (openR n ws own)) t).2 = 0 → (fewT (nearL n ws own) (2 ^ n) (2 ^ n)).getD t 0 = (fewN n (openR n ws own) t : Nat) ∧ fewN n (openR n ws own) t < 2 ^ n) ∧
    (¬ (solP (bsR n (openR n ws own)) t).2 = 0 → (fewT (nearL n ws own) (2 ^ n) (2 ^ n)).getD t 0 = -1 ∧ fewN n (openR n ws own) t = 0) := by
  have hS := openR_Sym h own
  have hI := inv_all (openR n ws own) n hS.len
  have he : ∀ x, x < 2 ^ n → eff (nearL n ws own) x = eff (openR n ws own) x := fun x hx => eff_near h own hx
  have hq : ∀ x, eff (nearL n ws own) x < 2 ^ n := fun x => by
    unfold eff effX
    have : ∀ (is : List Nat) (a : Nat), a < 2 ^ n → is.foldl (fun a i => if x.testBit i then a ^^^ (nearL n ws own).getD i 0 else a) a < 2 ^ n := fun is => by
      induction is with
      | nil => exact fun _ h => h
      | cons i is ih =>
        intro a ha
        refine ih _ ?_
        show (if x.testBit i = true then a ^^^ (nearL n ws own).getD i 0 else a) < 2 ^ n
        split
        · exact Nat.xor_lt_two_pow ha (nearL_lt h own i)
        · exact ha
    exact this _ _ (Nat.two_pow_pos n)
  have hat := fewT_at hq (2 ^ n) t ht
  refine ⟨fun hz => ?_, fun hz => ?_⟩
  · have hf := hI.fewest hz pop
    have hfe : fewN n (openR n ws own) t = fewF pop (solP (bsR n (openR n ws own)) t).1 ((List.range (2 ^ (qsR n (openR n ws own)).length)).map (sumC (qsR n (openR n ws own)))) := by rw [fewN, if_pos hz]
    rw [hfe]
    rcases hat with ⟨_, h2⟩ | ⟨m, h1, h2⟩
    · exact absurd ((he _ hf.is.1).trans hf.is.2) (h2 _ hf.is.1)
    · have : m = fewF pop (solP (bsR n (openR n ws own)) t).1 ((List.range (2 ^ (qsR n (openR n ws own)).length)).map (sumC (qsR n (openR n ws own)))) :=
        Least.uniq h2 ⟨⟨hf.is.1, (he _ hf.is.1).trans hf.is.2⟩, fun x hx => hf.le x ⟨hx.1, (he x hx.1).symm.trans hx.2⟩⟩
      rw [← this]
      exact ⟨h1, h2.is.1⟩
  · refine ⟨?_, by rw [fewN, if_neg hz]⟩
    rcases hat with ⟨h1, _⟩ | ⟨m, h1, h2⟩
    · exact h1
    · have hr := hI.reach.2 ⟨m, h2.is.1, (he m h2.is.1).symm.trans h2.is.2⟩
      exact absurd ((hI.sol t).1.trans hr) hz
end Go.Proofs.YtimknijehaamlaaDoor
