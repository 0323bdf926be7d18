/-
  Hardest: the program's table and the reference's. (Plain.)
-/
import Derived.Test.YtimknijehaamlaaDoorSwE5
import Derived.Test.YtimknijehaamlaaDoorSw6
set_option linter.unusedSimpArgs false
set_option linter.unusedVariables false
namespace Go.Proofs.YtimknijehaamlaaDoor
open Go Go.AH Go.Lin

theorem pop_pos {s : Nat} (h0 : 0 < s) (h : s < 65536) : 0 < pop s := by
  rw [pop, (memN_step h h0).1]; simp
theorem pop_zero : pop 0 = 0 := by rw [pop, memN_zero]; rfl
/-- One set more. -/
def hdS (R : List Nat) (F : List Nat) (s : Nat) : List Nat := if s ≠ 0 ∧ (F.getD (eff R s) 0 = 0 ∨ pop s < F.getD (eff R s) 0) then F.set (eff R s) (pop s) else F
def hdT (R : List Nat) (m k : Nat) : List Nat := (List.range k).foldl (hdS R) (List.replicate m 0)
theorem hdT_succ (R : List Nat) (m k : Nat) : hdT R m (k + 1) = hdS R (hdT R m k) k := by rw [hdT, List.range_succ, List.foldl_append]; rfl
theorem hdT_len (R : List Nat) (m k : Nat) : (hdT R m k).length = m := by
  induction k with
  | zero => simp [hdT]
  | succ k ih => rw [hdT_succ, hdS]; split <;> simp [ih]
theorem getD_setN {T : List Nat} {i j v : Nat} (hi : i < T.length) : (T.set i v).getD j 0 = if i = j then v else T.getD j 0 := by
  rw [List.getD_eq_getElem?_getD, List.getElem?_set]
  by_cases e : i = j
  · subst e; simp [hi]
  · simp [e, List.getD_eq_getElem?_getD]
def HdAt (R : List Nat) (k x v : Nat) : Prop := (v = 0 ∧ ∀ s, 0 < s → s < k → eff R s ≠ x) ∨ ∃ s, 0 < s ∧ s < k ∧ eff R s = x ∧ pop s = v ∧ 0 < v ∧ ∀ y, 0 < y → y < k → eff R y = x → v ≤ pop y
theorem hdT_at {R : List Nat} {q m : Nat} (hR : ∀ x, eff R x < q) (hm : q ≤ m) (hq : q ≤ 65536) : ∀ k, k ≤ q → ∀ x, x < m → HdAt R k x ((hdT R m k).getD x 0)
  | 0, _, x, hx => .inl ⟨by simp [hdT, List.getD_eq_getElem?_getD, hx], fun s _ hs => by omega⟩
  | k + 1, hk, x, hx => by
    have ih := hdT_at hR hm hq k (by omega) x hx
    have he := hR k
    have hl := hdT_len R m k
    rw [hdT_succ, hdS]
    by_cases e : eff R k = x
    · subst e
      by_cases k0 : k = 0
      · subst k0
        rw [if_neg (fun h => h.1 rfl)]
        exact .inl ⟨by simp [hdT, List.getD_eq_getElem?_getD, hx], fun s h1 h2 => by omega⟩
      · have pp := pop_pos (s := k) (by omega) (by omega)
        generalize hdT R m k = F at *
        rcases ih with ⟨h1, h2⟩ | ⟨s, s1, s2, s3, s4, s5, s6⟩
        · rw [if_pos ⟨k0, .inl h1⟩, getD_setN (by omega), if_pos rfl]
          refine .inr ⟨k, by omega, by omega, rfl, rfl, pp, fun y y1 y2 y3 => ?_⟩
          by_cases yk : y = k
          · rw [yk]; exact Nat.le_refl _
          · exact absurd y3 (h2 y y1 (by omega))
        · by_cases c : pop k < F.getD (eff R k) 0
          · rw [if_pos ⟨k0, .inr c⟩, getD_setN (by omega), if_pos rfl]
            refine .inr ⟨k, by omega, by omega, rfl, rfl, pp, fun y y1 y2 y3 => ?_⟩
            by_cases yk : y = k
            · rw [yk]; exact Nat.le_refl _
            · have := s6 y y1 (by omega) y3; omega
          · rw [if_neg (by omega)]
            refine .inr ⟨s, s1, by omega, s3, s4, s5, fun y y1 y2 y3 => ?_⟩
            by_cases yk : y = k
            · rw [yk]; omega
            · exact s6 y y1 (by omega) y3
    · have key : HdAt R (k + 1) x ((hdT R m k).getD x 0) := by
        rcases ih with ⟨h1, h2⟩ | ⟨s, s1, s2, s3, s4, s5, s6⟩
        · refine .inl ⟨h1, fun s a b h => ?_⟩
          by_cases sk : s = k
          · subst sk; exact e h
          · exact h2 s a (by omega) h
        · refine .inr ⟨s, s1, by omega, s3, s4, s5, fun y y1 y2 y3 => ?_⟩
          by_cases yk : y = k
          · subst yk; exact absurd y3 e
          · exact s6 y y1 (by omega) y3
      split
      · rw [getD_setN (by rw [hl]; omega), if_neg e]; exact key
      · exact key
/-- How many lamps a target needs, by the reference's table. -/
def gT (T : List Int) (t : Nat) : Nat := if T.getD t 0 < 0 then 0 else pop (T.getD t 0).toNat
theorem few_zero {L : List Nat} {q : Nat} {v : Int} (h : FewAt L q 0 v) (hq : 0 < q) : 0 ≤ v ∧ pop v.toNat = 0 := by
  rcases h with ⟨_, h2⟩ | ⟨m, h1, h2⟩
  · exact absurd (eff_zero L) (h2 0 hq)
  · have h3 := h2.le 0 ⟨hq, eff_zero L⟩
    rw [lessB_iff, pop_zero] at h3
    rw [h1, Int.toNat_natCast]
    exact ⟨by omega, by omega⟩
theorem hard_at {R L : List Nat} {q m : Nat} (hR : ∀ x, eff R x < q) (hL : ∀ x, eff L x < q) (he : ∀ x, x < q → eff L x = eff R x) (hm : q ≤ m) (hq : q ≤ 65536) (h0 : 0 < q) (x : Nat) (hx : x < m) :
    ((hdT R m q).set 0 0).getD x 0 = if x < q then gT (fewT L q q) x else 0 := by
  have hl := hdT_len R m q
  rw [getD_setN (by omega)]
  by_cases x0 : 0 = x
  · subst x0
    rw [if_pos rfl, if_pos h0, gT]
    obtain ⟨f1, f2⟩ := few_zero (fewT_at hL q 0 h0) h0
    rw [if_neg (by omega), f2]
  · rw [if_neg x0]
    have hd := hdT_at hR hm hq q (Nat.le_refl q) x hx
    by_cases xq : x < q
    · rw [if_pos xq, gT]
      have hf := fewT_at hL q x xq
      generalize (fewT L q q).getD x 0 = v at *
      generalize (hdT R m q).getD x 0 = w at *
      rcases hf with ⟨f1, f2⟩ | ⟨t, f1, f2⟩
      · rw [if_pos (by omega)]
        rcases hd with ⟨d1, _⟩ | ⟨s, s1, s2, s3, _⟩
        · exact d1
        · exact absurd ((he s s2).trans s3) (f2 s s2)
      · rw [if_neg (by omega), f1, Int.toNat_natCast]
        have t1 := f2.is.1
        have t2 : eff L t = x := f2.is.2
        have t0 : t ≠ 0 := fun e => by rw [e, eff_zero] at t2; exact x0 t2
        rcases hd with ⟨_, d2⟩ | ⟨s, s1, s2, s3, s4, s5, s6⟩
        · exact absurd ((he t t1).symm.trans t2) (d2 t (by omega) t1)
        · have a := s6 t (by omega) t1 ((he t t1).symm.trans t2)
          have b := f2.le s ⟨s2, (he s s2).trans s3⟩
          rw [lessB_iff] at b
          omega
    · rw [if_neg xq]
      rcases hd with ⟨d1, _⟩ | ⟨s, s1, s2, s3, _⟩
      · exact d1
      · have := hR s; omega
/-- The greatest of a list, and where it stands first. -/
def mxL (F : List Nat) (k : Nat) : Nat := (List.range k).foldl (fun m i => max m (F.getD i 0)) 0
theorem mxL_succ (F : List Nat) (k : Nat) : mxL F (k + 1) = max (mxL F k) (F.getD k 0) := by rw [mxL, List.range_succ, List.foldl_append]; rfl
theorem mxL_spec (F : List Nat) : ∀ k, (∀ i, i < k → F.getD i 0 ≤ mxL F k) ∧ (0 < k → ∃ i, i < k ∧ F.getD i 0 = mxL F k)
  | 0 => ⟨fun i h => by omega, fun h => by omega⟩
  | k + 1 => by
    obtain ⟨h1, h2⟩ := mxL_spec F k
    rw [mxL_succ]
    refine ⟨fun i hi => ?_, fun _ => ?_⟩
    · by_cases e : i = k
      · rw [e]; omega
      · have := h1 i (by omega); omega
    · by_cases c : mxL F k ≤ F.getD k 0
      · exact ⟨k, by omega, by omega⟩
      · by_cases k0 : 0 < k
        · obtain ⟨i, i1, i2⟩ := h2 k0
          exact ⟨i, by omega, by omega⟩
        · have : k = 0 := by omega
          subst this
          have : mxL F 0 = 0 := rfl
          omega
theorem hard_law {F : List Nat} {g : Nat → Nat} {q m : Nat} (hF : ∀ x, x < m → F.getD x 0 = if x < q then g x else 0) (h0 : 0 < q) (hm : q ≤ m) :
    mxL F m = g (amax g q) ∧ amax g q < q ∧ F.getD (amax g q) 0 = mxL F m ∧ ∀ j, j < amax g q → F.getD j 0 ≠ mxL F m := by
  obtain ⟨a0, a1, a2⟩ := amax_spec g q
  have aq : amax g q < q := by omega
  obtain ⟨m1, m2⟩ := mxL_spec F m
  obtain ⟨i, i1, i2⟩ := m2 (by omega)
  have e1 : F.getD (amax g q) 0 = g (amax g q) := by rw [hF _ (by omega), if_pos aq]
  have le1 : g (amax g q) ≤ mxL F m := by rw [← e1]; exact m1 _ (by omega)
  have le2 : mxL F m ≤ g (amax g q) := by
    rw [← i2, hF i i1]
    split
    · rename_i c; exact a1 i c
    · exact Nat.zero_le _
  refine ⟨by omega, aq, by omega, fun j hj => ?_⟩
  rw [hF j (by omega), if_pos (by omega)]
  have := a2 j hj
  omega
end Go.Proofs.YtimknijehaamlaaDoor
