/-
  Contracts: a list of wires as a set, by the program and by the reference.
-/
import Derived.Test.YtfphkpdobbffeaaDoorSw5
import Derived.Laws.RangeString
import Derived.Test.YtfphkpdobbffeaaDoorAh5
set_option linter.unusedSimpArgs false
set_option linter.unusedVariables false
namespace Go.Proofs.YtfphkpdobbffeaaDoor
open Go Go.AH
set_option maxRecDepth 100000
set_option maxHeartbeats 1000000

/-- The first elements rise, and are wires. -/
def risTo (n : Nat) (L : List Int) : Nat → Bool
  | 0 => true
  | i + 1 => risTo n L i && (decide (0 ≤ L.getD i 0) && (decide (L.getD i 0 < n) && (decide (i = 0) || decide (L.getD (i - 1) 0 < L.getD i 0))))
theorem risTo_succ (n : Nat) (L : List Int) (i : Nat) : risTo n L (i + 1) = true ↔ risTo n L i = true ∧ 0 ≤ L.getD i 0 ∧ L.getD i 0 < n ∧ (i = 0 ∨ L.getD (i - 1) 0 < L.getD i 0) := by
  simp [risTo]
theorem risTo_up {n : Nat} {L : List Int} {i : Nat} (h : risTo n L i = false) : ∀ j, i ≤ j → risTo n L j = false := by
  intro j hj
  induction j with
  | zero => obtain rfl : i = 0 := by omega
            exact h
  | succ j ih =>
    by_cases e : i = j + 1
    · exact e ▸ h
    · rw [risTo, ih (by omega)]; rfl
def setToL (L : List Int) : Nat → Nat
  | 0 => 0
  | i + 1 => setToL L i ||| 2 ^ (L.getD i 0).toNat
theorem setToL_lt {n : Nat} {L : List Int} : ∀ i, risTo n L i = true → setToL L i < 2 ^ n
  | 0, _ => Nat.pow_pos (by omega)
  | i + 1, h => by
    obtain ⟨h1, h2, h3, _⟩ := (risTo_succ n L i).1 h
    exact or_lt (setToL_lt i h1) ((Nat.pow_lt_pow_iff_right (by omega)).2 (by omega))
def lastOf (L : List Int) (i : Nat) : Int := if i = 0 then -1 else L.getD (i - 1) 0
theorem set_spec {g : Gm} (hg : g.ok) (L : List Int) (hL : L.length ≤ 1000) : FDet Tryd.prog 97 [.g (gC g 0), .c (.rs 1 0 L.length)] [(0, wB g), (1, .ro (ints L))] 2
    (.t [.c (.int .i64 (cond (risTo g.ws.length L L.length) (setToL L L.length) 0 : Nat)), .c (.bool (risTo g.ws.length L L.length))]) [] 2 := by
  have hgl := hg.len
  refine FSpec.of_body tok true Tryd.func97 rfl (by kernel_rfl) (by decide) (by simp [tupA, hpLt, tmLt, AV.lt, AE.lt, AC.lt, LL_cons, LL_nil, idOk, ABlk.lt, ints_LL, GB, tab64_LL, gC, wB, giC, noneB, gst, tC, pC]) (by simp [tupA, hpLt, tmLt, AV.lt, AE.lt, AC.lt, LL_cons, LL_nil, idOk, ABlk.lt, ints_LL, GB, tab64_LL, gC, wB, giC, noneB, gst, tC, pC]) (by show 2 ≤ _; decide) ?_
  (conv => whnf); (repeat ((first | (refine ⟨rfl, ?_⟩) | (refine ⟨trivial, ?_⟩) | (refine Wk.yes ?_) | (refine Wk.no ?_) | (refine Wk.and ?_)); (conv => whnf)))
  refine Tr.loop (md := true) (X := Nat) (st := fun i => ⟨[(2, .c (.ptr 2 0)), (10, .c (.rs 1 0 L.length)), (11, .c (.int .i64 L.length)), (12, .c (.int .i64 i)), (6, .c (.int .i64 (setToL L i))), (7, .c (.int .i64 (lastOf L i)))], [(2, .own (gC g 0)), (0, wB g), (1, .ro (ints L))], 3, 34, 2⟩) (inv := fun i => i ≤ L.length ∧ risTo g.ws.length L i = true) (μ := fun i => L.length - i) (x0 := 0) (l := []) tok ⟨Nat.zero_le _, rfl⟩ ?_ ?_
  · exact Sub.nil ⟨rfl, rfl, (by simp [tab64_LL, gC, wB, giC, noneB, gst, tC, pC]), rfl, (by simp [tupA, hpLt, tmLt, AV.lt, AE.lt, AC.lt, LL_cons, LL_nil, idOk, ABlk.lt, ints_LL, GB, tab64_LL, gC, wB, giC, noneB, gst, tC, pC]), (by simp [tupA, hpLt, tmLt, AV.lt, AE.lt, AC.lt, LL_cons, LL_nil, idOk, ABlk.lt, ints_LL, GB, tab64_LL, gC, wB, giC, noneB, gst, tC, pC])⟩ (by (repeat (first | exact trivial | refine ⟨trivial, ?_⟩ | refine ⟨rfl, ?_⟩))) (by (repeat (first | exact trivial | refine ⟨trivial, ?_⟩ | refine ⟨rfl, ?_⟩)))
  · rintro i ⟨hi, hr⟩
    have hsl := setToL_lt i hr
    have hlow : -1 ≤ lastOf L i := by
      unfold lastOf
      split
      · omega
      · obtain ⟨j, rfl⟩ : ∃ j, i = j + 1 := ⟨i - 1, by omega⟩
        have := ((risTo_succ _ L j).1 hr).2.1
        rw [Nat.add_sub_cancel]; omega
    by_cases hil : i < L.length
    · have hnx := risTo_succ g.ws.length L i
      have hla : lastOf L (i + 1) = L.getD i 0 := by simp [lastOf]
      have hss : setToL L (i + 1) = setToL L i ||| 2 ^ (L.getD i 0).toNat := rfl
      have hat : (ints L).getD (0 + (i : Int).toNat * 1) (.int .i64 0) = .int .i64 (L.getD i 0) := by rw [ints_getD, Int.toNat_natCast, Nat.mul_one, Nat.zero_add]
      have hfail : ¬ (lastOf L i < L.getD i 0 ∧ L.getD i 0 < g.ws.length) → risTo g.ws.length L L.length = false := fun h => by
        refine risTo_up (i := i + 1) ?_ _ (by omega)
        cases hq : risTo g.ws.length L (i + 1) with
        | false => rfl
        | true =>
          obtain ⟨_, h2, h3, h4⟩ := hnx.1 hq
          refine absurd ⟨?_, h3⟩ h
          unfold lastOf
          split
          · omega
          · rcases h4 with h4 | h4
            · omega
            · exact h4
      have hgo : lastOf L i < L.getD i 0 → L.getD i 0 < g.ws.length → risTo g.ws.length L (i + 1) = true := fun h1 h2 => by
        refine hnx.2 ⟨hr, by omega, h2, ?_⟩
        unfold lastOf at h1
        split at h1
        · exact .inl (by assumption)
        · exact .inr h1
      (conv => whnf); (repeat ((first | (refine ⟨rfl, ?_⟩) | (refine ⟨trivial, ?_⟩) | (refine Wk.yes ?_) | (refine Wk.no ?_) | (refine Wk.and ?_)); (conv => whnf)))
      rw [decide_eq_true (show ((i : Nat) : Int) < ((L.length : Nat) : Int) by omega)]
      (conv => whnf); (repeat ((first | (refine ⟨rfl, ?_⟩) | (refine ⟨trivial, ?_⟩) | (refine Wk.yes ?_) | (refine Wk.no ?_) | (refine Wk.and ?_)); (conv => whnf)))
      refine ⟨by rw [ints_len, Int.toNat_natCast]; omega, ?_⟩
      rw [hat]
      generalize hc : L.getD i 0 = c at *
      (conv => whnf); (repeat ((first | (refine ⟨rfl, ?_⟩) | (refine ⟨trivial, ?_⟩) | (refine Wk.yes ?_) | (refine Wk.no ?_) | (refine Wk.and ?_)); (conv => whnf)))
      by_cases c1 : c ≤ lastOf L i
      · have hf := hfail (by omega)
        rw [hf, decide_eq_true c1]
        (conv => whnf); (repeat ((first | (refine ⟨rfl, ?_⟩) | (refine ⟨trivial, ?_⟩) | (refine Wk.yes ?_) | (refine Wk.no ?_) | (refine Wk.and ?_)); (conv => whnf)))
        exact AH.Fin.nil [] ⟨rfl, rfl, rfl⟩ (by first | exact trivial | (simp [tupA, hpLt, tmLt, AV.lt, AE.lt, AC.lt, LL_cons, LL_nil, idOk, ABlk.lt, ints_LL, GB, tab64_LL, gC, wB, giC, noneB, gst, tC, pC]; done) | (simp [tupA, hpLt, tmLt, AV.lt, AE.lt, AC.lt, LL_cons, LL_nil, idOk, ABlk.lt, ints_LL, GB, tab64_LL, gC, wB, giC, noneB, gst, tC, pC, rdn, wrn]; done)) trivial trivial rfl (by simp [GB])
      rw [decide_eq_false c1]
      (conv => whnf); (repeat ((first | (refine ⟨rfl, ?_⟩) | (refine ⟨trivial, ?_⟩) | (refine Wk.yes ?_) | (refine Wk.no ?_) | (refine Wk.and ?_)); (conv => whnf)))
      by_cases c2 : (g.ws.length : Int) ≤ c
      · have hf := hfail (by omega)
        rw [hf, decide_eq_true c2]
        (conv => whnf); (repeat ((first | (refine ⟨rfl, ?_⟩) | (refine ⟨trivial, ?_⟩) | (refine Wk.yes ?_) | (refine Wk.no ?_) | (refine Wk.and ?_)); (conv => whnf)))
        exact AH.Fin.nil [] ⟨rfl, rfl, rfl⟩ (by first | exact trivial | (simp [tupA, hpLt, tmLt, AV.lt, AE.lt, AC.lt, LL_cons, LL_nil, idOk, ABlk.lt, ints_LL, GB, tab64_LL, gC, wB, giC, noneB, gst, tC, pC]; done) | (simp [tupA, hpLt, tmLt, AV.lt, AE.lt, AC.lt, LL_cons, LL_nil, idOk, ABlk.lt, ints_LL, GB, tab64_LL, gC, wB, giC, noneB, gst, tC, pC, rdn, wrn]; done)) trivial trivial rfl (by simp [GB])
      rw [decide_eq_false c2]
      have hgo2 := hgo (by omega) (by omega)
      obtain ⟨w, rfl⟩ : ∃ w : Nat, c = w := ⟨c.toNat, by omega⟩
      obtain ⟨q, hq⟩ : ∃ q, q = 2 ^ w := ⟨_, rfl⟩
      have hpi : q < 2048 := hq ▸ pow_small (by omega)
      have hp2 : 2 ^ g.ws.length ≤ 1024 := Nat.pow_le_pow_right (by omega) hgl
      rw [Int.toNat_natCast, ← hq] at hss
      (conv => whnf); (repeat ((first | (refine ⟨rfl, ?_⟩) | (refine ⟨trivial, ?_⟩) | (refine Wk.yes ?_) | (refine Wk.no ?_) | (refine Wk.and ?_)); (conv => whnf)))
      rw [wrapU (by omega)]
      refine ⟨⟨by omega, by omega, by rw [shl1 hq]; unfold I64; omega⟩, ?_⟩
      rw [shl1 hq]
      (conv => whnf); (repeat ((first | (refine ⟨rfl, ?_⟩) | (refine ⟨trivial, ?_⟩) | (refine Wk.yes ?_) | (refine Wk.no ?_) | (refine Wk.and ?_)); (conv => whnf)))
      refine Again.mk (i + 1) (Sub.nil ⟨rfl, rfl, (by simp [tab64_LL, gC, wB, giC, noneB, gst, tC, pC]), rfl, (by simp [tupA, hpLt, tmLt, AV.lt, AE.lt, AC.lt, LL_cons, LL_nil, idOk, ABlk.lt, ints_LL, GB, tab64_LL, gC, wB, giC, noneB, gst, tC, pC]), (by simp [tupA, hpLt, tmLt, AV.lt, AE.lt, AC.lt, LL_cons, LL_nil, idOk, ABlk.lt, ints_LL, GB, tab64_LL, gC, wB, giC, noneB, gst, tC, pC])⟩ ⟨rfl, rfl, rfl, rfl, by rw [hss]; rfl, by rw [hla]; rfl, trivial⟩ (by (repeat (first | exact trivial | refine ⟨trivial, ?_⟩ | refine ⟨rfl, ?_⟩)))) ⟨by omega, hgo2⟩ (by omega)
    · obtain rfl : i = L.length := by omega
      rw [hr]
      (conv => whnf); (repeat ((first | (refine ⟨rfl, ?_⟩) | (refine ⟨trivial, ?_⟩) | (refine Wk.yes ?_) | (refine Wk.no ?_) | (refine Wk.and ?_)); (conv => whnf)))
      rw [decide_eq_false (show ¬ ((L.length : Nat) : Int) < ((L.length : Nat) : Int) by omega)]
      intro _
      (conv => whnf); (repeat ((first | (refine ⟨rfl, ?_⟩) | (refine ⟨trivial, ?_⟩) | (refine Wk.yes ?_) | (refine Wk.no ?_) | (refine Wk.and ?_)); (conv => whnf)))
      exact AH.Fin.nil [] ⟨rfl, rfl, rfl⟩ (by first | exact trivial | (simp [tupA, hpLt, tmLt, AV.lt, AE.lt, AC.lt, LL_cons, LL_nil, idOk, ABlk.lt, ints_LL, GB, tab64_LL, gC, wB, giC, noneB, gst, tC, pC]; done) | (simp [tupA, hpLt, tmLt, AV.lt, AE.lt, AC.lt, LL_cons, LL_nil, idOk, ABlk.lt, ints_LL, GB, tab64_LL, gC, wB, giC, noneB, gst, tC, pC, rdn, wrn]; done)) trivial trivial rfl (by simp [GB])
theorem setR_spec {g : Gm} (hg : g.ok) (L : List Int) (hL : L.length ≤ 1000) : FDet Tryd.prog 71 [.g (gC g 0), .c (.rs 1 0 L.length)] [(0, wB g), (1, .ro (ints L))] 2
    (.t [.c (.int .i64 (cond (risTo g.ws.length L L.length) (setToL L L.length) 0 : Nat)), .c (.bool (risTo g.ws.length L L.length))]) [] 2 := by
  have hgl := hg.len
  refine FSpec.of_body tok true Tryd.func71 rfl (by kernel_rfl) (by decide) (by simp [tupA, hpLt, tmLt, AV.lt, AE.lt, AC.lt, LL_cons, LL_nil, idOk, ABlk.lt, ints_LL, GB, tab64_LL, gC, wB, giC, noneB, gst, tC, pC]) (by simp [tupA, hpLt, tmLt, AV.lt, AE.lt, AC.lt, LL_cons, LL_nil, idOk, ABlk.lt, ints_LL, GB, tab64_LL, gC, wB, giC, noneB, gst, tC, pC]) (by show 2 ≤ _; decide) ?_
  (conv => whnf); (repeat ((first | (refine ⟨rfl, ?_⟩) | (refine ⟨trivial, ?_⟩) | (refine Wk.yes ?_) | (refine Wk.no ?_) | (refine Wk.and ?_)); (conv => whnf)))
  refine Tr.loop (md := true) (X := Nat) (st := fun i => ⟨[(1, .c (.rs 1 0 L.length)), (2, .c (.ptr 2 0)), (6, .c (.int .i64 (setToL L i))), (7, .c (.int .i64 i))], [(2, .own (gC g 0)), (0, wB g), (1, .ro (ints L))], 3, 53, 2⟩) (inv := fun i => i ≤ L.length ∧ risTo g.ws.length L i = true) (μ := fun i => L.length - i) (x0 := 0) (l := []) tok ⟨Nat.zero_le _, rfl⟩ ?_ ?_
  · exact Sub.nil ⟨rfl, rfl, (by simp [tab64_LL, gC, wB, giC, noneB, gst, tC, pC]), rfl, (by simp [tupA, hpLt, tmLt, AV.lt, AE.lt, AC.lt, LL_cons, LL_nil, idOk, ABlk.lt, ints_LL, GB, tab64_LL, gC, wB, giC, noneB, gst, tC, pC]), (by simp [tupA, hpLt, tmLt, AV.lt, AE.lt, AC.lt, LL_cons, LL_nil, idOk, ABlk.lt, ints_LL, GB, tab64_LL, gC, wB, giC, noneB, gst, tC, pC])⟩ (by (repeat (first | exact trivial | refine ⟨trivial, ?_⟩ | refine ⟨rfl, ?_⟩))) (by (repeat (first | exact trivial | refine ⟨trivial, ?_⟩ | refine ⟨rfl, ?_⟩)))
  · rintro i ⟨hi, hr⟩
    have hsl := setToL_lt i hr
    by_cases hil : i < L.length
    · have hnx := risTo_succ g.ws.length L i
      have hss : setToL L (i + 1) = setToL L i ||| 2 ^ (L.getD i 0).toNat := rfl
      have hat : (ints L).getD (0 + (i : Int).toNat * 1) (.int .i64 0) = .int .i64 (L.getD i 0) := by rw [ints_getD, Int.toNat_natCast, Nat.mul_one, Nat.zero_add]
      have hfail : ¬ (0 ≤ L.getD i 0 ∧ L.getD i 0 < g.ws.length ∧ (i = 0 ∨ L.getD (i - 1) 0 < L.getD i 0)) → risTo g.ws.length L L.length = false := fun h => by
        refine risTo_up (i := i + 1) ?_ _ (by omega)
        cases hq : risTo g.ws.length L (i + 1) with
        | false => rfl
        | true => exact absurd (hnx.1 hq).2 h
      have hgo : 0 ≤ L.getD i 0 → L.getD i 0 < g.ws.length → (i = 0 ∨ L.getD (i - 1) 0 < L.getD i 0) → risTo g.ws.length L (i + 1) = true := fun h1 h2 h3 => hnx.2 ⟨hr, h1, h2, h3⟩
      have hat2 : 0 < i → (ints L).getD (0 + ((i : Int) - 1).toNat * 1) (.int .i64 0) = .int .i64 (L.getD (i - 1) 0) := fun h => by rw [ints_getD, show ((i : Int) - 1).toNat = i - 1 by omega, Nat.mul_one, Nat.zero_add]
      (conv => whnf); (repeat ((first | (refine ⟨rfl, ?_⟩) | (refine ⟨trivial, ?_⟩) | (refine Wk.yes ?_) | (refine Wk.no ?_) | (refine Wk.and ?_)); (conv => whnf)))
      rw [decide_eq_true (show ((i : Nat) : Int) < ((L.length : Nat) : Int) by omega)]
      (conv => whnf); (repeat ((first | (refine ⟨rfl, ?_⟩) | (refine ⟨trivial, ?_⟩) | (refine Wk.yes ?_) | (refine Wk.no ?_) | (refine Wk.and ?_)); (conv => whnf)))
      refine Tr.draw (md := true) [⟨[], [15], [], [], []⟩, ⟨[], [14], [0], [], []⟩, ⟨[0, 1], [], [], [], []⟩, ⟨[0, 1, 2], [], [], [], []⟩, ⟨[0, 1, 2, 3], [], [], [], []⟩, ⟨[0, 1, 2, 3, 4], [], [], [], []⟩, ⟨[0, 1, 2, 3, 4, 5], [21, 24, 25, 26], [], [], []⟩, ⟨[0, 1, 2, 3, 4, 5], [20, 24, 25, 26], [6], [], []⟩, ⟨[0, 1, 2, 3, 4, 5, 6, 7], [24, 25, 26], [], [], []⟩, ⟨[0, 1, 2, 3, 4, 5, 6, 7, 8], [24, 25, 26], [], [], []⟩, ⟨[0, 1, 2, 3, 4, 5], [20, 21, 22, 23], [6, 7, 8, 9], [], []⟩, ⟨[0, 1, 2, 3, 4, 5, 10], [20, 21, 22, 23], [6, 7, 8, 9], [], []⟩, ⟨[0, 1, 2, 3, 4, 5, 10, 11], [20, 21, 22, 23], [6, 7, 8, 9], [], []⟩, ⟨[0, 1, 2, 3, 4, 5, 6, 7, 8, 9, 10, 11, 12], [], [], [], []⟩, ⟨[0, 1, 2, 3, 4, 5, 6, 7, 8, 9, 10, 11, 12, 13], [], [], [], []⟩, ⟨[0, 1, 2, 3, 4, 5, 6, 7, 8, 9, 10, 11, 12, 13, 14], [], [], [], []⟩, ⟨[0, 1, 2, 3, 4, 5, 6, 7, 8, 9, 10, 11, 12, 13, 14, 15], [], [], [], []⟩, ⟨[0, 1, 2, 3, 4, 5, 6, 7, 8, 9, 10, 11, 12, 13, 14, 15, 16], [], [], [], []⟩, ⟨[0, 1, 2, 3, 4, 5, 6, 7, 8, 9, 10, 11, 12, 13, 14, 15, 16, 17], [], [], [], []⟩, ⟨[0, 1, 2, 3, 4, 5, 6, 7, 8, 9, 10, 11, 12, 13, 14, 15, 16, 17, 18], [34, 35, 38, 39, 40, 41], [], [], []⟩, ⟨[0, 1, 2, 3, 4, 5, 6, 7, 8, 9, 10, 11, 12, 13, 14, 15, 16, 17, 18], [33, 38, 39, 40, 41], [19], [], []⟩, ⟨[0, 1, 2, 3, 4, 5, 6, 7, 8, 9, 10, 11, 12, 13, 14, 15, 16, 17, 18, 20], [33, 38, 39, 40, 41], [19], [], []⟩, ⟨[0, 1, 2, 3, 4, 5, 6, 7, 8, 9, 10, 11, 12, 13, 14, 15, 16, 17, 18, 19, 20, 21], [38, 39, 40, 41], [], [], []⟩, ⟨[0, 1, 2, 3, 4, 5, 6, 7, 8, 9, 10, 11, 12, 13, 14, 15, 16, 17, 18, 19, 20, 21, 22], [38, 39, 40, 41], [], [], []⟩, ⟨[0, 1, 2, 3, 4, 5, 6, 7, 8, 9, 10, 11, 12, 13, 14, 15, 16, 17, 18], [33, 34, 35, 36, 37, 39], [19, 20, 21, 22, 23], [], []⟩, ⟨[0, 1, 2, 3, 4, 5, 6, 7, 8, 9, 10, 11, 12, 13, 14, 15, 16, 17, 18], [33, 34, 35, 36, 37, 38], [19, 20, 21, 22, 23, 24], [], []⟩, ⟨[0, 1, 2, 3, 4, 5, 6, 7, 8, 9, 10, 11, 12, 13, 14, 15, 16, 17, 18, 24, 25], [33, 34, 35, 36, 37], [19, 20, 21, 22, 23], [], []⟩, ⟨[0, 1, 2, 3, 4, 5, 6, 7, 8, 9, 10, 11, 12, 13, 14, 15, 16, 17, 18, 24, 25, 26], [33, 34, 35, 36, 37], [19, 20, 21, 22, 23], [], []⟩] tok (by kernel_rfl) (by kernel_rfl) ?_
      (conv => whnf); (repeat ((first | (refine ⟨rfl, ?_⟩) | (refine ⟨trivial, ?_⟩) | (refine Wk.yes ?_) | (refine Wk.no ?_) | (refine Wk.and ?_)); (conv => whnf)))
      refine ⟨by rw [ints_len, Int.toNat_natCast]; omega, ?_⟩
      rw [hat]
      generalize hc : L.getD i 0 = c at *
      generalize hc' : L.getD (i - 1) 0 = c' at *
      (conv => whnf); (repeat ((first | (refine ⟨rfl, ?_⟩) | (refine ⟨trivial, ?_⟩) | (refine Wk.yes ?_) | (refine Wk.no ?_) | (refine Wk.and ?_)); (conv => whnf)))
      by_cases c1 : c < 0
      · have hf := hfail (by omega)
        rw [hf, decide_eq_true c1]
        (conv => whnf); (repeat ((first | (refine ⟨rfl, ?_⟩) | (refine ⟨trivial, ?_⟩) | (refine Wk.yes ?_) | (refine Wk.no ?_) | (refine Wk.and ?_)); (conv => whnf)))
        exact AH.Fin.nil [] ⟨rfl, rfl, rfl⟩ (by first | exact trivial | (simp [tupA, hpLt, tmLt, AV.lt, AE.lt, AC.lt, LL_cons, LL_nil, idOk, ABlk.lt, ints_LL, GB, tab64_LL, gC, wB, giC, noneB, gst, tC, pC]; done) | (simp [tupA, hpLt, tmLt, AV.lt, AE.lt, AC.lt, LL_cons, LL_nil, idOk, ABlk.lt, ints_LL, GB, tab64_LL, gC, wB, giC, noneB, gst, tC, pC, rdn, wrn]; done)) trivial trivial rfl (by simp [GB])
      rw [decide_eq_false c1]
      (conv => whnf); (repeat ((first | (refine ⟨rfl, ?_⟩) | (refine ⟨trivial, ?_⟩) | (refine Wk.yes ?_) | (refine Wk.no ?_) | (refine Wk.and ?_)); (conv => whnf)))
      refine ⟨by rw [ints_len, Int.toNat_natCast]; omega, ?_⟩
      rw [hat]
      (conv => whnf); (repeat ((first | (refine ⟨rfl, ?_⟩) | (refine ⟨trivial, ?_⟩) | (refine Wk.yes ?_) | (refine Wk.no ?_) | (refine Wk.and ?_)); (conv => whnf)))
      by_cases c2 : (g.ws.length : Int) ≤ c
      · have hf := hfail (by omega)
        rw [hf, decide_eq_true c2]
        (conv => whnf); (repeat ((first | (refine ⟨rfl, ?_⟩) | (refine ⟨trivial, ?_⟩) | (refine Wk.yes ?_) | (refine Wk.no ?_) | (refine Wk.and ?_)); (conv => whnf)))
        exact AH.Fin.nil [] ⟨rfl, rfl, rfl⟩ (by first | exact trivial | (simp [tupA, hpLt, tmLt, AV.lt, AE.lt, AC.lt, LL_cons, LL_nil, idOk, ABlk.lt, ints_LL, GB, tab64_LL, gC, wB, giC, noneB, gst, tC, pC]; done) | (simp [tupA, hpLt, tmLt, AV.lt, AE.lt, AC.lt, LL_cons, LL_nil, idOk, ABlk.lt, ints_LL, GB, tab64_LL, gC, wB, giC, noneB, gst, tC, pC, rdn, wrn]; done)) trivial trivial rfl (by simp [GB])
      rw [decide_eq_false c2]
      (conv => whnf); (repeat ((first | (refine ⟨rfl, ?_⟩) | (refine ⟨trivial, ?_⟩) | (refine Wk.yes ?_) | (refine Wk.no ?_) | (refine Wk.and ?_)); (conv => whnf)))
      by_cases c3 : 0 < i
      · rw [decide_eq_true (show (0 : Int) < ((i : Nat) : Int) by omega)]
        (conv => whnf); (repeat ((first | (refine ⟨rfl, ?_⟩) | (refine ⟨trivial, ?_⟩) | (refine Wk.yes ?_) | (refine Wk.no ?_) | (refine Wk.and ?_)); (conv => whnf)))
        refine ⟨by rw [ints_len]; omega, ?_⟩
        rw [hat2 c3]
        (conv => whnf); (repeat ((first | (refine ⟨rfl, ?_⟩) | (refine ⟨trivial, ?_⟩) | (refine Wk.yes ?_) | (refine Wk.no ?_) | (refine Wk.and ?_)); (conv => whnf)))
        refine ⟨by rw [ints_len, Int.toNat_natCast]; omega, ?_⟩
        rw [hat]
        (conv => whnf); (repeat ((first | (refine ⟨rfl, ?_⟩) | (refine ⟨trivial, ?_⟩) | (refine Wk.yes ?_) | (refine Wk.no ?_) | (refine Wk.and ?_)); (conv => whnf)))
        by_cases c4 : c ≤ c'
        · have hf := hfail (by omega)
          rw [hf, decide_eq_true c4]
          (conv => whnf); (repeat ((first | (refine ⟨rfl, ?_⟩) | (refine ⟨trivial, ?_⟩) | (refine Wk.yes ?_) | (refine Wk.no ?_) | (refine Wk.and ?_)); (conv => whnf)))
          exact AH.Fin.nil [] ⟨rfl, rfl, rfl⟩ (by first | exact trivial | (simp [tupA, hpLt, tmLt, AV.lt, AE.lt, AC.lt, LL_cons, LL_nil, idOk, ABlk.lt, ints_LL, GB, tab64_LL, gC, wB, giC, noneB, gst, tC, pC]; done) | (simp [tupA, hpLt, tmLt, AV.lt, AE.lt, AC.lt, LL_cons, LL_nil, idOk, ABlk.lt, ints_LL, GB, tab64_LL, gC, wB, giC, noneB, gst, tC, pC, rdn, wrn]; done)) trivial trivial rfl (by simp [GB])
        rw [decide_eq_false c4]
        have hgo2 := hgo (by omega) (by omega) (.inr (by omega))
        obtain ⟨w, rfl⟩ : ∃ w : Nat, c = w := ⟨c.toNat, by omega⟩
        obtain ⟨q, hq⟩ : ∃ q, q = 2 ^ w := ⟨_, rfl⟩
        have hpi : q < 2048 := hq ▸ pow_small (by omega)
        have hp2 : 2 ^ g.ws.length ≤ 1024 := Nat.pow_le_pow_right (by omega) hgl
        rw [Int.toNat_natCast, ← hq] at hss
        (conv => whnf); (repeat ((first | (refine ⟨rfl, ?_⟩) | (refine ⟨trivial, ?_⟩) | (refine Wk.yes ?_) | (refine Wk.no ?_) | (refine Wk.and ?_)); (conv => whnf)))
        refine ⟨by rw [ints_len, Int.toNat_natCast]; omega, ?_⟩
        rw [hat]
        (conv => whnf); (repeat ((first | (refine ⟨rfl, ?_⟩) | (refine ⟨trivial, ?_⟩) | (refine Wk.yes ?_) | (refine Wk.no ?_) | (refine Wk.and ?_)); (conv => whnf)))
        refine ⟨⟨by omega, by omega, by rw [shl1 hq]; unfold I64; omega⟩, ?_⟩
        rw [shl1 hq]
        (conv => whnf); (repeat ((first | (refine ⟨rfl, ?_⟩) | (refine ⟨trivial, ?_⟩) | (refine Wk.yes ?_) | (refine Wk.no ?_) | (refine Wk.and ?_)); (conv => whnf)))
        refine Again.mk (i + 1) (Sub.nil ⟨rfl, rfl, (by simp [tab64_LL, gC, wB, giC, noneB, gst, tC, pC]), rfl, (by simp [tupA, hpLt, tmLt, AV.lt, AE.lt, AC.lt, LL_cons, LL_nil, idOk, ABlk.lt, ints_LL, GB, tab64_LL, gC, wB, giC, noneB, gst, tC, pC]), (by simp [tupA, hpLt, tmLt, AV.lt, AE.lt, AC.lt, LL_cons, LL_nil, idOk, ABlk.lt, ints_LL, GB, tab64_LL, gC, wB, giC, noneB, gst, tC, pC])⟩ ⟨rfl, rfl, by rw [hss]; rfl, rfl, trivial⟩ (by (repeat (first | exact trivial | refine ⟨trivial, ?_⟩ | refine ⟨rfl, ?_⟩)))) ⟨by omega, hgo2⟩ (by omega)
      · rw [decide_eq_false (show ¬ (0 : Int) < ((i : Nat) : Int) by omega)]
        have hgo2 := hgo (by omega) (by omega) (.inl (by omega))
        obtain ⟨w, rfl⟩ : ∃ w : Nat, c = w := ⟨c.toNat, by omega⟩
        obtain ⟨q, hq⟩ : ∃ q, q = 2 ^ w := ⟨_, rfl⟩
        have hpi : q < 2048 := hq ▸ pow_small (by omega)
        have hp2 : 2 ^ g.ws.length ≤ 1024 := Nat.pow_le_pow_right (by omega) hgl
        rw [Int.toNat_natCast, ← hq] at hss
        (conv => whnf); (repeat ((first | (refine ⟨rfl, ?_⟩) | (refine ⟨trivial, ?_⟩) | (refine Wk.yes ?_) | (refine Wk.no ?_) | (refine Wk.and ?_)); (conv => whnf)))
        refine ⟨by rw [ints_len, Int.toNat_natCast]; omega, ?_⟩
        rw [hat]
        (conv => whnf); (repeat ((first | (refine ⟨rfl, ?_⟩) | (refine ⟨trivial, ?_⟩) | (refine Wk.yes ?_) | (refine Wk.no ?_) | (refine Wk.and ?_)); (conv => whnf)))
        refine ⟨⟨by omega, by omega, by rw [shl1 hq]; unfold I64; omega⟩, ?_⟩
        rw [shl1 hq]
        (conv => whnf); (repeat ((first | (refine ⟨rfl, ?_⟩) | (refine ⟨trivial, ?_⟩) | (refine Wk.yes ?_) | (refine Wk.no ?_) | (refine Wk.and ?_)); (conv => whnf)))
        refine Again.mk (i + 1) (Sub.nil ⟨rfl, rfl, (by simp [tab64_LL, gC, wB, giC, noneB, gst, tC, pC]), rfl, (by simp [tupA, hpLt, tmLt, AV.lt, AE.lt, AC.lt, LL_cons, LL_nil, idOk, ABlk.lt, ints_LL, GB, tab64_LL, gC, wB, giC, noneB, gst, tC, pC]), (by simp [tupA, hpLt, tmLt, AV.lt, AE.lt, AC.lt, LL_cons, LL_nil, idOk, ABlk.lt, ints_LL, GB, tab64_LL, gC, wB, giC, noneB, gst, tC, pC])⟩ ⟨rfl, rfl, by rw [hss]; rfl, rfl, trivial⟩ (by (repeat (first | exact trivial | refine ⟨trivial, ?_⟩ | refine ⟨rfl, ?_⟩)))) ⟨by omega, hgo2⟩ (by omega)
    · obtain rfl : i = L.length := by omega
      rw [hr]
      (conv => whnf); (repeat ((first | (refine ⟨rfl, ?_⟩) | (refine ⟨trivial, ?_⟩) | (refine Wk.yes ?_) | (refine Wk.no ?_) | (refine Wk.and ?_)); (conv => whnf)))
      rw [decide_eq_false (show ¬ ((L.length : Nat) : Int) < ((L.length : Nat) : Int) by omega)]
      intro _
      (conv => whnf); (repeat ((first | (refine ⟨rfl, ?_⟩) | (refine ⟨trivial, ?_⟩) | (refine Wk.yes ?_) | (refine Wk.no ?_) | (refine Wk.and ?_)); (conv => whnf)))
      exact AH.Fin.nil [] ⟨rfl, rfl, rfl⟩ (by first | exact trivial | (simp [tupA, hpLt, tmLt, AV.lt, AE.lt, AC.lt, LL_cons, LL_nil, idOk, ABlk.lt, ints_LL, GB, tab64_LL, gC, wB, giC, noneB, gst, tC, pC]; done) | (simp [tupA, hpLt, tmLt, AV.lt, AE.lt, AC.lt, LL_cons, LL_nil, idOk, ABlk.lt, ints_LL, GB, tab64_LL, gC, wB, giC, noneB, gst, tC, pC, rdn, wrn]; done)) trivial trivial rfl (by simp [GB])
end Go.Proofs.YtfphkpdobbffeaaDoor

/-
  Contracts: the places of a set, by the reference.
-/
namespace Go.Proofs.YtfphkpdobbffeaaDoor
open Go Go.AH
set_option maxRecDepth 100000
set_option maxHeartbeats 1000000

def placesTo (g : Gm) (a : Nat) (i : Nat) : Nat := (((List.range i).filter a.testBit).map Int.ofNat).foldl (placesF g) 0
theorem placesTo_succ (g : Gm) (a i : Nat) : placesTo g a (i + 1) = if a.testBit i then placesF g (placesTo g a i) (i : Int) else placesTo g a i := by
  simp only [placesTo, List.range_succ, List.filter_append, List.map_append, List.foldl_append]
  cases h : a.testBit i <;> simp [h, List.filter_cons]
theorem placesTo_lt {g : Gm} (hg : g.ok) (a i : Nat) (hi : i ≤ g.ws.length) : placesTo g a i < 2 ^ 8 :=
  placesN_lt hg _ fun y hy => by
    obtain ⟨j, hj, rfl⟩ := List.mem_map.1 hy
    have := List.mem_range.1 (List.mem_filter.1 hj).1
    show j < _
    omega
theorem places_eq {g : Gm} (hg : g.ok) {a : Nat} (ha : a < 2 ^ g.ws.length) : placesN g a = placesTo g a g.ws.length := by
  rw [placesN, placesTo, mem, memN, range_filter _ 10 hg.len fun i hi => by
    cases h : a.testBit i with
    | false => rfl
    | true => have := lt_len ha h; omega]
theorem placesR_spec {g : Gm} (hg : g.ok) {n : Nat} (hn : n < 2 ^ g.ws.length) : FDet Tryd.prog 68 [.g (gC g 0), .c (.int .i64 n)] [(0, wB g)] 1 (.c (.int .i64 (placesN g n))) [] 1 := by
  have hgl := hg.len
  rw [places_eq hg hn]
  refine FSpec.of_body tok true Tryd.func68 rfl (by kernel_rfl) (by decide) (by simp [tupA, hpLt, tmLt, AV.lt, AE.lt, AC.lt, LL_cons, LL_nil, idOk, ABlk.lt, ints_LL, GB, tab64_LL, gC, wB, giC, noneB, gst, tC, pC]) (by simp [tupA, hpLt, tmLt, AV.lt, AE.lt, AC.lt, LL_cons, LL_nil, idOk, ABlk.lt, ints_LL, GB, tab64_LL, gC, wB, giC, noneB, gst, tC, pC]) (by show 2 ≤ _; decide) ?_
  (conv => whnf); (repeat ((first | (refine ⟨rfl, ?_⟩) | (refine ⟨trivial, ?_⟩) | (refine Wk.yes ?_) | (refine Wk.no ?_) | (refine Wk.and ?_) | (refine ⟨by exact ⟨shr_nonneg _ _, by decide⟩, ?_⟩) | (refine ⟨by exact ⟨shr_nonneg' _ _, by decide⟩, ?_⟩)); (conv => whnf)))
  refine Tr.loop (md := true) (X := Nat) (st := fun i => ⟨[(1, .c (.int .i64 n)), (2, .c (.ptr 1 0)), (5, .c (.int .i64 (placesTo g n i))), (6, .c (.int .i64 i))], [(1, .own (gC g 0)), (0, wB g)], 2, 37, 1⟩) (inv := fun i => i ≤ g.ws.length) (μ := fun i => g.ws.length - i) (x0 := 0) (l := []) tok (Nat.zero_le _) ?_ ?_
  · exact Sub.nil ⟨rfl, rfl, (by simp [tab64_LL, gC, wB, giC, noneB, gst, tC, pC]), rfl, (by simp [tupA, hpLt, tmLt, AV.lt, AE.lt, AC.lt, LL_cons, LL_nil, idOk, ABlk.lt, ints_LL, GB, tab64_LL, gC, wB, giC, noneB, gst, tC, pC]), (by simp [tupA, hpLt, tmLt, AV.lt, AE.lt, AC.lt, LL_cons, LL_nil, idOk, ABlk.lt, ints_LL, GB, tab64_LL, gC, wB, giC, noneB, gst, tC, pC])⟩ (by (repeat (first | exact trivial | refine ⟨trivial, ?_⟩ | refine ⟨rfl, ?_⟩))) (by (repeat (first | exact trivial | refine ⟨trivial, ?_⟩ | refine ⟨rfl, ?_⟩)))
  · intro i hi
    have hpl := placesTo_lt hg n i hi
    by_cases hil : i < g.ws.length
    · have hps := placesTo_succ g n i
      (conv => whnf); (repeat ((first | (refine ⟨rfl, ?_⟩) | (refine ⟨trivial, ?_⟩) | (refine Wk.yes ?_) | (refine Wk.no ?_) | (refine Wk.and ?_) | (refine ⟨by exact ⟨shr_nonneg _ _, by decide⟩, ?_⟩) | (refine ⟨by exact ⟨shr_nonneg' _ _, by decide⟩, ?_⟩)); (conv => whnf)))
      rw [decide_eq_true (show ((i : Nat) : Int) < ((g.ws.length : Nat) : Int) by omega)]
      (conv => whnf); (repeat ((first | (refine ⟨rfl, ?_⟩) | (refine ⟨trivial, ?_⟩) | (refine Wk.yes ?_) | (refine Wk.no ?_) | (refine Wk.and ?_) | (refine ⟨by exact ⟨shr_nonneg _ _, by decide⟩, ?_⟩) | (refine ⟨by exact ⟨shr_nonneg' _ _, by decide⟩, ?_⟩)); (conv => whnf)))
      rw [bitE]
      by_cases b1 : n.testBit i = true
      · have b2 := (bit_test n i).2 b1
        rw [if_pos b1, placesF, Int.toNat_natCast] at hps
        rw [decide_eq_true (show ((bit n i : Nat) : Int) = 1 by omega)]
        have he := hg.ends i hil
        have h8 := hg.n8
        obtain ⟨w1, hw1⟩ : ∃ w, w = (g.ws.getD i (0, 0)).1 := ⟨_, rfl⟩
        obtain ⟨w2, hw2⟩ : ∃ w, w = (g.ws.getD i (0, 0)).2 := ⟨_, rfl⟩
        obtain ⟨q1, hq1⟩ : ∃ q, q = 2 ^ w1 := ⟨_, rfl⟩
        obtain ⟨q2, hq2⟩ : ∃ q, q = 2 ^ w2 := ⟨_, rfl⟩
        have p1 : q1 < 2 ^ 8 := by rw [hq1]; exact (Nat.pow_lt_pow_iff_right (by omega)).2 (by omega)
        have p2 : q2 < 2 ^ 8 := by rw [hq2]; exact (Nat.pow_lt_pow_iff_right (by omega)).2 (by omega)
        have h12 := or_lt hpl p1
        obtain ⟨q3, hq3⟩ : ∃ q, q = placesTo g n i ||| q1 := ⟨_, rfl⟩
        rw [← hq3] at h12
        rw [← hw1, ← hw2, ← hq1, ← hq2, ← Nat.or_assoc, ← hq3] at hps
        have hlen : 0 + (i : Int).toNat * 2 + Int.toNat 0 * 1 + 1 ≤ (ints (fl g.ws)).length ∧ 0 + (i : Int).toNat * 2 + Int.toNat 1 * 1 + 1 ≤ (ints (fl g.ws)).length := by
          rw [ints_len, fl_len]; simp; omega
        have g0 : (ints (fl g.ws)).getD (0 + (i : Int).toNat * 2 + Int.toNat 0 * 1) (.int .i64 0) = .int .i64 (w1 : Nat) := by rw [Int.toNat_natCast, wget0, hw1]
        have g1 : (ints (fl g.ws)).getD (0 + (i : Int).toNat * 2 + Int.toNat 1 * 1) (.int .i64 0) = .int .i64 (w2 : Nat) := by rw [Int.toNat_natCast, wget1, hw2]
        (conv => whnf); (repeat ((first | (refine ⟨rfl, ?_⟩) | (refine ⟨trivial, ?_⟩) | (refine Wk.yes ?_) | (refine Wk.no ?_) | (refine Wk.and ?_) | (refine ⟨by exact ⟨shr_nonneg _ _, by decide⟩, ?_⟩) | (refine ⟨by exact ⟨shr_nonneg' _ _, by decide⟩, ?_⟩)); (conv => whnf)))
        refine Tr.draw (md := true) [⟨[], [20, 21, 22, 23, 24, 25, 26, 28, 29, 30, 31, 32, 33, 34], [], [], []⟩, ⟨[], [19, 22, 28, 29, 30, 31, 32, 33, 34], [0], [], []⟩, ⟨[1], [19, 22, 28, 29, 30, 31, 32, 33, 34], [0], [], []⟩, ⟨[], [19, 20, 21, 28, 29, 30, 31, 32, 33, 34], [0, 1, 2], [], []⟩, ⟨[1, 2, 3], [19, 28, 29, 30, 31, 32, 33, 34], [0], [], []⟩, ⟨[1, 2, 3, 4], [19, 28, 29, 30, 31, 32, 33, 34], [0], [], []⟩, ⟨[1, 2, 3, 4, 5], [19, 28, 29, 30, 31, 32, 33, 34], [0], [], []⟩, ⟨[1, 2, 3, 4, 5, 6], [19, 28, 29, 30, 31, 32, 33, 34], [0], [], []⟩, ⟨[0, 1, 2, 3, 4, 5, 6, 7], [28, 29, 30, 31, 32, 33, 34], [], [], []⟩, ⟨[], [19, 20, 21, 22, 23, 24, 25, 26, 27, 30], [0, 1, 2, 3, 4, 5, 6, 7, 8], [], []⟩, ⟨[9], [19, 20, 21, 22, 23, 24, 25, 26, 27, 30], [0, 1, 2, 3, 4, 5, 6, 7, 8], [], []⟩, ⟨[], [19, 20, 21, 22, 23, 24, 25, 26, 27, 28, 29], [0, 1, 2, 3, 4, 5, 6, 7, 8, 9, 10], [], []⟩, ⟨[9, 10, 11], [19, 20, 21, 22, 23, 24, 25, 26, 27], [0, 1, 2, 3, 4, 5, 6, 7, 8], [], []⟩, ⟨[9, 10, 11, 12], [19, 20, 21, 22, 23, 24, 25, 26, 27], [0, 1, 2, 3, 4, 5, 6, 7, 8], [], []⟩, ⟨[9, 10, 11, 12, 13], [19, 20, 21, 22, 23, 24, 25, 26, 27], [0, 1, 2, 3, 4, 5, 6, 7, 8], [], []⟩, ⟨[9, 10, 11, 12, 13, 14], [19, 20, 21, 22, 23, 24, 25, 26, 27], [0, 1, 2, 3, 4, 5, 6, 7, 8], [], []⟩] tok (by kernel_rfl) (by kernel_rfl) ?_
        (conv => whnf); (repeat ((first | (refine ⟨rfl, ?_⟩) | (refine ⟨trivial, ?_⟩) | (refine Wk.yes ?_) | (refine Wk.no ?_) | (refine Wk.and ?_) | (refine ⟨by exact ⟨shr_nonneg _ _, by decide⟩, ?_⟩) | (refine ⟨by exact ⟨shr_nonneg' _ _, by decide⟩, ?_⟩)); (conv => whnf)))
        rw [g0]
        (conv => whnf); (repeat ((first | (refine ⟨rfl, ?_⟩) | (refine ⟨trivial, ?_⟩) | (refine Wk.yes ?_) | (refine Wk.no ?_) | (refine Wk.and ?_) | (refine ⟨by exact ⟨shr_nonneg _ _, by decide⟩, ?_⟩) | (refine ⟨by exact ⟨shr_nonneg' _ _, by decide⟩, ?_⟩)); (conv => whnf)))
        refine ⟨⟨by omega, by omega, by rw [shl1 hq1]; unfold I64; omega⟩, ?_⟩
        rw [shl1 hq1]
        (conv => whnf); (repeat ((first | (refine ⟨rfl, ?_⟩) | (refine ⟨trivial, ?_⟩) | (refine Wk.yes ?_) | (refine Wk.no ?_) | (refine Wk.and ?_) | (refine ⟨by exact ⟨shr_nonneg _ _, by decide⟩, ?_⟩) | (refine ⟨by exact ⟨shr_nonneg' _ _, by decide⟩, ?_⟩)); (conv => whnf)))
        simp only [Int.toNat_natCast, ← hq3]
        rw [wget1, ← hw2]
        (conv => whnf); (repeat ((first | (refine ⟨rfl, ?_⟩) | (refine ⟨trivial, ?_⟩) | (refine Wk.yes ?_) | (refine Wk.no ?_) | (refine Wk.and ?_) | (refine ⟨by exact ⟨shr_nonneg _ _, by decide⟩, ?_⟩) | (refine ⟨by exact ⟨shr_nonneg' _ _, by decide⟩, ?_⟩)); (conv => whnf)))
        refine ⟨⟨by omega, by omega, by rw [shl1 hq2]; unfold I64; omega⟩, ?_⟩
        rw [shl1 hq2]
        (conv => whnf); (repeat ((first | (refine ⟨rfl, ?_⟩) | (refine ⟨trivial, ?_⟩) | (refine Wk.yes ?_) | (refine Wk.no ?_) | (refine Wk.and ?_) | (refine ⟨by exact ⟨shr_nonneg _ _, by decide⟩, ?_⟩) | (refine ⟨by exact ⟨shr_nonneg' _ _, by decide⟩, ?_⟩)); (conv => whnf)))
        refine Again.mk (i + 1) (Sub.nil ⟨rfl, rfl, (by simp [tab64_LL, gC, wB, giC, noneB, gst, tC, pC]), rfl, (by simp [tupA, hpLt, tmLt, AV.lt, AE.lt, AC.lt, LL_cons, LL_nil, idOk, ABlk.lt, ints_LL, GB, tab64_LL, gC, wB, giC, noneB, gst, tC, pC]), (by simp [tupA, hpLt, tmLt, AV.lt, AE.lt, AC.lt, LL_cons, LL_nil, idOk, ABlk.lt, ints_LL, GB, tab64_LL, gC, wB, giC, noneB, gst, tC, pC])⟩ ⟨rfl, rfl, by rw [hps]; rfl, rfl, trivial⟩ (by (repeat (first | exact trivial | refine ⟨trivial, ?_⟩ | refine ⟨rfl, ?_⟩)))) (by omega) (by omega)
      · have b2 : ¬ bit n i = 1 := fun h => b1 ((bit_test n i).1 h)
        rw [if_neg b1] at hps
        rw [decide_eq_false (show ¬ ((bit n i : Nat) : Int) = 1 by omega)]
        (conv => whnf); (repeat ((first | (refine ⟨rfl, ?_⟩) | (refine ⟨trivial, ?_⟩) | (refine Wk.yes ?_) | (refine Wk.no ?_) | (refine Wk.and ?_) | (refine ⟨by exact ⟨shr_nonneg _ _, by decide⟩, ?_⟩) | (refine ⟨by exact ⟨shr_nonneg' _ _, by decide⟩, ?_⟩)); (conv => whnf)))
        refine Again.mk (i + 1) (Sub.nil ⟨rfl, rfl, (by simp [tab64_LL, gC, wB, giC, noneB, gst, tC, pC]), rfl, (by simp [tupA, hpLt, tmLt, AV.lt, AE.lt, AC.lt, LL_cons, LL_nil, idOk, ABlk.lt, ints_LL, GB, tab64_LL, gC, wB, giC, noneB, gst, tC, pC]), (by simp [tupA, hpLt, tmLt, AV.lt, AE.lt, AC.lt, LL_cons, LL_nil, idOk, ABlk.lt, ints_LL, GB, tab64_LL, gC, wB, giC, noneB, gst, tC, pC])⟩ ⟨rfl, rfl, by rw [hps]; rfl, rfl, trivial⟩ (by (repeat (first | exact trivial | refine ⟨trivial, ?_⟩ | refine ⟨rfl, ?_⟩)))) (by omega) (by omega)
    · obtain rfl : i = g.ws.length := by omega
      (conv => whnf); (repeat ((first | (refine ⟨rfl, ?_⟩) | (refine ⟨trivial, ?_⟩) | (refine Wk.yes ?_) | (refine Wk.no ?_) | (refine Wk.and ?_) | (refine ⟨by exact ⟨shr_nonneg _ _, by decide⟩, ?_⟩) | (refine ⟨by exact ⟨shr_nonneg' _ _, by decide⟩, ?_⟩)); (conv => whnf)))
      rw [decide_eq_false (show ¬ ((g.ws.length : Nat) : Int) < ((g.ws.length : Nat) : Int) by omega)]
      intro _
      (conv => whnf); (repeat ((first | (refine ⟨rfl, ?_⟩) | (refine ⟨trivial, ?_⟩) | (refine Wk.yes ?_) | (refine Wk.no ?_) | (refine Wk.and ?_) | (refine ⟨by exact ⟨shr_nonneg _ _, by decide⟩, ?_⟩) | (refine ⟨by exact ⟨shr_nonneg' _ _, by decide⟩, ?_⟩)); (conv => whnf)))
      exact AH.Fin.nil [] ⟨rfl, rfl, rfl⟩ (by first | exact trivial | (simp [tupA, hpLt, tmLt, AV.lt, AE.lt, AC.lt, LL_cons, LL_nil, idOk, ABlk.lt, ints_LL, GB, tab64_LL, gC, wB, giC, noneB, gst, tC, pC]; done) | (simp [tupA, hpLt, tmLt, AV.lt, AE.lt, AC.lt, LL_cons, LL_nil, idOk, ABlk.lt, ints_LL, GB, tab64_LL, gC, wB, giC, noneB, gst, tC, pC, rdn, wrn]; done)) trivial trivial rfl (by simp [GB])
end Go.Proofs.YtfphkpdobbffeaaDoor

/-
  Contracts: two lists as two trees, by the reference.
-/
namespace Go.Proofs.YtfphkpdobbffeaaDoor
open Go Go.AH
set_option maxRecDepth 100000
set_option maxHeartbeats 1000000

def setV (n : Nat) (L : List Int) : Nat := cond (risTo n L L.length) (setToL L L.length) 0
def setOk (n : Nat) (L : List Int) : Bool := risTo n L L.length
theorem setV_lt (n : Nat) (L : List Int) : setV n L < 2 ^ n := by
  unfold setV
  cases h : risTo n L L.length with
  | true => exact setToL_lt _ h
  | false => exact Nat.pow_pos (by omega)
/-- Two sets are two trees, for the reference. -/
def areR (g : Gm) (x y : Bool) (a b : Nat) : Bool := x && (y && (decide (a &&& b = 0) && (decide (bit (placesN g a) g.s = 1) && (decide (bit (placesN g a) g.t = 1) && (treeR g a (placesN g a) && treeR g b (placesN g a))))))
theorem isTreesR_spec {g : Gm} (hg : g.ok) (L0 L1 : List Int) (h0 : L0.length ≤ 1000) (h1 : L1.length ≤ 1000) : FDet Tryd.prog 30 [.g (gC g 0), .g [.rs 1 0 L0.length, .rs 2 0 L1.length], .c (.bool false)] [(0, wB g), (1, .ro (ints L0)), (2, .ro (ints L1))] 3
    (.c (.bool (areR g (setOk g.ws.length L0) (setOk g.ws.length L1) (setV g.ws.length L0) (setV g.ws.length L1)))) [] 3 := by
  have hgl := hg.len
  have s0 := setR_spec hg L0 h0
  have s1 := setR_spec hg L1 h1
  have ha := setV_lt g.ws.length L0
  have hb := setV_lt g.ws.length L1
  change FDet _ _ _ _ _ (.t [.c (.int .i64 (setV g.ws.length L0 : Nat)), .c (.bool (setOk g.ws.length L0))]) _ _ at s0
  change FDet _ _ _ _ _ (.t [.c (.int .i64 (setV g.ws.length L1 : Nat)), .c (.bool (setOk g.ws.length L1))]) _ _ at s1
  generalize setV g.ws.length L0 = a at *
  generalize setV g.ws.length L1 = b at *
  generalize setOk g.ws.length L0 = x at *
  generalize setOk g.ws.length L1 = y at *
  have hp2 : 2 ^ g.ws.length ≤ 1024 := Nat.pow_le_pow_right (by omega) hgl
  have hpl : placesN g a < 2 ^ 8 := placesN_lt hg _ fun y hy => (mem_lt hgl ha hy).2
  have hs8 := hg.s
  have ht8 := hg.t
  have hn8 := hg.n8
  have c1 := bit_01 (placesN g a) g.s
  have c2 := bit_01 (placesN g a) g.t
  have hta := tree_spec hg (set := a) (pl := placesN g a) (by omega) (by omega)
  have htb := tree_spec hg (set := b) (pl := placesN g a) (by omega) (by omega)
  have hare : areR g x y a b = (x && (y && (decide (a &&& b = 0) && (decide (bit (placesN g a) g.s = 1) && (decide (bit (placesN g a) g.t = 1) && (treeR g a (placesN g a) && treeR g b (placesN g a))))))) := rfl
  generalize treeR g a (placesN g a) = ta at *
  generalize treeR g b (placesN g a) = tb at *
  refine FSpec.of_body tok true Tryd.func30 rfl (by kernel_rfl) (by decide) (by simp [tupA, hpLt, tmLt, AV.lt, AE.lt, AC.lt, LL_cons, LL_nil, idOk, ABlk.lt, ints_LL, GB, tab64_LL, gC, wB, giC, noneB, gst, tC, pC]) (by simp [tupA, hpLt, tmLt, AV.lt, AE.lt, AC.lt, LL_cons, LL_nil, idOk, ABlk.lt, ints_LL, GB, tab64_LL, gC, wB, giC, noneB, gst, tC, pC]) (by show 3 ≤ _; decide) ?_
  (conv => whnf); (repeat ((first | (refine ⟨rfl, ?_⟩) | (refine ⟨trivial, ?_⟩) | (refine Wk.yes ?_) | (refine Wk.no ?_) | (refine Wk.and ?_) | (refine ⟨by exact ⟨shr_nonneg _ _, by decide⟩, ?_⟩) | (refine ⟨by exact ⟨shr_nonneg' _ _, by decide⟩, ?_⟩)); (conv => whnf)))
  refine CallA.ro [0, 1] (.t [.c (.int .i64 a), .c (.bool x)]) (s0) (by first | rfl | exact congrArg AV.g (ints_ren _ _) | (simp [ints_ren, AV.ren, ABlk.ren, AC.ren, AE.ren, qq]; done)) rfl (by (repeat (first | exact trivial | refine ⟨⟨(by first | exact .inl (by decide) | exact .inr (by decide)), (by first | (refine Or.inl ?_; first | rfl | exact congrArg some (ints_ren _ _).symm | exact congrArg ABlk.own (ints_ren _ _).symm | exact congrArg some (tab64_ren _).symm) | rfl | exact congrArg some (ints_ren _ _).symm | exact congrArg ABlk.own (ints_ren _ _).symm | exact congrArg some (tab64_ren _).symm | exact Or.inr ⟨rfl, rfl⟩)⟩, ?_⟩))) (by first | rfl | exact congrArg AV.g (ints_ren _ _) | (simp [ints_ren, AV.ren, ABlk.ren, AC.ren, AE.ren, qq]; done)) ?_
  (conv => whnf); (repeat ((first | (refine ⟨rfl, ?_⟩) | (refine ⟨trivial, ?_⟩) | (refine Wk.yes ?_) | (refine Wk.no ?_) | (refine Wk.and ?_) | (refine ⟨by exact ⟨shr_nonneg _ _, by decide⟩, ?_⟩) | (refine ⟨by exact ⟨shr_nonneg' _ _, by decide⟩, ?_⟩)); (conv => whnf)))
  refine CallA.ro [0, 2] (.t [.c (.int .i64 b), .c (.bool y)]) (s1) (by first | rfl | exact congrArg AV.g (ints_ren _ _) | (simp [ints_ren, AV.ren, ABlk.ren, AC.ren, AE.ren, qq]; done)) rfl (by (repeat (first | exact trivial | refine ⟨⟨(by first | exact .inl (by decide) | exact .inr (by decide)), (by first | (refine Or.inl ?_; first | rfl | exact congrArg some (ints_ren _ _).symm | exact congrArg ABlk.own (ints_ren _ _).symm | exact congrArg some (tab64_ren _).symm) | rfl | exact congrArg some (ints_ren _ _).symm | exact congrArg ABlk.own (ints_ren _ _).symm | exact congrArg some (tab64_ren _).symm | exact Or.inr ⟨rfl, rfl⟩)⟩, ?_⟩))) (by first | rfl | exact congrArg AV.g (ints_ren _ _) | (simp [ints_ren, AV.ren, ABlk.ren, AC.ren, AE.ren, qq]; done)) ?_
  rw [hare]
  cases x with
  | false =>
    (conv => whnf); (repeat ((first | (refine ⟨rfl, ?_⟩) | (refine ⟨trivial, ?_⟩) | (refine Wk.yes ?_) | (refine Wk.no ?_) | (refine Wk.and ?_) | (refine ⟨by exact ⟨shr_nonneg _ _, by decide⟩, ?_⟩) | (refine ⟨by exact ⟨shr_nonneg' _ _, by decide⟩, ?_⟩)); (conv => whnf)))
    exact AH.Fin.nil [] ⟨rfl, rfl, rfl⟩ (by first | exact trivial | (simp [tupA, hpLt, tmLt, AV.lt, AE.lt, AC.lt, LL_cons, LL_nil, idOk, ABlk.lt, ints_LL, GB, tab64_LL, gC, wB, giC, noneB, gst, tC, pC]; done) | (simp [tupA, hpLt, tmLt, AV.lt, AE.lt, AC.lt, LL_cons, LL_nil, idOk, ABlk.lt, ints_LL, GB, tab64_LL, gC, wB, giC, noneB, gst, tC, pC, rdn, wrn]; done)) trivial trivial rfl (by simp [GB])
  | true =>
  cases y with
  | false =>
    (conv => whnf); (repeat ((first | (refine ⟨rfl, ?_⟩) | (refine ⟨trivial, ?_⟩) | (refine Wk.yes ?_) | (refine Wk.no ?_) | (refine Wk.and ?_) | (refine ⟨by exact ⟨shr_nonneg _ _, by decide⟩, ?_⟩) | (refine ⟨by exact ⟨shr_nonneg' _ _, by decide⟩, ?_⟩)); (conv => whnf)))
    exact AH.Fin.nil [] ⟨rfl, rfl, rfl⟩ (by first | exact trivial | (simp [tupA, hpLt, tmLt, AV.lt, AE.lt, AC.lt, LL_cons, LL_nil, idOk, ABlk.lt, ints_LL, GB, tab64_LL, gC, wB, giC, noneB, gst, tC, pC]; done) | (simp [tupA, hpLt, tmLt, AV.lt, AE.lt, AC.lt, LL_cons, LL_nil, idOk, ABlk.lt, ints_LL, GB, tab64_LL, gC, wB, giC, noneB, gst, tC, pC, rdn, wrn]; done)) trivial trivial rfl (by simp [GB])
  | true =>
  (conv => whnf); (repeat ((first | (refine ⟨rfl, ?_⟩) | (refine ⟨trivial, ?_⟩) | (refine Wk.yes ?_) | (refine Wk.no ?_) | (refine Wk.and ?_) | (refine ⟨by exact ⟨shr_nonneg _ _, by decide⟩, ?_⟩) | (refine ⟨by exact ⟨shr_nonneg' _ _, by decide⟩, ?_⟩)); (conv => whnf)))
  simp only [Int.toNat_natCast]
  by_cases d0 : a &&& b = 0
  rotate_left
  · rw [decide_eq_false d0, show (bif false then true else decide (((a &&& b : Nat) : Int) ≠ 0)) = true from by simp; omega]
    (conv => whnf); (repeat ((first | (refine ⟨rfl, ?_⟩) | (refine ⟨trivial, ?_⟩) | (refine Wk.yes ?_) | (refine Wk.no ?_) | (refine Wk.and ?_) | (refine ⟨by exact ⟨shr_nonneg _ _, by decide⟩, ?_⟩) | (refine ⟨by exact ⟨shr_nonneg' _ _, by decide⟩, ?_⟩)); (conv => whnf)))
    exact AH.Fin.nil [] ⟨rfl, rfl, rfl⟩ (by first | exact trivial | (simp [tupA, hpLt, tmLt, AV.lt, AE.lt, AC.lt, LL_cons, LL_nil, idOk, ABlk.lt, ints_LL, GB, tab64_LL, gC, wB, giC, noneB, gst, tC, pC]; done) | (simp [tupA, hpLt, tmLt, AV.lt, AE.lt, AC.lt, LL_cons, LL_nil, idOk, ABlk.lt, ints_LL, GB, tab64_LL, gC, wB, giC, noneB, gst, tC, pC, rdn, wrn]; done)) trivial trivial rfl (by simp [GB])
  rw [decide_eq_true d0, show (bif false then true else decide (((a &&& b : Nat) : Int) ≠ 0)) = false from by simp [d0]]
  (conv => whnf); (repeat ((first | (refine ⟨rfl, ?_⟩) | (refine ⟨trivial, ?_⟩) | (refine Wk.yes ?_) | (refine Wk.no ?_) | (refine Wk.and ?_) | (refine ⟨by exact ⟨shr_nonneg _ _, by decide⟩, ?_⟩) | (refine ⟨by exact ⟨shr_nonneg' _ _, by decide⟩, ?_⟩)); (conv => whnf)))
  refine CallA.ro [0] (.c (.int .i64 (placesN g a))) (placesR_spec hg ha) (by first | rfl | exact congrArg AV.g (ints_ren _ _) | (simp [ints_ren, AV.ren, ABlk.ren, AC.ren, AE.ren, qq]; done)) rfl (by (repeat (first | exact trivial | refine ⟨⟨(by first | exact .inl (by decide) | exact .inr (by decide)), (by first | (refine Or.inl ?_; first | rfl | exact congrArg some (ints_ren _ _).symm | exact congrArg ABlk.own (ints_ren _ _).symm | exact congrArg some (tab64_ren _).symm) | rfl | exact congrArg some (ints_ren _ _).symm | exact congrArg ABlk.own (ints_ren _ _).symm | exact congrArg some (tab64_ren _).symm | exact Or.inr ⟨rfl, rfl⟩)⟩, ?_⟩))) (by first | rfl | exact congrArg AV.g (ints_ren _ _) | (simp [ints_ren, AV.ren, ABlk.ren, AC.ren, AE.ren, qq]; done)) ?_
  (conv => whnf); (repeat ((first | (refine ⟨rfl, ?_⟩) | (refine ⟨trivial, ?_⟩) | (refine Wk.yes ?_) | (refine Wk.no ?_) | (refine Wk.and ?_) | (refine ⟨by exact ⟨shr_nonneg _ _, by decide⟩, ?_⟩) | (refine ⟨by exact ⟨shr_nonneg' _ _, by decide⟩, ?_⟩)); (conv => whnf)))
  rw [bitE]
  by_cases d1 : bit (placesN g a) g.s = 1
  rotate_left
  · rw [decide_eq_false d1, decide_eq_true (show ((bit (placesN g a) g.s : Nat) : Int) = 0 by omega)]
    (conv => whnf); (repeat ((first | (refine ⟨rfl, ?_⟩) | (refine ⟨trivial, ?_⟩) | (refine Wk.yes ?_) | (refine Wk.no ?_) | (refine Wk.and ?_) | (refine ⟨by exact ⟨shr_nonneg _ _, by decide⟩, ?_⟩) | (refine ⟨by exact ⟨shr_nonneg' _ _, by decide⟩, ?_⟩)); (conv => whnf)))
    exact AH.Fin.nil [] ⟨rfl, rfl, rfl⟩ (by first | exact trivial | (simp [tupA, hpLt, tmLt, AV.lt, AE.lt, AC.lt, LL_cons, LL_nil, idOk, ABlk.lt, ints_LL, GB, tab64_LL, gC, wB, giC, noneB, gst, tC, pC]; done) | (simp [tupA, hpLt, tmLt, AV.lt, AE.lt, AC.lt, LL_cons, LL_nil, idOk, ABlk.lt, ints_LL, GB, tab64_LL, gC, wB, giC, noneB, gst, tC, pC, rdn, wrn]; done)) trivial trivial rfl (by simp [GB])
  rw [decide_eq_true d1, decide_eq_false (show ¬ ((bit (placesN g a) g.s : Nat) : Int) = 0 by omega)]
  (conv => whnf); (repeat ((first | (refine ⟨rfl, ?_⟩) | (refine ⟨trivial, ?_⟩) | (refine Wk.yes ?_) | (refine Wk.no ?_) | (refine Wk.and ?_) | (refine ⟨by exact ⟨shr_nonneg _ _, by decide⟩, ?_⟩) | (refine ⟨by exact ⟨shr_nonneg' _ _, by decide⟩, ?_⟩)); (conv => whnf)))
  rw [bitE]
  by_cases d2 : bit (placesN g a) g.t = 1
  rotate_left
  · rw [decide_eq_false d2, decide_eq_true (show ((bit (placesN g a) g.t : Nat) : Int) = 0 by omega)]
    (conv => whnf); (repeat ((first | (refine ⟨rfl, ?_⟩) | (refine ⟨trivial, ?_⟩) | (refine Wk.yes ?_) | (refine Wk.no ?_) | (refine Wk.and ?_) | (refine ⟨by exact ⟨shr_nonneg _ _, by decide⟩, ?_⟩) | (refine ⟨by exact ⟨shr_nonneg' _ _, by decide⟩, ?_⟩)); (conv => whnf)))
    exact AH.Fin.nil [] ⟨rfl, rfl, rfl⟩ (by first | exact trivial | (simp [tupA, hpLt, tmLt, AV.lt, AE.lt, AC.lt, LL_cons, LL_nil, idOk, ABlk.lt, ints_LL, GB, tab64_LL, gC, wB, giC, noneB, gst, tC, pC]; done) | (simp [tupA, hpLt, tmLt, AV.lt, AE.lt, AC.lt, LL_cons, LL_nil, idOk, ABlk.lt, ints_LL, GB, tab64_LL, gC, wB, giC, noneB, gst, tC, pC, rdn, wrn]; done)) trivial trivial rfl (by simp [GB])
  rw [decide_eq_true d2, decide_eq_false (show ¬ ((bit (placesN g a) g.t : Nat) : Int) = 0 by omega)]
  (conv => whnf); (repeat ((first | (refine ⟨rfl, ?_⟩) | (refine ⟨trivial, ?_⟩) | (refine Wk.yes ?_) | (refine Wk.no ?_) | (refine Wk.and ?_) | (refine ⟨by exact ⟨shr_nonneg _ _, by decide⟩, ?_⟩) | (refine ⟨by exact ⟨shr_nonneg' _ _, by decide⟩, ?_⟩)); (conv => whnf)))
  refine CallA.ro [0] (.c (.bool ta)) (hta) (by first | rfl | exact congrArg AV.g (ints_ren _ _) | (simp [ints_ren, AV.ren, ABlk.ren, AC.ren, AE.ren, qq]; done)) rfl (by (repeat (first | exact trivial | refine ⟨⟨(by first | exact .inl (by decide) | exact .inr (by decide)), (by first | (refine Or.inl ?_; first | rfl | exact congrArg some (ints_ren _ _).symm | exact congrArg ABlk.own (ints_ren _ _).symm | exact congrArg some (tab64_ren _).symm) | rfl | exact congrArg some (ints_ren _ _).symm | exact congrArg ABlk.own (ints_ren _ _).symm | exact congrArg some (tab64_ren _).symm | exact Or.inr ⟨rfl, rfl⟩)⟩, ?_⟩))) (by first | rfl | exact congrArg AV.g (ints_ren _ _) | (simp [ints_ren, AV.ren, ABlk.ren, AC.ren, AE.ren, qq]; done)) ?_
  cases ta with
  | false =>
    (conv => whnf); (repeat ((first | (refine ⟨rfl, ?_⟩) | (refine ⟨trivial, ?_⟩) | (refine Wk.yes ?_) | (refine Wk.no ?_) | (refine Wk.and ?_) | (refine ⟨by exact ⟨shr_nonneg _ _, by decide⟩, ?_⟩) | (refine ⟨by exact ⟨shr_nonneg' _ _, by decide⟩, ?_⟩)); (conv => whnf)))
    exact AH.Fin.nil [] ⟨rfl, rfl, rfl⟩ (by first | exact trivial | (simp [tupA, hpLt, tmLt, AV.lt, AE.lt, AC.lt, LL_cons, LL_nil, idOk, ABlk.lt, ints_LL, GB, tab64_LL, gC, wB, giC, noneB, gst, tC, pC]; done) | (simp [tupA, hpLt, tmLt, AV.lt, AE.lt, AC.lt, LL_cons, LL_nil, idOk, ABlk.lt, ints_LL, GB, tab64_LL, gC, wB, giC, noneB, gst, tC, pC, rdn, wrn]; done)) trivial trivial rfl (by simp [GB])
  | true =>
    (conv => whnf); (repeat ((first | (refine ⟨rfl, ?_⟩) | (refine ⟨trivial, ?_⟩) | (refine Wk.yes ?_) | (refine Wk.no ?_) | (refine Wk.and ?_) | (refine ⟨by exact ⟨shr_nonneg _ _, by decide⟩, ?_⟩) | (refine ⟨by exact ⟨shr_nonneg' _ _, by decide⟩, ?_⟩)); (conv => whnf)))
    refine CallA.ro [0] (.c (.bool tb)) (htb) (by first | rfl | exact congrArg AV.g (ints_ren _ _) | (simp [ints_ren, AV.ren, ABlk.ren, AC.ren, AE.ren, qq]; done)) rfl (by (repeat (first | exact trivial | refine ⟨⟨(by first | exact .inl (by decide) | exact .inr (by decide)), (by first | (refine Or.inl ?_; first | rfl | exact congrArg some (ints_ren _ _).symm | exact congrArg ABlk.own (ints_ren _ _).symm | exact congrArg some (tab64_ren _).symm) | rfl | exact congrArg some (ints_ren _ _).symm | exact congrArg ABlk.own (ints_ren _ _).symm | exact congrArg some (tab64_ren _).symm | exact Or.inr ⟨rfl, rfl⟩)⟩, ?_⟩))) (by first | rfl | exact congrArg AV.g (ints_ren _ _) | (simp [ints_ren, AV.ren, ABlk.ren, AC.ren, AE.ren, qq]; done)) ?_
    (conv => whnf); (repeat ((first | (refine ⟨rfl, ?_⟩) | (refine ⟨trivial, ?_⟩) | (refine Wk.yes ?_) | (refine Wk.no ?_) | (refine Wk.and ?_) | (refine ⟨by exact ⟨shr_nonneg _ _, by decide⟩, ?_⟩) | (refine ⟨by exact ⟨shr_nonneg' _ _, by decide⟩, ?_⟩)); (conv => whnf)))
    exact AH.Fin.nil [] ⟨rfl, rfl, rfl⟩ (by first | exact trivial | (simp [tupA, hpLt, tmLt, AV.lt, AE.lt, AC.lt, LL_cons, LL_nil, idOk, ABlk.lt, ints_LL, GB, tab64_LL, gC, wB, giC, noneB, gst, tC, pC]; done) | (simp [tupA, hpLt, tmLt, AV.lt, AE.lt, AC.lt, LL_cons, LL_nil, idOk, ABlk.lt, ints_LL, GB, tab64_LL, gC, wB, giC, noneB, gst, tC, pC, rdn, wrn]; done)) trivial trivial rfl (by simp [GB])
theorem replyR0_spec {g : Gm} (hg : g.ok) (L0 L1 : List Int) (h0 : L0.length ≤ 1000) (h1 : L1.length ≤ 1000) {cut w : Nat} (hcut : cut < g.ws.length) (hw : w < g.ws.length) : FDet Tryd.prog 34 [.g (gC g 0), .g [.rs 1 0 L0.length, .rs 2 0 L1.length], .c (.int .i64 0), .c (.int .i64 cut), .c (.int .i64 w)] [(0, wB g), (1, .ro (ints L0)), (2, .ro (ints L1))] 3
    (.c (.bool (decide (bit (setV g.ws.length L1) w = 1) && treeR g (offN (setV g.ws.length L0) cut ||| 2 ^ w) (placesN g (setV g.ws.length L0))))) [] 3 := by
  have hgl := hg.len
  have s0 := setR_spec hg L0 h0
  have s1 := setR_spec hg L1 h1
  have ha := setV_lt g.ws.length L0
  have hb := setV_lt g.ws.length L1
  change FDet _ _ _ _ _ (.t [.c (.int .i64 (setV g.ws.length L0 : Nat)), .c (.bool (setOk g.ws.length L0))]) _ _ at s0
  change FDet _ _ _ _ _ (.t [.c (.int .i64 (setV g.ws.length L1 : Nat)), .c (.bool (setOk g.ws.length L1))]) _ _ at s1
  generalize setV g.ws.length L0 = a at *
  generalize setV g.ws.length L1 = b at *
  generalize setOk g.ws.length L0 = x at *
  generalize setOk g.ws.length L1 = y at *
  have hp2 : 2 ^ g.ws.length ≤ 1024 := Nat.pow_le_pow_right (by omega) hgl
  have hpl : placesN g a < 2 ^ 8 := placesN_lt hg _ fun y hy => (mem_lt hgl ha hy).2
  have c1 := bit_01 b w
  refine FSpec.of_body tok true Tryd.func34 rfl (by kernel_rfl) (by decide) (by simp [tupA, hpLt, tmLt, AV.lt, AE.lt, AC.lt, LL_cons, LL_nil, idOk, ABlk.lt, ints_LL, GB, tab64_LL, gC, wB, giC, noneB, gst, tC, pC]) (by simp [tupA, hpLt, tmLt, AV.lt, AE.lt, AC.lt, LL_cons, LL_nil, idOk, ABlk.lt, ints_LL, GB, tab64_LL, gC, wB, giC, noneB, gst, tC, pC]) (by show 5 ≤ _; decide) ?_
  (conv => whnf); (repeat ((first | (refine ⟨rfl, ?_⟩) | (refine ⟨trivial, ?_⟩) | (refine Wk.yes ?_) | (refine Wk.no ?_) | (refine Wk.and ?_) | (refine ⟨by exact ⟨shr_nonneg _ _, by decide⟩, ?_⟩) | (refine ⟨by exact ⟨shr_nonneg' _ _, by decide⟩, ?_⟩)); (conv => whnf)))
  refine Tr.draw (md := true) [⟨[], [17, 18, 19], [], [], []⟩, ⟨[], [16], [0], [], []⟩, ⟨[1], [16], [0], [], []⟩, ⟨[1, 2], [16], [0], [], []⟩, ⟨[0, 1, 2, 3], [], [], [], []⟩, ⟨[0, 1, 2, 3, 4], [], [], [], []⟩, ⟨[0, 1, 2, 3, 4, 5], [22], [], [], []⟩, ⟨[0, 1, 2, 3, 4, 5], [11, 21], [6], [], []⟩, ⟨[0, 1, 2, 3, 4, 5, 6], [22], [7], [], []⟩] tok (by kernel_rfl) (by kernel_rfl) ?_
  (conv => whnf); (repeat ((first | (refine ⟨rfl, ?_⟩) | (refine ⟨trivial, ?_⟩) | (refine Wk.yes ?_) | (refine Wk.no ?_) | (refine Wk.and ?_) | (refine ⟨by exact ⟨shr_nonneg _ _, by decide⟩, ?_⟩) | (refine ⟨by exact ⟨shr_nonneg' _ _, by decide⟩, ?_⟩)); (conv => whnf)))
  refine CallQ.ro [0, 1] (.t [.c (.int .i64 a), .c (.bool x)]) (s0) (by first | rfl | exact congrArg AV.g (ints_ren _ _) | (simp [ints_ren, AV.ren, ABlk.ren, AC.ren, AE.ren, qq]; done)) rfl (by (repeat (first | exact trivial | refine ⟨⟨(by first | exact .inl (by decide) | exact .inr (by decide)), (by first | (refine Or.inl ?_; first | rfl | exact congrArg some (ints_ren _ _).symm | exact congrArg ABlk.own (ints_ren _ _).symm | exact congrArg some (tab64_ren _).symm) | rfl | exact congrArg some (ints_ren _ _).symm | exact congrArg ABlk.own (ints_ren _ _).symm | exact congrArg some (tab64_ren _).symm | exact Or.inr ⟨rfl, rfl⟩)⟩, ?_⟩))) (by first | rfl | exact congrArg AV.g (ints_ren _ _) | (simp [ints_ren, AV.ren, ABlk.ren, AC.ren, AE.ren, qq]; done)) ?_
  (conv => whnf); (repeat ((first | (refine ⟨rfl, ?_⟩) | (refine ⟨trivial, ?_⟩) | (refine Wk.yes ?_) | (refine Wk.no ?_) | (refine Wk.and ?_) | (refine ⟨by exact ⟨shr_nonneg _ _, by decide⟩, ?_⟩) | (refine ⟨by exact ⟨shr_nonneg' _ _, by decide⟩, ?_⟩)); (conv => whnf)))
  refine Tr.draw (md := true) [⟨[], [25, 26, 27, 28], [], [], []⟩, ⟨[], [24], [0], [], []⟩, ⟨[1], [24], [0], [], []⟩, ⟨[1, 2], [24], [0], [], []⟩, ⟨[1, 2, 3], [24], [0], [], []⟩, ⟨[0, 1, 2, 3, 4], [], [], [], []⟩, ⟨[0, 1, 2, 3, 4, 5], [], [], [], []⟩, ⟨[0, 1, 2, 3, 4, 5, 6], [31], [], [], []⟩, ⟨[0, 1, 2, 3, 4, 5, 6], [13, 30], [7], [], []⟩, ⟨[0, 1, 2, 3, 4, 5, 6, 7], [31], [8], [], []⟩] tok (by kernel_rfl) (by kernel_rfl) ?_
  (conv => whnf); (repeat ((first | (refine ⟨rfl, ?_⟩) | (refine ⟨trivial, ?_⟩) | (refine Wk.yes ?_) | (refine Wk.no ?_) | (refine Wk.and ?_) | (refine ⟨by exact ⟨shr_nonneg _ _, by decide⟩, ?_⟩) | (refine ⟨by exact ⟨shr_nonneg' _ _, by decide⟩, ?_⟩)); (conv => whnf)))
  refine CallQ.ro [0, 2] (.t [.c (.int .i64 b), .c (.bool y)]) (s1) (by first | rfl | exact congrArg AV.g (ints_ren _ _) | (simp [ints_ren, AV.ren, ABlk.ren, AC.ren, AE.ren, qq]; done)) rfl (by (repeat (first | exact trivial | refine ⟨⟨(by first | exact .inl (by decide) | exact .inr (by decide)), (by first | (refine Or.inl ?_; first | rfl | exact congrArg some (ints_ren _ _).symm | exact congrArg ABlk.own (ints_ren _ _).symm | exact congrArg some (tab64_ren _).symm) | rfl | exact congrArg some (ints_ren _ _).symm | exact congrArg ABlk.own (ints_ren _ _).symm | exact congrArg some (tab64_ren _).symm | exact Or.inr ⟨rfl, rfl⟩)⟩, ?_⟩))) (by first | rfl | exact congrArg AV.g (ints_ren _ _) | (simp [ints_ren, AV.ren, ABlk.ren, AC.ren, AE.ren, qq]; done)) ?_
  (conv => whnf); (repeat ((first | (refine ⟨rfl, ?_⟩) | (refine ⟨trivial, ?_⟩) | (refine Wk.yes ?_) | (refine Wk.no ?_) | (refine Wk.and ?_) | (refine ⟨by exact ⟨shr_nonneg _ _, by decide⟩, ?_⟩) | (refine ⟨by exact ⟨shr_nonneg' _ _, by decide⟩, ?_⟩)); (conv => whnf)))
  refine Tr.draw (md := true) [⟨[], [], [], [], []⟩, ⟨[0], [], [], [], []⟩, ⟨[0, 1], [], [], [], []⟩, ⟨[0, 1, 2], [36, 37, 38], [], [], []⟩, ⟨[0, 1, 2], [35], [3], [], []⟩, ⟨[0, 1, 2, 4], [35], [3], [], []⟩, ⟨[0, 1, 2, 4, 5], [35], [3], [], []⟩, ⟨[0, 1, 2, 3, 4, 5, 6], [], [], [], []⟩, ⟨[0, 1, 2, 3, 4, 5, 6, 7], [], [], [], []⟩, ⟨[0, 1, 2, 3, 4, 5, 6, 7, 8], [], [], [], []⟩, ⟨[0, 1, 2, 3, 4, 5, 6, 7, 8, 9], [43], [], [], []⟩, ⟨[0, 1, 2, 3, 4, 5, 6, 7, 8, 9], [42], [10], [], []⟩, ⟨[0, 1, 2, 3, 4, 5, 6, 7, 8, 9, 10, 11], [], [], [], []⟩, ⟨[0, 1, 2, 3, 4, 5, 6, 7, 8, 9, 10, 11, 12], [], [], [], []⟩, ⟨[0, 1, 2, 3, 4, 5, 6, 7, 8, 9, 10, 11, 12, 13], [], [], [], []⟩, ⟨[0, 1, 2, 3, 4, 5, 6, 7, 8, 9, 10, 11, 12, 13, 14], [], [], [], []⟩, ⟨[0, 1, 2, 3, 4, 5, 6, 7, 8, 9, 10, 11, 12, 13, 14, 15], [], [], [], []⟩, ⟨[0, 1, 2, 3, 4, 5, 6, 7, 8, 9, 10, 11, 12, 13, 14, 15, 16], [50, 51, 52, 53, 54, 55, 56, 57, 58, 59], [], [], []⟩, ⟨[0, 1, 2, 3, 4, 5, 6, 7, 8, 9, 10, 11, 12, 13, 14, 15, 16], [49, 51, 52, 54, 55, 57, 58, 59], [17], [], []⟩, ⟨[0, 1, 2, 3, 4, 5, 6, 7, 8, 9, 10, 11, 12, 13, 14, 15, 16], [49, 50, 54, 55, 57, 58, 59], [17, 18], [], []⟩, ⟨[0, 1, 2, 3, 4, 5, 6, 7, 8, 9, 10, 11, 12, 13, 14, 15, 16, 19], [49, 50, 54, 55, 57, 58, 59], [17, 18], [], []⟩, ⟨[0, 1, 2, 3, 4, 5, 6, 7, 8, 9, 10, 11, 12, 13, 14, 15, 16, 18, 19, 20], [49, 54, 55, 57, 58, 59], [17], [], []⟩, ⟨[0, 1, 2, 3, 4, 5, 6, 7, 8, 9, 10, 11, 12, 13, 14, 15, 16], [49, 50, 51, 52, 53, 57, 58, 59], [17, 18, 19, 20, 21], [], []⟩, ⟨[0, 1, 2, 3, 4, 5, 6, 7, 8, 9, 10, 11, 12, 13, 14, 15, 16, 22], [49, 50, 51, 52, 53, 57, 58, 59], [17, 18, 19, 20, 21], [], []⟩, ⟨[0, 1, 2, 3, 4, 5, 6, 7, 8, 9, 10, 11, 12, 13, 14, 15, 16, 18, 19, 20, 21, 22, 23], [49, 57, 58, 59], [17], [], []⟩, ⟨[0, 1, 2, 3, 4, 5, 6, 7, 8, 9, 10, 11, 12, 13, 14, 15, 16], [49, 50, 51, 52, 53, 54, 55, 56, 58], [17, 18, 19, 20, 21, 22, 23, 24], [], []⟩, ⟨[0, 1, 2, 3, 4, 5, 6, 7, 8, 9, 10, 11, 12, 13, 14, 15, 16], [49, 50, 51, 52, 53, 54, 55, 56, 57], [17, 18, 19, 20, 21, 22, 23, 24, 25], [], []⟩, ⟨[0, 1, 2, 3, 4, 5, 6, 7, 8, 9, 10, 11, 12, 13, 14, 15, 16, 25, 26], [49, 50, 51, 52, 53, 54, 55, 56], [17, 18, 19, 20, 21, 22, 23, 24], [], []⟩] tok (by kernel_rfl) (by kernel_rfl) ?_
  (conv => whnf); (repeat ((first | (refine ⟨rfl, ?_⟩) | (refine ⟨trivial, ?_⟩) | (refine Wk.yes ?_) | (refine Wk.no ?_) | (refine Wk.and ?_) | (refine ⟨by exact ⟨shr_nonneg _ _, by decide⟩, ?_⟩) | (refine ⟨by exact ⟨shr_nonneg' _ _, by decide⟩, ?_⟩)); (conv => whnf)))
  rw [decide_eq_true (show (0 : Int) ≤ ((w : Nat) : Int) by omega)]
  (conv => whnf); (repeat ((first | (refine ⟨rfl, ?_⟩) | (refine ⟨trivial, ?_⟩) | (refine Wk.yes ?_) | (refine Wk.no ?_) | (refine Wk.and ?_) | (refine ⟨by exact ⟨shr_nonneg _ _, by decide⟩, ?_⟩) | (refine ⟨by exact ⟨shr_nonneg' _ _, by decide⟩, ?_⟩)); (conv => whnf)))
  rw [decide_eq_true (show ((w : Nat) : Int) < ((g.ws.length : Nat) : Int) by omega)]
  (conv => whnf); (repeat ((first | (refine ⟨rfl, ?_⟩) | (refine ⟨trivial, ?_⟩) | (refine Wk.yes ?_) | (refine Wk.no ?_) | (refine Wk.and ?_) | (refine ⟨by exact ⟨shr_nonneg _ _, by decide⟩, ?_⟩) | (refine ⟨by exact ⟨shr_nonneg' _ _, by decide⟩, ?_⟩)); (conv => whnf)))
  rw [bitE]
  by_cases d1 : bit b w = 1
  rotate_left
  · rw [decide_eq_false d1, decide_eq_false (show ¬ ((bit b w : Nat) : Int) = 1 by omega)]
    (conv => whnf); (repeat ((first | (refine ⟨rfl, ?_⟩) | (refine ⟨trivial, ?_⟩) | (refine Wk.yes ?_) | (refine Wk.no ?_) | (refine Wk.and ?_) | (refine ⟨by exact ⟨shr_nonneg _ _, by decide⟩, ?_⟩) | (refine ⟨by exact ⟨shr_nonneg' _ _, by decide⟩, ?_⟩)); (conv => whnf)))
    exact AH.Fin.nil [] ⟨rfl, rfl, rfl⟩ (by first | exact trivial | (simp [tupA, hpLt, tmLt, AV.lt, AE.lt, AC.lt, LL_cons, LL_nil, idOk, ABlk.lt, ints_LL, GB, tab64_LL, gC, wB, giC, noneB, gst, tC, pC]; done) | (simp [tupA, hpLt, tmLt, AV.lt, AE.lt, AC.lt, LL_cons, LL_nil, idOk, ABlk.lt, ints_LL, GB, tab64_LL, gC, wB, giC, noneB, gst, tC, pC, rdn, wrn]; done)) trivial trivial rfl (by simp [GB])
  rw [decide_eq_true d1, decide_eq_true (show ((bit b w : Nat) : Int) = 1 by omega)]
  obtain ⟨q1, hq1⟩ : ∃ q, q = 2 ^ cut := ⟨_, rfl⟩
  obtain ⟨q2, hq2⟩ : ∃ q, q = 2 ^ w := ⟨_, rfl⟩
  have p1 : q1 < 2048 := hq1 ▸ pow_small (by omega)
  have p2 : q2 < 2048 := hq2 ▸ pow_small (by omega)
  (conv => whnf); (repeat ((first | (refine ⟨rfl, ?_⟩) | (refine ⟨trivial, ?_⟩) | (refine Wk.yes ?_) | (refine Wk.no ?_) | (refine Wk.and ?_) | (refine ⟨by exact ⟨shr_nonneg _ _, by decide⟩, ?_⟩) | (refine ⟨by exact ⟨shr_nonneg' _ _, by decide⟩, ?_⟩)); (conv => whnf)))
  refine ⟨⟨by omega, by omega, by rw [shl1 hq1]; unfold I64; omega⟩, ?_⟩
  rw [shl1 hq1]
  (conv => whnf); (repeat ((first | (refine ⟨rfl, ?_⟩) | (refine ⟨trivial, ?_⟩) | (refine Wk.yes ?_) | (refine Wk.no ?_) | (refine Wk.and ?_) | (refine ⟨by exact ⟨shr_nonneg _ _, by decide⟩, ?_⟩) | (refine ⟨by exact ⟨shr_nonneg' _ _, by decide⟩, ?_⟩)); (conv => whnf)))
  refine ⟨⟨by omega, by omega, by rw [shl1 hq2]; unfold I64; omega⟩, ?_⟩
  rw [shl1 hq2]
  have hof : offN a cut < 2 ^ 10 := by
    have h1 : a &&& 2 ^ cut ≤ a := Nat.and_le_left
    exact Nat.xor_lt_two_pow (by omega) (by omega)
  have hor : offN a cut ||| q2 < 2 ^ 10 := or_lt hof (by rw [hq2]; exact (Nat.pow_lt_pow_iff_right (by omega)).2 (by omega))
  have hta := tree_spec hg (set := offN a cut ||| q2) (pl := placesN g a) (by omega) (by omega)
  have hofe : a ^^^ (a &&& q1) = offN a cut := by rw [offN, hq1]
  rw [← hq2]
  generalize treeR g (offN a cut ||| q2) (placesN g a) = ta at *
  simp only [Int.toNat_natCast, hofe]
  (conv => whnf); (repeat ((first | (refine ⟨rfl, ?_⟩) | (refine ⟨trivial, ?_⟩) | (refine Wk.yes ?_) | (refine Wk.no ?_) | (refine Wk.and ?_) | (refine ⟨by exact ⟨shr_nonneg _ _, by decide⟩, ?_⟩) | (refine ⟨by exact ⟨shr_nonneg' _ _, by decide⟩, ?_⟩)); (conv => whnf)))
  refine CallQ.ro [0] (.c (.int .i64 (placesN g a))) (placesR_spec hg ha) (by first | rfl | exact congrArg AV.g (ints_ren _ _) | (simp [ints_ren, AV.ren, ABlk.ren, AC.ren, AE.ren, qq]; done)) rfl (by (repeat (first | exact trivial | refine ⟨⟨(by first | exact .inl (by decide) | exact .inr (by decide)), (by first | (refine Or.inl ?_; first | rfl | exact congrArg some (ints_ren _ _).symm | exact congrArg ABlk.own (ints_ren _ _).symm | exact congrArg some (tab64_ren _).symm) | rfl | exact congrArg some (ints_ren _ _).symm | exact congrArg ABlk.own (ints_ren _ _).symm | exact congrArg some (tab64_ren _).symm | exact Or.inr ⟨rfl, rfl⟩)⟩, ?_⟩))) (by first | rfl | exact congrArg AV.g (ints_ren _ _) | (simp [ints_ren, AV.ren, ABlk.ren, AC.ren, AE.ren, qq]; done)) ?_
  (conv => whnf); (repeat ((first | (refine ⟨rfl, ?_⟩) | (refine ⟨trivial, ?_⟩) | (refine Wk.yes ?_) | (refine Wk.no ?_) | (refine Wk.and ?_) | (refine ⟨by exact ⟨shr_nonneg _ _, by decide⟩, ?_⟩) | (refine ⟨by exact ⟨shr_nonneg' _ _, by decide⟩, ?_⟩)); (conv => whnf)))
  refine CallA.ro [0] (.c (.bool ta)) (hta) (by first | rfl | exact congrArg AV.g (ints_ren _ _) | (simp [ints_ren, AV.ren, ABlk.ren, AC.ren, AE.ren, qq]; done)) rfl (by (repeat (first | exact trivial | refine ⟨⟨(by first | exact .inl (by decide) | exact .inr (by decide)), (by first | (refine Or.inl ?_; first | rfl | exact congrArg some (ints_ren _ _).symm | exact congrArg ABlk.own (ints_ren _ _).symm | exact congrArg some (tab64_ren _).symm) | rfl | exact congrArg some (ints_ren _ _).symm | exact congrArg ABlk.own (ints_ren _ _).symm | exact congrArg some (tab64_ren _).symm | exact Or.inr ⟨rfl, rfl⟩)⟩, ?_⟩))) (by first | rfl | exact congrArg AV.g (ints_ren _ _) | (simp [ints_ren, AV.ren, ABlk.ren, AC.ren, AE.ren, qq]; done)) ?_
  (conv => whnf); (repeat ((first | (refine ⟨rfl, ?_⟩) | (refine ⟨trivial, ?_⟩) | (refine Wk.yes ?_) | (refine Wk.no ?_) | (refine Wk.and ?_) | (refine ⟨by exact ⟨shr_nonneg _ _, by decide⟩, ?_⟩) | (refine ⟨by exact ⟨shr_nonneg' _ _, by decide⟩, ?_⟩)); (conv => whnf)))
  exact AH.Fin.nil [] ⟨rfl, rfl, rfl⟩ (by first | exact trivial | (simp [tupA, hpLt, tmLt, AV.lt, AE.lt, AC.lt, LL_cons, LL_nil, idOk, ABlk.lt, ints_LL, GB, tab64_LL, gC, wB, giC, noneB, gst, tC, pC]; done) | (simp [tupA, hpLt, tmLt, AV.lt, AE.lt, AC.lt, LL_cons, LL_nil, idOk, ABlk.lt, ints_LL, GB, tab64_LL, gC, wB, giC, noneB, gst, tC, pC, rdn, wrn]; done)) trivial trivial rfl (by simp [GB])
theorem replyR1_spec {g : Gm} (hg : g.ok) (L0 L1 : List Int) (h0 : L0.length ≤ 1000) (h1 : L1.length ≤ 1000) {cut w : Nat} (hcut : cut < g.ws.length) (hw : w < g.ws.length) : FDet Tryd.prog 34 [.g (gC g 0), .g [.rs 1 0 L0.length, .rs 2 0 L1.length], .c (.int .i64 1), .c (.int .i64 cut), .c (.int .i64 w)] [(0, wB g), (1, .ro (ints L0)), (2, .ro (ints L1))] 3
    (.c (.bool (decide (bit (setV g.ws.length L0) w = 1) && treeR g (offN (setV g.ws.length L1) cut ||| 2 ^ w) (placesN g (setV g.ws.length L1))))) [] 3 := by
  have hgl := hg.len
  have s0 := setR_spec hg L1 h1
  have s1 := setR_spec hg L0 h0
  have ha := setV_lt g.ws.length L1
  have hb := setV_lt g.ws.length L0
  change FDet _ _ _ _ _ (.t [.c (.int .i64 (setV g.ws.length L1 : Nat)), .c (.bool (setOk g.ws.length L1))]) _ _ at s0
  change FDet _ _ _ _ _ (.t [.c (.int .i64 (setV g.ws.length L0 : Nat)), .c (.bool (setOk g.ws.length L0))]) _ _ at s1
  generalize setV g.ws.length L1 = a at *
  generalize setV g.ws.length L0 = b at *
  generalize setOk g.ws.length L1 = x at *
  generalize setOk g.ws.length L0 = y at *
  have hp2 : 2 ^ g.ws.length ≤ 1024 := Nat.pow_le_pow_right (by omega) hgl
  have hpl : placesN g a < 2 ^ 8 := placesN_lt hg _ fun y hy => (mem_lt hgl ha hy).2
  have c1 := bit_01 b w
  refine FSpec.of_body tok true Tryd.func34 rfl (by kernel_rfl) (by decide) (by simp [tupA, hpLt, tmLt, AV.lt, AE.lt, AC.lt, LL_cons, LL_nil, idOk, ABlk.lt, ints_LL, GB, tab64_LL, gC, wB, giC, noneB, gst, tC, pC]) (by simp [tupA, hpLt, tmLt, AV.lt, AE.lt, AC.lt, LL_cons, LL_nil, idOk, ABlk.lt, ints_LL, GB, tab64_LL, gC, wB, giC, noneB, gst, tC, pC]) (by show 5 ≤ _; decide) ?_
  (conv => whnf); (repeat ((first | (refine ⟨rfl, ?_⟩) | (refine ⟨trivial, ?_⟩) | (refine Wk.yes ?_) | (refine Wk.no ?_) | (refine Wk.and ?_) | (refine ⟨by exact ⟨shr_nonneg _ _, by decide⟩, ?_⟩) | (refine ⟨by exact ⟨shr_nonneg' _ _, by decide⟩, ?_⟩)); (conv => whnf)))
  refine Tr.draw (md := true) [⟨[], [17, 18, 19], [], [], []⟩, ⟨[], [16], [0], [], []⟩, ⟨[1], [16], [0], [], []⟩, ⟨[1, 2], [16], [0], [], []⟩, ⟨[0, 1, 2, 3], [], [], [], []⟩, ⟨[0, 1, 2, 3, 4], [], [], [], []⟩, ⟨[0, 1, 2, 3, 4, 5], [22], [], [], []⟩, ⟨[0, 1, 2, 3, 4, 5], [11, 21], [6], [], []⟩, ⟨[0, 1, 2, 3, 4, 5, 6], [22], [7], [], []⟩] tok (by kernel_rfl) (by kernel_rfl) ?_
  (conv => whnf); (repeat ((first | (refine ⟨rfl, ?_⟩) | (refine ⟨trivial, ?_⟩) | (refine Wk.yes ?_) | (refine Wk.no ?_) | (refine Wk.and ?_) | (refine ⟨by exact ⟨shr_nonneg _ _, by decide⟩, ?_⟩) | (refine ⟨by exact ⟨shr_nonneg' _ _, by decide⟩, ?_⟩)); (conv => whnf)))
  refine CallQ.ro [0, 2] (.t [.c (.int .i64 a), .c (.bool x)]) (s0) (by first | rfl | exact congrArg AV.g (ints_ren _ _) | (simp [ints_ren, AV.ren, ABlk.ren, AC.ren, AE.ren, qq]; done)) rfl (by (repeat (first | exact trivial | refine ⟨⟨(by first | exact .inl (by decide) | exact .inr (by decide)), (by first | (refine Or.inl ?_; first | rfl | exact congrArg some (ints_ren _ _).symm | exact congrArg ABlk.own (ints_ren _ _).symm | exact congrArg some (tab64_ren _).symm) | rfl | exact congrArg some (ints_ren _ _).symm | exact congrArg ABlk.own (ints_ren _ _).symm | exact congrArg some (tab64_ren _).symm | exact Or.inr ⟨rfl, rfl⟩)⟩, ?_⟩))) (by first | rfl | exact congrArg AV.g (ints_ren _ _) | (simp [ints_ren, AV.ren, ABlk.ren, AC.ren, AE.ren, qq]; done)) ?_
  (conv => whnf); (repeat ((first | (refine ⟨rfl, ?_⟩) | (refine ⟨trivial, ?_⟩) | (refine Wk.yes ?_) | (refine Wk.no ?_) | (refine Wk.and ?_) | (refine ⟨by exact ⟨shr_nonneg _ _, by decide⟩, ?_⟩) | (refine ⟨by exact ⟨shr_nonneg' _ _, by decide⟩, ?_⟩)); (conv => whnf)))
  refine Tr.draw (md := true) [⟨[], [25, 26, 27, 28], [], [], []⟩, ⟨[], [24], [0], [], []⟩, ⟨[1], [24], [0], [], []⟩, ⟨[1, 2], [24], [0], [], []⟩, ⟨[1, 2, 3], [24], [0], [], []⟩, ⟨[0, 1, 2, 3, 4], [], [], [], []⟩, ⟨[0, 1, 2, 3, 4, 5], [], [], [], []⟩, ⟨[0, 1, 2, 3, 4, 5, 6], [31], [], [], []⟩, ⟨[0, 1, 2, 3, 4, 5, 6], [13, 30], [7], [], []⟩, ⟨[0, 1, 2, 3, 4, 5, 6, 7], [31], [8], [], []⟩] tok (by kernel_rfl) (by kernel_rfl) ?_
  (conv => whnf); (repeat ((first | (refine ⟨rfl, ?_⟩) | (refine ⟨trivial, ?_⟩) | (refine Wk.yes ?_) | (refine Wk.no ?_) | (refine Wk.and ?_) | (refine ⟨by exact ⟨shr_nonneg _ _, by decide⟩, ?_⟩) | (refine ⟨by exact ⟨shr_nonneg' _ _, by decide⟩, ?_⟩)); (conv => whnf)))
  refine CallQ.ro [0, 1] (.t [.c (.int .i64 b), .c (.bool y)]) (s1) (by first | rfl | exact congrArg AV.g (ints_ren _ _) | (simp [ints_ren, AV.ren, ABlk.ren, AC.ren, AE.ren, qq]; done)) rfl (by (repeat (first | exact trivial | refine ⟨⟨(by first | exact .inl (by decide) | exact .inr (by decide)), (by first | (refine Or.inl ?_; first | rfl | exact congrArg some (ints_ren _ _).symm | exact congrArg ABlk.own (ints_ren _ _).symm | exact congrArg some (tab64_ren _).symm) | rfl | exact congrArg some (ints_ren _ _).symm | exact congrArg ABlk.own (ints_ren _ _).symm | exact congrArg some (tab64_ren _).symm | exact Or.inr ⟨rfl, rfl⟩)⟩, ?_⟩))) (by first | rfl | exact congrArg AV.g (ints_ren _ _) | (simp [ints_ren, AV.ren, ABlk.ren, AC.ren, AE.ren, qq]; done)) ?_
  (conv => whnf); (repeat ((first | (refine ⟨rfl, ?_⟩) | (refine ⟨trivial, ?_⟩) | (refine Wk.yes ?_) | (refine Wk.no ?_) | (refine Wk.and ?_) | (refine ⟨by exact ⟨shr_nonneg _ _, by decide⟩, ?_⟩) | (refine ⟨by exact ⟨shr_nonneg' _ _, by decide⟩, ?_⟩)); (conv => whnf)))
  refine Tr.draw (md := true) [⟨[], [], [], [], []⟩, ⟨[0], [], [], [], []⟩, ⟨[0, 1], [], [], [], []⟩, ⟨[0, 1, 2], [36, 37, 38], [], [], []⟩, ⟨[0, 1, 2], [35], [3], [], []⟩, ⟨[0, 1, 2, 4], [35], [3], [], []⟩, ⟨[0, 1, 2, 4, 5], [35], [3], [], []⟩, ⟨[0, 1, 2, 3, 4, 5, 6], [], [], [], []⟩, ⟨[0, 1, 2, 3, 4, 5, 6, 7], [], [], [], []⟩, ⟨[0, 1, 2, 3, 4, 5, 6, 7, 8], [], [], [], []⟩, ⟨[0, 1, 2, 3, 4, 5, 6, 7, 8, 9], [43], [], [], []⟩, ⟨[0, 1, 2, 3, 4, 5, 6, 7, 8, 9], [42], [10], [], []⟩, ⟨[0, 1, 2, 3, 4, 5, 6, 7, 8, 9, 10, 11], [], [], [], []⟩, ⟨[0, 1, 2, 3, 4, 5, 6, 7, 8, 9, 10, 11, 12], [], [], [], []⟩, ⟨[0, 1, 2, 3, 4, 5, 6, 7, 8, 9, 10, 11, 12, 13], [], [], [], []⟩, ⟨[0, 1, 2, 3, 4, 5, 6, 7, 8, 9, 10, 11, 12, 13, 14], [], [], [], []⟩, ⟨[0, 1, 2, 3, 4, 5, 6, 7, 8, 9, 10, 11, 12, 13, 14, 15], [], [], [], []⟩, ⟨[0, 1, 2, 3, 4, 5, 6, 7, 8, 9, 10, 11, 12, 13, 14, 15, 16], [50, 51, 52, 53, 54, 55, 56, 57, 58, 59], [], [], []⟩, ⟨[0, 1, 2, 3, 4, 5, 6, 7, 8, 9, 10, 11, 12, 13, 14, 15, 16], [49, 51, 52, 54, 55, 57, 58, 59], [17], [], []⟩, ⟨[0, 1, 2, 3, 4, 5, 6, 7, 8, 9, 10, 11, 12, 13, 14, 15, 16], [49, 50, 54, 55, 57, 58, 59], [17, 18], [], []⟩, ⟨[0, 1, 2, 3, 4, 5, 6, 7, 8, 9, 10, 11, 12, 13, 14, 15, 16, 19], [49, 50, 54, 55, 57, 58, 59], [17, 18], [], []⟩, ⟨[0, 1, 2, 3, 4, 5, 6, 7, 8, 9, 10, 11, 12, 13, 14, 15, 16, 18, 19, 20], [49, 54, 55, 57, 58, 59], [17], [], []⟩, ⟨[0, 1, 2, 3, 4, 5, 6, 7, 8, 9, 10, 11, 12, 13, 14, 15, 16], [49, 50, 51, 52, 53, 57, 58, 59], [17, 18, 19, 20, 21], [], []⟩, ⟨[0, 1, 2, 3, 4, 5, 6, 7, 8, 9, 10, 11, 12, 13, 14, 15, 16, 22], [49, 50, 51, 52, 53, 57, 58, 59], [17, 18, 19, 20, 21], [], []⟩, ⟨[0, 1, 2, 3, 4, 5, 6, 7, 8, 9, 10, 11, 12, 13, 14, 15, 16, 18, 19, 20, 21, 22, 23], [49, 57, 58, 59], [17], [], []⟩, ⟨[0, 1, 2, 3, 4, 5, 6, 7, 8, 9, 10, 11, 12, 13, 14, 15, 16], [49, 50, 51, 52, 53, 54, 55, 56, 58], [17, 18, 19, 20, 21, 22, 23, 24], [], []⟩, ⟨[0, 1, 2, 3, 4, 5, 6, 7, 8, 9, 10, 11, 12, 13, 14, 15, 16], [49, 50, 51, 52, 53, 54, 55, 56, 57], [17, 18, 19, 20, 21, 22, 23, 24, 25], [], []⟩, ⟨[0, 1, 2, 3, 4, 5, 6, 7, 8, 9, 10, 11, 12, 13, 14, 15, 16, 25, 26], [49, 50, 51, 52, 53, 54, 55, 56], [17, 18, 19, 20, 21, 22, 23, 24], [], []⟩] tok (by kernel_rfl) (by kernel_rfl) ?_
  (conv => whnf); (repeat ((first | (refine ⟨rfl, ?_⟩) | (refine ⟨trivial, ?_⟩) | (refine Wk.yes ?_) | (refine Wk.no ?_) | (refine Wk.and ?_) | (refine ⟨by exact ⟨shr_nonneg _ _, by decide⟩, ?_⟩) | (refine ⟨by exact ⟨shr_nonneg' _ _, by decide⟩, ?_⟩)); (conv => whnf)))
  rw [decide_eq_true (show (0 : Int) ≤ ((w : Nat) : Int) by omega)]
  (conv => whnf); (repeat ((first | (refine ⟨rfl, ?_⟩) | (refine ⟨trivial, ?_⟩) | (refine Wk.yes ?_) | (refine Wk.no ?_) | (refine Wk.and ?_) | (refine ⟨by exact ⟨shr_nonneg _ _, by decide⟩, ?_⟩) | (refine ⟨by exact ⟨shr_nonneg' _ _, by decide⟩, ?_⟩)); (conv => whnf)))
  rw [decide_eq_true (show ((w : Nat) : Int) < ((g.ws.length : Nat) : Int) by omega)]
  (conv => whnf); (repeat ((first | (refine ⟨rfl, ?_⟩) | (refine ⟨trivial, ?_⟩) | (refine Wk.yes ?_) | (refine Wk.no ?_) | (refine Wk.and ?_) | (refine ⟨by exact ⟨shr_nonneg _ _, by decide⟩, ?_⟩) | (refine ⟨by exact ⟨shr_nonneg' _ _, by decide⟩, ?_⟩)); (conv => whnf)))
  rw [bitE]
  by_cases d1 : bit b w = 1
  rotate_left
  · rw [decide_eq_false d1, decide_eq_false (show ¬ ((bit b w : Nat) : Int) = 1 by omega)]
    (conv => whnf); (repeat ((first | (refine ⟨rfl, ?_⟩) | (refine ⟨trivial, ?_⟩) | (refine Wk.yes ?_) | (refine Wk.no ?_) | (refine Wk.and ?_) | (refine ⟨by exact ⟨shr_nonneg _ _, by decide⟩, ?_⟩) | (refine ⟨by exact ⟨shr_nonneg' _ _, by decide⟩, ?_⟩)); (conv => whnf)))
    exact AH.Fin.nil [] ⟨rfl, rfl, rfl⟩ (by first | exact trivial | (simp [tupA, hpLt, tmLt, AV.lt, AE.lt, AC.lt, LL_cons, LL_nil, idOk, ABlk.lt, ints_LL, GB, tab64_LL, gC, wB, giC, noneB, gst, tC, pC]; done) | (simp [tupA, hpLt, tmLt, AV.lt, AE.lt, AC.lt, LL_cons, LL_nil, idOk, ABlk.lt, ints_LL, GB, tab64_LL, gC, wB, giC, noneB, gst, tC, pC, rdn, wrn]; done)) trivial trivial rfl (by simp [GB])
  rw [decide_eq_true d1, decide_eq_true (show ((bit b w : Nat) : Int) = 1 by omega)]
  obtain ⟨q1, hq1⟩ : ∃ q, q = 2 ^ cut := ⟨_, rfl⟩
  obtain ⟨q2, hq2⟩ : ∃ q, q = 2 ^ w := ⟨_, rfl⟩
  have p1 : q1 < 2048 := hq1 ▸ pow_small (by omega)
  have p2 : q2 < 2048 := hq2 ▸ pow_small (by omega)
  (conv => whnf); (repeat ((first | (refine ⟨rfl, ?_⟩) | (refine ⟨trivial, ?_⟩) | (refine Wk.yes ?_) | (refine Wk.no ?_) | (refine Wk.and ?_) | (refine ⟨by exact ⟨shr_nonneg _ _, by decide⟩, ?_⟩) | (refine ⟨by exact ⟨shr_nonneg' _ _, by decide⟩, ?_⟩)); (conv => whnf)))
  refine ⟨⟨by omega, by omega, by rw [shl1 hq1]; unfold I64; omega⟩, ?_⟩
  rw [shl1 hq1]
  (conv => whnf); (repeat ((first | (refine ⟨rfl, ?_⟩) | (refine ⟨trivial, ?_⟩) | (refine Wk.yes ?_) | (refine Wk.no ?_) | (refine Wk.and ?_) | (refine ⟨by exact ⟨shr_nonneg _ _, by decide⟩, ?_⟩) | (refine ⟨by exact ⟨shr_nonneg' _ _, by decide⟩, ?_⟩)); (conv => whnf)))
  refine ⟨⟨by omega, by omega, by rw [shl1 hq2]; unfold I64; omega⟩, ?_⟩
  rw [shl1 hq2]
  have hof : offN a cut < 2 ^ 10 := by
    have h1 : a &&& 2 ^ cut ≤ a := Nat.and_le_left
    exact Nat.xor_lt_two_pow (by omega) (by omega)
  have hor : offN a cut ||| q2 < 2 ^ 10 := or_lt hof (by rw [hq2]; exact (Nat.pow_lt_pow_iff_right (by omega)).2 (by omega))
  have hta := tree_spec hg (set := offN a cut ||| q2) (pl := placesN g a) (by omega) (by omega)
  have hofe : a ^^^ (a &&& q1) = offN a cut := by rw [offN, hq1]
  rw [← hq2]
  generalize treeR g (offN a cut ||| q2) (placesN g a) = ta at *
  simp only [Int.toNat_natCast, hofe]
  (conv => whnf); (repeat ((first | (refine ⟨rfl, ?_⟩) | (refine ⟨trivial, ?_⟩) | (refine Wk.yes ?_) | (refine Wk.no ?_) | (refine Wk.and ?_) | (refine ⟨by exact ⟨shr_nonneg _ _, by decide⟩, ?_⟩) | (refine ⟨by exact ⟨shr_nonneg' _ _, by decide⟩, ?_⟩)); (conv => whnf)))
  refine CallQ.ro [0] (.c (.int .i64 (placesN g a))) (placesR_spec hg ha) (by first | rfl | exact congrArg AV.g (ints_ren _ _) | (simp [ints_ren, AV.ren, ABlk.ren, AC.ren, AE.ren, qq]; done)) rfl (by (repeat (first | exact trivial | refine ⟨⟨(by first | exact .inl (by decide) | exact .inr (by decide)), (by first | (refine Or.inl ?_; first | rfl | exact congrArg some (ints_ren _ _).symm | exact congrArg ABlk.own (ints_ren _ _).symm | exact congrArg some (tab64_ren _).symm) | rfl | exact congrArg some (ints_ren _ _).symm | exact congrArg ABlk.own (ints_ren _ _).symm | exact congrArg some (tab64_ren _).symm | exact Or.inr ⟨rfl, rfl⟩)⟩, ?_⟩))) (by first | rfl | exact congrArg AV.g (ints_ren _ _) | (simp [ints_ren, AV.ren, ABlk.ren, AC.ren, AE.ren, qq]; done)) ?_
  (conv => whnf); (repeat ((first | (refine ⟨rfl, ?_⟩) | (refine ⟨trivial, ?_⟩) | (refine Wk.yes ?_) | (refine Wk.no ?_) | (refine Wk.and ?_) | (refine ⟨by exact ⟨shr_nonneg _ _, by decide⟩, ?_⟩) | (refine ⟨by exact ⟨shr_nonneg' _ _, by decide⟩, ?_⟩)); (conv => whnf)))
  refine CallA.ro [0] (.c (.bool ta)) (hta) (by first | rfl | exact congrArg AV.g (ints_ren _ _) | (simp [ints_ren, AV.ren, ABlk.ren, AC.ren, AE.ren, qq]; done)) rfl (by (repeat (first | exact trivial | refine ⟨⟨(by first | exact .inl (by decide) | exact .inr (by decide)), (by first | (refine Or.inl ?_; first | rfl | exact congrArg some (ints_ren _ _).symm | exact congrArg ABlk.own (ints_ren _ _).symm | exact congrArg some (tab64_ren _).symm) | rfl | exact congrArg some (ints_ren _ _).symm | exact congrArg ABlk.own (ints_ren _ _).symm | exact congrArg some (tab64_ren _).symm | exact Or.inr ⟨rfl, rfl⟩)⟩, ?_⟩))) (by first | rfl | exact congrArg AV.g (ints_ren _ _) | (simp [ints_ren, AV.ren, ABlk.ren, AC.ren, AE.ren, qq]; done)) ?_
  (conv => whnf); (repeat ((first | (refine ⟨rfl, ?_⟩) | (refine ⟨trivial, ?_⟩) | (refine Wk.yes ?_) | (refine Wk.no ?_) | (refine Wk.and ?_) | (refine ⟨by exact ⟨shr_nonneg _ _, by decide⟩, ?_⟩) | (refine ⟨by exact ⟨shr_nonneg' _ _, by decide⟩, ?_⟩)); (conv => whnf)))
  exact AH.Fin.nil [] ⟨rfl, rfl, rfl⟩ (by first | exact trivial | (simp [tupA, hpLt, tmLt, AV.lt, AE.lt, AC.lt, LL_cons, LL_nil, idOk, ABlk.lt, ints_LL, GB, tab64_LL, gC, wB, giC, noneB, gst, tC, pC]; done) | (simp [tupA, hpLt, tmLt, AV.lt, AE.lt, AC.lt, LL_cons, LL_nil, idOk, ABlk.lt, ints_LL, GB, tab64_LL, gC, wB, giC, noneB, gst, tC, pC, rdn, wrn]; done)) trivial trivial rfl (by simp [GB])
end Go.Proofs.YtfphkpdobbffeaaDoor

/-
  Plain law: a tree on some places, by both.
-/
namespace Go.Proofs.YtfphkpdobbffeaaDoor
open Go Go.AH
set_option maxRecDepth 100000
set_option maxHeartbeats 1000000

theorem scan_gen (l : List Int) (pl n : Nat) : ∀ f k (first : Int), f + k = n → 0 ≤ first → (scanF l pl f k first = true ↔ ∀ j, k ≤ j → j < n → pl.testBit j = true → l.getD j 0 = first)
  | 0, k, first, h, _ => by
    simp only [scanF, true_iff]
    exact fun j h1 h2 => by omega
  | f + 1, k, first, h, h0 => by
    have hb := bit_test pl k
    have hb1 := bit_01 pl k
    rw [scanF]
    split
    · rename_i e
      rw [scan_gen l pl n f (k + 1) first (by omega) h0]
      constructor
      · intro h j h1 h2 h3
        by_cases hj : j = k
        · subst hj; rw [hb.2 h3] at e; omega
        · exact h j (by omega) h2 h3
      · exact fun h j h1 h2 => h j (by omega) h2
    · rename_i e
      simp only [if_neg (show ¬ first < 0 by omega)]
      split
      · rename_i e
        rw [scan_gen l pl n f (k + 1) first (by omega) h0]
        constructor
        · intro h j h1 h2 h3
          by_cases hj : j = k
          · rw [hj]; exact e
          · exact h j (by omega) h2 h3
        · exact fun h j h1 h2 => h j (by omega) h2
      · rename_i e2
        simp only [Bool.false_eq_true, false_iff]
        exact fun h => e2 (h k (by omega) (by omega) (hb.1 (by omega)))
theorem scan_start (l : List Int) (pl n : Nat) (hl : ∀ i, i < n → 0 ≤ l.getD i 0) : ∀ f k, f + k = n → (scanF l pl f k (-1) = true ↔ ∀ i j, k ≤ i → i < n → k ≤ j → j < n → pl.testBit i = true → pl.testBit j = true → l.getD i 0 = l.getD j 0)
  | 0, k, h => by
    simp only [scanF, true_iff]
    exact fun i j h1 h2 => by omega
  | f + 1, k, h => by
    have hb := bit_test pl k
    have hb1 := bit_01 pl k
    rw [scanF]
    split
    · rename_i e
      rw [scan_start l pl n hl f (k + 1) (by omega)]
      have ne : ∀ i, pl.testBit i = true → i ≠ k := fun i hi e2 => by subst e2; rw [hb.2 hi] at e; omega
      constructor
      · intro h i j h1 h2 h3 h4 h5 h6
        exact h i j (by have := ne i h5; omega) h2 (by have := ne j h6; omega) h4 h5 h6
      · exact fun h i j h1 h2 h3 h4 => h i j (by omega) h2 (by omega) h4
    · rename_i e
      simp only [show (-1 : Int) < 0 from by decide, if_true]
      rw [scan_gen l pl n f (k + 1) _ (by omega) (hl k (by omega))]
      have hk := hb.1 (by omega)
      constructor
      · intro h i j h1 h2 h3 h4 h5 h6
        have key : ∀ i, k ≤ i → i < n → pl.testBit i = true → l.getD i 0 = l.getD k 0 := fun i h1 h2 h5 => by
          by_cases e : i = k
          · rw [e]
          · exact h i (by omega) h2 h5
        rw [key i h1 h2 h5, key j h3 h4 h6]
      · exact fun h j h1 h2 h3 => h j k (by omega) h2 (by omega) (by omega) h3 hk
theorem countP_split (p q : Nat → Bool) : ∀ l : List Nat, l.countP p = l.countP (fun u => p u && q u) + l.countP (fun u => p u && !q u)
  | [] => rfl
  | a :: l => by
    simp only [List.countP_cons, countP_split p q l]
    cases p a <;> cases q a <;> simp <;> omega
theorem pop_cnt {pl n : Nat} (hn : n ≤ 10) (h : pl < 2 ^ n) : (List.range n).countP pl.testBit = pop pl := by
  rw [pop, memN, range_filter _ 10 hn fun i hi => by
    cases h2 : pl.testBit i with
    | false => rfl
    | true => have := lt_len h h2; omega, List.countP_eq_length_filter]
theorem cnt_is (r : Nat) : ∀ n, (List.range n).countP (fun u => decide (u = r)) = if r < n then 1 else 0
  | 0 => by simp
  | n + 1 => by
    have e1 : [n].countP (fun u => decide (u = r)) = if n = r then 1 else 0 := by simp [List.countP_cons]
    rw [List.range_succ, List.countP_append, cnt_is r n, e1]
    split <;> split <;> split <;> omega
/-- All places of pl lie in one group. -/
def oneG (xs : List Int) (pl : Nat) : Prop := ∀ u v, pl.testBit u = true → pl.testBit v = true → root xs u = root xs v
def rootsIn (xs : List Int) (pl n : Nat) : Nat := (List.range n).countP fun u => decide (root xs u = u) && pl.testBit u
theorem rootsIn_one {xs : List Int} (h : Grp xs) {pl n : Nat} (hn : n ≤ 8) (hpl : pl < 2 ^ n) (h0 : pl ≠ 0) (hL : ∀ u, u < 8 → pl.testBit u = false → ∀ v, v < 8 → v ≠ u → root xs v ≠ u) : rootsIn xs pl n = 1 ↔ oneG xs pl := by
  have inn : ∀ u, pl.testBit u = true → u < n := fun u hu => lt_len hpl hu
  have rin : ∀ u, pl.testBit u = true → pl.testBit (root xs u) = true := fun u hu => by
    have hu8 := inn u hu
    have hr := root_le h (show u < 8 by omega)
    cases e : pl.testBit (root xs u) with
    | true => rfl
    | false =>
      exact absurd rfl (hL (root xs u) (by omega) e u (by omega) (fun e2 => by rw [← e2, hu] at e; cases e))
  constructor
  · intro hk u v hu hv
    have hu8 := inn u hu
    have hv8 := inn v hv
    have hru := root_le h (show u < 8 by omega)
    have hrv := root_le h (show v < 8 by omega)
    have hm := cnt_rm (fun u => decide (root xs u = u) && pl.testBit u) (root xs u) (by simp [root_root h (show u < 8 by omega), rin u hu]) n
    rw [if_pos (by omega)] at hm
    unfold rootsIn at hk
    have hz : (List.range n).countP (fun w => (decide (root xs w = w) && pl.testBit w) && decide (w ≠ root xs u)) = 0 := by omega
    rw [List.countP_eq_zero] at hz
    have := hz (root xs v) (List.mem_range.2 (by omega))
    rw [root_root h (by omega), rin v hv] at this
    simp at this
    exact this.symm
  · intro ho
    obtain ⟨u0, hu0⟩ : ∃ u0, pl.testBit u0 = true := Nat.exists_testBit_of_ne_zero h0
    have hu8 := inn u0 hu0
    have hr0 := root_le h (show u0 < 8 by omega)
    unfold rootsIn
    rw [List.countP_congr (q := fun u => decide (u = root xs u0)) fun u hu => ?_, cnt_is, if_pos (by omega)]
    simp only [Bool.and_eq_true, decide_eq_true_eq]
    constructor
    · rintro ⟨h1, h2⟩
      rw [← h1]; exact ho u u0 h2 hu0
    · rintro rfl
      exact ⟨root_root h (by omega), rin u0 hu0⟩
theorem tree_pl {g : Gm} (hg : g.ok) {b pl : Nat} (hb : b < 2 ^ g.ws.length) (hpl : pl < 2 ^ g.n) (h2 : 2 ≤ pop pl) : isTreeB g b pl = treeR g b pl := by
  have h8 := hg.n8
  have hl10 := hg.len
  have hG : Grp (keptL g b) := Grp.fold hg (mem b) _ Grp.alone fun y hy => (mem_lt hl10 hb hy).2
  have hac := acy_comps hg (mem b) (aloneSt 8) Grp.alone fun y hy => (mem_lt hl10 hb hy).2
  rw [show (mem b).foldl (joinF g) (aloneSt 8) = keptL g b from rfl, comps_alone h8, show (mem b).length = pop b from by simp [mem, pop]] at hac
  have hlab := labels hg b g.ws.length (Nat.le_refl _)
  rw [← kept_eq hg hb] at hlab
  have hp0 : pl ≠ 0 := fun e => by subst e; revert h2; decide
  have hp2 : 2 ^ g.ws.length ≤ 1024 := Nat.pow_le_pow_right (by omega) hl10
  have hpc := pop_cnt (show g.n ≤ 10 by omega) hpl
  have tch : ∀ u, u < 8 → (mem b).any (endOf g u) = false → root (keptL g b) u = u ∧ ∀ v, v < 8 → v ≠ u → root (keptL g b) v ≠ u := fun u hu hf =>
    lone hg hu (mem b) (aloneSt 8) Grp.alone (fun y hy => (mem_lt hl10 hb hy).2) (fun y hy => by
      cases h : endOf g u y with
      | false => rfl
      | true => rw [List.any_eq_false] at hf; exact absurd h (hf y hy)) (alone_root (by omega)) (fun v hv hne => by rw [alone_root hv]; exact hne)
  have hpb : ∀ u, (placesN g b).testBit u = (mem b).any (endOf g u) := fun u => by rw [placesN, places_bit, Nat.zero_testBit, Bool.false_or]
  -- the groups, counted
  have cnt : (∀ u, u < 8 → pl.testBit u = false → (mem b).any (endOf g u) = false) → comps (keptL g b) g.n + pop pl = rootsIn (keptL g b) pl g.n + g.n := fun H => by
    have e1 := countP_split (fun u => decide (root (keptL g b) u = u)) pl.testBit (List.range g.n)
    have e2 : (List.range g.n).countP (fun u => decide (root (keptL g b) u = u) && !pl.testBit u) = (List.range g.n).countP (fun u => true && !pl.testBit u) := List.countP_congr fun u hu => by
      have hu8 := List.mem_range.1 hu
      cases e : pl.testBit u with
      | true => simp
      | false => simp [(tch u (by omega) (H u (by omega) e)).1]
    have e3 := countP_split (fun _ => true) pl.testBit (List.range g.n)
    have e4 : (List.range g.n).countP (fun u => true && pl.testBit u) = pop pl := by rw [← hpc]; exact List.countP_congr fun u _ => by simp
    have e5 : (List.range g.n).countP (fun _ => true) = g.n := by simp
    unfold comps rootsIn
    rw [e1, e2]
    omega
  have one := fun (H : ∀ u, u < 8 → pl.testBit u = false → (mem b).any (endOf g u) = false) => rootsIn_one hG h8 hpl hp0 (fun u hu hf v hv hne => (tch u hu (H u hu hf)).2 v hv hne)
  have hsc : scanF (grpR g b g.ws.length) pl g.n 0 (-1) = true ↔ oneG (keptL g b) pl := by
    rw [scan_start _ _ g.n (fun i hi => by rw [hlab i hi]; omega) g.n 0 (by omega)]
    constructor
    · intro h u v hu hv
      have hu8 := lt_len hpl hu
      have hv8 := lt_len hpl hv
      have := h u v (by omega) hu8 (by omega) hv8 hu hv
      rw [hlab u hu8, hlab v hv8] at this
      omega
    · intro h i j _ h1 _ h2 h3 h4
      rw [hlab i h1, hlab j h2, h i j h3 h4]
  have wok : (∀ i, i < g.ws.length → wOk g b pl i = true) ↔ ∀ u, (mem b).any (endOf g u) = true → pl.testBit u = true := by
    constructor
    · intro h u hu
      obtain ⟨y, hy, he⟩ := List.any_eq_true.1 hu
      obtain ⟨i, rfl, hi⟩ := (mem_iff (by omega)).1 hy
      have hil := lt_len hb hi
      have := h i hil
      rw [wOk, (bit_test b i).2 hi] at this
      simp only [endOf, Int.toNat_natCast, Bool.or_eq_true, decide_eq_true_eq] at he
      obtain ⟨w1, hw1⟩ : ∃ w, w = (g.ws.getD i (0, 0)).1 := ⟨_, rfl⟩
      obtain ⟨w2, hw2⟩ : ∃ w, w = (g.ws.getD i (0, 0)).2 := ⟨_, rfl⟩
      rw [← hw1, ← hw2] at this he
      simp at this
      have b1 := bit_01 pl w1
      have b2 := bit_01 pl w2
      rcases he with rfl | rfl
      · exact (bit_test _ _).1 (by omega)
      · exact (bit_test _ _).1 (by omega)
    · intro h i hi
      rw [wOk]
      cases hbi : b.testBit i with
      | false =>
        have : ¬ bit b i = 1 := fun e => by rw [(bit_test b i).1 e] at hbi; cases hbi
        rw [decide_eq_false this]; rfl
      | true =>
        have hm : (i : Int) ∈ mem b := (mem_iff (by omega)).2 ⟨i, rfl, hbi⟩
        have k1 := h (g.ws.getD i (0, 0)).1 (List.any_eq_true.2 ⟨_, hm, by simp [endOf]⟩)
        have k2 := h (g.ws.getD i (0, 0)).2 (List.any_eq_true.2 ⟨_, hm, by simp [endOf]⟩)
        rw [← bit_test] at k1 k2
        rw [k1, k2]; simp
  rw [Bool.eq_iff_iff]
  simp only [isTreeB, treeR, Bool.and_eq_true, decide_eq_true_eq, hac.2, hsc, wok]
  constructor
  · rintro ⟨⟨h3, h4⟩, h5⟩
    have H : ∀ u, u < 8 → pl.testBit u = false → (mem b).any (endOf g u) = false := fun u _ hu => by rw [← hpb, h3]; exact hu
    have hc := cnt H
    exact ⟨⟨fun u hu => by rw [← hpb, h3] at hu; exact hu, (one H).1 (by omega)⟩, h4⟩
  · rintro ⟨⟨h3, h4⟩, h5⟩
    have H : ∀ u, u < 8 → pl.testBit u = false → (mem b).any (endOf g u) = false := fun u _ hu => by
      cases e : (mem b).any (endOf g u) with
      | false => rfl
      | true => rw [h3 u e] at hu; cases hu
    have hc := cnt H
    have hk := (one H).2 h4
    refine ⟨⟨Nat.eq_of_testBit_eq fun u => ?_, h5⟩, by omega⟩
    rw [hpb]
    cases e : pl.testBit u with
    | false =>
      cases e2 : (mem b).any (endOf g u) with
      | false => rfl
      | true => rw [h3 u e2] at e; cases e
    | true =>
      cases e2 : (mem b).any (endOf g u) with
      | true => rfl
      | false =>
        exfalso
        have hu8 := lt_len hpl e
        obtain ⟨t1, t2⟩ := tch u (by omega) e2
        obtain ⟨v, hv, hvu⟩ : ∃ v, pl.testBit v = true ∧ v ≠ u := by
          refine Classical.byContradiction fun hno => ?_
          have hle : (List.range g.n).countP pl.testBit ≤ (List.range g.n).countP (fun v => decide (v = u)) := List.countP_mono_left fun v _ hv => by
            refine decide_eq_true (Classical.byContradiction fun hne => hno ⟨v, hv, hne⟩)
          rw [cnt_is, if_pos hu8, hpc] at hle
          omega
        have hv8 := lt_len hpl hv
        exact t2 v (by omega) hvu (by rw [h4 v u hv e, t1])
end Go.Proofs.YtfphkpdobbffeaaDoor

/-
  Plain law: a cut tree is mended by a wire of the other one.
-/
namespace Go.Proofs.YtfphkpdobbffeaaDoor
open Go Go.AH
set_option maxRecDepth 100000
set_option maxHeartbeats 1000000

theorem treeR_iff {g : Gm} (hg : g.ok) {b pl : Nat} (hb : b < 2 ^ g.ws.length) (hpl : pl < 2 ^ g.n) : treeR g b pl = true ↔ (∀ u, (mem b).any (endOf g u) = true → pl.testBit u = true) ∧ oneG (keptL g b) pl ∧ (pop b : Int) = pop pl - 1 := by
  have h8 := hg.n8
  have hl10 := hg.len
  have hp2 : 2 ^ g.ws.length ≤ 1024 := Nat.pow_le_pow_right (by omega) hl10
  have hlab := labels hg b g.ws.length (Nat.le_refl _)
  rw [← kept_eq hg hb] at hlab
  have hsc : scanF (grpR g b g.ws.length) pl g.n 0 (-1) = true ↔ oneG (keptL g b) pl := by
    rw [scan_start _ _ g.n (fun i hi => by rw [hlab i hi]; omega) g.n 0 (by omega)]
    constructor
    · intro h u v hu hv
      have hu8 := lt_len hpl hu
      have hv8 := lt_len hpl hv
      have := h u v (by omega) hu8 (by omega) hv8 hu hv
      rw [hlab u hu8, hlab v hv8] at this
      omega
    · intro h i j _ h1 _ h2 h3 h4
      rw [hlab i h1, hlab j h2, h i j h3 h4]
  have wok : (∀ i, i < g.ws.length → wOk g b pl i = true) ↔ ∀ u, (mem b).any (endOf g u) = true → pl.testBit u = true := by
    constructor
    · intro h u hu
      obtain ⟨y, hy, he⟩ := List.any_eq_true.1 hu
      obtain ⟨i, rfl, hi⟩ := (mem_iff (by omega)).1 hy
      have hil := lt_len hb hi
      have := h i hil
      rw [wOk, (bit_test b i).2 hi] at this
      simp only [endOf, Int.toNat_natCast, Bool.or_eq_true, decide_eq_true_eq] at he
      obtain ⟨w1, hw1⟩ : ∃ w, w = (g.ws.getD i (0, 0)).1 := ⟨_, rfl⟩
      obtain ⟨w2, hw2⟩ : ∃ w, w = (g.ws.getD i (0, 0)).2 := ⟨_, rfl⟩
      rw [← hw1, ← hw2] at this he
      simp at this
      have b1 := bit_01 pl w1
      have b2 := bit_01 pl w2
      rcases he with rfl | rfl
      · exact (bit_test _ _).1 (by omega)
      · exact (bit_test _ _).1 (by omega)
    · intro h i hi
      rw [wOk]
      cases hbi : b.testBit i with
      | false =>
        have : ¬ bit b i = 1 := fun e => by rw [(bit_test b i).1 e] at hbi; cases hbi
        rw [decide_eq_false this]; rfl
      | true =>
        have hm : (i : Int) ∈ mem b := (mem_iff (by omega)).2 ⟨i, rfl, hbi⟩
        have k1 := h (g.ws.getD i (0, 0)).1 (List.any_eq_true.2 ⟨_, hm, by simp [endOf]⟩)
        have k2 := h (g.ws.getD i (0, 0)).2 (List.any_eq_true.2 ⟨_, hm, by simp [endOf]⟩)
        rw [← bit_test] at k1 k2
        rw [k1, k2]; simp
  rw [treeR, Bool.and_eq_true, Bool.and_eq_true, decide_eq_true_eq, decide_eq_true_eq, hsc, wok, and_assoc]
theorem pop_on {a w : Nat} (ha : a < 1024) (hw : w < 10) (h : a.testBit w = false) : pop (a ||| 2 ^ w) = pop a + 1 := by
  have : ∀ a, a < 1024 → ∀ w, w < 10 → a.testBit w = false → pop (a ||| 2 ^ w) = pop a + 1 := by decide +kernel
  exact this a ha w hw h
theorem or_bit (a w i : Nat) : (a ||| 2 ^ w).testBit i = (a.testBit i || decide (i = w)) := by
  rw [Nat.testBit_or, Nat.testBit_two_pow]
  congr 1
  exact decide_eq_decide.2 ⟨Eq.symm, Eq.symm⟩
theorem places_any {g : Gm} (b u : Nat) : (placesN g b).testBit u = (mem b).any (endOf g u) := by rw [placesN, places_bit, Nat.zero_testBit, Bool.false_or]
/-- Classes of fewer wires lie in those of more. -/
theorem root_mono {g : Gm} (hg : g.ok) {n m : Nat} (hn : n < 2 ^ g.ws.length) (hm : m < 2 ^ g.ws.length) (h : ∀ i, n.testBit i = true → m.testBit i = true) {u v : Nat} (hu : u < 8) (hv : v < 8) (huv : root (keptL g n) u = root (keptL g n) v) : root (keptL g m) u = root (keptL g m) v := by
  have hp : 2 ^ g.ws.length ≤ 1024 := Nat.pow_le_pow_right (by omega) hg.len
  have hl : ∀ k, k < 2 ^ g.ws.length → ∀ y ∈ mem k, y.toNat < g.ws.length := fun k hk y hy => (mem_lt hg.len hk hy).2
  refine fold_root hg (root (keptL g m)) (mem n) (aloneSt 8) Grp.alone (hl n hn) (fun y hy => ?_) (fun u v hu hv huv => ?_) u v hu hv huv
  · obtain ⟨i, rfl, hi⟩ := (mem_iff (by omega)).1 hy
    exact fold_ends hg (mem m) (aloneSt 8) Grp.alone (hl m hm) i ((mem_iff (by omega)).2 ⟨i, rfl, h i hi⟩)
  · rw [alone_root hu, alone_root hv] at huv
    rw [huv]
theorem root_edge {g : Gm} (hg : g.ok) {m i : Nat} (hm : m < 2 ^ g.ws.length) (hi : m.testBit i = true) : root (keptL g m) (g.ws.getD i (0, 0)).1 = root (keptL g m) (g.ws.getD i (0, 0)).2 := by
  have hp : 2 ^ g.ws.length ≤ 1024 := Nat.pow_le_pow_right (by omega) hg.len
  have := fold_ends hg (mem m) (aloneSt 8) Grp.alone (fun y hy => (mem_lt hg.len hm hy).2) (i : Int) ((mem_iff (by omega)).2 ⟨i, rfl, hi⟩)
  exact this
theorem exchange {g : Gm} (hg : g.ok) {a b pl c : Nat} (ha : a < 2 ^ g.ws.length) (hb : b < 2 ^ g.ws.length) (hpl : pl < 2 ^ g.n) (h2 : 2 ≤ pop pl) (hab : a &&& b = 0)
    (hta : treeR g a pl = true) (htb : treeR g b pl = true) (hc : a.testBit c = true) : ∃ w, b.testBit w = true ∧ treeR g (offN a c ||| 2 ^ w) pl = true := by
  have h8 := hg.n8
  have hl10 := hg.len
  have hp2 : 2 ^ g.ws.length ≤ 1024 := Nat.pow_le_pow_right (by omega) hl10
  have hcl := lt_len ha hc
  obtain ⟨a1, a2, a3⟩ := (treeR_iff hg ha hpl).1 hta
  obtain ⟨b1, b2, b3⟩ := (treeR_iff hg hb hpl).1 htb
  have hlb : ∀ i, (offN a c).testBit i = (a.testBit i && decide (i ≠ c)) := fun i => offN_bit (by omega) (by omega)
  have hcm : (c : Int) ∈ mem a := (mem_iff (by omega)).2 ⟨c, rfl, hc⟩
  have hlp : pop (offN a c) = pop a - 1 ∧ offN a c < a := by
    have := off_mem (show a < 1024 by omega) hcm
    rwa [Int.toNat_natCast] at this
  have hap : 0 < pop a := pop_pos a (by omega) (by omega)
  have hl : offN a c < 2 ^ g.ws.length := by omega
  have dis : ∀ i, b.testBit i = true → a.testBit i = false := fun i hi => by
    have : (a &&& b).testBit i = false := by rw [hab]; exact Nat.zero_testBit i
    rw [Nat.testBit_and, hi, Bool.and_true] at this
    exact this
  have endIn : ∀ m i : Nat, m < 2 ^ g.ws.length → (∀ u, (mem m).any (endOf g u) = true → pl.testBit u = true) → m.testBit i = true → pl.testBit (g.ws.getD i (0, 0)).1 = true ∧ pl.testBit (g.ws.getD i (0, 0)).2 = true := fun m i hm h hi => by
    have hmm : (i : Int) ∈ mem m := (mem_iff (by omega)).2 ⟨i, rfl, hi⟩
    exact ⟨h _ (List.any_eq_true.2 ⟨_, hmm, by simp [endOf]⟩), h _ (List.any_eq_true.2 ⟨_, hmm, by simp [endOf]⟩)⟩
  -- any wire of the other tree with which all are joined does
  suffices H : ∃ w, b.testBit w = true ∧ oneG (keptL g (offN a c ||| 2 ^ w)) pl by
    obtain ⟨w, hw, ho⟩ := H
    have hwl := lt_len hb hw
    have hor : offN a c ||| 2 ^ w < 2 ^ g.ws.length := or_lt hl ((Nat.pow_lt_pow_iff_right (by omega)).2 hwl)
    refine ⟨w, hw, (treeR_iff hg hor hpl).2 ⟨fun u hu => ?_, ho, ?_⟩⟩
    · obtain ⟨y, hy, he⟩ := List.any_eq_true.1 hu
      obtain ⟨i, rfl, hi⟩ := (mem_iff (by omega)).1 hy
      rw [or_bit, hlb, Bool.or_eq_true, Bool.and_eq_true] at hi
      rcases hi with hi | hi
      · exact a1 u (List.any_eq_true.2 ⟨_, (mem_iff (by omega)).2 ⟨i, rfl, hi.1⟩, he⟩)
      · have hi := of_decide_eq_true hi
        subst hi
        exact b1 u (List.any_eq_true.2 ⟨_, (mem_iff (by omega)).2 ⟨i, rfl, hw⟩, he⟩)
    · rw [pop_on (by omega) (by omega) (by rw [hlb, dis w hw]; rfl), hlp.1]
      omega
  -- the ends of the cut wire
  obtain ⟨c1, hc1⟩ : ∃ x, x = (g.ws.getD c (0, 0)).1 := ⟨_, rfl⟩
  obtain ⟨c2, hc2⟩ : ∃ x, x = (g.ws.getD c (0, 0)).2 := ⟨_, rfl⟩
  have hcin := endIn a c ha a1 hc
  rw [← hc1, ← hc2] at hcin
  have inn : ∀ u, pl.testBit u = true → u < 8 := fun u hu => by have := lt_len hpl hu; omega
  have two : ∀ u, pl.testBit u = true → root (keptL g (offN a c)) u = root (keptL g (offN a c)) c1 ∨ root (keptL g (offN a c)) u = root (keptL g (offN a c)) c2 := fun u hu => by
    have key := fold_root hg (fun x => if root (keptL g (offN a c)) x = root (keptL g (offN a c)) c2 then root (keptL g (offN a c)) c1 else root (keptL g (offN a c)) x) (mem a) (aloneSt 8) Grp.alone (fun y hy => (mem_lt hl10 ha hy).2) (fun y hy => ?_) (fun u v hu hv huv => ?_) u c1 (inn u hu) (inn c1 hcin.1) (a2 u c1 hu hcin.1)
    · skip
      by_cases e : root (keptL g (offN a c)) u = root (keptL g (offN a c)) c2
      · exact .inr e
      · rw [if_neg e] at key
        left
        rw [key]
        split <;> rfl
    · obtain ⟨i, rfl, hi⟩ := (mem_iff (by omega)).1 hy
      simp only [Int.toNat_natCast]
      by_cases e : i = c
      · subst e
        rw [← hc1, ← hc2, if_pos rfl]
        split <;> rfl
      · rw [root_edge hg hl (i := i) (by rw [hlb, hi]; simp [e])]
    · rw [alone_root hu, alone_root hv] at huv
      rw [huv]
  -- joined, if both ends' groups are
  have done : ∀ w, b.testBit w = true → root (keptL g (offN a c ||| 2 ^ w)) c1 = root (keptL g (offN a c ||| 2 ^ w)) c2 → oneG (keptL g (offN a c ||| 2 ^ w)) pl := fun w hw h u v hu hv => by
    have hwl := lt_len hb hw
    have hor : offN a c ||| 2 ^ w < 2 ^ g.ws.length := or_lt hl ((Nat.pow_lt_pow_iff_right (by omega)).2 hwl)
    have up : ∀ u v, u < 8 → v < 8 → root (keptL g (offN a c)) u = root (keptL g (offN a c)) v → root (keptL g (offN a c ||| 2 ^ w)) u = root (keptL g (offN a c ||| 2 ^ w)) v := fun u v h1 h2 h3 =>
      root_mono hg hl hor (fun i hi => by rw [or_bit, hi]; rfl) h1 h2 h3
    have one : ∀ u, pl.testBit u = true → root (keptL g (offN a c ||| 2 ^ w)) u = root (keptL g (offN a c ||| 2 ^ w)) c1 := fun u hu => by
      rcases two u hu with e | e
      · exact up u c1 (inn u hu) (inn c1 hcin.1) e
      · rw [up u c2 (inn u hu) (inn c2 hcin.2) e, h]
    rw [one u hu, one v hv]
  by_cases e : root (keptL g (offN a c)) c1 = root (keptL g (offN a c)) c2
  · have hbp : 0 < b := by
      rcases Nat.eq_zero_or_pos b with e0 | e0
      · subst e0; rw [show pop 0 = 0 from by decide] at b3; omega
      · exact e0
    obtain ⟨w, hw⟩ : ∃ w, b.testBit w = true := Nat.exists_testBit_of_ne_zero (by omega)
    have hwl := lt_len hb hw
    have hor : offN a c ||| 2 ^ w < 2 ^ g.ws.length := or_lt hl ((Nat.pow_lt_pow_iff_right (by omega)).2 hwl)
    exact ⟨w, hw, done w hw (root_mono hg hl hor (fun i hi => by rw [or_bit, hi]; rfl) (inn c1 hcin.1) (inn c2 hcin.2) e)⟩
  · -- some wire of the other tree leads over
    obtain ⟨w, hw, hne⟩ : ∃ w, b.testBit w = true ∧ root (keptL g (offN a c)) (g.ws.getD w (0, 0)).1 ≠ root (keptL g (offN a c)) (g.ws.getD w (0, 0)).2 := by
      refine Classical.byContradiction fun hno => e ?_
      refine fold_root hg (root (keptL g (offN a c))) (mem b) (aloneSt 8) Grp.alone (fun y hy => (mem_lt hl10 hb hy).2) (fun y hy => ?_) (fun u v hu hv huv => ?_) c1 c2 (inn c1 hcin.1) (inn c2 hcin.2) (b2 c1 c2 hcin.1 hcin.2)
      · obtain ⟨i, rfl, hi⟩ := (mem_iff (by omega)).1 hy
        exact Classical.byContradiction fun h => hno ⟨i, hi, h⟩
      · rw [alone_root hu, alone_root hv] at huv
        rw [huv]
    have hwl := lt_len hb hw
    have hor : offN a c ||| 2 ^ w < 2 ^ g.ws.length := or_lt hl ((Nat.pow_lt_pow_iff_right (by omega)).2 hwl)
    have hwin := endIn b w hb b1 hw
    have hed := root_edge hg hor (i := w) (by rw [or_bit]; simp)
    have up : ∀ u v, u < 8 → v < 8 → root (keptL g (offN a c)) u = root (keptL g (offN a c)) v → root (keptL g (offN a c ||| 2 ^ w)) u = root (keptL g (offN a c ||| 2 ^ w)) v := fun u v h1 h2 h3 =>
      root_mono hg hl hor (fun i hi => by rw [or_bit, hi]; rfl) h1 h2 h3
    obtain ⟨w1, hw1⟩ : ∃ x, x = (g.ws.getD w (0, 0)).1 := ⟨_, rfl⟩
    obtain ⟨w2, hw2⟩ : ∃ x, x = (g.ws.getD w (0, 0)).2 := ⟨_, rfl⟩
    rw [← hw1, ← hw2] at hne hwin hed
    refine ⟨w, hw, done w hw ?_⟩
    rcases two w1 hwin.1 with h1 | h1 <;> rcases two w2 hwin.2 with h3 | h3
    · exact absurd (h1.trans h3.symm) hne
    · rw [← up w1 c1 (inn _ hwin.1) (inn _ hcin.1) h1, ← up w2 c2 (inn _ hwin.2) (inn _ hcin.2) h3, hed]
    · rw [← up w1 c2 (inn _ hwin.1) (inn _ hcin.2) h1, ← up w2 c1 (inn _ hwin.2) (inn _ hcin.1) h3, hed]
    · exact absurd (h1.trans h3.symm) hne
theorem places_ltn {g : Gm} (hg : g.ok) {a : Nat} (ha : a < 2 ^ g.ws.length) : placesN g a < 2 ^ g.n := by
  have hp2 : 2 ^ g.ws.length ≤ 1024 := Nat.pow_le_pow_right (by omega) hg.len
  refine Nat.lt_of_not_le fun h => ?_
  obtain ⟨i, hi, hb⟩ := Nat.exists_ge_and_testBit_of_ge_two_pow h
  rw [places_any] at hb
  obtain ⟨y, hy, he⟩ := List.any_eq_true.1 hb
  obtain ⟨j, rfl, hj⟩ := (mem_iff (by omega)).1 hy
  have := hg.ends j (lt_len ha hj)
  simp only [endOf, Int.toNat_natCast, Bool.or_eq_true, decide_eq_true_eq] at he
  omega
theorem pop_two {pl s t : Nat} (hpl : pl < 256) (hst : s ≠ t) (hs : pl.testBit s = true) (ht : pl.testBit t = true) : 2 ≤ pop pl := by
  have : ∀ pl, pl < 256 → ∀ s, s < 8 → ∀ t, t < 8 → s = t ∨ pl.testBit s = false ∨ pl.testBit t = false ∨ 2 ≤ pop pl := by decide +kernel
  rcases this pl hpl s (lt_len (k := 8) hpl hs) t (lt_len (k := 8) hpl ht) with h | h | h | h
  · exact absurd h hst
  · rw [hs] at h; cases h
  · rw [ht] at h; cases h
  · exact h
/-- Two sets are two trees. -/
def areB (g : Gm) (x y : Bool) (a b : Nat) : Bool := x && (y && (decide (a &&& b = 0) && (decide (placesN g a &&& endsN g = endsN g) && (isTreeB g a (placesN g a) && isTreeB g b (placesN g a)))))
theorem ends_iff {pl s t : Nat} : pl &&& (2 ^ s ||| 2 ^ t) = 2 ^ s ||| 2 ^ t ↔ pl.testBit s = true ∧ pl.testBit t = true := by
  constructor
  · intro h
    have k : ∀ i, (2 ^ s ||| 2 ^ t).testBit i = true → pl.testBit i = true := fun i hi => by
      rw [← h, Nat.testBit_and, Bool.and_eq_true] at hi; exact hi.1
    exact ⟨k s (by simp [Nat.testBit_or, Nat.testBit_two_pow]), k t (by simp [Nat.testBit_or, Nat.testBit_two_pow])⟩
  · rintro ⟨h1, h2⟩
    refine Nat.eq_of_testBit_eq fun i => ?_
    rw [Nat.testBit_and, Nat.testBit_or, Nat.testBit_two_pow, Nat.testBit_two_pow]
    by_cases e1 : s = i
    · subst e1; simp [h1]
    · by_cases e2 : t = i
      · subst e2; simp [h2]
      · simp [e1, e2]
theorem are_eq {g : Gm} (hg : g.ok) (hst : g.s ≠ g.t) {a b : Nat} (ha : a < 2 ^ g.ws.length) (hb : b < 2 ^ g.ws.length) (x y : Bool) : areB g x y a b = areR g x y a b := by
  have he := ends_iff (pl := placesN g a) (s := g.s) (t := g.t)
  unfold areB areR endsN
  rw [Bool.eq_iff_iff]
  simp only [Bool.and_eq_true, decide_eq_true_eq, he, bit_test]
  constructor
  · rintro ⟨h1, h2, h3, ⟨h4, h5⟩, h6, h7⟩
    have hp := pop_two (placesN_lt8 hg ha) hst h4 h5
    rw [tree_pl hg ha (places_ltn hg ha) hp] at h6
    rw [tree_pl hg hb (places_ltn hg ha) hp] at h7
    exact ⟨h1, h2, h3, h4, h5, h6, h7⟩
  · rintro ⟨h1, h2, h3, h4, h5, h6, h7⟩
    have hp := pop_two (placesN_lt8 hg ha) hst h4 h5
    rw [← tree_pl hg ha (places_ltn hg ha) hp] at h6
    rw [← tree_pl hg hb (places_ltn hg ha) hp] at h7
    exact ⟨h1, h2, h3, ⟨h4, h5⟩, h6, h7⟩
end Go.Proofs.YtfphkpdobbffeaaDoor
