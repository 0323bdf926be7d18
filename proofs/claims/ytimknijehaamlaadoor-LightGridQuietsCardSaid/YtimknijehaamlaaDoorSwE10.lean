/-
  Contracts: the reference's Polynomial, Powers; lists of numbers compared; LightPolynomials.
-/
import Derived.Test.YtimknijehaamlaaDoorSwE9
import Derived.Test.YtimknijehaamlaaDoorSwE20
set_option linter.unusedSimpArgs false
set_option linter.unusedVariables false
namespace Go.Proofs.YtimknijehaamlaaDoor
open Go Go.AH Go.Lin
set_option maxRecDepth 100000
set_option maxHeartbeats 1000000

def pwSt (m : Nat) (C : List Int) : Nat × List Nat → AS
  | (i, []) => ⟨[(0, .c (.rs 0 0 m)), (3, .c .nils), (4, .c (.int .i64 i))], [(0, .ro (ints C))], 2, 21, 1⟩
  | (i, e :: E) => ⟨[(0, .c (.rs 0 0 m)), (3, .c (.row 1 (e :: E).length)), (4, .c (.int .i64 i))], [(0, .ro (ints C)), (1, .row 3 1 (ints (castL (e :: E))))], 2, 21, 1⟩
def poSt : Nat × Int → AS
  | (k, v) => ⟨[(0, .c (.int .i64 v)), (3, .c (.int .i64 k))], [(100001, .ro tab64)], 0, 43, 0⟩
theorem iget1 (T : List Int) (i : Nat) : (ints T).getD (0 + Int.toNat (((i + 1 : Nat) : Int) - 1) * 1) (.int .i64 0) = .int .i64 (T.getD i 0) := by
  rw [show 0 + Int.toNat (((i + 1 : Nat) : Int) - 1) * 1 = i by omega]
  simp [ints, List.getD_eq_getElem?_getD]
theorem refPoly_spec {n : Nat} (hn : n ≤ 200) : FDet Tryd.prog 30 [.c (.int .i64 n)] [] 0 (.c (.sl 0 0 (n + 2) (some (n + 2)))) [(0, .own (ints (coL (if n = 0 then pl 0 else pc (n - 1)) (n + 2))))] 1 := by
  obtain ⟨m, hm⟩ : ∃ m, m = n + 2 := ⟨_, rfl⟩
  have hm2 : ((n : Nat) : Int) + 2 = (m : Int) := by omega
  have hmk : ∀ x : Nat, x < GB → (x < GB ∧ 0 < 1 ∧ [AC.int .i64 0].length = 1 ∧ (0 : Int) ≤ m ∧ (m : Int) = m ∧ ((8 : Nat) : Int) * (m : Int) ≤ 281474976710656 ∧ (m : Int) ≤ 9223372036854775807) := fun x hx => ⟨hx, by omega, rfl, by omega, rfl, by omega, by omega⟩
  have hz0 : (ints (List.replicate m 0)).length = m := by rw [ints_len, List.length_replicate]
  rw [← hm]
  refine FSpec.body2 tok true Tryd.func30 ?_
  refine Wk.on ?_
  refine Tr.draw (md := true) [⟨[], [11, 12, 13], [], [], []⟩, ⟨[0], [11, 12, 13], [], [], []⟩, ⟨[0, 1], [11, 12, 13], [], [], []⟩, ⟨[], [3, 8, 9, 10], [0, 1, 2], [], []⟩, ⟨[3], [3, 8, 9, 10], [0, 1, 2], [], []⟩, ⟨[3, 4], [3, 8, 9, 10], [0, 1, 2], [], []⟩, ⟨[0, 1, 2], [11, 12, 13], [3, 4, 5], [], []⟩] tok (by kernel_rfl) (by kernel_rfl) ?_
  refine Wk.on ?_
  rw [hm2]
  refine Wk.on ?_
  refine ⟨hmk _ (Nat.le_of_ble_eq_true rfl), ?_⟩
  rw [Int.toNat_natCast, rep_ints]
  refine Wk.on ?_
  rw [hm2]
  refine Wk.on ?_
  refine ⟨hmk _ (Nat.le_of_ble_eq_true rfl), ?_⟩
  rw [Int.toNat_natCast, rep_ints]
  refine Wk.on ?_
  by_cases h0 : n = 0
  · rw [if_pos h0, decide_eq_true (show ((n : Nat) : Int) = 0 by omega)]
    refine Wk.on ?_
    exact AH.Fin.new [0] _ _ ⟨rfl, rfl, rfl⟩ rfl ⟨by show some (ABlk.own (ints (List.replicate m 0))) = some (ABlk.own ((ints _).map _)); rw [ints_ren, coL_zero], trivial⟩ rfl (by simp [tupA, hpLt, tmLt, AV.lt, AE.lt, AC.lt, LL_cons, LL_nil, idOk, ABlk.lt, ints_LL, GB, tab64_LL, pC, castL, prs, pV, pH, pK, tV, tH, tK, pwSt, poSt]) (by simp [tupA, hpLt, tmLt, AV.lt, AE.lt, AC.lt, LL_cons, LL_nil, idOk, ABlk.lt, ints_LL, GB, tab64_LL, pC, castL, prs, pV, pH, pK, tV, tH, tK, pwSt, poSt])
  rw [if_neg h0, decide_eq_false (show ¬ ((n : Nat) : Int) = 0 by omega)]
  refine Wk.on ?_
  refine Tr.loop (md := true) (X := Nat) (st := fun i => ⟨[(0, .c (.int .i64 n)), (3, .c (.sl 0 0 m (some m))), (4, .c (.sl 1 0 m (some m))), (5, .c (.int .i64 (i + 1 : Nat)))], [(1, .own (ints (coL (pc i) m))), (0, .own (ints (coL (pl i) m)))], 2, 59, 0⟩) (inv := fun i => i ≤ n - 1) (μ := fun i => n - 1 - i) (x0 := 0) (l := []) tok (by omega) ?_ ?_
  · exact Sub.nil ⟨rfl, rfl, (by simp [tab64_LL, pC, castL, prs, pV, pH, pK, tV, tH, tK, pwSt, poSt]), rfl, (by simp [tupA, hpLt, tmLt, AV.lt, AE.lt, AC.lt, LL_cons, LL_nil, idOk, ABlk.lt, ints_LL, GB, tab64_LL, pC, castL, prs, pV, pH, pK, tV, tH, tK, pwSt, poSt]), (by simp [tupA, hpLt, tmLt, AV.lt, AE.lt, AC.lt, LL_cons, LL_nil, idOk, ABlk.lt, ints_LL, GB, tab64_LL, pC, castL, prs, pV, pH, pK, tV, tH, tK, pwSt, poSt])⟩ (by (repeat (first | exact trivial | refine ⟨trivial, ?_⟩ | refine ⟨rfl, ?_⟩))) ⟨by show ABlk.own ((ints (List.replicate m 0)).set 0 (.int .i64 1)) = ABlk.own _; rw [← coL_one]; exact congrArg ABlk.own (AH.ints_set _ _ _), by show ABlk.own (ints (List.replicate m 0)) = ABlk.own _; rw [coL_zero], trivial⟩
  intro i hi
  have hl1 : (ints (coL (pc i) m)).length = m := by rw [ints_len, coL_len]
  have hl0 : (ints (coL (pl i) m)).length = m := by rw [ints_len, coL_len]
  by_cases hil : i < n - 1
  · refine Wk.on ?_
    rw [decide_eq_true (show ((i + 1 : Nat) : Int) < ((n : Nat) : Int) by omega)]
    refine Wk.on ?_
    rw [hm2]
    refine Wk.on ?_
    refine ⟨hmk _ (Nat.le_of_ble_eq_true rfl), ?_⟩
    rw [Int.toNat_natCast]
    refine Wk.on ?_
    refine Tr.loop (md := true) (X := Nat) (st := fun j => ⟨[(0, .c (.int .i64 n)), (3, .c (.sl 0 0 m (some m))), (4, .c (.sl 1 0 m (some m))), (5, .c (.int .i64 (i + 1 : Nat))), (6, .c (.sl 2 0 m (some m))), (7, .c (.int .i64 j))], [(2, .own (ints (tabL (bI (pc (i + 1))) m j))), (1, .own (ints (coL (pc i) m))), (0, .own (ints (coL (pl i) m)))], 3, 59, 0⟩) (inv := fun j => j ≤ m) (μ := fun j => m - j) (x0 := 0) (l := []) tok (by omega) ?_ ?_
    · exact Sub.nil ⟨rfl, rfl, (by simp [tab64_LL, pC, castL, prs, pV, pH, pK, tV, tH, tK, pwSt, poSt]), rfl, (by simp [tupA, hpLt, tmLt, AV.lt, AE.lt, AC.lt, LL_cons, LL_nil, idOk, ABlk.lt, ints_LL, GB, tab64_LL, pC, castL, prs, pV, pH, pK, tV, tH, tK, pwSt, poSt]), (by simp [tupA, hpLt, tmLt, AV.lt, AE.lt, AC.lt, LL_cons, LL_nil, idOk, ABlk.lt, ints_LL, GB, tab64_LL, pC, castL, prs, pV, pH, pK, tV, tH, tK, pwSt, poSt])⟩ (by (repeat (first | exact trivial | refine ⟨trivial, ?_⟩ | refine ⟨rfl, ?_⟩))) ⟨by show ABlk.own (rep m [.int .i64 0]) = _; rw [rep_ints, tabL_zero], rfl, rfl, trivial⟩
    intro j hj
    have hl2 : (ints (tabL (bI (pc (i + 1))) m j)).length = m := by rw [ints_len, tabL_len]
    by_cases hjm : j < m
    · have hsu := tabL_succ (bI (pc (i + 1))) m j
      have hg0 := coL_get (f := pl i) hjm
      have hb0 := bI_01 (pl i) j
      rcases j with _ | j
      · have hs0 := bI_sum0 i
        generalize tabL (bI (pc (i + 1))) m 0 = TT at *
        refine Wk.on ?_
        rw [decide_eq_true (show ((0 : Nat) : Int) < ((m : Nat) : Int) by omega)]
        refine Wk.on ?_
        rw [iget, hg0, hs0]
        refine Wk.on ?_
        refine Again.mk (0 + 1) (Sub.nil ⟨rfl, rfl, (by simp [tab64_LL, pC, castL, prs, pV, pH, pK, tV, tH, tK, pwSt, poSt]), rfl, (by simp [tupA, hpLt, tmLt, AV.lt, AE.lt, AC.lt, LL_cons, LL_nil, idOk, ABlk.lt, ints_LL, GB, tab64_LL, pC, castL, prs, pV, pH, pK, tV, tH, tK, pwSt, poSt]), (by simp [tupA, hpLt, tmLt, AV.lt, AE.lt, AC.lt, LL_cons, LL_nil, idOk, ABlk.lt, ints_LL, GB, tab64_LL, pC, castL, prs, pV, pH, pK, tV, tH, tK, pwSt, poSt])⟩ (by (repeat (first | exact trivial | refine ⟨trivial, ?_⟩ | refine ⟨rfl, ?_⟩))) ⟨by show ABlk.own ((ints TT).set (0 + Int.toNat ((0 : Nat) : Int) * 1) (.int .i64 (bI (pc (i + 1)) 0))) = ABlk.own (ints (tabL (bI (pc (i + 1))) m (0 + 1))); rw [iset, hsu], rfl, rfl, trivial⟩) (by omega) (by omega)
      · have hg1 := coL_get (f := pc i) (m := m) (j := j) (by omega)
        have hs1 := bI_sum i j
        have hb1 := bI_01 (pc i) j
        generalize tabL (bI (pc (i + 1))) m (j + 1) = TT at *
        generalize bI (pl i) (j + 1) = x at *
        generalize bI (pc i) j = y at *
        refine Wk.on ?_
        rw [decide_eq_true (show ((j + 1 : Nat) : Int) < ((m : Nat) : Int) by omega)]
        refine Wk.on ?_
        rw [iget, hg0]
        refine Wk.on ?_
        rw [decide_eq_true (show (0 : Int) < ((j + 1 : Nat) : Int) by omega)]
        refine Wk.on ?_
        refine Tr.draw (md := true) [⟨[], [43, 44, 45, 46, 47, 48, 49, 50, 51, 52, 53, 54], [], [], []⟩, ⟨[], [42, 44, 45, 46, 47, 48, 49, 50, 51, 52, 53, 54], [0], [], []⟩, ⟨[], [42, 43, 45, 48, 49, 50, 51, 52], [0, 1], [], []⟩, ⟨[], [42, 43, 44, 48, 49, 50, 51, 52], [0, 1, 2], [], []⟩, ⟨[2, 3], [42, 43, 48, 49, 50, 51, 52], [0, 1], [], []⟩, ⟨[2, 3, 4], [42, 43, 48, 49, 50, 51, 52], [0, 1], [], []⟩, ⟨[], [42, 43, 44, 45, 46, 47, 49, 50], [0, 1, 2, 3, 4, 5], [], []⟩, ⟨[], [42, 43, 44, 45, 46, 47, 48], [0, 1, 2, 3, 4, 5, 6], [], []⟩, ⟨[7], [42, 43, 44, 45, 46, 47, 48], [0, 1, 2, 3, 4, 5, 6], [], []⟩, ⟨[6, 7, 8], [42, 43, 44, 45, 46, 47], [0, 1, 2, 3, 4, 5], [], []⟩, ⟨[6, 7, 8, 9], [42, 43, 44, 45, 46, 47], [0, 1, 2, 3, 4, 5], [], []⟩, ⟨[2, 3, 4, 5, 6, 7, 8, 9, 10], [42, 43], [0, 1], [], []⟩, ⟨[2, 3, 4, 5, 6, 7, 8, 9, 10, 11], [42, 43], [0, 1], [], []⟩] tok (by kernel_rfl) (by kernel_rfl) ?_
        refine Wk.on ?_
        rw [iget, hg0]
        refine Wk.on ?_
        rw [iget1, hg1]
        refine Wk.on ?_
        rw [hs1]
        refine Wk.on ?_
        refine ⟨⟨rfl, by rw [List.length_set]; omega⟩, ?_⟩
        refine Wk.on ?_
        refine Again.mk (j + 1 + 1) (Sub.nil ⟨rfl, rfl, (by simp [tab64_LL, pC, castL, prs, pV, pH, pK, tV, tH, tK, pwSt, poSt]), rfl, (by simp [tupA, hpLt, tmLt, AV.lt, AE.lt, AC.lt, LL_cons, LL_nil, idOk, ABlk.lt, ints_LL, GB, tab64_LL, pC, castL, prs, pV, pH, pK, tV, tH, tK, pwSt, poSt]), (by simp [tupA, hpLt, tmLt, AV.lt, AE.lt, AC.lt, LL_cons, LL_nil, idOk, ABlk.lt, ints_LL, GB, tab64_LL, pC, castL, prs, pV, pH, pK, tV, tH, tK, pwSt, poSt])⟩ (by (repeat (first | exact trivial | refine ⟨trivial, ?_⟩ | refine ⟨rfl, ?_⟩))) ⟨by show ABlk.own (((ints TT).set (0 + Int.toNat ((j + 1 : Nat) : Int) * 1) (.int .i64 x)).set (0 + Int.toNat ((j + 1 : Nat) : Int) * 1) (.int .i64 (bI (pc (i + 1)) (j + 1)))) = ABlk.own (ints (tabL (bI (pc (i + 1))) m (j + 1 + 1))); rw [iset, iset, List.set_set, hsu], rfl, rfl, trivial⟩) (by omega) (by omega)
    obtain rfl : j = m := by omega
    rw [show tabL (bI (pc (i + 1))) j j = coL (pc (i + 1)) j from rfl]
    refine Wk.on ?_
    rw [decide_eq_false (show ¬ ((j : Nat) : Int) < ((j : Nat) : Int) by omega)]
    refine Wk.on ?_
    intro _
    refine Wk.on ?_
    refine Again.mk (i + 1) (Sub.new [(0, 1), (1, 2)] ⟨rfl, rfl, (by simp [tupA, hpLt, tmLt, AV.lt, AE.lt, AC.lt, LL_cons, LL_nil, idOk, ABlk.lt, ints_LL, GB, tab64_LL, pC, castL, prs, pV, pH, pK, tV, tH, tK, pwSt, poSt])⟩ rfl (by (repeat (first | exact trivial | refine ⟨trivial, ?_⟩ | refine ⟨rfl, ?_⟩))) ⟨by show some (ABlk.own (ints (coL (pc (i + 1)) j))) = some (ABlk.own ((ints _).map _)); rw [ints_ren], by show some (ABlk.own (ints (coL (pc i) j))) = some (ABlk.own ((ints _).map _)); rw [ints_ren]; rfl, trivial⟩ rfl (by simp [tupA, hpLt, tmLt, AV.lt, AE.lt, AC.lt, LL_cons, LL_nil, idOk, ABlk.lt, ints_LL, GB, tab64_LL, pC, castL, prs, pV, pH, pK, tV, tH, tK, pwSt, poSt]) (by simp [tupA, hpLt, tmLt, AV.lt, AE.lt, AC.lt, LL_cons, LL_nil, idOk, ABlk.lt, ints_LL, GB, tab64_LL, pC, castL, prs, pV, pH, pK, tV, tH, tK, pwSt, poSt])) (by omega) (by omega)
  obtain rfl : i = n - 1 := by omega
  refine Wk.on ?_
  rw [decide_eq_false (show ¬ ((n - 1 + 1 : Nat) : Int) < ((n : Nat) : Int) by omega)]
  refine Wk.on ?_
  exact AH.Fin.new [1] _ _ ⟨rfl, rfl, rfl⟩ rfl ⟨by show some (ABlk.own _) = some (ABlk.own ((ints _).map _)); rw [ints_ren], trivial⟩ rfl (by simp [tupA, hpLt, tmLt, AV.lt, AE.lt, AC.lt, LL_cons, LL_nil, idOk, ABlk.lt, ints_LL, GB, tab64_LL, pC, castL, prs, pV, pH, pK, tV, tH, tK, pwSt, poSt]) (by simp [tupA, hpLt, tmLt, AV.lt, AE.lt, AC.lt, LL_cons, LL_nil, idOk, ABlk.lt, ints_LL, GB, tab64_LL, pC, castL, prs, pV, pH, pK, tV, tH, tK, pwSt, poSt])
theorem Powers_spec (f : Nat → Bool) {m : Nat} (hm : m ≤ 1000) : FDet Tryd.prog 29 [.c (.rs 0 0 m)] [(0, .ro (ints (coL f m)))] 1 (tV (exN f m)) (tH (exN f m)) (tK (exN f m)) := by
  have hcl : (ints (coL f m)).length = m := by rw [ints_len, coL_len]
  refine FSpec.body2 tok true Tryd.func29 ?_
  refine Wk.on ?_
  refine Tr.loopU (md := true) (X := Nat × List Nat) (pwSt m (coL f m)) (fun p => p.1 ≤ m ∧ exN f p.1 = p.2) (fun p => m - p.1) (0, []) tok ⟨by omega, rfl⟩ (Under.wk [] ⟨rfl, rfl, Nat.le_of_ble_eq_true rfl, Nat.le_of_ble_eq_true rfl⟩ rfl ⟨.inl rfl, .inl rfl, .inl rfl, trivial⟩ ⟨.inl (congrArg ABlk.ro (ints_ren _ _).symm), trivial⟩ rfl (by simp [tupA, hpLt, tmLt, AV.lt, AE.lt, AC.lt, LL_cons, LL_nil, idOk, ABlk.lt, ints_LL, GB, tab64_LL, pC, castL, prs, pV, pH, pK, tV, tH, tK, pwSt, poSt]) (by simp [tupA, hpLt, tmLt, AV.lt, AE.lt, AC.lt, LL_cons, LL_nil, idOk, ABlk.lt, ints_LL, GB, tab64_LL, pC, castL, prs, pV, pH, pK, tV, tH, tK, pwSt, poSt])) ?_
  rintro ⟨i, O⟩ ⟨hi, hO⟩
  dsimp only at hi hO
  have hOl := exN_len f i
  rw [hO] at hOl
  by_cases hil : i < m
  · have hsu := exN_succ f i
    rw [hO] at hsu
    have hg := coL_get (f := f) hil
    rcases O with _ | ⟨b0, O0⟩
    · skip
      have hst : ∀ i : Nat, pwSt m (coL f m) (i, []) = ⟨[(0, .c (.rs 0 0 m)), (3, .c .nils), (4, .c (.int .i64 i))], [(0, .ro (ints (coL f m)))], 2, 21, 1⟩ := fun i => rfl
      rw [hst]
      refine Wk.on ?_
      rw [decide_eq_true (show ((i : Nat) : Int) < ((m : Nat) : Int) by omega)]
      refine Wk.on ?_
      rw [iget, hg]
      by_cases hf : f i = true
      · have h1 : bI f i = 1 := by rw [bI, hf]; rfl
        rw [h1]
        rw [hf] at hsu
        refine Wk.on ?_
        refine Again.under (i + 1, [i]) ?_ ⟨by show i + 1 ≤ m; omega, by show exN f (i + 1) = [i]; rw [hsu]; rfl⟩ (by show m - (i + 1) < m - i; omega)
        have hst2 : pwSt m (coL f m) (i + 1, [i]) = ⟨[(0, .c (.rs 0 0 m)), (3, .c (.row 1 ([i]).length)), (4, .c (.int .i64 (i + 1 : Nat)))], [(0, .ro (ints (coL f m))), (1, .row 3 1 (ints (castL ([i]))))], 2, 21, 1⟩ := rfl
        rw [hst2]
        exact Under.wk [(1, 3)] ⟨rfl, rfl, Nat.le_of_ble_eq_true rfl, Nat.le_of_ble_eq_true rfl⟩ rfl ⟨.inl rfl, .inl rfl, .inl rfl, trivial⟩ ⟨.inl (congrArg ABlk.ro (ints_ren _ _).symm), .inl (congrArg (ABlk.row _ _) (one_lie _ _)), trivial⟩ rfl (by simp [tupA, hpLt, tmLt, AV.lt, AE.lt, AC.lt, LL_cons, LL_nil, idOk, ABlk.lt, ints_LL, GB, tab64_LL, pC, castL, prs, pV, pH, pK, tV, tH, tK, pwSt, poSt]) (by simp [tupA, hpLt, tmLt, AV.lt, AE.lt, AC.lt, LL_cons, LL_nil, idOk, ABlk.lt, ints_LL, GB, tab64_LL, pC, castL, prs, pV, pH, pK, tV, tH, tK, pwSt, poSt])
      · have h1 : bI f i = 0 := by rw [bI, if_neg hf]
        rw [h1]
        rw [if_neg hf, List.append_nil] at hsu
        refine Wk.on ?_
        refine Again.under (i + 1, []) ?_ ⟨by show i + 1 ≤ m; omega, by show exN f (i + 1) = []; rw [hsu]⟩ (by show m - (i + 1) < m - i; omega)
        rw [hst]
        exact Under.wk [] ⟨rfl, rfl, Nat.le_of_ble_eq_true rfl, Nat.le_of_ble_eq_true rfl⟩ rfl ⟨.inl rfl, .inl rfl, .inl rfl, trivial⟩ ⟨.inl (congrArg ABlk.ro (ints_ren _ _).symm), trivial⟩ rfl (by simp [tupA, hpLt, tmLt, AV.lt, AE.lt, AC.lt, LL_cons, LL_nil, idOk, ABlk.lt, ints_LL, GB, tab64_LL, pC, castL, prs, pV, pH, pK, tV, tH, tK, pwSt, poSt]) (by simp [tupA, hpLt, tmLt, AV.lt, AE.lt, AC.lt, LL_cons, LL_nil, idOk, ABlk.lt, ints_LL, GB, tab64_LL, pC, castL, prs, pV, pH, pK, tV, tH, tK, pwSt, poSt])
    · skip
      generalize hLL : b0 :: O0 = O at *
      have hml : (ints (castL O)).length = O.length := by rw [ints_len, castL_len]
      have hst : ∀ i : Nat, pwSt m (coL f m) (i, O) = ⟨[(0, .c (.rs 0 0 m)), (3, .c (.row 1 O.length)), (4, .c (.int .i64 i))], [(0, .ro (ints (coL f m))), (1, .row 3 1 (ints (castL O)))], 2, 21, 1⟩ := fun i => by rw [← hLL]; rfl
      rw [hst]
      refine Wk.on ?_
      rw [decide_eq_true (show ((i : Nat) : Int) < ((m : Nat) : Int) by omega)]
      refine Wk.on ?_
      rw [iget, hg]
      by_cases hf : f i = true
      · have h1 : bI f i = 1 := by rw [bI, hf]; rfl
        rw [h1]
        rw [hf] at hsu
        refine Wk.on ?_
        refine ⟨⟨Nat.le_of_ble_eq_true rfl, rfl, rfl, by rw [hml]; show O.length = O.length * 1; omega, by show ((O.length + 1 : Nat) : Int) * 8 ≤ _; omega, by omega⟩, ?_⟩
        refine Wk.on ?_
        have hal : O ++ [i] = b0 :: (O0 ++ [i]) := by rw [← hLL]; rfl
        have hll : O.length + 1 = (b0 :: (O0 ++ [i])).length := by rw [← hal]; simp
        refine Again.under (i + 1, b0 :: (O0 ++ [i])) ?_ ⟨by show i + 1 ≤ m; omega, by show exN f (i + 1) = b0 :: (O0 ++ [i]); rw [hsu, ← hal]; rfl⟩ (by show m - (i + 1) < m - i; omega)
        have hst2 : pwSt m (coL f m) (i + 1, b0 :: (O0 ++ [i])) = ⟨[(0, .c (.rs 0 0 m)), (3, .c (.row 1 (b0 :: (O0 ++ [i])).length)), (4, .c (.int .i64 (i + 1 : Nat)))], [(0, .ro (ints (coL f m))), (1, .row 3 1 (ints (castL (b0 :: (O0 ++ [i])))))], 2, 21, 1⟩ := rfl
        rw [hst2]
        exact Under.wk [(1, 3)] ⟨rfl, rfl, Nat.le_of_ble_eq_true rfl, Nat.le_of_ble_eq_true rfl⟩ rfl ⟨.inl rfl, .inl (by rw [← hll]; rfl), .inl rfl, trivial⟩ ⟨.inl (congrArg ABlk.ro (ints_ren _ _).symm), .inl (by rw [← hal]; exact congrArg (ABlk.row _ _) (app_lie _ _ _)), trivial⟩ rfl (by simp [tupA, hpLt, tmLt, AV.lt, AE.lt, AC.lt, LL_cons, LL_nil, idOk, ABlk.lt, ints_LL, GB, tab64_LL, pC, castL, prs, pV, pH, pK, tV, tH, tK, pwSt, poSt]) (by simp [tupA, hpLt, tmLt, AV.lt, AE.lt, AC.lt, LL_cons, LL_nil, idOk, ABlk.lt, ints_LL, GB, tab64_LL, pC, castL, prs, pV, pH, pK, tV, tH, tK, pwSt, poSt])
      · have h1 : bI f i = 0 := by rw [bI, if_neg hf]
        rw [h1]
        rw [if_neg hf, List.append_nil] at hsu
        refine Wk.on ?_
        refine Again.under (i + 1, O) ?_ ⟨by show i + 1 ≤ m; omega, by show exN f (i + 1) = O; rw [hsu]⟩ (by show m - (i + 1) < m - i; omega)
        rw [hst]
        exact Under.wk [] ⟨rfl, rfl, Nat.le_of_ble_eq_true rfl, Nat.le_of_ble_eq_true rfl⟩ rfl ⟨.inl rfl, .inl rfl, .inl rfl, trivial⟩ ⟨.inl (congrArg ABlk.ro (ints_ren _ _).symm), .inl (congrArg (ABlk.row _ _) (ints_ren _ _).symm), trivial⟩ rfl (by simp [tupA, hpLt, tmLt, AV.lt, AE.lt, AC.lt, LL_cons, LL_nil, idOk, ABlk.lt, ints_LL, GB, tab64_LL, pC, castL, prs, pV, pH, pK, tV, tH, tK, pwSt, poSt]) (by simp [tupA, hpLt, tmLt, AV.lt, AE.lt, AC.lt, LL_cons, LL_nil, idOk, ABlk.lt, ints_LL, GB, tab64_LL, pC, castL, prs, pV, pH, pK, tV, tH, tK, pwSt, poSt])
  · obtain rfl : i = m := by omega
    rw [hO]
    rcases O with _ | ⟨b0, O0⟩
    · refine Wk.on ?_
      rw [decide_eq_false (show ¬ ((i : Nat) : Int) < ((i : Nat) : Int) by omega)]
      refine Wk.on ?_
      intro _
      refine Wk.on ?_
      exact AH.Fin.nil2 ⟨rfl, rfl, rfl⟩
    · refine Wk.on ?_
      rw [decide_eq_false (show ¬ ((i : Nat) : Int) < ((i : Nat) : Int) by omega)]
      refine Wk.on ?_
      intro _
      refine Wk.on ?_
      exact AH.Fin.new [1] _ _ ⟨rfl, rfl, rfl⟩ rfl ⟨by show some (ABlk.row 3 1 _) = some (ABlk.row 3 1 ((ints _).map _)); rw [ints_ren], trivial⟩ rfl (by simp [tupA, hpLt, tmLt, AV.lt, AE.lt, AC.lt, LL_cons, LL_nil, idOk, ABlk.lt, ints_LL, GB, tab64_LL, pC, castL, prs, pV, pH, pK, tV, tH, tK, pwSt, poSt]) (by simp [tupA, hpLt, tmLt, AV.lt, AE.lt, AC.lt, LL_cons, LL_nil, idOk, ABlk.lt, ints_LL, GB, tab64_LL, pC, castL, prs, pV, pH, pK, tV, tH, tK, pwSt, poSt])
theorem ints_same (A : List Int) (hA : A.length ≤ 1000000) : FDet Tryd.prog 19 [.c (.rs 0 0 A.length), .c (.rs 1 0 A.length)] [(0, .ro (ints A)), (1, .ro (ints A))] 2 (.c (.bool true)) [] 2 := by
  have hl : (ints A).length = A.length := ints_len A
  refine FSpec.body2 tok true Tryd.func19 ?_
  refine Wk.on ?_
  rw [decide_eq_false (show ¬ ((A.length : Nat) : Int) ≠ ((A.length : Nat) : Int) by omega)]
  refine Wk.on ?_
  intro _
  refine Wk.on ?_
  refine Tr.loop (md := true) (X := Nat) (st := fun i => ⟨[(0, .c (.rs 0 0 A.length)), (1, .c (.rs 1 0 A.length)), (5, .c (.int .i64 i))], [(0, .ro (ints A)), (1, .ro (ints A))], 2, 26, 2⟩) (inv := fun i => i ≤ A.length) (μ := fun i => A.length - i) (x0 := 0) (l := []) tok (by omega) ?_ ?_
  · exact Sub.nil ⟨rfl, rfl, (by simp [tab64_LL, pC, castL, prs, pV, pH, pK, tV, tH, tK, pwSt, poSt]), rfl, (by simp [tupA, hpLt, tmLt, AV.lt, AE.lt, AC.lt, LL_cons, LL_nil, idOk, ABlk.lt, ints_LL, GB, tab64_LL, pC, castL, prs, pV, pH, pK, tV, tH, tK, pwSt, poSt]), (by simp [tupA, hpLt, tmLt, AV.lt, AE.lt, AC.lt, LL_cons, LL_nil, idOk, ABlk.lt, ints_LL, GB, tab64_LL, pC, castL, prs, pV, pH, pK, tV, tH, tK, pwSt, poSt])⟩ (by (repeat (first | exact trivial | refine ⟨trivial, ?_⟩ | refine ⟨rfl, ?_⟩))) (by (repeat (first | exact trivial | refine ⟨trivial, ?_⟩ | refine ⟨rfl, ?_⟩)))
  intro i hi
  by_cases hil : i < A.length
  · obtain ⟨v, hv⟩ : ∃ v, v = A.getD i 0 := ⟨_, rfl⟩
    refine Wk.on ?_
    rw [decide_eq_true (show ((i : Nat) : Int) < ((A.length : Nat) : Int) by omega)]
    refine Wk.on ?_
    refine Tr.draw (md := true) [⟨[], [18, 21, 22, 23, 24], [], [], []⟩, ⟨[], [17, 21, 22, 23, 24], [0], [], []⟩, ⟨[0, 1], [21, 22, 23, 24], [], [], []⟩, ⟨[0, 1, 2], [21, 22, 23, 24], [], [], []⟩, ⟨[], [17, 18, 19, 20, 22], [0, 1, 2, 3], [], []⟩, ⟨[], [17, 18, 19, 20, 21], [0, 1, 2, 3, 4], [], []⟩, ⟨[4, 5], [17, 18, 19, 20], [0, 1, 2, 3], [], []⟩, ⟨[4, 5, 6], [17, 18, 19, 20], [0, 1, 2, 3], [], []⟩] tok (by kernel_rfl) (by kernel_rfl) ?_
    refine Wk.on ?_
    rw [iget, ← hv]
    refine Wk.on ?_
    rw [decide_eq_false (show ¬ v ≠ v by omega)]
    refine Wk.on ?_
    intro _
    refine Wk.on ?_
    refine Again.mk (i + 1) (Sub.nil ⟨rfl, rfl, (by simp [tab64_LL, pC, castL, prs, pV, pH, pK, tV, tH, tK, pwSt, poSt]), rfl, (by simp [tupA, hpLt, tmLt, AV.lt, AE.lt, AC.lt, LL_cons, LL_nil, idOk, ABlk.lt, ints_LL, GB, tab64_LL, pC, castL, prs, pV, pH, pK, tV, tH, tK, pwSt, poSt]), (by simp [tupA, hpLt, tmLt, AV.lt, AE.lt, AC.lt, LL_cons, LL_nil, idOk, ABlk.lt, ints_LL, GB, tab64_LL, pC, castL, prs, pV, pH, pK, tV, tH, tK, pwSt, poSt])⟩ (by (repeat (first | exact trivial | refine ⟨trivial, ?_⟩ | refine ⟨rfl, ?_⟩))) (by (repeat (first | exact trivial | refine ⟨trivial, ?_⟩ | refine ⟨rfl, ?_⟩)))) (by omega) (by omega)
  · obtain rfl : i = A.length := by omega
    refine Wk.on ?_
    rw [decide_eq_false (show ¬ ((A.length : Nat) : Int) < ((A.length : Nat) : Int) by omega)]
    refine Wk.on ?_
    intro _
    refine Wk.on ?_
    exact AH.Fin.nil2 ⟨rfl, rfl, rfl⟩
theorem path_zero (own : Bool) : FDet Tryd.prog 55 [.c (.int .i64 0), .c (.bool own)] [] 0 (.c .nils) [] 0 := by
  refine FSpec.body2 tok true Tryd.func55 ?_
  refine Wk.on ?_
  exact AH.Fin.nil2 ⟨rfl, rfl, rfl⟩
theorem Poly_zero : FDet Tryd.prog 28 [.c (.int .i64 0)] [] 0 (.t [.c .nils, .c (.int .i64 0)]) [] 0 := by
  refine FSpec.body2 tok true Tryd.func28 ?_
  refine Wk.on ?_
  refine CallA.ro2 [] (.c .nils) (path_zero false) ?_
  refine Wk.on ?_
  refine Tr.loop (md := true) (X := Unit) (st := fun _ => ⟨[(4, .c .nils), (14, .c .nils), (15, .c (.int .i64 0)), (16, .c (.int .i64 0))], [], 0, 28, 0⟩) (inv := fun _ => True) (μ := fun _ => 0) (x0 := ()) (l := []) tok trivial ?_ ?_
  · exact Sub.nil ⟨rfl, rfl, (by simp [tab64_LL, pC, castL, prs, pV, pH, pK, tV, tH, tK, pwSt, poSt]), rfl, (by simp [tupA, hpLt, tmLt, AV.lt, AE.lt, AC.lt, LL_cons, LL_nil, idOk, ABlk.lt, ints_LL, GB, tab64_LL, pC, castL, prs, pV, pH, pK, tV, tH, tK, pwSt, poSt]), (by simp [tupA, hpLt, tmLt, AV.lt, AE.lt, AC.lt, LL_cons, LL_nil, idOk, ABlk.lt, ints_LL, GB, tab64_LL, pC, castL, prs, pV, pH, pK, tV, tH, tK, pwSt, poSt])⟩ (by (repeat (first | exact trivial | refine ⟨trivial, ?_⟩ | refine ⟨rfl, ?_⟩))) (by (repeat (first | exact trivial | refine ⟨trivial, ?_⟩ | refine ⟨rfl, ?_⟩)))
  intro _ _
  refine Wk.on ?_
  exact AH.Fin.nil2 ⟨rfl, rfl, rfl⟩
theorem Poly_bad {v : Int} (h : v < 0 ∨ 200 < v) : FDet Tryd.prog 28 [.c (.int .i64 v)] [] 0 (.t [.c .nils, .c (.int .i64 1)]) [] 0 := by
  by_cases h1 : v < 0
  · skip
    refine FSpec.body2 tok true Tryd.func28 ?_
    refine Wk.on ?_
    rw [decide_eq_true h1]
    refine Wk.on ?_
    exact AH.Fin.nil2 ⟨rfl, rfl, rfl⟩
  · skip
    refine FSpec.body2 tok true Tryd.func28 ?_
    refine Wk.on ?_
    rw [decide_eq_false h1]
    refine Wk.on ?_
    rw [decide_eq_true (show 200 < v by omega)]
    refine Wk.on ?_
    exact AH.Fin.nil2 ⟨rfl, rfl, rfl⟩
theorem um201 (v : Int) : IntKind.i64.wrap (IntKind.u64.wrap v % 201) = ((um v 201 : Nat) : Int) := um_wrap v (n := 201) (by decide) (by decide)
theorem polynomials_all (v0 : Int) : FDet Tryd.prog 6 [.c (.int .i64 v0)] [(100001, .ro tab64)] 0 (.c (.bool true)) [] 0 := by
  refine FSpec.body2 tok true Tryd.func6 ?_
  refine Wk.on ?_
  refine Tr.loop (md := true) (X := Nat × Int) (st := poSt) (inv := fun q => q.1 ≤ 2) (μ := fun q => 2 - q.1) (x0 := (0, v0)) (l := []) tok (by show 0 ≤ 2; omega) ?_ ?_
  · exact Sub.nil ⟨rfl, rfl, (by simp [tab64_LL, pC, castL, prs, pV, pH, pK, tV, tH, tK, pwSt, poSt]), rfl, (by simp [tupA, hpLt, tmLt, AV.lt, AE.lt, AC.lt, LL_cons, LL_nil, idOk, ABlk.lt, ints_LL, GB, tab64_LL, pC, castL, prs, pV, pH, pK, tV, tH, tK, pwSt, poSt]), (by simp [tupA, hpLt, tmLt, AV.lt, AE.lt, AC.lt, LL_cons, LL_nil, idOk, ABlk.lt, ints_LL, GB, tab64_LL, pC, castL, prs, pV, pH, pK, tV, tH, tK, pwSt, poSt])⟩ (by (repeat (first | exact trivial | refine ⟨trivial, ?_⟩ | refine ⟨rfl, ?_⟩))) (by (repeat (first | exact trivial | refine ⟨trivial, ?_⟩ | refine ⟨rfl, ?_⟩)))
  rintro ⟨k, v⟩ hk
  dsimp only at hk
  have hv4 := um201 v
  have hwv := wrap_nn v
  by_cases hk2 : k < 2
  · by_cases h1 : v < 0
    · skip
      refine Wk.on ?_
      rw [decide_eq_true (show ((k : Nat) : Int) < 2 by omega)]
      refine Wk.on ?_
      refine CallA.ro2 [] (.t [.c .nils, .c (.int .i64 1)]) (Poly_bad (.inl h1)) ?_
      refine Wk.on ?_
      rw [decide_eq_true h1]
      refine Wk.on ?_
      rw [hv4]
      exact Again.mk (k + 1, ((um v 201 : Nat) : Int)) (Sub.nil ⟨rfl, rfl, (by simp [tab64_LL, pC, castL, prs, pV, pH, pK, tV, tH, tK, pwSt, poSt]), rfl, (by simp [tupA, hpLt, tmLt, AV.lt, AE.lt, AC.lt, LL_cons, LL_nil, idOk, ABlk.lt, ints_LL, GB, tab64_LL, pC, castL, prs, pV, pH, pK, tV, tH, tK, pwSt, poSt]), (by simp [tupA, hpLt, tmLt, AV.lt, AE.lt, AC.lt, LL_cons, LL_nil, idOk, ABlk.lt, ints_LL, GB, tab64_LL, pC, castL, prs, pV, pH, pK, tV, tH, tK, pwSt, poSt])⟩ (by (repeat (first | exact trivial | refine ⟨trivial, ?_⟩ | refine ⟨rfl, ?_⟩))) (by (repeat (first | exact trivial | refine ⟨trivial, ?_⟩ | refine ⟨rfl, ?_⟩)))) (by show k + 1 ≤ 2; omega) (by show 2 - (k + 1) < 2 - k; omega)
    by_cases h2 : 200 < v
    · skip
      refine Wk.on ?_
      rw [decide_eq_true (show ((k : Nat) : Int) < 2 by omega)]
      refine Wk.on ?_
      refine CallA.ro2 [] (.t [.c .nils, .c (.int .i64 1)]) (Poly_bad (.inr h2)) ?_
      refine Wk.on ?_
      rw [decide_eq_false h1]
      refine Wk.on ?_
      rw [decide_eq_true h2]
      refine Wk.on ?_
      rw [hv4]
      exact Again.mk (k + 1, ((um v 201 : Nat) : Int)) (Sub.nil ⟨rfl, rfl, (by simp [tab64_LL, pC, castL, prs, pV, pH, pK, tV, tH, tK, pwSt, poSt]), rfl, (by simp [tupA, hpLt, tmLt, AV.lt, AE.lt, AC.lt, LL_cons, LL_nil, idOk, ABlk.lt, ints_LL, GB, tab64_LL, pC, castL, prs, pV, pH, pK, tV, tH, tK, pwSt, poSt]), (by simp [tupA, hpLt, tmLt, AV.lt, AE.lt, AC.lt, LL_cons, LL_nil, idOk, ABlk.lt, ints_LL, GB, tab64_LL, pC, castL, prs, pV, pH, pK, tV, tH, tK, pwSt, poSt])⟩ (by (repeat (first | exact trivial | refine ⟨trivial, ?_⟩ | refine ⟨rfl, ?_⟩))) (by (repeat (first | exact trivial | refine ⟨trivial, ?_⟩ | refine ⟨rfl, ?_⟩)))) (by show k + 1 ≤ 2; omega) (by show 2 - (k + 1) < 2 - k; omega)
    obtain ⟨n, rfl⟩ : ∃ n : Nat, v = n := ⟨v.toNat, by omega⟩
    have rp := refPoly_spec (n := n) (by omega)
    by_cases h0 : n = 0
    · subst h0
      have hp : exN (pl 0) (0 + 2) = [] := by decide
      have pw := FDet.wk (Powers_spec (pl 0) (m := 0 + 2) (by omega)) (args' := [.c (.sl 0 0 (0 + 2) (some (0 + 2)))]) (hp' := [(0, .ro (ints (coL (pl 0) (0 + 2))))]) ⟨⟨rfl, rfl, rfl⟩, trivial⟩ ⟨.inl rfl, trivial⟩
      rw [hp] at pw
      have pw : FDet Tryd.prog 29 [.c (.sl 0 0 (0 + 2) (some (0 + 2)))] [(0, .ro (ints (coL (pl 0) (0 + 2))))] 1 (.c .nils) [] 1 := pw
      have is := FDet.wk (ints_same [] (by decide)) (args' := [.c .nils, .c .nils]) (hp' := [(0, .ro (ints [])), (1, .ro (ints []))]) ⟨rfl, rfl, trivial⟩ ⟨.inl rfl, .inl rfl, trivial⟩
      refine Wk.on ?_
      rw [decide_eq_true (show ((k : Nat) : Int) < 2 by omega)]
      refine Wk.on ?_
      refine CallA.ro2 [] (.t [.c .nils, .c (.int .i64 0)]) (Poly_zero) ?_
      refine Wk.on ?_
      refine CallA.det2 [] (.c (.sl 0 0 (0 + 2) (some (0 + 2)))) ([(100001, .ro tab64), (0, .own (ints (coL (pl 0) (0 + 2))))]) (rp) ?_
      refine Wk.on ?_
      refine CallA.ro2 [0] (.c .nils) (pw) ?_
      refine Wk.on ?_
      refine CallA.ro2 [0, 0] (.c (.bool true)) (is) ?_
      refine Wk.on ?_
      rw [hv4]
      exact Again.mk (k + 1, ((um ((0 : Nat) : Int) 201 : Nat) : Int)) (Sub.nil ⟨rfl, rfl, (by simp [tab64_LL, pC, castL, prs, pV, pH, pK, tV, tH, tK, pwSt, poSt]), rfl, (by simp [tupA, hpLt, tmLt, AV.lt, AE.lt, AC.lt, LL_cons, LL_nil, idOk, ABlk.lt, ints_LL, GB, tab64_LL, pC, castL, prs, pV, pH, pK, tV, tH, tK, pwSt, poSt]), (by simp [tupA, hpLt, tmLt, AV.lt, AE.lt, AC.lt, LL_cons, LL_nil, idOk, ABlk.lt, ints_LL, GB, tab64_LL, pC, castL, prs, pV, pH, pK, tV, tH, tK, pwSt, poSt])⟩ (by (repeat (first | exact trivial | refine ⟨trivial, ?_⟩ | refine ⟨rfl, ?_⟩))) (by (repeat (first | exact trivial | refine ⟨trivial, ?_⟩ | refine ⟨rfl, ?_⟩)))) (by show k + 1 ≤ 2; omega) (by show 2 - (k + 1) < 2 - k; omega)
    have hq := exQ_exN (k := n) (m := n + 2) (by omega) (by omega)
    have pp := Polynomial_spec (n := n) (by omega) (by omega)
    rw [hq] at pp
    rw [if_neg h0] at rp
    have pw := FDet.wk (Powers_spec (pc (n - 1)) (m := n + 2) (by omega)) (args' := [.c (.sl 0 0 (n + 2) (some (n + 2)))]) (hp' := [(0, .ro (ints (coL (pc (n - 1)) (n + 2))))]) ⟨⟨rfl, rfl, rfl⟩, trivial⟩ ⟨.inl rfl, trivial⟩
    have hxl := exN_len (pc (n - 1)) (n + 2)
    have hcl : (ints (coL (pc (n - 1)) (n + 2))).length = n + 2 := by rw [ints_len, coL_len]
    generalize coL (pc (n - 1)) (n + 2) = C at *
    generalize exN (pc (n - 1)) (n + 2) = X at *
    obtain ⟨m, hm⟩ : ∃ m, m = n + 2 := ⟨_, rfl⟩
    rw [← hm] at rp pw
    rcases X with _ | ⟨b0, X0⟩
    · have pp : FDet Tryd.prog 28 [.c (.int .i64 n)] [(100001, .ro tab64)] 0 (.t [.c .nils, .c (.int .i64 0)]) [] 0 := pp
      have pw : FDet Tryd.prog 29 [.c (.sl 0 0 m (some m))] [(0, .ro (ints C))] 1 (.c .nils) [] 1 := pw
      have is := FDet.wk (ints_same [] (by decide)) (args' := [.c .nils, .c .nils]) (hp' := [(0, .ro (ints [])), (1, .ro (ints []))]) ⟨rfl, rfl, trivial⟩ ⟨.inl rfl, .inl rfl, trivial⟩
      refine Wk.on ?_
      rw [decide_eq_true (show ((k : Nat) : Int) < 2 by omega)]
      refine Wk.on ?_
      refine CallA.ro2 [] (.t [.c .nils, .c (.int .i64 0)]) (pp) ?_
      refine Wk.on ?_
      rw [decide_eq_false h1]
      refine Wk.on ?_
      rw [decide_eq_false h2]
      refine Wk.on ?_
      refine CallA.det2 [] (.c (.sl 0 0 m (some m))) ([(100001, .ro tab64), (0, .own (ints C))]) (rp) ?_
      refine Wk.on ?_
      refine CallA.ro2 [0] (.c .nils) (pw) ?_
      refine Wk.on ?_
      refine CallA.ro2 [0, 0] (.c (.bool true)) (is) ?_
      refine Wk.on ?_
      rw [hv4]
      exact Again.mk (k + 1, ((um (n : Int) 201 : Nat) : Int)) (Sub.nil ⟨rfl, rfl, (by simp [tab64_LL, pC, castL, prs, pV, pH, pK, tV, tH, tK, pwSt, poSt]), rfl, (by simp [tupA, hpLt, tmLt, AV.lt, AE.lt, AC.lt, LL_cons, LL_nil, idOk, ABlk.lt, ints_LL, GB, tab64_LL, pC, castL, prs, pV, pH, pK, tV, tH, tK, pwSt, poSt]), (by simp [tupA, hpLt, tmLt, AV.lt, AE.lt, AC.lt, LL_cons, LL_nil, idOk, ABlk.lt, ints_LL, GB, tab64_LL, pC, castL, prs, pV, pH, pK, tV, tH, tK, pwSt, poSt])⟩ (by (repeat (first | exact trivial | refine ⟨trivial, ?_⟩ | refine ⟨rfl, ?_⟩))) (by (repeat (first | exact trivial | refine ⟨trivial, ?_⟩ | refine ⟨rfl, ?_⟩)))) (by show k + 1 ≤ 2; omega) (by show 2 - (k + 1) < 2 - k; omega)
    · have pp := FDet.post (show FDet Tryd.prog 28 [.c (.int .i64 n)] [(100001, .ro tab64)] 0 (.t [.c (.row 0 (b0 :: X0).length), .c (.int .i64 0)]) [(0, .row 3 1 (ints (castL (b0 :: X0))))] 1 from pp) (.t [.c (.rs 0 0 (b0 :: X0).length), .c (.int .i64 0)]) [(0, .row 3 1 (ints (castL (b0 :: X0))))] ⟨⟨⟨rfl, rfl, rfl⟩, trivial⟩, rfl, trivial⟩ ⟨⟨⟨rfl, rfl⟩, .inl rfl⟩, trivial⟩ (by simp [tupA, hpLt, tmLt, AV.lt, AE.lt, AC.lt, LL_cons, LL_nil, idOk, ABlk.lt, ints_LL, GB, tab64_LL, pC, castL, prs, pV, pH, pK, tV, tH, tK, pwSt, poSt]) (by simp [tupA, hpLt, tmLt, AV.lt, AE.lt, AC.lt, LL_cons, LL_nil, idOk, ABlk.lt, ints_LL, GB, tab64_LL, pC, castL, prs, pV, pH, pK, tV, tH, tK, pwSt, poSt]) rfl
      have pw := FDet.post (show FDet Tryd.prog 29 [.c (.sl 0 0 m (some m))] [(0, .ro (ints C))] 1 (.c (.row 1 (b0 :: X0).length)) [(1, .row 3 1 (ints (castL (b0 :: X0))))] 2 from pw) (.c (.rs 1 0 (b0 :: X0).length)) [(1, .row 3 1 (ints (castL (b0 :: X0))))] ⟨⟨rfl, rfl, rfl⟩, trivial⟩ ⟨⟨⟨rfl, rfl⟩, .inl rfl⟩, trivial⟩ (by simp [tupA, hpLt, tmLt, AV.lt, AE.lt, AC.lt, LL_cons, LL_nil, idOk, ABlk.lt, ints_LL, GB, tab64_LL, pC, castL, prs, pV, pH, pK, tV, tH, tK, pwSt, poSt]) (by simp [tupA, hpLt, tmLt, AV.lt, AE.lt, AC.lt, LL_cons, LL_nil, idOk, ABlk.lt, ints_LL, GB, tab64_LL, pC, castL, prs, pV, pH, pK, tV, tH, tK, pwSt, poSt]) rfl
      have is := ints_same (castL (b0 :: X0)) (by rw [castL_len]; omega)
      rw [castL_len] at is
      generalize b0 :: X0 = X at *
      refine Wk.on ?_
      rw [decide_eq_true (show ((k : Nat) : Int) < 2 by omega)]
      refine Wk.on ?_
      refine CallA.det2 [] (.t [.c (.rs 0 0 X.length), .c (.int .i64 0)]) ([(100001, .ro tab64), (0, .row 3 1 (ints (castL X)))]) (pp) ?_
      refine Wk.on ?_
      rw [decide_eq_false h1]
      refine Wk.on ?_
      rw [decide_eq_false h2]
      refine Wk.on ?_
      refine CallA.det2 [] (.c (.sl 1 0 m (some m))) ([(100001, .ro tab64), (0, .row 3 1 (ints (castL X))), (1, .own (ints C))]) (rp) ?_
      refine Wk.on ?_
      refine CallA.det2 [1] (.c (.rs 2 0 X.length)) ([(100001, .ro tab64), (0, .row 3 1 (ints (castL X))), (1, .own (ints C)), (2, .row 3 1 (ints (castL X)))]) (pw) ?_
      refine Wk.on ?_
      refine CallA.ro2 [0, 2] (.c (.bool true)) (is) ?_
      refine Wk.on ?_
      rw [hv4]
      exact Again.mk (k + 1, ((um (n : Int) 201 : Nat) : Int)) (Sub.nil ⟨rfl, rfl, (by simp [tab64_LL, pC, castL, prs, pV, pH, pK, tV, tH, tK, pwSt, poSt]), rfl, (by simp [tupA, hpLt, tmLt, AV.lt, AE.lt, AC.lt, LL_cons, LL_nil, idOk, ABlk.lt, ints_LL, GB, tab64_LL, pC, castL, prs, pV, pH, pK, tV, tH, tK, pwSt, poSt]), (by simp [tupA, hpLt, tmLt, AV.lt, AE.lt, AC.lt, LL_cons, LL_nil, idOk, ABlk.lt, ints_LL, GB, tab64_LL, pC, castL, prs, pV, pH, pK, tV, tH, tK, pwSt, poSt])⟩ (by (repeat (first | exact trivial | refine ⟨trivial, ?_⟩ | refine ⟨rfl, ?_⟩))) (by (repeat (first | exact trivial | refine ⟨trivial, ?_⟩ | refine ⟨rfl, ?_⟩)))) (by show k + 1 ≤ 2; omega) (by show 2 - (k + 1) < 2 - k; omega)
  · obtain rfl : k = 2 := by omega
    refine Wk.on ?_
    refine CallA.ro2 [] (.c (.bool true)) (awake_spec) ?_
    refine Wk.on ?_
    exact AH.Fin.nil2 ⟨rfl, rfl, rfl⟩
end Go.Proofs.YtimknijehaamlaaDoor
