/-
  Contracts: the reference's Near, Effect, Size, IsRefutation.
-/
import Derived.Test.YtimknijehaamlaaDoorSwE1
set_option linter.unusedSimpArgs false
set_option linter.unusedVariables false
namespace Go.Proofs.YtimknijehaamlaaDoor
open Go Go.AH Go.Lin
set_option maxRecDepth 100000
set_option maxHeartbeats 1000000

theorem pget0 (ws : List (Nat × Nat)) (i : Nat) : (ints (prs ws)).getD (0 + Int.toNat ((i : Nat) : Int) * 2 + Int.toNat 0 * 1) (.int .i64 0) = .int .i64 ((ws.getD i (0, 0)).1 : Nat) := by
  rw [ints_getD, show 0 + Int.toNat ((i : Nat) : Int) * 2 + Int.toNat 0 * 1 = i * 2 by simp, (prs_get ws i).1]
theorem pget1 (ws : List (Nat × Nat)) (i : Nat) : (ints (prs ws)).getD (0 + Int.toNat ((i : Nat) : Int) * 2 + Int.toNat 1 * 1) (.int .i64 0) = .int .i64 ((ws.getD i (0, 0)).2 : Nat) := by
  rw [ints_getD, show 0 + Int.toNat ((i : Nat) : Int) * 2 + Int.toNat 1 * 1 = i * 2 + 1 by simp, (prs_get ws i).2]
theorem cget (L : List Nat) (i : Nat) : (ints (castL L)).getD (0 + Int.toNat ((i : Nat) : Int) * 1) (.int .i64 0) = .int .i64 ((L.getD i 0 : Nat) : Int) := by
  rw [ints_getD, show 0 + Int.toNat ((i : Nat) : Int) * 1 = i by simp, castL_getD]
theorem castL_set (L : List Nat) (i v : Nat) : (castL L).set i (v : Int) = castL (L.set i v) := List.map_set.symm
theorem cset (L : List Nat) (i v : Nat) : (ints (castL L)).set (0 + Int.toNat ((i : Nat) : Int) * 1) (.int .i64 (v : Int)) = ints (castL (L.set i v)) := by
  rw [show 0 + Int.toNat ((i : Nat) : Int) * 1 = i by simp]
  exact ints_set _ _ _
theorem castL_rep (n : Nat) : castL (List.replicate n 0) = List.replicate n 0 := by simp [castL]
theorem rep_ints (n : Nat) : rep n [.int .i64 0] = ints (List.replicate n 0) := by
  induction n with
  | zero => rfl
  | succ n ih => rw [rep, ih, List.replicate_succ]; rfl
theorem Near_spec {n : Nat} {ws : List (Nat × Nat)} (h : Gr n ws) (own : Bool) (hw : ws.length ≤ 1000) : FDet Tryd.prog 21 [.c (.int .i64 n), .c (.rs 0 0 ws.length), .c (.bool own)] [(0, .ro (ints (prs ws)))] 1 (.c (.sl 1 0 n (some n))) [(1, .own (ints (castL (nearL n ws own))))] 2 := by
  have hn1 := h.n1
  have hn := h.n16
  have hlen : (ints (prs ws)).length = ws.length * 2 := by rw [ints_len, prs_len]
  refine FSpec.body2 tok true Tryd.func21 ?_
  refine Wk.on ?_
  refine ⟨⟨Nat.le_of_ble_eq_true rfl, Nat.le_of_ble_eq_true rfl, rfl, by omega, rfl, by show (8 : Int) * (n : Int) ≤ _; omega, by omega⟩, ?_⟩
  rw [Int.toNat_natCast]
  refine Wk.on ?_
  refine Tr.loop (md := true) (X := Nat) (st := fun i => ⟨[(0, .c (.int .i64 n)), (1, .c (.rs 0 0 ws.length)), (2, .c (.bool own)), (7, .c (.sl 1 0 n (some n))), (8, .c (.int .i64 i))], [(1, .own (ints (castL (ownL n i)))), (0, .ro (ints (prs ws)))], 2, 64, 1⟩) (inv := fun i => i ≤ n ∧ (own = false → i = 0)) (μ := fun i => n - i) (x0 := 0) (l := []) tok ⟨by omega, fun _ => rfl⟩ ?_ ?_
  · exact Sub.nil ⟨rfl, rfl, (by simp [pC, castL, prs]), rfl, (by simp [tupA, hpLt, tmLt, AV.lt, AE.lt, AC.lt, LL_cons, LL_nil, idOk, ABlk.lt, ints_LL, GB, pC, castL, prs]), (by simp [tupA, hpLt, tmLt, AV.lt, AE.lt, AC.lt, LL_cons, LL_nil, idOk, ABlk.lt, ints_LL, GB, pC, castL, prs])⟩ (by (repeat (first | exact trivial | refine ⟨trivial, ?_⟩ | refine ⟨rfl, ?_⟩))) ⟨by show ABlk.own (rep n [.int .i64 0]) = _; rw [rep_ints, ownL_zero, castL_rep], rfl, trivial⟩
  rintro i ⟨hi, hio⟩
  have hol : (ints (castL (ownL n i))).length = n := by rw [ints_len, castL_len, ownL_len]
  by_cases hc : i < n ∧ own = true
  · obtain ⟨hil, rfl⟩ := hc
    obtain ⟨q, hq⟩ : ∃ q, q = 2 ^ i := ⟨_, rfl⟩
    have hsh : (1 : Int) * 2 ^ (Int.toNat ((i : Nat) : Int)) = (q : Int) := by simp [hq]
    have hq2 : q < 65536 := by rw [hq]; exact Nat.pow_lt_pow_right (n := 16) (by omega) (by omega)
    have hsu := ownL_succ n i hil
    rw [← hq] at hsu
    refine Wk.on ?_
    rw [decide_eq_true (show ((i : Nat) : Int) < ((n : Nat) : Int) by omega)]
    refine Wk.on ?_
    rw [hsh]
    refine Wk.on ?_
    refine Again.mk (i + 1) (Sub.nil ⟨rfl, rfl, (by simp [pC, castL, prs]), rfl, (by simp [tupA, hpLt, tmLt, AV.lt, AE.lt, AC.lt, LL_cons, LL_nil, idOk, ABlk.lt, ints_LL, GB, pC, castL, prs]), (by simp [tupA, hpLt, tmLt, AV.lt, AE.lt, AC.lt, LL_cons, LL_nil, idOk, ABlk.lt, ints_LL, GB, pC, castL, prs])⟩ (by (repeat (first | exact trivial | refine ⟨trivial, ?_⟩ | refine ⟨rfl, ?_⟩))) ⟨by show ABlk.own ((ints (castL (ownL n i))).set (0 + Int.toNat ((i : Nat) : Int) * 1) (.int .i64 (q : Int))) = ABlk.own _; rw [cset, hsu], rfl, trivial⟩) (⟨by omega, fun h => by cases h⟩) (by omega)
  · have hex : ownL n i = ownL n (if own then n else 0) := by
      cases own
      · rw [hio rfl]; rfl
      · have : i = n := by
          have : ¬ i < n := fun h => hc ⟨h, rfl⟩
          omega
        rw [this]; rfl
    obtain ⟨L0, hL0⟩ : ∃ L0, L0 = ownL n i := ⟨_, rfl⟩
    have hL0l : L0.length = n := by rw [hL0, ownL_len]
    have hnear : nearL n ws own = ws.foldl nearF L0 := by rw [nearL, ← hex, hL0]
    rw [hnear]
    rw [← hL0] at hol ⊢
    obtain ⟨F, hF⟩ : ∃ F : Nat → List Nat, F = fun k => (ws.take k).foldl nearF L0 := ⟨_, rfl⟩
    have hF0 : F 0 = L0 := by rw [hF]; rfl
    have hFl : ∀ k, (F k).length = n := fun k => by rw [hF]; exact (near_len _ _).trans hL0l
    have hFn : F ws.length = ws.foldl nearF L0 := by rw [hF]; show (ws.take ws.length).foldl nearF L0 = _; rw [List.take_length]
    have hFs : ∀ k, k < ws.length → F (k + 1) = nearF (F k) (ws.getD k (0, 0)) := fun k hk => by rw [hF]; show (ws.take (k + 1)).foldl nearF L0 = _; rw [take_succ ws (0, 0) hk, List.foldl_append]; rfl
    have hFb : ∀ k j, (F k).getD j 0 < 2 ^ n := fun k j => by rw [hF]; exact near_take_lt h (by rw [hL0]; exact ownL_lt hi) k j
    have hp16 : 2 ^ n ≤ 65536 := (Nat.pow_le_pow_right (by omega) hn : 2 ^ n ≤ 2 ^ 16)
    rw [← hFn]
    rw [← hF0] at hol ⊢
    clear hF
    by_cases hil : i < n
    · have ho : own = false := by
        cases own
        · rfl
        · exact absurd ⟨hil, rfl⟩ hc
      subst ho
      refine Wk.on ?_
      rw [decide_eq_true (show ((i : Nat) : Int) < ((n : Nat) : Int) by omega)]
      refine Wk.on ?_
      refine Tr.loop (md := true) (X := Nat) (st := fun k => ⟨[(1, .c (.rs 0 0 ws.length)), (7, .c (.sl 1 0 n (some n))), (9, .c (.int .i64 k))], [(1, .own (ints (castL (F k)))), (0, .ro (ints (prs ws)))], 2, 64, 1⟩) (inv := fun k => k ≤ ws.length) (μ := fun k => ws.length - k) (x0 := 0) (l := []) tok (by omega) ?_ ?_
      · exact Sub.nil ⟨rfl, rfl, (by simp [pC, castL, prs]), rfl, (by simp [tupA, hpLt, tmLt, AV.lt, AE.lt, AC.lt, LL_cons, LL_nil, idOk, ABlk.lt, ints_LL, GB, pC, castL, prs]), (by simp [tupA, hpLt, tmLt, AV.lt, AE.lt, AC.lt, LL_cons, LL_nil, idOk, ABlk.lt, ints_LL, GB, pC, castL, prs])⟩ (by (repeat (first | exact trivial | refine ⟨trivial, ?_⟩ | refine ⟨rfl, ?_⟩))) (by (repeat (first | exact trivial | refine ⟨trivial, ?_⟩ | refine ⟨rfl, ?_⟩)))
      intro k hk
      have hFkl : (ints (castL (F k))).length = n := by rw [ints_len, castL_len, hFl]
      by_cases hkl : k < ws.length
      · obtain ⟨a, ha⟩ : ∃ a, a = (ws.getD k (0, 0)).1 := ⟨_, rfl⟩
        obtain ⟨b, hb⟩ : ∃ b, b = (ws.getD k (0, 0)).2 := ⟨_, rfl⟩
        have hok := h.ok k hkl
        rw [← ha, ← hb] at hok
        obtain ⟨hab, hbn⟩ := hok
        have hsu := hFs k hkl
        have hgl := hFb k
        generalize F k = G at *
        obtain ⟨qa, hqa⟩ : ∃ q, q = 2 ^ a := ⟨_, rfl⟩
        obtain ⟨qb, hqb⟩ : ∃ q, q = 2 ^ b := ⟨_, rfl⟩
        have hqa2 : qa < 65536 := by rw [hqa]; exact Nat.pow_lt_pow_right (n := 16) (by omega) (by omega)
        have hqb2 : qb < 65536 := by rw [hqb]; exact Nat.pow_lt_pow_right (n := 16) (by omega) (by omega)
        have hsa : (1 : Int) * 2 ^ (Int.toNat (a : Int)) = (qa : Int) := by simp [hqa]
        have hsb : (1 : Int) * 2 ^ (Int.toNat (b : Int)) = (qb : Int) := by simp [hqb]
        have hG1 : ∀ j, (orAt G a qb).getD j 0 < 2 ^ n := orAt_lt hgl (by rw [hqb]; exact Nat.pow_lt_pow_right (by omega) hbn)
        have hnf : nearF G (ws.getD k (0, 0)) = orAt (orAt G a qb) b qa := by rw [nearF, ← ha, ← hb, hqa, hqb]
        rw [hnf] at hsu
        obtain ⟨ea, hea⟩ : ∃ e, e = G.getD a 0 := ⟨_, rfl⟩
        have hea2 : ea < 65536 := by have := hgl a; omega
        obtain ⟨G1, hG1d⟩ : ∃ g, g = orAt G a qb := ⟨_, rfl⟩
        rw [← hG1d] at hG1 hsu
        have hG1l : (ints (castL G1)).length = n := by rw [hG1d, ints_len, castL_len, orAt_len, ← castL_len, ← ints_len, hFkl]
        obtain ⟨eb, heb⟩ : ∃ e, e = G1.getD b 0 := ⟨_, rfl⟩
        have heb2 : eb < 65536 := by have := hG1 b; omega
        refine Wk.on ?_
        rw [decide_eq_true (show ((k : Nat) : Int) < ((ws.length : Nat) : Int) by omega)]
        refine Wk.on ?_
        refine Tr.draw (md := true) [⟨[], [34, 38, 39, 40, 41, 42], [], [], []⟩, ⟨[], [33, 38, 39, 40, 41, 42], [0], [], []⟩, ⟨[0, 1], [38, 39, 40, 41, 42], [], [], []⟩, ⟨[0, 1, 2], [38, 39, 40, 41, 42], [], [], []⟩, ⟨[0, 1, 2, 3], [38, 39, 40, 41, 42], [], [], []⟩, ⟨[], [10, 33, 34, 35, 36, 37, 39], [0, 1, 2, 3, 4], [], []⟩, ⟨[], [10, 33, 34, 35, 36, 37, 38], [0, 1, 2, 3, 4, 5], [], []⟩, ⟨[5, 6], [10, 33, 34, 35, 36, 37], [0, 1, 2, 3, 4], [], []⟩, ⟨[5, 6, 7], [10, 33, 34, 35, 36, 37], [0, 1, 2, 3, 4], [], []⟩, ⟨[5, 6, 7, 8], [10, 33, 34, 35, 36, 37], [0, 1, 2, 3, 4], [], []⟩, ⟨[0, 1, 2, 3, 4], [38, 39, 40, 41, 42], [5, 6, 7, 8, 9], [], []⟩] tok (by kernel_rfl) (by kernel_rfl) ?_
        refine Wk.on ?_
        rw [pget0, ← ha]
        refine Wk.on ?_
        rw [pget1, ← hb]
        refine Wk.on ?_
        refine Tr.draw (md := true) [⟨[], [44, 45, 46, 47, 48, 49, 50, 51], [], [], []⟩, ⟨[], [43, 45, 46, 47, 48, 49, 50, 51], [0], [], []⟩, ⟨[], [43, 44, 46, 49, 50], [0, 1], [], []⟩, ⟨[], [43, 44, 45, 49, 50], [0, 1, 2], [], []⟩, ⟨[2, 3], [43, 44, 49, 50], [0, 1], [], []⟩, ⟨[2, 3, 4], [43, 44, 49, 50], [0, 1], [], []⟩, ⟨[], [43, 44, 45, 46, 47, 48], [0, 1, 2, 3, 4, 5], [], []⟩, ⟨[6], [43, 44, 45, 46, 47, 48], [0, 1, 2, 3, 4, 5], [], []⟩, ⟨[2, 3, 4, 5, 6, 7], [43, 44], [0, 1], [], []⟩] tok (by kernel_rfl) (by kernel_rfl) ?_
        refine Wk.on ?_
        rw [cget, ← hea]
        refine Wk.on ?_
        rw [hsb]
        refine Wk.on ?_
        have hc1 : (ints (castL G)).set (0 + Int.toNat ((a : Nat) : Int) * 1) (.int .i64 ((Int.toNat ((ea : Nat) : Int) ||| Int.toNat ((qb : Nat) : Int) : Nat) : Int)) = ints (castL G1) := by
          rw [Int.toNat_natCast ea, Int.toNat_natCast qb, cset, hG1d, hea]; rfl
        rw [hc1]
        refine Tr.draw (md := true) [⟨[], [54, 55, 56, 57, 58, 59, 60, 61], [], [], []⟩, ⟨[], [53, 55, 56, 57, 58, 59, 60, 61], [0], [], []⟩, ⟨[], [53, 54, 56, 59, 60], [0, 1], [], []⟩, ⟨[], [53, 54, 55, 59, 60], [0, 1, 2], [], []⟩, ⟨[2, 3], [53, 54, 59, 60], [0, 1], [], []⟩, ⟨[2, 3, 4], [53, 54, 59, 60], [0, 1], [], []⟩, ⟨[], [53, 54, 55, 56, 57, 58], [0, 1, 2, 3, 4, 5], [], []⟩, ⟨[6], [53, 54, 55, 56, 57, 58], [0, 1, 2, 3, 4, 5], [], []⟩, ⟨[2, 3, 4, 5, 6, 7], [53, 54], [0, 1], [], []⟩] tok (by kernel_rfl) (by kernel_rfl) ?_
        refine Wk.on ?_
        rw [cget, ← heb]
        refine Wk.on ?_
        rw [hsa]
        refine Wk.on ?_
        refine Again.mk (k + 1) (Sub.nil ⟨rfl, rfl, (by simp [pC, castL, prs]), rfl, (by simp [tupA, hpLt, tmLt, AV.lt, AE.lt, AC.lt, LL_cons, LL_nil, idOk, ABlk.lt, ints_LL, GB, pC, castL, prs]), (by simp [tupA, hpLt, tmLt, AV.lt, AE.lt, AC.lt, LL_cons, LL_nil, idOk, ABlk.lt, ints_LL, GB, pC, castL, prs])⟩ (by (repeat (first | exact trivial | refine ⟨trivial, ?_⟩ | refine ⟨rfl, ?_⟩))) ⟨by show ABlk.own ((ints (castL G1)).set (0 + Int.toNat ((b : Nat) : Int) * 1) (.int .i64 ((Int.toNat ((eb : Nat) : Int) ||| Int.toNat ((qa : Nat) : Int) : Nat) : Int))) = ABlk.own (ints (castL (F (k + 1)))); rw [Int.toNat_natCast eb, Int.toNat_natCast qa, cset, hsu, heb]; rfl, rfl, trivial⟩) (by omega) (by omega)
      · obtain rfl : k = ws.length := by omega
        generalize F ws.length = G at *
        refine Wk.on ?_
        rw [decide_eq_false (show ¬ ((ws.length : Nat) : Int) < ((ws.length : Nat) : Int) by omega)]
        refine Wk.on ?_
        intro _
        refine Wk.on ?_
        exact AH.Fin.new [1] _ _ ⟨rfl, rfl, rfl⟩ rfl ⟨by show some (ABlk.own _) = some (ABlk.own ((ints _).map _)); rw [ints_ren], trivial⟩ rfl (by simp [tupA, hpLt, tmLt, AV.lt, AE.lt, AC.lt, LL_cons, LL_nil, idOk, ABlk.lt, ints_LL, GB, pC, castL, prs]) (by simp [tupA, hpLt, tmLt, AV.lt, AE.lt, AC.lt, LL_cons, LL_nil, idOk, ABlk.lt, ints_LL, GB, pC, castL, prs])
    · skip
      skip
      refine Wk.on ?_
      rw [decide_eq_false (show ¬ ((i : Nat) : Int) < ((n : Nat) : Int) by omega)]
      refine Wk.on ?_
      refine Tr.loop (md := true) (X := Nat) (st := fun k => ⟨[(1, .c (.rs 0 0 ws.length)), (7, .c (.sl 1 0 n (some n))), (9, .c (.int .i64 k))], [(1, .own (ints (castL (F k)))), (0, .ro (ints (prs ws)))], 2, 64, 1⟩) (inv := fun k => k ≤ ws.length) (μ := fun k => ws.length - k) (x0 := 0) (l := []) tok (by omega) ?_ ?_
      · exact Sub.nil ⟨rfl, rfl, (by simp [pC, castL, prs]), rfl, (by simp [tupA, hpLt, tmLt, AV.lt, AE.lt, AC.lt, LL_cons, LL_nil, idOk, ABlk.lt, ints_LL, GB, pC, castL, prs]), (by simp [tupA, hpLt, tmLt, AV.lt, AE.lt, AC.lt, LL_cons, LL_nil, idOk, ABlk.lt, ints_LL, GB, pC, castL, prs])⟩ (by (repeat (first | exact trivial | refine ⟨trivial, ?_⟩ | refine ⟨rfl, ?_⟩))) (by (repeat (first | exact trivial | refine ⟨trivial, ?_⟩ | refine ⟨rfl, ?_⟩)))
      intro k hk
      have hFkl : (ints (castL (F k))).length = n := by rw [ints_len, castL_len, hFl]
      by_cases hkl : k < ws.length
      · obtain ⟨a, ha⟩ : ∃ a, a = (ws.getD k (0, 0)).1 := ⟨_, rfl⟩
        obtain ⟨b, hb⟩ : ∃ b, b = (ws.getD k (0, 0)).2 := ⟨_, rfl⟩
        have hok := h.ok k hkl
        rw [← ha, ← hb] at hok
        obtain ⟨hab, hbn⟩ := hok
        have hsu := hFs k hkl
        have hgl := hFb k
        generalize F k = G at *
        obtain ⟨qa, hqa⟩ : ∃ q, q = 2 ^ a := ⟨_, rfl⟩
        obtain ⟨qb, hqb⟩ : ∃ q, q = 2 ^ b := ⟨_, rfl⟩
        have hqa2 : qa < 65536 := by rw [hqa]; exact Nat.pow_lt_pow_right (n := 16) (by omega) (by omega)
        have hqb2 : qb < 65536 := by rw [hqb]; exact Nat.pow_lt_pow_right (n := 16) (by omega) (by omega)
        have hsa : (1 : Int) * 2 ^ (Int.toNat (a : Int)) = (qa : Int) := by simp [hqa]
        have hsb : (1 : Int) * 2 ^ (Int.toNat (b : Int)) = (qb : Int) := by simp [hqb]
        have hG1 : ∀ j, (orAt G a qb).getD j 0 < 2 ^ n := orAt_lt hgl (by rw [hqb]; exact Nat.pow_lt_pow_right (by omega) hbn)
        have hnf : nearF G (ws.getD k (0, 0)) = orAt (orAt G a qb) b qa := by rw [nearF, ← ha, ← hb, hqa, hqb]
        rw [hnf] at hsu
        obtain ⟨ea, hea⟩ : ∃ e, e = G.getD a 0 := ⟨_, rfl⟩
        have hea2 : ea < 65536 := by have := hgl a; omega
        obtain ⟨G1, hG1d⟩ : ∃ g, g = orAt G a qb := ⟨_, rfl⟩
        rw [← hG1d] at hG1 hsu
        have hG1l : (ints (castL G1)).length = n := by rw [hG1d, ints_len, castL_len, orAt_len, ← castL_len, ← ints_len, hFkl]
        obtain ⟨eb, heb⟩ : ∃ e, e = G1.getD b 0 := ⟨_, rfl⟩
        have heb2 : eb < 65536 := by have := hG1 b; omega
        refine Wk.on ?_
        rw [decide_eq_true (show ((k : Nat) : Int) < ((ws.length : Nat) : Int) by omega)]
        refine Wk.on ?_
        refine Tr.draw (md := true) [⟨[], [34, 38, 39, 40, 41, 42], [], [], []⟩, ⟨[], [33, 38, 39, 40, 41, 42], [0], [], []⟩, ⟨[0, 1], [38, 39, 40, 41, 42], [], [], []⟩, ⟨[0, 1, 2], [38, 39, 40, 41, 42], [], [], []⟩, ⟨[0, 1, 2, 3], [38, 39, 40, 41, 42], [], [], []⟩, ⟨[], [10, 33, 34, 35, 36, 37, 39], [0, 1, 2, 3, 4], [], []⟩, ⟨[], [10, 33, 34, 35, 36, 37, 38], [0, 1, 2, 3, 4, 5], [], []⟩, ⟨[5, 6], [10, 33, 34, 35, 36, 37], [0, 1, 2, 3, 4], [], []⟩, ⟨[5, 6, 7], [10, 33, 34, 35, 36, 37], [0, 1, 2, 3, 4], [], []⟩, ⟨[5, 6, 7, 8], [10, 33, 34, 35, 36, 37], [0, 1, 2, 3, 4], [], []⟩, ⟨[0, 1, 2, 3, 4], [38, 39, 40, 41, 42], [5, 6, 7, 8, 9], [], []⟩] tok (by kernel_rfl) (by kernel_rfl) ?_
        refine Wk.on ?_
        rw [pget0, ← ha]
        refine Wk.on ?_
        rw [pget1, ← hb]
        refine Wk.on ?_
        refine Tr.draw (md := true) [⟨[], [44, 45, 46, 47, 48, 49, 50, 51], [], [], []⟩, ⟨[], [43, 45, 46, 47, 48, 49, 50, 51], [0], [], []⟩, ⟨[], [43, 44, 46, 49, 50], [0, 1], [], []⟩, ⟨[], [43, 44, 45, 49, 50], [0, 1, 2], [], []⟩, ⟨[2, 3], [43, 44, 49, 50], [0, 1], [], []⟩, ⟨[2, 3, 4], [43, 44, 49, 50], [0, 1], [], []⟩, ⟨[], [43, 44, 45, 46, 47, 48], [0, 1, 2, 3, 4, 5], [], []⟩, ⟨[6], [43, 44, 45, 46, 47, 48], [0, 1, 2, 3, 4, 5], [], []⟩, ⟨[2, 3, 4, 5, 6, 7], [43, 44], [0, 1], [], []⟩] tok (by kernel_rfl) (by kernel_rfl) ?_
        refine Wk.on ?_
        rw [cget, ← hea]
        refine Wk.on ?_
        rw [hsb]
        refine Wk.on ?_
        have hc1 : (ints (castL G)).set (0 + Int.toNat ((a : Nat) : Int) * 1) (.int .i64 ((Int.toNat ((ea : Nat) : Int) ||| Int.toNat ((qb : Nat) : Int) : Nat) : Int)) = ints (castL G1) := by
          rw [Int.toNat_natCast ea, Int.toNat_natCast qb, cset, hG1d, hea]; rfl
        rw [hc1]
        refine Tr.draw (md := true) [⟨[], [54, 55, 56, 57, 58, 59, 60, 61], [], [], []⟩, ⟨[], [53, 55, 56, 57, 58, 59, 60, 61], [0], [], []⟩, ⟨[], [53, 54, 56, 59, 60], [0, 1], [], []⟩, ⟨[], [53, 54, 55, 59, 60], [0, 1, 2], [], []⟩, ⟨[2, 3], [53, 54, 59, 60], [0, 1], [], []⟩, ⟨[2, 3, 4], [53, 54, 59, 60], [0, 1], [], []⟩, ⟨[], [53, 54, 55, 56, 57, 58], [0, 1, 2, 3, 4, 5], [], []⟩, ⟨[6], [53, 54, 55, 56, 57, 58], [0, 1, 2, 3, 4, 5], [], []⟩, ⟨[2, 3, 4, 5, 6, 7], [53, 54], [0, 1], [], []⟩] tok (by kernel_rfl) (by kernel_rfl) ?_
        refine Wk.on ?_
        rw [cget, ← heb]
        refine Wk.on ?_
        rw [hsa]
        refine Wk.on ?_
        refine Again.mk (k + 1) (Sub.nil ⟨rfl, rfl, (by simp [pC, castL, prs]), rfl, (by simp [tupA, hpLt, tmLt, AV.lt, AE.lt, AC.lt, LL_cons, LL_nil, idOk, ABlk.lt, ints_LL, GB, pC, castL, prs]), (by simp [tupA, hpLt, tmLt, AV.lt, AE.lt, AC.lt, LL_cons, LL_nil, idOk, ABlk.lt, ints_LL, GB, pC, castL, prs])⟩ (by (repeat (first | exact trivial | refine ⟨trivial, ?_⟩ | refine ⟨rfl, ?_⟩))) ⟨by show ABlk.own ((ints (castL G1)).set (0 + Int.toNat ((b : Nat) : Int) * 1) (.int .i64 ((Int.toNat ((eb : Nat) : Int) ||| Int.toNat ((qa : Nat) : Int) : Nat) : Int))) = ABlk.own (ints (castL (F (k + 1)))); rw [Int.toNat_natCast eb, Int.toNat_natCast qa, cset, hsu, heb]; rfl, rfl, trivial⟩) (by omega) (by omega)
      · obtain rfl : k = ws.length := by omega
        generalize F ws.length = G at *
        refine Wk.on ?_
        rw [decide_eq_false (show ¬ ((ws.length : Nat) : Int) < ((ws.length : Nat) : Int) by omega)]
        refine Wk.on ?_
        intro _
        refine Wk.on ?_
        exact AH.Fin.new [1] _ _ ⟨rfl, rfl, rfl⟩ rfl ⟨by show some (ABlk.own _) = some (ABlk.own ((ints _).map _)); rw [ints_ren], trivial⟩ rfl (by simp [tupA, hpLt, tmLt, AV.lt, AE.lt, AC.lt, LL_cons, LL_nil, idOk, ABlk.lt, ints_LL, GB, pC, castL, prs]) (by simp [tupA, hpLt, tmLt, AV.lt, AE.lt, AC.lt, LL_cons, LL_nil, idOk, ABlk.lt, ints_LL, GB, pC, castL, prs])
theorem effX_lt {k : Nat} {L : List Nat} (h : ∀ j, L.getD j 0 < 2 ^ k) (x : Nat) : ∀ (is : List Nat) (a : Nat), a < 2 ^ k → effX L x is a < 2 ^ k
  | [], _, ha => ha
  | i :: is, a, ha => effX_lt h x is _ (by show (if x.testBit i = true then a ^^^ L.getD i 0 else a) < 2 ^ k; split; exact Nat.xor_lt_two_pow ha (h i); exact ha)
theorem shrN (x i : Nat) : ((x : Nat) : Int) / 2 ^ Int.toNat ((i : Nat) : Int) = ((x / 2 ^ i : Nat) : Int) := by
  rw [Int.toNat_natCast, Int.natCast_ediv, Int.natCast_pow]; rfl
theorem rem2 (y : Nat) : ((y : Nat) : Int) % 2 = ((y % 2 : Nat) : Int) := rfl
theorem bit1 (x i : Nat) : decide (((x / 2 ^ i % 2 : Nat) : Int) = 1) = x.testBit i := by
  rw [Nat.testBit_eq_decide_div_mod_eq]
  exact decide_eq_decide.2 (by omega)
theorem refEffect_spec {L : List Nat} {k : Nat} (hL : ∀ j, L.getD j 0 < 2 ^ k) (hk : k ≤ 16) (hl : L.length ≤ 16) (x : Nat) : FDet Tryd.prog 36 [.c (.rs 0 0 L.length), .c (.int .i64 x)] [(0, .ro (ints (castL L)))] 1 (.c (.int .i64 (eff L x : Nat))) [] 1 := by
  have hp16 : 2 ^ k ≤ 65536 := (Nat.pow_le_pow_right (by omega) hk : 2 ^ k ≤ 2 ^ 16)
  have hcl : (ints (castL L)).length = L.length := by rw [ints_len, castL_len]
  refine FSpec.body2 tok true Tryd.func36 ?_
  refine Wk.on ?_
  refine Tr.loop (md := true) (X := Nat) (st := fun i => ⟨[(0, .c (.rs 0 0 L.length)), (1, .c (.int .i64 x)), (5, .c (.int .i64 (effX L x (List.range i) 0 : Nat))), (6, .c (.int .i64 i))], [(0, .ro (ints (castL L)))], 1, 25, 1⟩) (inv := fun i => i ≤ L.length) (μ := fun i => L.length - i) (x0 := 0) (l := []) tok (by omega) ?_ ?_
  · exact Sub.nil ⟨rfl, rfl, (by simp [pC, castL, prs]), rfl, (by simp [tupA, hpLt, tmLt, AV.lt, AE.lt, AC.lt, LL_cons, LL_nil, idOk, ABlk.lt, ints_LL, GB, pC, castL, prs]), (by simp [tupA, hpLt, tmLt, AV.lt, AE.lt, AC.lt, LL_cons, LL_nil, idOk, ABlk.lt, ints_LL, GB, pC, castL, prs])⟩ (by (repeat (first | exact trivial | refine ⟨trivial, ?_⟩ | refine ⟨rfl, ?_⟩))) (by (repeat (first | exact trivial | refine ⟨trivial, ?_⟩ | refine ⟨rfl, ?_⟩)))
  intro i hi
  have hb := effX_lt hL x (List.range i) 0 (Nat.two_pow_pos k)
  have hsu : effX L x (List.range (i + 1)) 0 = if x.testBit i then effX L x (List.range i) 0 ^^^ L.getD i 0 else effX L x (List.range i) 0 := by rw [List.range_succ, effX, List.foldl_append]; rfl
  have hge := hL i
  by_cases hil : i < L.length
  · generalize effX L x (List.range i) 0 = e at *
    obtain ⟨y, hy⟩ : ∃ y, y = x / 2 ^ i := ⟨_, rfl⟩
    have hb1 : decide (((y % 2 : Nat) : Int) = 1) = x.testBit i := by rw [hy]; exact bit1 x i
    refine Wk.on ?_
    rw [decide_eq_true (show ((i : Nat) : Int) < ((L.length : Nat) : Int) by omega)]
    refine Wk.on ?_
    rw [shrN, ← hy]
    refine Wk.on ?_
    rw [rem2, hb1]
    obtain ⟨g, hg⟩ : ∃ g, g = L.getD i 0 := ⟨_, rfl⟩
    rw [← hg] at hsu hge
    obtain ⟨u, hu⟩ : ∃ u, u = x.testBit i := ⟨_, rfl⟩
    rw [← hu] at hsu ⊢
    cases u
    · refine Wk.on ?_
      rw [if_neg Bool.false_ne_true] at hsu
      refine Again.mk (i + 1) (Sub.nil ⟨rfl, rfl, (by simp [pC, castL, prs]), rfl, (by simp [tupA, hpLt, tmLt, AV.lt, AE.lt, AC.lt, LL_cons, LL_nil, idOk, ABlk.lt, ints_LL, GB, pC, castL, prs]), (by simp [tupA, hpLt, tmLt, AV.lt, AE.lt, AC.lt, LL_cons, LL_nil, idOk, ABlk.lt, ints_LL, GB, pC, castL, prs])⟩ ⟨rfl, rfl, by show AV.c (.int .i64 (e : Int)) = .c (.int .i64 (effX L x (List.range (i + 1)) 0 : Nat)); rw [hsu], rfl, trivial⟩ (by (repeat (first | exact trivial | refine ⟨trivial, ?_⟩ | refine ⟨rfl, ?_⟩)))) (by omega) (by omega)
    · refine Wk.on ?_
      rw [cget, ← hg]
      refine Wk.on ?_
      rw [if_pos rfl] at hsu
      refine Again.mk (i + 1) (Sub.nil ⟨rfl, rfl, (by simp [pC, castL, prs]), rfl, (by simp [tupA, hpLt, tmLt, AV.lt, AE.lt, AC.lt, LL_cons, LL_nil, idOk, ABlk.lt, ints_LL, GB, pC, castL, prs]), (by simp [tupA, hpLt, tmLt, AV.lt, AE.lt, AC.lt, LL_cons, LL_nil, idOk, ABlk.lt, ints_LL, GB, pC, castL, prs])⟩ ⟨rfl, rfl, by show AV.c (.int .i64 ((Int.toNat ((e : Nat) : Int) ^^^ Int.toNat ((g : Nat) : Int) : Nat) : Int)) = .c (.int .i64 (effX L x (List.range (i + 1)) 0 : Nat)); rw [hsu, Int.toNat_natCast e, Int.toNat_natCast g], rfl, trivial⟩ (by (repeat (first | exact trivial | refine ⟨trivial, ?_⟩ | refine ⟨rfl, ?_⟩)))) (by omega) (by omega)
  · obtain rfl : i = L.length := by omega
    refine Wk.on ?_
    rw [decide_eq_false (show ¬ ((L.length : Nat) : Int) < ((L.length : Nat) : Int) by omega)]
    refine Wk.on ?_
    intro _
    refine Wk.on ?_
    exact AH.Fin.nil2 ⟨rfl, rfl, rfl⟩
def cntN (x i : Nat) : Nat := ((List.range i).filter x.testBit).length
theorem cntN_succ (x i : Nat) : cntN x (i + 1) = cntN x i + x / 2 ^ i % 2 := by
  rw [cntN, cntN, List.range_succ, List.filter_append, List.length_append, List.filter_cons, List.filter_nil]
  have h := Nat.testBit_eq_decide_div_mod_eq (x := x) (i := i)
  by_cases e : x / 2 ^ i % 2 = 1
  · rw [h, decide_eq_true e, if_pos rfl, e]; rfl
  · rw [h, decide_eq_false e, if_neg Bool.false_ne_true, show x / 2 ^ i % 2 = 0 by omega]; rfl
theorem cntN_le (x i : Nat) : cntN x i ≤ i := by
  have := List.length_filter_le x.testBit (List.range i)
  rw [List.length_range] at this; exact this
theorem cntN_pop {x i : Nat} (hi : i ≤ 16) (h : x < 2 ^ i) : cntN x i = pop x := by
  rw [cntN, pop, memN, filter_low hi h]
theorem Size_spec {x : Nat} (hx : x < 65536) : FDet Tryd.prog 42 [.c (.int .i64 x)] [] 0 (.c (.int .i64 (pop x : Nat))) [] 0 := by
  refine FSpec.body2 tok true Tryd.func42 ?_
  refine Wk.on ?_
  refine Tr.loop (md := true) (X := Nat) (st := fun i => ⟨[(0, .c (.int .i64 x)), (3, .c (.int .i64 (cntN x i : Nat))), (4, .c (.int .i64 i))], [], 0, 18, 0⟩) (inv := fun i => i ≤ 16) (μ := fun i => 16 - i) (x0 := 0) (l := []) tok (by omega) ?_ ?_
  · exact Sub.nil ⟨rfl, rfl, (by simp [pC, castL, prs]), rfl, (by simp [tupA, hpLt, tmLt, AV.lt, AE.lt, AC.lt, LL_cons, LL_nil, idOk, ABlk.lt, ints_LL, GB, pC, castL, prs]), (by simp [tupA, hpLt, tmLt, AV.lt, AE.lt, AC.lt, LL_cons, LL_nil, idOk, ABlk.lt, ints_LL, GB, pC, castL, prs])⟩ (by (repeat (first | exact trivial | refine ⟨trivial, ?_⟩ | refine ⟨rfl, ?_⟩))) (by (repeat (first | exact trivial | refine ⟨trivial, ?_⟩ | refine ⟨rfl, ?_⟩)))
  intro i hi
  have hs := cntN_succ x i
  have hle := cntN_le x i
  by_cases hil : 0 < x / 2 ^ i
  · have hi16 : i < 16 := by
      refine Nat.lt_of_not_le fun h => ?_
      have : x < 2 ^ i := Nat.lt_of_lt_of_le hx (Nat.pow_le_pow_right (by omega) h : 2 ^ 16 ≤ 2 ^ i)
      rw [Nat.div_eq_of_lt this] at hil
      exact absurd hil (Nat.lt_irrefl 0)
    have hm : x / 2 ^ i % 2 < 2 := Nat.mod_lt _ (by omega)
    obtain ⟨z, hz⟩ : ∃ z, z = x / 2 ^ i := ⟨_, rfl⟩
    rw [← hz] at hil hs hm
    refine Wk.on ?_
    rw [shrN, ← hz, decide_eq_true (show (0 : Int) < ((z : Nat) : Int) by omega)]
    refine Wk.on ?_
    rw [shrN, ← hz]
    refine Wk.on ?_
    rw [rem2]
    generalize z % 2 = y at *
    generalize cntN x i = c at *
    refine Wk.on ?_
    refine Again.mk (i + 1) (Sub.nil ⟨rfl, rfl, (by simp [pC, castL, prs]), rfl, (by simp [tupA, hpLt, tmLt, AV.lt, AE.lt, AC.lt, LL_cons, LL_nil, idOk, ABlk.lt, ints_LL, GB, pC, castL, prs]), (by simp [tupA, hpLt, tmLt, AV.lt, AE.lt, AC.lt, LL_cons, LL_nil, idOk, ABlk.lt, ints_LL, GB, pC, castL, prs])⟩ ⟨rfl, by show AV.c (.int .i64 ((c : Int) + (y : Int))) = .c (.int .i64 (cntN x (i + 1) : Nat)); rw [hs]; rfl, rfl, trivial⟩ (by (repeat (first | exact trivial | refine ⟨trivial, ?_⟩ | refine ⟨rfl, ?_⟩)))) (by omega) (by omega)
  · have hlt : x < 2 ^ i := Nat.lt_of_not_le fun h => hil (Nat.div_pos h (Nat.two_pow_pos i))
    rw [← cntN_pop hi hlt]
    generalize cntN x i = c at *
    refine Wk.on ?_
    obtain ⟨z, hz⟩ : ∃ z, z = x / 2 ^ i := ⟨_, rfl⟩
    rw [← hz] at hil
    rw [shrN, ← hz, decide_eq_false (show ¬ (0 : Int) < ((z : Nat) : Int) by omega)]
    refine Wk.on ?_
    exact AH.Fin.nil2 ⟨rfl, rfl, rfl⟩
theorem refIsRef_spec {L : List Nat} {k : Nat} (hL : ∀ j, L.getD j 0 < 2 ^ k) (hk : k ≤ 16) (hl : L.length ≤ 16) {t q : Nat} (ht : t < 65536) (hq : q < 65536) : FDet Tryd.prog 45 [.c (.rs 0 0 L.length), .c (.int .i64 t), .c (.int .i64 q)] [(0, .ro (ints (castL L)))] 1 (.c (.bool (decide (eff L q = 0) && decide (pop (t &&& q) % 2 = 1)))) [] 1 := by
  have htq : t &&& q < 65536 := Nat.lt_of_le_of_lt Nat.and_le_left ht
  refine FSpec.body2 tok true Tryd.func45 ?_
  refine Wk.on ?_
  refine CallA.ro2 [0] (.c (.int .i64 (eff L q : Nat))) (refEffect_spec hL hk hl q) ?_
  refine Wk.on ?_
  by_cases hz : eff L q = 0
  · rw [hz]
    refine Wk.on ?_
    rw [show (Int.toNat ((t : Nat) : Int) &&& Int.toNat ((q : Nat) : Int) : Nat) = t &&& q by rw [Int.toNat_natCast, Int.toNat_natCast]]
    refine CallA.ro2 [] (.c (.int .i64 (pop (t &&& q) : Nat))) (Size_spec htq) ?_
    refine Wk.on ?_
    rw [rem2]
    generalize pop (t &&& q) % 2 = y at *
    rw [decide_eq_decide.2 (show ((y : Nat) : Int) = 1 ↔ y = 1 by omega)]
    refine Wk.on ?_
    exact AH.Fin.nil2 ⟨rfl, rfl, rfl⟩
  · rw [decide_eq_false (show ¬ ((eff L q : Nat) : Int) = 0 by omega), decide_eq_false hz]
    refine Wk.on ?_
    exact AH.Fin.nil2 ⟨rfl, rfl, rfl⟩
end Go.Proofs.YtimknijehaamlaaDoor
