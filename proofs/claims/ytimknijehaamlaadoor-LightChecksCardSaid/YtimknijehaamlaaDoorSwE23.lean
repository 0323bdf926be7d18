/-
  Contracts: what open tells, every function tells.
-/
import Derived.Test.YtimknijehaamlaaDoorSwE22
import Derived.Test.YtimknijehaamlaaDoorSw4
set_option linter.unusedSimpArgs false
set_option linter.unusedVariables false
namespace Go.Proofs.YtimknijehaamlaaDoor
open Go Go.AH Go.Lin
set_option maxRecDepth 100000
set_option maxHeartbeats 1000000

theorem contains_bad {n : Nat} (hn : n ≤ 16) (S : List Int) (hS : S.length ≤ 1000) (hb : S.any (oorB n) = true) : FDet Tryd.prog 65 [.c (.rs 0 0 S.length), .c (.fn 66 [] [1])] [(0, .ro (ints S)), (1, .ro [.int .i64 n])] 2 (.c (.bool true)) [] 2 := hb ▸ contains_spec hn S hS
theorem open_set {n : Nat} {ws : List (Nat × Nat)} (h : Gr n ws) (own : Bool) (hw : ws.length ≤ 1000) (S : List Int) (hS : S.length ≤ 1000) (hb : S.any (oorB n) = true) : FDet Tryd.prog 50 [.c (.int .i64 n), .c (.rs 0 0 ws.length), .c (.bool own), .c (.rs 1 0 S.length)] [(0, .ro (ints (prs ws))), (1, .ro (ints S))] 2 (.t [.c .nilp, .c (.int .i64 1)]) [] 2 := by
  have hn1 := h.n1
  have hn := h.n16
  have hlen : (ints (prs ws)).length = ws.length * 2 := by rw [ints_len, prs_len]
  refine FSpec.body2 tok true Tryd.func50 ?_
  refine Wk.on ?_
  rw [decide_eq_false (show ¬ ((n : Nat) : Int) < 1 by omega)]
  refine Wk.on ?_
  rw [decide_eq_false (show ¬ 16 < ((n : Nat) : Int) by omega)]
  refine Wk.on ?_
  refine Tr.loop (md := true) (X := Nat) (st := fun i => ⟨[(2, .c (.bool own)), (3, .c (.rs 1 0 S.length)), (4, .c (.ptr 2 0)), (10, .c (.ptr 3 0)), (11, .c (.ptr 4 0)), (25, .c (.rs 0 0 ws.length)), (26, .c (.int .i64 ws.length)), (27, .c (.int .i64 i))], [(2, .own [.int .i64 n]), (3, .own (lC n (nearR (ws.take i)))), (4, .own [.int .i64 (prevP ws i).1, .int .i64 (prevP ws i).2]), (0, .ro (ints (prs ws))), (1, .ro (ints S))], 5, 108, 2⟩) (inv := fun i => i ≤ ws.length) (μ := fun i => ws.length - i) (x0 := 0) (l := []) tok (by omega) ?_ ?_
  · exact Sub.nil ⟨rfl, rfl, (by simp [tab64_LL, pC, castL, lC]), rfl, (by simp [tupA, hpLt, tmLt, AV.lt, AE.lt, AC.lt, LL_cons, LL_nil, idOk, ABlk.lt, ints_LL, GB, tab64_LL, pC, castL, lC]), (by simp [tupA, hpLt, tmLt, AV.lt, AE.lt, AC.lt, LL_cons, LL_nil, idOk, ABlk.lt, ints_LL, GB, tab64_LL, pC, castL, lC])⟩ (by (repeat (first | exact trivial | refine ⟨trivial, ?_⟩ | refine ⟨rfl, ?_⟩))) (by (repeat (first | exact trivial | refine ⟨trivial, ?_⟩ | refine ⟨rfl, ?_⟩)))
  · intro i hi
    by_cases hil : i < ws.length
    · obtain ⟨rows, hrows⟩ : ∃ rows, rows = nearR (ws.take i) := ⟨_, rfl⟩
      have hL : Lm n rows := by rw [hrows]; exact nearR_lm h i hi
      have hnx : nearR (ws.take (i + 1)) = nearF rows (ws.getD i (0, 0)) := by rw [take_succ ws (0, 0) hil, hrows, nearR, List.foldl_append]; rfl
      have hcmp := cmp_prev h hil
      have hok := h.ok i hil
      obtain ⟨pa, hpa⟩ : ∃ pa, pa = (prevP ws i).1 := ⟨_, rfl⟩
      obtain ⟨pb, hpb⟩ : ∃ pb, pb = (prevP ws i).2 := ⟨_, rfl⟩
      have hprev : prevP ws (i + 1) = ((((ws.getD i (0, 0)).1 : Nat) : Int), (((ws.getD i (0, 0)).2 : Nat) : Int)) := by rw [prevP, if_neg (by omega), Nat.add_sub_cancel]
      obtain ⟨a, ha⟩ : ∃ a, a = (ws.getD i (0, 0)).1 := ⟨_, rfl⟩
      obtain ⟨b, hb2⟩ : ∃ b, b = (ws.getD i (0, 0)).2 := ⟨_, rfl⟩
      have hpc : pC (ws.getD i (0, 0)) = [.int .i64 a, .int .i64 b] := by rw [pC, ha, hb2]
      rw [← hrows, ← hpa, ← hpb]
      rw [← hpa, ← hpb, ← ha, ← hb2] at hcmp
      rw [← ha, ← hb2] at hok hprev
      obtain ⟨hab, hbn⟩ := hok
      have hl17 : (lC n rows).length = 17 := by rw [lC, List.length_cons, ints_len, castL_len, hL.len]
      obtain ⟨qa, hqa⟩ : ∃ q, q = 2 ^ a := ⟨_, rfl⟩
      obtain ⟨qb, hqb⟩ : ∃ q, q = 2 ^ b := ⟨_, rfl⟩
      have hqa2 : qa < 65536 := by rw [hqa]; exact Nat.pow_lt_pow_right (n := 16) (by omega) (by omega)
      have hqb2 : qb < 65536 := by rw [hqb]; exact Nat.pow_lt_pow_right (n := 16) (by omega) (by omega)
      have hsa : (1 : Int) * 2 ^ (Int.toNat (a : Int)) = (qa : Int) := by simp [hqa]
      have hsb : (1 : Int) * 2 ^ (Int.toNat (b : Int)) = (qb : Int) := by simp [hqb]
      have hwa : IntKind.u64.wrap (a : Int) = a := wrapU (by omega)
      have hwb : IntKind.u64.wrap (b : Int) = b := wrapU (by omega)
      have hp16 : 2 ^ n ≤ 65536 := hL.pow
      obtain ⟨ea, hea⟩ : ∃ e, e = rows.getD a 0 := ⟨_, rfl⟩
      have hea2 : ea < 65536 := by have := hL.row a; omega
      have hL1 : Lm n (orAt rows a qb) := orAt_lm hL (by rw [hqb]; exact Nat.pow_lt_pow_right (by omega) hbn)
      obtain ⟨rows1, hrows1⟩ : ∃ r, r = orAt rows a qb := ⟨_, rfl⟩
      rw [← hrows1] at hL1
      obtain ⟨eb, heb⟩ : ∃ e, e = rows1.getD b 0 := ⟨_, rfl⟩
      have heb2 : eb < 65536 := by have := hL1.row b; omega
      have hl171 : (lC n rows1).length = 17 := by rw [lC, List.length_cons, ints_len, castL_len, hL1.len]
      refine Wk.on ?_
      rw [decide_eq_true (show ((i : Nat) : Int) < ((ws.length : Nat) : Int) by omega)]
      refine Wk.on ?_
      refine ⟨⟨by rw [hlen, Int.toNat_natCast]; show 0 + i * 2 + 2 ≤ _; omega, rfl⟩, ?_⟩
      rw [Int.toNat_natCast, Nat.zero_add]
      refine Wk.on ?_
      rw [prs_rdn, hpc]
      refine Wk.on ?_
      refine Tr.draw (md := true) [⟨[], [32], [], [], []⟩, ⟨[], [31], [0], [], []⟩, ⟨[0, 1], [], [], [], []⟩, ⟨[0, 1, 2], [], [], [], []⟩, ⟨[0, 1, 2, 3], [], [], [], []⟩, ⟨[0, 1, 2, 3, 4], [], [], [], []⟩, ⟨[0, 1, 2, 3, 4, 5], [], [], [], []⟩, ⟨[0, 1, 2, 3, 4, 5, 6], [], [], [], []⟩, ⟨[0, 1, 2, 3, 4, 5, 6, 7], [], [], [], []⟩, ⟨[0, 1, 2, 3, 4, 5, 6, 7, 8], [], [], [], []⟩, ⟨[0, 1, 2, 3, 4, 5, 6, 7, 8, 9], [43, 44], [], [], []⟩, ⟨[0, 1, 2, 3, 4, 5, 6, 7, 8, 9, 10], [43, 44], [], [], []⟩, ⟨[0, 1, 2, 3, 4, 5, 6, 7, 8, 9], [41, 42], [10, 11], [], []⟩, ⟨[0, 1, 2, 3, 4, 5, 6, 7, 8, 9, 12], [41, 42], [10, 11], [], []⟩, ⟨[0, 1, 2, 3, 4, 5, 6, 7, 8, 9, 10, 11, 12, 13], [], [], [], []⟩, ⟨[0, 1, 2, 3, 4, 5, 6, 7, 8, 9, 10, 11, 12, 13, 14], [], [], [], []⟩, ⟨[0, 1, 2, 3, 4, 5, 6, 7, 8, 9, 10, 11, 12, 13, 14, 15], [], [], [], []⟩, ⟨[0, 1, 2, 3, 4, 5, 6, 7, 8, 9, 10, 11, 12, 13, 14, 15, 16], [50], [], [], []⟩, ⟨[0, 1, 2, 3, 4, 5, 6, 7, 8, 9, 10, 11, 12, 13, 14, 15, 16, 17], [50], [], [], []⟩, ⟨[0, 1, 2, 3, 4, 5, 6, 7, 8, 9, 10, 11, 12, 13, 14, 15, 16], [48, 49], [17, 18], [], []⟩] tok (by kernel_rfl) (by kernel_rfl) ?_
      refine Wk.on ?_
      refine CallQ.ro2 [5, 4] (.c (.int .i64 (cmp2 a b pa pb))) (cmp22_spec a b pa pb) ?_
      rw [hcmp]
      refine Wk.on ?_
      rw [decide_eq_false (show ¬ ((a : Nat) : Int) < 0 by omega)]
      refine Wk.on ?_
      rw [decide_eq_false (show ¬ ((b : Nat) : Int) ≤ ((a : Nat) : Int) by omega)]
      refine Wk.on ?_
      rw [decide_eq_false (show ¬ ((n : Nat) : Int) ≤ ((b : Nat) : Int) by omega)]
      refine Wk.on ?_
      have hga : (lC n rows).getD (0 + 1 + Int.toNat ((a : Nat) : Int) * 1) (.int .i64 0) = .int .i64 (ea : Int) := by rw [hea, show 0 + 1 + Int.toNat ((a : Nat) : Int) * 1 = a + 1 by rw [Int.toNat_natCast]; omega]; exact lC_getD a
      refine Tr.draw (md := true) [⟨[], [54, 55, 60, 61, 62, 63], [], [], []⟩, ⟨[], [53, 56, 57, 60, 61, 62, 63, 65, 66], [0], [], []⟩, ⟨[1], [53, 56, 57, 60, 61, 62, 63, 65, 66], [0], [], []⟩, ⟨[0], [54, 55, 60, 61, 62, 63, 65, 66], [1, 2], [], []⟩, ⟨[0, 3], [54, 55, 60, 61, 62, 63, 65, 66], [1, 2], [], []⟩, ⟨[0, 1, 2, 3, 4], [60, 61, 62, 63, 65, 66], [], [], []⟩, ⟨[0, 1, 2, 3, 4, 5], [60, 61, 62, 63, 65, 66], [], [], []⟩, ⟨[], [53, 54, 55, 56, 57, 58, 59, 65, 66], [0, 1, 2, 3, 4, 5, 6], [], []⟩, ⟨[7], [53, 54, 55, 56, 57, 58, 59, 65, 66], [0, 1, 2, 3, 4, 5, 6], [], []⟩, ⟨[7, 8], [53, 54, 55, 56, 57, 58, 59, 65, 66], [0, 1, 2, 3, 4, 5, 6], [], []⟩, ⟨[7, 8, 9], [53, 54, 55, 56, 57, 58, 59, 65, 66], [0, 1, 2, 3, 4, 5, 6], [], []⟩, ⟨[0, 1, 2, 3, 4, 5, 6, 7, 8, 9, 10], [65, 66], [], [], []⟩, ⟨[0], [54, 55, 56, 57, 58, 59, 60, 61, 62, 63, 64], [1, 2, 3, 4, 5, 6, 7, 8, 9, 10, 11], [], []⟩, ⟨[0, 12], [54, 55, 56, 57, 58, 59, 60, 61, 62, 63, 64], [1, 2, 3, 4, 5, 6, 7, 8, 9, 10, 11], [], []⟩] tok (by kernel_rfl) (by kernel_rfl) ?_
      refine Wk.on ?_
      rw [hga]
      refine Wk.on ?_
      rw [hwb]
      refine Wk.on ?_
      rw [hsb]
      refine Wk.on ?_
      have hst : (lC n rows).set (0 + 1 + Int.toNat ((a : Nat) : Int) * 1) (.int .i64 ((Int.toNat ((ea : Nat) : Int) ||| Int.toNat ((qb : Nat) : Int) : Nat) : Int)) = lC n rows1 := by
        rw [show 0 + 1 + Int.toNat ((a : Nat) : Int) * 1 = a + 1 by rw [Int.toNat_natCast]; omega, Int.toNat_natCast, Int.toNat_natCast, lC_set, hrows1, orAt, hea]
      rw [hst]
      have hgb : (lC n rows1).getD (0 + 1 + Int.toNat ((b : Nat) : Int) * 1) (.int .i64 0) = .int .i64 (eb : Int) := by rw [heb, show 0 + 1 + Int.toNat ((b : Nat) : Int) * 1 = b + 1 by rw [Int.toNat_natCast]; omega]; exact lC_getD b
      refine Tr.draw (md := true) [⟨[], [69, 70, 75, 76, 77, 78], [], [], []⟩, ⟨[], [68, 71, 72, 75, 76, 77, 78, 80, 81], [0], [], []⟩, ⟨[1], [68, 71, 72, 75, 76, 77, 78, 80, 81], [0], [], []⟩, ⟨[0], [69, 70, 75, 76, 77, 78, 80, 81], [1, 2], [], []⟩, ⟨[0, 3], [69, 70, 75, 76, 77, 78, 80, 81], [1, 2], [], []⟩, ⟨[0, 1, 2, 3, 4], [75, 76, 77, 78, 80, 81], [], [], []⟩, ⟨[0, 1, 2, 3, 4, 5], [75, 76, 77, 78, 80, 81], [], [], []⟩, ⟨[], [68, 69, 70, 71, 72, 73, 74, 80, 81], [0, 1, 2, 3, 4, 5, 6], [], []⟩, ⟨[7], [68, 69, 70, 71, 72, 73, 74, 80, 81], [0, 1, 2, 3, 4, 5, 6], [], []⟩, ⟨[7, 8], [68, 69, 70, 71, 72, 73, 74, 80, 81], [0, 1, 2, 3, 4, 5, 6], [], []⟩, ⟨[7, 8, 9], [68, 69, 70, 71, 72, 73, 74, 80, 81], [0, 1, 2, 3, 4, 5, 6], [], []⟩, ⟨[0, 1, 2, 3, 4, 5, 6, 7, 8, 9, 10], [80, 81], [], [], []⟩, ⟨[0], [69, 70, 71, 72, 73, 74, 75, 76, 77, 78, 79], [1, 2, 3, 4, 5, 6, 7, 8, 9, 10, 11], [], []⟩, ⟨[0, 12], [69, 70, 71, 72, 73, 74, 75, 76, 77, 78, 79], [1, 2, 3, 4, 5, 6, 7, 8, 9, 10, 11], [], []⟩] tok (by kernel_rfl) (by kernel_rfl) ?_
      refine Wk.on ?_
      rw [hgb]
      refine Wk.on ?_
      rw [hwa]
      refine Wk.on ?_
      rw [hsa]
      refine Wk.on ?_
      have hst2 : (lC n rows1).set (0 + 1 + Int.toNat ((b : Nat) : Int) * 1) (.int .i64 ((Int.toNat ((eb : Nat) : Int) ||| Int.toNat ((qa : Nat) : Int) : Nat) : Int)) = lC n (nearR (ws.take (i + 1))) := by
        rw [show 0 + 1 + Int.toNat ((b : Nat) : Int) * 1 = b + 1 by rw [Int.toNat_natCast]; omega, Int.toNat_natCast, Int.toNat_natCast, lC_set, hnx, nearF, ← ha, ← hb2, ← hqa, ← hqb, ← hrows1, orAt, heb]
      rw [hst2]
      refine Wk.on ?_
      refine Again.mk (i + 1) (Sub.nil ⟨rfl, rfl, (by simp [tab64_LL, pC, castL, lC]), rfl, (by simp [tupA, hpLt, tmLt, AV.lt, AE.lt, AC.lt, LL_cons, LL_nil, idOk, ABlk.lt, ints_LL, GB, tab64_LL, pC, castL, lC]), (by simp [tupA, hpLt, tmLt, AV.lt, AE.lt, AC.lt, LL_cons, LL_nil, idOk, ABlk.lt, ints_LL, GB, tab64_LL, pC, castL, lC])⟩ (by (repeat (first | exact trivial | refine ⟨trivial, ?_⟩ | refine ⟨rfl, ?_⟩))) ⟨rfl, rfl, by show ABlk.own [.int .i64 a, .int .i64 b] = ABlk.own _; rw [hprev], rfl, rfl, trivial⟩) (by omega) (by omega)
    · obtain rfl : i = ws.length := by omega
      rw [List.take_of_length_le (Nat.le_refl _)]
      refine Wk.on ?_
      rw [decide_eq_false (show ¬ ((ws.length : Nat) : Int) < ((ws.length : Nat) : Int) by omega)]
      refine Wk.on ?_
      intro _
      refine Wk.on ?_
      refine Tr.loop (md := true) (X := Nat) (st := fun i => ⟨[(2, .c (.bool own)), (3, .c (.rs 1 0 S.length)), (4, .c (.ptr 2 0)), (10, .c (.ptr 3 0)), (85, .c (.int .i64 n)), (86, .c (.int .i64 i))], [(2, .own [.int .i64 n]), (3, .own (lC n (openR i ws own))), (0, .ro (ints (prs ws))), (1, .ro (ints S))], 5, 108, 2⟩) (inv := fun i => i ≤ n) (μ := fun i => n - i) (x0 := 0) (l := []) tok (by omega) ?_ ?_
      · exact Sub.nil ⟨rfl, rfl, (by simp [tab64_LL, pC, castL, lC]), rfl, (by simp [tupA, hpLt, tmLt, AV.lt, AE.lt, AC.lt, LL_cons, LL_nil, idOk, ABlk.lt, ints_LL, GB, tab64_LL, pC, castL, lC]), (by simp [tupA, hpLt, tmLt, AV.lt, AE.lt, AC.lt, LL_cons, LL_nil, idOk, ABlk.lt, ints_LL, GB, tab64_LL, pC, castL, lC])⟩ (by (repeat (first | exact trivial | refine ⟨trivial, ?_⟩ | refine ⟨rfl, ?_⟩))) ⟨rfl, by cases own <;> rfl, rfl, rfl, trivial⟩
      intro i hi
      obtain ⟨rows, hrows⟩ : ∃ rows, rows = openR i ws own := ⟨_, rfl⟩
      have hL : Lm n rows := by rw [hrows]; exact openP_lm h own i hi
      have hl17 : (lC n rows).length = 17 := by rw [lC, List.length_cons, ints_len, castL_len, hL.len]
      rw [← hrows]
      by_cases hil : i < n
      · obtain ⟨q, hq⟩ : ∃ q, q = 2 ^ i := ⟨_, rfl⟩
        have hq2 : q < 65536 := by rw [hq]; exact Nat.pow_lt_pow_right (n := 16) (by omega) (by omega)
        have hsh : (1 : Int) * 2 ^ (Int.toNat (i : Int)) = (q : Int) := by simp [hq]
        have hwi : IntKind.u64.wrap (i : Int) = i := wrapU (by omega)
        have hp16 : 2 ^ n ≤ 65536 := hL.pow
        obtain ⟨e, he⟩ : ∃ e, e = rows.getD i 0 := ⟨_, rfl⟩
        have he2 : e < 65536 := by have := hL.row i; omega
        have hge : (lC n rows).getD (0 + 1 + Int.toNat ((i : Nat) : Int) * 1) (.int .i64 0) = .int .i64 (e : Int) := by rw [he, show 0 + 1 + Int.toNat ((i : Nat) : Int) * 1 = i + 1 by rw [Int.toNat_natCast]; omega]; exact lC_getD i
        refine Wk.on ?_
        rw [decide_eq_true (show ((i : Nat) : Int) < ((n : Nat) : Int) by omega)]
        refine Wk.on ?_
        cases own
        · refine Wk.on ?_
          refine Again.mk (i + 1) (Sub.nil ⟨rfl, rfl, (by simp [tab64_LL, pC, castL, lC]), rfl, (by simp [tupA, hpLt, tmLt, AV.lt, AE.lt, AC.lt, LL_cons, LL_nil, idOk, ABlk.lt, ints_LL, GB, tab64_LL, pC, castL, lC]), (by simp [tupA, hpLt, tmLt, AV.lt, AE.lt, AC.lt, LL_cons, LL_nil, idOk, ABlk.lt, ints_LL, GB, tab64_LL, pC, castL, lC])⟩ (by (repeat (first | exact trivial | refine ⟨trivial, ?_⟩ | refine ⟨rfl, ?_⟩))) ⟨rfl, congrArg (fun r => ABlk.own (lC n r)) hrows, rfl, rfl, trivial⟩) (by omega) (by omega)
        · refine Wk.on ?_
          refine Tr.draw (md := true) [⟨[], [91, 96, 97, 98], [], [], []⟩, ⟨[], [90, 92, 93, 96, 97, 98, 100, 101], [0], [], []⟩, ⟨[0], [91, 96, 97, 98, 100, 101], [1], [], []⟩, ⟨[0, 2], [91, 96, 97, 98, 100, 101], [1], [], []⟩, ⟨[0, 1, 2, 3], [96, 97, 98, 100, 101], [], [], []⟩, ⟨[0, 1, 2, 3, 4], [96, 97, 98, 100, 101], [], [], []⟩, ⟨[], [90, 91, 92, 93, 94, 95, 100, 101], [0, 1, 2, 3, 4, 5], [], []⟩, ⟨[6], [90, 91, 92, 93, 94, 95, 100, 101], [0, 1, 2, 3, 4, 5], [], []⟩, ⟨[6, 7], [90, 91, 92, 93, 94, 95, 100, 101], [0, 1, 2, 3, 4, 5], [], []⟩, ⟨[0, 1, 2, 3, 4, 5, 6, 7, 8], [100, 101], [], [], []⟩, ⟨[0], [91, 92, 93, 94, 95, 96, 97, 98, 99], [1, 2, 3, 4, 5, 6, 7, 8, 9], [], []⟩, ⟨[0, 10], [91, 92, 93, 94, 95, 96, 97, 98, 99], [1, 2, 3, 4, 5, 6, 7, 8, 9], [], []⟩] tok (by kernel_rfl) (by kernel_rfl) ?_
          refine Wk.on ?_
          rw [hge]
          refine Wk.on ?_
          rw [hwi]
          refine Wk.on ?_
          rw [hsh]
          refine Wk.on ?_
          have hst : (lC n rows).set (0 + 1 + Int.toNat ((i : Nat) : Int) * 1) (.int .i64 ((Int.toNat ((e : Nat) : Int) ||| Int.toNat ((q : Nat) : Int) : Nat) : Int)) = lC n (openR (i + 1) ws true) := by
            rw [show 0 + 1 + Int.toNat ((i : Nat) : Int) * 1 = i + 1 by rw [Int.toNat_natCast]; omega, Int.toNat_natCast, Int.toNat_natCast, lC_set, openR, if_pos rfl, ownR, List.range_succ, List.foldl_append, List.foldl_cons, List.foldl_nil, ownF, orAt, he, hq, hrows, openR, if_pos rfl, ownR]
          rw [hst]
          refine Wk.on ?_
          refine Again.mk (i + 1) (Sub.nil ⟨rfl, rfl, (by simp [tab64_LL, pC, castL, lC]), rfl, (by simp [tupA, hpLt, tmLt, AV.lt, AE.lt, AC.lt, LL_cons, LL_nil, idOk, ABlk.lt, ints_LL, GB, tab64_LL, pC, castL, lC]), (by simp [tupA, hpLt, tmLt, AV.lt, AE.lt, AC.lt, LL_cons, LL_nil, idOk, ABlk.lt, ints_LL, GB, tab64_LL, pC, castL, lC])⟩ (by (repeat (first | exact trivial | refine ⟨trivial, ?_⟩ | refine ⟨rfl, ?_⟩))) ⟨rfl, rfl, rfl, rfl, trivial⟩) (by omega) (by omega)
      · obtain rfl : i = n := by omega
        refine Wk.on ?_
        rw [decide_eq_false (show ¬ ((i : Nat) : Int) < ((i : Nat) : Int) by omega)]
        refine Wk.on ?_
        intro _
        refine Wk.on ?_
        refine CallA.ro2 [1, 2] (.c (.bool true)) (contains_bad hn S hS hb) ?_
        refine Wk.on ?_
        exact AH.Fin.nil2 ⟨rfl, rfl, rfl⟩

/-- What open tells, without sets and with some. -/
def Bad (n : Int) (es : List (Int × Int)) (own : Bool) (S : Option (List Int)) (e : Int) : Prop := match S with
  | none => FDet Tryd.prog 50 [.c (.int .i64 n), .c (.rs 0 0 es.length), .c (.bool own), .c .nils] [(0, .ro (ints (flI es)))] 1 (.t [.c .nilp, .c (.int .i64 e)]) [] 1
  | some S => FDet Tryd.prog 50 [.c (.int .i64 n), .c (.rs 0 0 es.length), .c (.bool own), .c (.sl 1 0 S.length (some S.length))] [(0, .ro (ints (flI es))), (1, .ro (ints S))] 2 (.t [.c .nilp, .c (.int .i64 e)]) [] 2
theorem Check_bad (n : Int) (es : List (Int × Int)) (e : Int) (he : ¬ e = 0) (ho : Bad n es false none e) : FDet Tryd.prog 25 [.c (.int .i64 n), .c (.rs 0 0 es.length)] [(0, .ro (ints (flI es)))] 1 (.c (.int .i64 e)) [] 1 := by
  have ho : FDet Tryd.prog 50 [.c (.int .i64 n), .c (.rs 0 0 es.length), .c (.bool false), .c .nils] [(0, .ro (ints (flI es)))] 1 (.t [.c .nilp, .c (.int .i64 e)]) [] 1 := ho
  refine FSpec.body2 tok true Tryd.func25 ?_
  refine Wk.on ?_
  refine CallA.ro2 [0] (.t [.c .nilp, .c (.int .i64 e)]) (ho) ?_
  refine Wk.on ?_
  exact AH.Fin.nil2 ⟨rfl, rfl, rfl⟩
theorem Quiet_bad (n : Int) (es : List (Int × Int)) (own : Bool) (e : Int) (he : ¬ e = 0) (ho : Bad n es own none e) : FDet Tryd.prog 18 [.c (.int .i64 n), .c (.rs 0 0 es.length), .c (.bool own)] [(0, .ro (ints (flI es)))] 1 (.t [.c .nils, .c (.int .i64 e)]) [] 1 := by
  have ho : FDet Tryd.prog 50 [.c (.int .i64 n), .c (.rs 0 0 es.length), .c (.bool own), .c .nils] [(0, .ro (ints (flI es)))] 1 (.t [.c .nilp, .c (.int .i64 e)]) [] 1 := ho
  refine FSpec.body2 tok true Tryd.func18 ?_
  refine Wk.on ?_
  refine CallA.ro2 [0] (.t [.c .nilp, .c (.int .i64 e)]) (ho) ?_
  refine Wk.on ?_
  rw [decide_eq_true (show e ≠ 0 from he)]
  refine Wk.on ?_
  exact AH.Fin.nil2 ⟨rfl, rfl, rfl⟩
theorem Reachable_bad (n : Int) (es : List (Int × Int)) (own : Bool) (e : Int) (he : ¬ e = 0) (ho : Bad n es own none e) : FDet Tryd.prog 41 [.c (.int .i64 n), .c (.rs 0 0 es.length), .c (.bool own)] [(0, .ro (ints (flI es)))] 1 (.t [.c (.int .i64 0), .c (.int .i64 e)]) [] 1 := by
  have ho : FDet Tryd.prog 50 [.c (.int .i64 n), .c (.rs 0 0 es.length), .c (.bool own), .c .nils] [(0, .ro (ints (flI es)))] 1 (.t [.c .nilp, .c (.int .i64 e)]) [] 1 := ho
  refine FSpec.body2 tok true Tryd.func41 ?_
  refine Wk.on ?_
  refine CallA.ro2 [0] (.t [.c .nilp, .c (.int .i64 e)]) (ho) ?_
  refine Wk.on ?_
  rw [decide_eq_true (show e ≠ 0 from he)]
  refine Wk.on ?_
  exact AH.Fin.nil2 ⟨rfl, rfl, rfl⟩
theorem Hardest_bad (n : Int) (es : List (Int × Int)) (own : Bool) (e : Int) (he : ¬ e = 0) (ho : Bad n es own none e) : FDet Tryd.prog 46 [.c (.int .i64 n), .c (.rs 0 0 es.length), .c (.bool own)] [(0, .ro (ints (flI es)))] 1 (.t [.c (.int .i64 0), .c (.int .i64 0), .c (.int .i64 e)]) [] 1 := by
  have ho : FDet Tryd.prog 50 [.c (.int .i64 n), .c (.rs 0 0 es.length), .c (.bool own), .c .nils] [(0, .ro (ints (flI es)))] 1 (.t [.c .nilp, .c (.int .i64 e)]) [] 1 := ho
  refine FSpec.body2 tok true Tryd.func46 ?_
  refine Wk.on ?_
  refine CallA.ro2 [0] (.t [.c .nilp, .c (.int .i64 e)]) (ho) ?_
  refine Wk.on ?_
  rw [decide_eq_true (show e ≠ 0 from he)]
  refine Wk.on ?_
  exact AH.Fin.nil2 ⟨rfl, rfl, rfl⟩
theorem Effect_bad (n : Int) (es : List (Int × Int)) (own : Bool) (x : Int) (e : Int) (he : ¬ e = 0) (ho : Bad n es own (some [x]) e) : FDet Tryd.prog 35 [.c (.int .i64 n), .c (.rs 0 0 es.length), .c (.bool own), .c (.int .i64 x)] [(0, .ro (ints (flI es)))] 1 (.t [.c (.int .i64 0), .c (.int .i64 e)]) [] 1 := by
  have ho : FDet Tryd.prog 50 [.c (.int .i64 n), .c (.rs 0 0 es.length), .c (.bool own), .c (.sl 1 0 1 (some 1))] [(0, .ro (ints (flI es))), (1, .ro [.int .i64 x])] 2 (.t [.c .nilp, .c (.int .i64 e)]) [] 2 := ho
  refine FSpec.body2 tok true Tryd.func35 ?_
  refine Wk.on ?_
  refine CallA.ro2 [0, 1] (.t [.c .nilp, .c (.int .i64 e)]) (ho) ?_
  refine Wk.on ?_
  rw [decide_eq_true (show e ≠ 0 from he)]
  refine Wk.on ?_
  exact AH.Fin.nil2 ⟨rfl, rfl, rfl⟩
theorem Solve_bad (n : Int) (es : List (Int × Int)) (own : Bool) (x : Int) (e : Int) (he : ¬ e = 0) (ho : Bad n es own (some [x]) e) : FDet Tryd.prog 40 [.c (.int .i64 n), .c (.rs 0 0 es.length), .c (.bool own), .c (.int .i64 x)] [(0, .ro (ints (flI es)))] 1 (.t [.c (.int .i64 0), .c (.bool false), .c (.int .i64 e)]) [] 1 := by
  have ho : FDet Tryd.prog 50 [.c (.int .i64 n), .c (.rs 0 0 es.length), .c (.bool own), .c (.sl 1 0 1 (some 1))] [(0, .ro (ints (flI es))), (1, .ro [.int .i64 x])] 2 (.t [.c .nilp, .c (.int .i64 e)]) [] 2 := ho
  refine FSpec.body2 tok true Tryd.func40 ?_
  refine Wk.on ?_
  refine CallA.ro2 [0, 1] (.t [.c .nilp, .c (.int .i64 e)]) (ho) ?_
  refine Wk.on ?_
  rw [decide_eq_true (show e ≠ 0 from he)]
  refine Wk.on ?_
  exact AH.Fin.nil2 ⟨rfl, rfl, rfl⟩
theorem Fewest_bad (n : Int) (es : List (Int × Int)) (own : Bool) (x : Int) (e : Int) (he : ¬ e = 0) (ho : Bad n es own (some [x]) e) : FDet Tryd.prog 38 [.c (.int .i64 n), .c (.rs 0 0 es.length), .c (.bool own), .c (.int .i64 x)] [(0, .ro (ints (flI es)))] 1 (.t [.c (.int .i64 0), .c (.bool false), .c (.int .i64 e)]) [] 1 := by
  have ho : FDet Tryd.prog 50 [.c (.int .i64 n), .c (.rs 0 0 es.length), .c (.bool own), .c (.sl 1 0 1 (some 1))] [(0, .ro (ints (flI es))), (1, .ro [.int .i64 x])] 2 (.t [.c .nilp, .c (.int .i64 e)]) [] 2 := ho
  refine FSpec.body2 tok true Tryd.func38 ?_
  refine Wk.on ?_
  refine CallA.ro2 [0, 1] (.t [.c .nilp, .c (.int .i64 e)]) (ho) ?_
  refine Wk.on ?_
  rw [decide_eq_true (show e ≠ 0 from he)]
  refine Wk.on ?_
  exact AH.Fin.nil2 ⟨rfl, rfl, rfl⟩
theorem Refute_bad (n : Int) (es : List (Int × Int)) (own : Bool) (x : Int) (e : Int) (he : ¬ e = 0) (ho : Bad n es own (some [x]) e) : FDet Tryd.prog 43 [.c (.int .i64 n), .c (.rs 0 0 es.length), .c (.bool own), .c (.int .i64 x)] [(0, .ro (ints (flI es)))] 1 (.t [.c (.int .i64 0), .c (.bool false), .c (.int .i64 e)]) [] 1 := by
  have ho : FDet Tryd.prog 50 [.c (.int .i64 n), .c (.rs 0 0 es.length), .c (.bool own), .c (.sl 1 0 1 (some 1))] [(0, .ro (ints (flI es))), (1, .ro [.int .i64 x])] 2 (.t [.c .nilp, .c (.int .i64 e)]) [] 2 := ho
  refine FSpec.body2 tok true Tryd.func43 ?_
  refine Wk.on ?_
  refine CallA.ro2 [0, 1] (.t [.c .nilp, .c (.int .i64 e)]) (ho) ?_
  refine Wk.on ?_
  rw [decide_eq_true (show e ≠ 0 from he)]
  refine Wk.on ?_
  exact AH.Fin.nil2 ⟨rfl, rfl, rfl⟩
theorem IsRefutation_bad (n : Int) (es : List (Int × Int)) (own : Bool) (x y : Int) (e : Int) (he : ¬ e = 0) (ho : Bad n es own (some [x, y]) e) : FDet Tryd.prog 44 [.c (.int .i64 n), .c (.rs 0 0 es.length), .c (.bool own), .c (.int .i64 x), .c (.int .i64 y)] [(0, .ro (ints (flI es)))] 1 (.t [.c (.bool false), .c (.int .i64 e)]) [] 1 := by
  have ho : FDet Tryd.prog 50 [.c (.int .i64 n), .c (.rs 0 0 es.length), .c (.bool own), .c (.sl 1 0 2 (some 2))] [(0, .ro (ints (flI es))), (1, .ro [.int .i64 x, .int .i64 y])] 2 (.t [.c .nilp, .c (.int .i64 e)]) [] 2 := ho
  refine FSpec.body2 tok true Tryd.func44 ?_
  refine Wk.on ?_
  refine CallA.ro2 [0, 1] (.t [.c .nilp, .c (.int .i64 e)]) (ho) ?_
  refine Wk.on ?_
  rw [decide_eq_true (show e ≠ 0 from he)]
  refine Wk.on ?_
  exact AH.Fin.nil2 ⟨rfl, rfl, rfl⟩
end Go.Proofs.YtimknijehaamlaaDoor
