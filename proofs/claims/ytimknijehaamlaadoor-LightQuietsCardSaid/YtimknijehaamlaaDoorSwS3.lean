/-
  Contracts: tidied and Quiet, for any number of sets.
-/
import Derived.Test.YtimknijehaamlaaDoorSwS2
import Derived.Test.YtimknijehaamlaaDoorSw5
set_option linter.unusedSimpArgs false
set_option linter.unusedVariables false
namespace Go.Proofs.YtimknijehaamlaaDoor
open Go Go.AH Go.Lin
set_option maxRecDepth 100000
set_option maxHeartbeats 1000000

theorem srt_any (L : List Nat) (h : L.length ≤ 1000) : FDet Tryd.prog 74 [.c (.row 0 L.length)] [(0, .row 3 1 (ints (castL L)))] 1 (.t []) [(0, .row 3 1 (ints (isort asc (castL L))))] 1 := by
  have := Sort_any (castL L) (by rw [castL_len]; exact h)
  rwa [castL_len] at this
theorem tidied_any (Q : List Nat) (hQ : Q.length ≤ 1000) (hq : ∀ q ∈ Q, q < 65536) : FDet Tryd.prog 52 [.c (.rs 0 0 Q.length)] [(0, .ro (ints (castL Q)))] 1 (tV (tidyD Q).reverse) (tH (tidyD Q).reverse) (tK (tidyD Q).reverse) := by
  have hlen : (ints (castL Q)).length = Q.length := by rw [ints_len, castL_len]
  refine FSpec.of_body tok true Tryd.func52 rfl (by kernel_rfl) (by decide) (by simp [tupA, hpLt, tmLt, AV.lt, AE.lt, AC.lt, LL_cons, LL_nil, idOk, ABlk.lt, ints_LL, GB, tab64_LL, pC, castL, lC, tdSt, tV, tH, tK, qV]) (by simp [tupA, hpLt, tmLt, AV.lt, AE.lt, AC.lt, LL_cons, LL_nil, idOk, ABlk.lt, ints_LL, GB, tab64_LL, pC, castL, lC, tdSt, tV, tH, tK, qV]) (by show 1 ≤ _; decide) ?_
  refine Wk.on ?_
  refine Tr.loopU (md := true) (X := Nat × List Nat) (tdSt Q) (fun q => q.1 ≤ Q.length ∧ tidyD (Q.take q.1) = q.2) (fun q => Q.length - q.1) (0, []) tok ⟨by omega, rfl⟩ (Under.wk [] ⟨rfl, rfl, Nat.le_of_ble_eq_true rfl, Nat.le_of_ble_eq_true rfl⟩ rfl (by repeat (first | exact trivial | refine ⟨?_, ?_⟩ | exact Or.inl rfl)) (by repeat (first | exact trivial | refine ⟨?_, ?_⟩ | exact Or.inl (congrArg ABlk.ro (ints_ren _ _).symm))) rfl (by simp [tupA, hpLt, tmLt, AV.lt, AE.lt, AC.lt, LL_cons, LL_nil, idOk, ABlk.lt, ints_LL, GB, tab64_LL, pC, castL, lC, tdSt, tV, tH, tK, qV]) (by simp [tupA, hpLt, tmLt, AV.lt, AE.lt, AC.lt, LL_cons, LL_nil, idOk, ABlk.lt, ints_LL, GB, tab64_LL, pC, castL, lC, tdSt, tV, tH, tK, qV])) ?_
  · rintro ⟨i, L⟩ ⟨hi, htd⟩
    dsimp only at hi htd
    have hLl : L.length ≤ i := by rw [← htd]; exact tidyD_len Q i hi
    have hLs : ∀ b ∈ L, b < 65536 := by rw [← htd]; exact tidyD_lt fun q hm => hq q (List.mem_of_mem_take hm)
    by_cases hil : i < Q.length
    · have hsu := tidyD_succ hil
      have hech := (tidy_all (Q.take (i + 1))).1
      rw [hsu, htd] at hech
      rw [htd] at hsu
      obtain ⟨x, hx⟩ : ∃ x, x = Q.getD i 0 := ⟨_, rfl⟩
      have hx2 : x < 65536 := by
        rw [hx, List.getD_eq_getElem?_getD, List.getElem?_eq_getElem hil]; exact hq _ (List.getElem_mem hil)
      rw [← hx] at hsu hech
      obtain ⟨s, hs⟩ : ∃ s, s = red L x := ⟨_, rfl⟩
      have hs2 : s < 65536 := by rw [hs]; exact red_lt hx2
      rw [tidy1, ← hs] at hsu hech
      obtain ⟨q, hqq⟩ : ∃ q, q = 2 ^ s.log2 := ⟨_, rfl⟩
      rcases L with _ | ⟨b0, L0⟩
      · skip
        have hsx : s = x := hs
        refine Wk.on ?_
        rw [decide_eq_true (show ((i : Nat) : Int) < ((Q.length : Nat) : Int) by omega)]
        refine Wk.on ?_
        rw [show 0 + Int.toNat ((i : Nat) : Int) * 1 = i by rw [Int.toNat_natCast]; omega, ints_getD, castL_getD, ← hx]
        refine Wk.on ?_
        refine Tr.loop (md := true) (X := Unit) (st := fun _ => ⟨[(3, .c .nils), (5, .c (.int .i64 x)), (11, .c (.rs 0 0 Q.length)), (12, .c (.int .i64 Q.length)), (13, .c (.int .i64 i)), (17, .c .nils), (18, .c (.int .i64 0)), (19, .c (.int .i64 0))], [(0, .ro (ints (castL Q)))], 2, 65, 1⟩) (inv := fun _ => True) (μ := fun _ => 0) (x0 := ()) (l := []) tok trivial ?_ ?_
        · exact Sub.nil ⟨rfl, rfl, (by simp [tab64_LL, pC, castL, lC, tdSt, tV, tH, tK, qV]), rfl, (by simp [tupA, hpLt, tmLt, AV.lt, AE.lt, AC.lt, LL_cons, LL_nil, idOk, ABlk.lt, ints_LL, GB, tab64_LL, pC, castL, lC, tdSt, tV, tH, tK, qV]), (by simp [tupA, hpLt, tmLt, AV.lt, AE.lt, AC.lt, LL_cons, LL_nil, idOk, ABlk.lt, ints_LL, GB, tab64_LL, pC, castL, lC, tdSt, tV, tH, tK, qV])⟩ (by (repeat (first | exact trivial | refine ⟨trivial, ?_⟩ | refine ⟨rfl, ?_⟩))) (by (repeat (first | exact trivial | refine ⟨trivial, ?_⟩ | refine ⟨rfl, ?_⟩)))
        intro _ _
        refine Wk.on ?_
        rw [← hsx]
        by_cases hz : s = 0
        · rw [decide_eq_true (show ((s : Nat) : Int) = 0 by omega)]
          refine Wk.on ?_
          rw [if_pos hz] at hsu
          refine Again.under (i + 1, []) ?_ ⟨by omega, hsu⟩ (by show Q.length - (i + 1) < Q.length - i; omega)
          show Under _ ⟨[(3, .c .nils), (11, .c (.rs 0 0 Q.length)), (12, .c (.int .i64 Q.length)), (13, .c (.int .i64 ((i + 1 : Nat) : Int)))], [(0, .ro (ints (castL Q)))], 2, 65, 1⟩
          refine Sub.under (l := []) ?_
          exact Sub.nil ⟨rfl, rfl, (by simp [tab64_LL, pC, castL, lC, tdSt, tV, tH, tK, qV]), rfl, (by simp [tupA, hpLt, tmLt, AV.lt, AE.lt, AC.lt, LL_cons, LL_nil, idOk, ABlk.lt, ints_LL, GB, tab64_LL, pC, castL, lC, tdSt, tV, tH, tK, qV]), (by simp [tupA, hpLt, tmLt, AV.lt, AE.lt, AC.lt, LL_cons, LL_nil, idOk, ABlk.lt, ints_LL, GB, tab64_LL, pC, castL, lC, tdSt, tV, tH, tK, qV])⟩ (by (repeat (first | exact trivial | refine ⟨trivial, ?_⟩ | refine ⟨rfl, ?_⟩))) (by (repeat (first | exact trivial | refine ⟨trivial, ?_⟩ | refine ⟨rfl, ?_⟩)))
        rw [decide_eq_false (show ¬ ((s : Nat) : Int) = 0 by omega)]
        rw [if_neg hz] at hsu hech
        have hwr : IntKind.u64.wrap (s : Int) = s := wrapU (by omega)
        have hlg : s.log2 < 16 := (Nat.log2_lt hz).2 hs2
        have hq2 : q < 65536 := by rw [hqq]; exact Nat.pow_lt_pow_right (n := 16) (by omega) hlg
        have hln : ((lenN s : Nat) : Int) - 1 = ((s.log2 : Nat) : Int) := by rw [lenN, if_neg hz]; omega
        have hwl : IntKind.u64.wrap ((s.log2 : Nat) : Int) = (s.log2 : Nat) := wrapU (by omega)
        have hsh : (1 : Int) * 2 ^ (Int.toNat ((s.log2 : Nat) : Int)) = (q : Int) := by simp [hqq]
        refine Wk.on ?_
        rw [hwr]
        refine CallA.ro [] (.c (.int .i64 (lenN s))) (len_spec hs2) (by first | rfl | exact congrArg AV.g (ints_ren _ _) | (simp [ints_ren, AV.ren, ABlk.ren, AC.ren, AE.ren, lC_ren, qq]; done)) rfl (by (repeat (first | exact trivial | refine ⟨⟨(by first | exact .inl (by decide) | exact .inr (by decide)), (by first | (refine Or.inl ?_; first | rfl | exact congrArg some (ints_ren _ _).symm | exact congrArg ABlk.own (ints_ren _ _).symm | exact congrArg some (tab64_ren _).symm | exact congrArg (ABlk.row _ _) (ints_ren _ _).symm | exact congrArg (ABlk.row _ _) (app_lie _ _ _) | exact congrArg some (lC_ren _ _ _).symm | exact congrArg ABlk.own (lC_ren _ _ _).symm | exact congrArg ABlk.ro (lC_ren _ _ _).symm) | rfl | exact congrArg some (ints_ren _ _).symm | exact congrArg ABlk.own (ints_ren _ _).symm | exact congrArg some (tab64_ren _).symm | exact congrArg (ABlk.row _ _) (ints_ren _ _).symm | exact congrArg (ABlk.row _ _) (app_lie _ _ _) | exact congrArg some (lC_ren _ _ _).symm | exact congrArg ABlk.own (lC_ren _ _ _).symm | exact congrArg ABlk.ro (lC_ren _ _ _).symm | exact Or.inr ⟨rfl, rfl⟩)⟩, ?_⟩))) (by first | rfl | exact congrArg AV.g (ints_ren _ _) | (simp [ints_ren, AV.ren, ABlk.ren, AC.ren, AE.ren, lC_ren, qq]; done)) ?_
        refine Wk.on ?_
        rw [hln]
        refine Wk.on ?_
        rw [hwl]
        refine Wk.on ?_
        rw [hsh]
        refine Wk.on ?_
        refine Tr.loop (md := true) (X := Unit) (st := fun _ => ⟨[(3, .c .nils), (5, .c (.int .i64 s)), (8, .c (.int .i64 q)), (11, .c (.rs 0 0 Q.length)), (12, .c (.int .i64 Q.length)), (13, .c (.int .i64 i)), (37, .c .nils), (38, .c (.int .i64 0)), (39, .c (.int .i64 0))], [(0, .ro (ints (castL Q)))], 2, 65, 1⟩) (inv := fun _ => True) (μ := fun _ => 0) (x0 := ()) (l := []) tok trivial ?_ ?_
        · exact Sub.nil ⟨rfl, rfl, (by simp [tab64_LL, pC, castL, lC, tdSt, tV, tH, tK, qV]), rfl, (by simp [tupA, hpLt, tmLt, AV.lt, AE.lt, AC.lt, LL_cons, LL_nil, idOk, ABlk.lt, ints_LL, GB, tab64_LL, pC, castL, lC, tdSt, tV, tH, tK, qV]), (by simp [tupA, hpLt, tmLt, AV.lt, AE.lt, AC.lt, LL_cons, LL_nil, idOk, ABlk.lt, ints_LL, GB, tab64_LL, pC, castL, lC, tdSt, tV, tH, tK, qV])⟩ (by (repeat (first | exact trivial | refine ⟨trivial, ?_⟩ | refine ⟨rfl, ?_⟩))) (by (repeat (first | exact trivial | refine ⟨trivial, ?_⟩ | refine ⟨rfl, ?_⟩)))
        intro _ _
        refine Wk.on ?_
        refine CallA.det [3] (.t []) ([(2, .own [.int .i64 s]), (0, .ro (ints (castL Q))), (3, .row 3 1 (ints (isort desc (castL ([] ++ [s])))))]) (SortFunc_any (castL [s]) (by simp [castL]) (fun y hy => by rw [castL, List.map_cons, List.map_nil, List.mem_singleton] at hy; subst hy; constructor; exact Int.natCast_nonneg _; exact Int.ofNat_lt.2 hs2)) (by first | rfl | exact congrArg AV.g (ints_ren _ _) | (simp [ints_ren, AV.ren, ABlk.ren, AC.ren, AE.ren, lC_ren, qq]; done)) rfl (by (repeat (first | exact trivial | refine ⟨⟨(by first | exact .inl (by decide) | exact .inr (by decide)), (by first | (refine Or.inl ?_; first | rfl | exact congrArg some (ints_ren _ _).symm | exact congrArg ABlk.own (ints_ren _ _).symm | exact congrArg some (tab64_ren _).symm | exact congrArg (ABlk.row _ _) (ints_ren _ _).symm | exact congrArg (ABlk.row _ _) (app_lie _ _ _) | exact congrArg some (lC_ren _ _ _).symm | exact congrArg ABlk.own (lC_ren _ _ _).symm | exact congrArg ABlk.ro (lC_ren _ _ _).symm) | rfl | exact congrArg some (ints_ren _ _).symm | exact congrArg ABlk.own (ints_ren _ _).symm | exact congrArg some (tab64_ren _).symm | exact congrArg (ABlk.row _ _) (ints_ren _ _).symm | exact congrArg (ABlk.row _ _) (app_lie _ _ _) | exact congrArg some (lC_ren _ _ _).symm | exact congrArg ABlk.own (lC_ren _ _ _).symm | exact congrArg ABlk.ro (lC_ren _ _ _).symm | exact Or.inr ⟨rfl, rfl⟩)⟩, ?_⟩))) (by first | rfl | exact congrArg AV.g (ints_ren _ _) | (simp [ints_ren, AV.ren, ABlk.ren, AC.ren, AE.ren, lC_ren, qq]; done)) (by first | rfl | (simp [behind, gone, lk, up, del, qq, ABlk.wr, GB, ints_ren, AV.ren, ABlk.ren, AC.ren, AE.ren, lC_ren]; done) | (simp [behind, gone, lk, up, del, qq, ABlk.wr, GB, ints_ren, AV.ren, ABlk.ren, AC.ren, AE.ren, lC_ren]; rfl)) ?_
        rw [isort_insD (L := []) hech]
        refine Wk.on ?_
        exact Again.mk (i + 1, [s]) (Sub.new [(1, 3)] ⟨rfl, rfl, Nat.le_of_ble_eq_true rfl, Nat.le_of_ble_eq_true rfl⟩ rfl (by (repeat (first | exact trivial | refine ⟨trivial, ?_⟩ | refine ⟨rfl, ?_⟩))) ⟨by show some (ABlk.ro (ints (castL Q))) = some (ABlk.ro ((ints (castL Q)).map _)); rw [ints_ren], by show some (ABlk.row 3 1 _) = some (ABlk.row 3 1 ((ints _).map _)); rw [ints_ren]; rfl, trivial⟩ rfl (by simp [tupA, hpLt, tmLt, AV.lt, AE.lt, AC.lt, LL_cons, LL_nil, idOk, ABlk.lt, ints_LL, GB, tab64_LL, pC, castL, lC, tdSt, tV, tH, tK, qV]) (by simp [tupA, hpLt, tmLt, AV.lt, AE.lt, AC.lt, LL_cons, LL_nil, idOk, ABlk.lt, ints_LL, GB, tab64_LL, pC, castL, lC, tdSt, tV, tH, tK, qV])) ⟨by omega, hsu⟩ (by show Q.length - (i + 1) < Q.length - i; omega)
      · skip
        generalize hLL : b0 :: L0 = L at *
        have hll : (ints (castL L)).length = L.length := by rw [ints_len, castL_len]
        have hst : ∀ i : Nat, tdSt Q (i, L) = ⟨[(3, .c (.row 1 L.length)), (11, .c (.rs 0 0 Q.length)), (12, .c (.int .i64 Q.length)), (13, .c (.int .i64 i))], [(0, .ro (ints (castL Q))), (1, .row 3 1 (ints (castL L)))], 2, 65, 1⟩ := fun i => by rw [← hLL]; rfl
        rw [hst]
        refine Wk.on ?_
        rw [decide_eq_true (show ((i : Nat) : Int) < ((Q.length : Nat) : Int) by omega)]
        refine Wk.on ?_
        rw [show 0 + Int.toNat ((i : Nat) : Int) * 1 = i by rw [Int.toNat_natCast]; omega, ints_getD, castL_getD, ← hx]
        refine Wk.on ?_
        refine Tr.loop (md := true) (X := Nat) (st := fun k => ⟨[(3, .c (.row 1 L.length)), (5, .c (.int .i64 (red (L.take k) x : Nat))), (11, .c (.rs 0 0 Q.length)), (12, .c (.int .i64 Q.length)), (13, .c (.int .i64 i)), (17, .c (.row 1 L.length)), (18, .c (.int .i64 L.length)), (19, .c (.int .i64 k))], [(0, .ro (ints (castL Q))), (1, .row 3 1 (ints (castL L)))], 2, 65, 1⟩) (inv := fun k => k ≤ L.length) (μ := fun k => L.length - k) (x0 := 0) (l := []) tok (by omega) ?_ ?_
        · exact Sub.nil ⟨rfl, rfl, (by simp [tab64_LL, pC, castL, lC, tdSt, tV, tH, tK, qV]), rfl, (by simp [tupA, hpLt, tmLt, AV.lt, AE.lt, AC.lt, LL_cons, LL_nil, idOk, ABlk.lt, ints_LL, GB, tab64_LL, pC, castL, lC, tdSt, tV, tH, tK, qV]), (by simp [tupA, hpLt, tmLt, AV.lt, AE.lt, AC.lt, LL_cons, LL_nil, idOk, ABlk.lt, ints_LL, GB, tab64_LL, pC, castL, lC, tdSt, tV, tH, tK, qV])⟩ (by (repeat (first | exact trivial | refine ⟨trivial, ?_⟩ | refine ⟨rfl, ?_⟩))) (by (repeat (first | exact trivial | refine ⟨trivial, ?_⟩ | refine ⟨rfl, ?_⟩)))
        intro k hk
        by_cases hkl : k < L.length
        · have hrt := red_take hkl x
          have hy2 : red (L.take k) x < 65536 := red_lt hx2
          obtain ⟨y, hy⟩ : ∃ y, y = red (L.take k) x := ⟨_, rfl⟩
          obtain ⟨b, hb⟩ : ∃ b, b = L.getD k 0 := ⟨_, rfl⟩
          have hb2 : b < 65536 := by
            rw [hb, List.getD_eq_getElem?_getD, List.getElem?_eq_getElem hkl]; exact hLs _ (List.getElem_mem hkl)
          rw [← hy, ← hb] at hrt
          rw [← hy] at hy2 ⊢
          refine Wk.on ?_
          rw [decide_eq_true (show ((k : Nat) : Int) < ((L.length : Nat) : Int) by omega)]
          refine Wk.on ?_
          rw [show Int.toNat ((k : Nat) : Int) * 1 = k by rw [Int.toNat_natCast]; omega, ints_getD, castL_getD, ← hb]
          refine Wk.on ?_
          have hmin : min ((y : Nat) : Int) ((Int.toNat ((y : Nat) : Int) ^^^ Int.toNat ((b : Nat) : Int) : Nat) : Int) = ((red (L.take (k + 1)) x : Nat) : Int) := by
            rw [hrt, Int.toNat_natCast, Int.toNat_natCast]
            split <;> omega
          rw [hmin]
          refine Wk.on ?_
          refine Again.mk (k + 1) (Sub.nil ⟨rfl, rfl, (by simp [tab64_LL, pC, castL, lC, tdSt, tV, tH, tK, qV]), rfl, (by simp [tupA, hpLt, tmLt, AV.lt, AE.lt, AC.lt, LL_cons, LL_nil, idOk, ABlk.lt, ints_LL, GB, tab64_LL, pC, castL, lC, tdSt, tV, tH, tK, qV]), (by simp [tupA, hpLt, tmLt, AV.lt, AE.lt, AC.lt, LL_cons, LL_nil, idOk, ABlk.lt, ints_LL, GB, tab64_LL, pC, castL, lC, tdSt, tV, tH, tK, qV])⟩ (by (repeat (first | exact trivial | refine ⟨trivial, ?_⟩ | refine ⟨rfl, ?_⟩))) (by (repeat (first | exact trivial | refine ⟨trivial, ?_⟩ | refine ⟨rfl, ?_⟩)))) (by omega) (by omega)
        obtain rfl : k = L.length := by omega
        rw [List.take_of_length_le (Nat.le_refl _), ← hs]
        refine Wk.on ?_
        rw [decide_eq_false (show ¬ ((L.length : Nat) : Int) < ((L.length : Nat) : Int) by omega)]
        refine Wk.on ?_
        intro _
        refine Wk.on ?_
        by_cases hz : s = 0
        · rw [decide_eq_true (show ((s : Nat) : Int) = 0 by omega)]
          refine Wk.on ?_
          rw [if_pos hz] at hsu
          refine Again.under (i + 1, L) ?_ ⟨by omega, hsu⟩ (by show Q.length - (i + 1) < Q.length - i; omega)
          rw [hst]
          refine Sub.under (l := []) ?_
          exact Sub.nil ⟨rfl, rfl, (by simp [tab64_LL, pC, castL, lC, tdSt, tV, tH, tK, qV]), rfl, (by simp [tupA, hpLt, tmLt, AV.lt, AE.lt, AC.lt, LL_cons, LL_nil, idOk, ABlk.lt, ints_LL, GB, tab64_LL, pC, castL, lC, tdSt, tV, tH, tK, qV]), (by simp [tupA, hpLt, tmLt, AV.lt, AE.lt, AC.lt, LL_cons, LL_nil, idOk, ABlk.lt, ints_LL, GB, tab64_LL, pC, castL, lC, tdSt, tV, tH, tK, qV])⟩ (by (repeat (first | exact trivial | refine ⟨trivial, ?_⟩ | refine ⟨rfl, ?_⟩))) (by (repeat (first | exact trivial | refine ⟨trivial, ?_⟩ | refine ⟨rfl, ?_⟩)))
        rw [decide_eq_false (show ¬ ((s : Nat) : Int) = 0 by omega)]
        rw [if_neg hz] at hsu hech
        have hwr : IntKind.u64.wrap (s : Int) = s := wrapU (by omega)
        have hlg : s.log2 < 16 := (Nat.log2_lt hz).2 hs2
        have hq2 : q < 65536 := by rw [hqq]; exact Nat.pow_lt_pow_right (n := 16) (by omega) hlg
        have hln : ((lenN s : Nat) : Int) - 1 = ((s.log2 : Nat) : Int) := by rw [lenN, if_neg hz]; omega
        have hwl : IntKind.u64.wrap ((s.log2 : Nat) : Int) = (s.log2 : Nat) := wrapU (by omega)
        have hsh : (1 : Int) * 2 ^ (Int.toNat ((s.log2 : Nat) : Int)) = (q : Int) := by simp [hqq]
        refine Wk.on ?_
        rw [hwr]
        refine CallA.ro [] (.c (.int .i64 (lenN s))) (len_spec hs2) (by first | rfl | exact congrArg AV.g (ints_ren _ _) | (simp [ints_ren, AV.ren, ABlk.ren, AC.ren, AE.ren, lC_ren, qq]; done)) rfl (by (repeat (first | exact trivial | refine ⟨⟨(by first | exact .inl (by decide) | exact .inr (by decide)), (by first | (refine Or.inl ?_; first | rfl | exact congrArg some (ints_ren _ _).symm | exact congrArg ABlk.own (ints_ren _ _).symm | exact congrArg some (tab64_ren _).symm | exact congrArg (ABlk.row _ _) (ints_ren _ _).symm | exact congrArg (ABlk.row _ _) (app_lie _ _ _) | exact congrArg some (lC_ren _ _ _).symm | exact congrArg ABlk.own (lC_ren _ _ _).symm | exact congrArg ABlk.ro (lC_ren _ _ _).symm) | rfl | exact congrArg some (ints_ren _ _).symm | exact congrArg ABlk.own (ints_ren _ _).symm | exact congrArg some (tab64_ren _).symm | exact congrArg (ABlk.row _ _) (ints_ren _ _).symm | exact congrArg (ABlk.row _ _) (app_lie _ _ _) | exact congrArg some (lC_ren _ _ _).symm | exact congrArg ABlk.own (lC_ren _ _ _).symm | exact congrArg ABlk.ro (lC_ren _ _ _).symm | exact Or.inr ⟨rfl, rfl⟩)⟩, ?_⟩))) (by first | rfl | exact congrArg AV.g (ints_ren _ _) | (simp [ints_ren, AV.ren, ABlk.ren, AC.ren, AE.ren, lC_ren, qq]; done)) ?_
        refine Wk.on ?_
        rw [hln]
        refine Wk.on ?_
        rw [hwl]
        refine Wk.on ?_
        rw [hsh]
        refine Wk.on ?_
        obtain ⟨M, hM⟩ : ∃ M, M = clr s L := ⟨_, rfl⟩
        have hMl : M.length = L.length := by rw [hM, clr_len]
        refine Tr.loop (md := true) (X := Nat) (st := fun k => ⟨[(3, .c (.row 1 L.length)), (5, .c (.int .i64 s)), (8, .c (.int .i64 q)), (11, .c (.rs 0 0 Q.length)), (12, .c (.int .i64 Q.length)), (13, .c (.int .i64 i)), (37, .c (.row 1 L.length)), (38, .c (.int .i64 L.length)), (39, .c (.int .i64 k))], [(0, .ro (ints (castL Q))), (1, .row 3 1 (ints (castL (mix M L k))))], 2, 65, 1⟩) (inv := fun k => k ≤ L.length) (μ := fun k => L.length - k) (x0 := 0) (l := []) tok (by omega) ?_ ?_
        · exact Sub.nil ⟨rfl, rfl, (by simp [tab64_LL, pC, castL, lC, tdSt, tV, tH, tK, qV]), rfl, (by simp [tupA, hpLt, tmLt, AV.lt, AE.lt, AC.lt, LL_cons, LL_nil, idOk, ABlk.lt, ints_LL, GB, tab64_LL, pC, castL, lC, tdSt, tV, tH, tK, qV]), (by simp [tupA, hpLt, tmLt, AV.lt, AE.lt, AC.lt, LL_cons, LL_nil, idOk, ABlk.lt, ints_LL, GB, tab64_LL, pC, castL, lC, tdSt, tV, tH, tK, qV])⟩ (by (repeat (first | exact trivial | refine ⟨trivial, ?_⟩ | refine ⟨rfl, ?_⟩))) (by (repeat (first | exact trivial | refine ⟨trivial, ?_⟩ | refine ⟨rfl, ?_⟩)))
        intro k hk
        have hml := mix_len hMl hk
        have hmi : (ints (castL (mix M L k))).length = L.length := by rw [ints_len, castL_len, hml]
        by_cases hkl : k < L.length
        · obtain ⟨b, hb⟩ : ∃ b, b = L.getD k 0 := ⟨_, rfl⟩
          have hb2 : b < 65536 := by
            rw [hb, List.getD_eq_getElem?_getD, List.getElem?_eq_getElem hkl]; exact hLs _ (List.getElem_mem hkl)
          have hcl := clr_getD (s := s) hkl
          rw [← hM, ← hb] at hcl
          refine Wk.on ?_
          rw [decide_eq_true (show ((k : Nat) : Int) < ((L.length : Nat) : Int) by omega)]
          refine Wk.on ?_
          rw [show Int.toNat ((k : Nat) : Int) * 1 = k by rw [Int.toNat_natCast]; omega, ints_getD, castL_getD, mix_get hMl hkl, ← hb]
          refine Wk.on ?_
          rw [show decide (¬ ((Int.toNat ((b : Nat) : Int) &&& Int.toNat ((q : Nat) : Int) : Nat) : Int) = 0) = b.testBit s.log2 by
            rw [← and_bit, Int.toNat_natCast, Int.toNat_natCast, hqq]; exact decide_eq_decide.2 (by omega)]
          by_cases hbt : b.testBit s.log2 = true
          · rw [if_pos hbt] at hcl
            rw [hbt]
            refine Wk.on ?_
            rw [show Int.toNat ((k : Nat) : Int) * 1 = k by rw [Int.toNat_natCast]; omega]
            rw [Int.toNat_natCast, Int.toNat_natCast, ints_set, ← hcl, mix_set hMl hkl]
            refine Again.mk (k + 1) (Sub.nil ⟨rfl, rfl, (by simp [tab64_LL, pC, castL, lC, tdSt, tV, tH, tK, qV]), rfl, (by simp [tupA, hpLt, tmLt, AV.lt, AE.lt, AC.lt, LL_cons, LL_nil, idOk, ABlk.lt, ints_LL, GB, tab64_LL, pC, castL, lC, tdSt, tV, tH, tK, qV]), (by simp [tupA, hpLt, tmLt, AV.lt, AE.lt, AC.lt, LL_cons, LL_nil, idOk, ABlk.lt, ints_LL, GB, tab64_LL, pC, castL, lC, tdSt, tV, tH, tK, qV])⟩ (by (repeat (first | exact trivial | refine ⟨trivial, ?_⟩ | refine ⟨rfl, ?_⟩))) (by (repeat (first | exact trivial | refine ⟨trivial, ?_⟩ | refine ⟨rfl, ?_⟩)))) (by omega) (by omega)
          · rw [if_neg hbt] at hcl
            rw [Bool.eq_false_iff.2 hbt]
            refine Wk.on ?_
            rw [← mix_same hMl hkl (by rw [hcl, hb])]
            refine Again.mk (k + 1) (Sub.nil ⟨rfl, rfl, (by simp [tab64_LL, pC, castL, lC, tdSt, tV, tH, tK, qV]), rfl, (by simp [tupA, hpLt, tmLt, AV.lt, AE.lt, AC.lt, LL_cons, LL_nil, idOk, ABlk.lt, ints_LL, GB, tab64_LL, pC, castL, lC, tdSt, tV, tH, tK, qV]), (by simp [tupA, hpLt, tmLt, AV.lt, AE.lt, AC.lt, LL_cons, LL_nil, idOk, ABlk.lt, ints_LL, GB, tab64_LL, pC, castL, lC, tdSt, tV, tH, tK, qV])⟩ (by (repeat (first | exact trivial | refine ⟨trivial, ?_⟩ | refine ⟨rfl, ?_⟩))) (by (repeat (first | exact trivial | refine ⟨trivial, ?_⟩ | refine ⟨rfl, ?_⟩)))) (by omega) (by omega)
        obtain rfl : k = L.length := by omega
        rw [show mix M L L.length = M by rw [mix, ← hMl, List.take_of_length_le (Nat.le_refl _), List.drop_of_length_le (by omega), List.append_nil]] at *
        have hmi2 : (ints (castL M)).length = L.length := by rw [ints_len, castL_len, hMl]
        refine Wk.on ?_
        rw [decide_eq_false (show ¬ ((L.length : Nat) : Int) < ((L.length : Nat) : Int) by omega)]
        refine Wk.on ?_
        intro _
        refine Wk.on ?_
        refine ⟨⟨Nat.le_of_ble_eq_true rfl, rfl, rfl, by rw [hmi2]; show L.length = L.length * 1; omega, by show ((L.length + 1 : Nat) : Int) * 8 ≤ _; omega, by omega⟩, ?_⟩
        refine Wk.on ?_
        rw [← hM] at hsu hech
        have hsf : FDet Tryd.prog 72 [.c (.row 0 (L.length + 1)), .c (.fn 73 [] [])] [(0, .row 3 1 (ints (castL (M ++ [s]))))] 1 (.t []) [(0, .row 3 1 (ints (castL (insD s M))))] 1 := by
          have := SortFunc_any (castL (M ++ [s])) (by rw [castL_len, List.length_append, List.length_singleton, hMl]; omega) (fun y hy => by
            rw [castL, List.mem_map] at hy
            obtain ⟨z, hz2, rfl⟩ := hy
            have hz3 : z < 65536 := by
              rcases List.mem_append.1 hz2 with h1 | h1
              · exact insD_lt hsu hq z (by rw [(insD_perm s M).mem_iff]; exact List.mem_cons_of_mem _ h1)
              · rw [List.mem_singleton.1 h1]; exact hs2
            exact ⟨Int.natCast_nonneg _, Int.ofNat_lt.2 hz3⟩)
          rw [isort_insD hech, castL_len, List.length_append, List.length_singleton, hMl] at this
          exact this
        refine CallA.det [3] (.t []) ([(2, .own [.int .i64 s]), (0, .ro (ints (castL Q))), (3, .row 3 1 (ints (castL (insD s M))))]) (hsf) (by first | rfl | exact congrArg AV.g (ints_ren _ _) | (simp [ints_ren, AV.ren, ABlk.ren, AC.ren, AE.ren, lC_ren, qq]; done)) rfl (by (repeat (first | exact trivial | refine ⟨⟨(by first | exact .inl (by decide) | exact .inr (by decide)), (by first | (refine Or.inl ?_; first | rfl | exact congrArg some (ints_ren _ _).symm | exact congrArg ABlk.own (ints_ren _ _).symm | exact congrArg some (tab64_ren _).symm | exact congrArg (ABlk.row _ _) (ints_ren _ _).symm | exact congrArg (ABlk.row _ _) (app_lie _ _ _) | exact congrArg some (lC_ren _ _ _).symm | exact congrArg ABlk.own (lC_ren _ _ _).symm | exact congrArg ABlk.ro (lC_ren _ _ _).symm) | rfl | exact congrArg some (ints_ren _ _).symm | exact congrArg ABlk.own (ints_ren _ _).symm | exact congrArg some (tab64_ren _).symm | exact congrArg (ABlk.row _ _) (ints_ren _ _).symm | exact congrArg (ABlk.row _ _) (app_lie _ _ _) | exact congrArg some (lC_ren _ _ _).symm | exact congrArg ABlk.own (lC_ren _ _ _).symm | exact congrArg ABlk.ro (lC_ren _ _ _).symm | exact Or.inr ⟨rfl, rfl⟩)⟩, ?_⟩))) (by first | rfl | exact congrArg AV.g (ints_ren _ _) | (simp [ints_ren, AV.ren, ABlk.ren, AC.ren, AE.ren, lC_ren, qq]; done)) (by first | rfl | (simp [behind, gone, lk, up, del, qq, ABlk.wr, GB, ints_ren, AV.ren, ABlk.ren, AC.ren, AE.ren, lC_ren]; done) | (simp [behind, gone, lk, up, del, qq, ABlk.wr, GB, ints_ren, AV.ren, ABlk.ren, AC.ren, AE.ren, lC_ren]; rfl)) ?_
        refine Wk.on ?_
        obtain ⟨b2, B2, hB2⟩ := insD_cons s M
        have hl2 : L.length + 1 = (b2 :: B2).length := by rw [← hB2, (insD_perm s M).length_eq, List.length_cons, hMl]
        exact Again.mk (i + 1, b2 :: B2) (Sub.new [(1, 3)] ⟨rfl, rfl, Nat.le_of_ble_eq_true rfl, Nat.le_of_ble_eq_true rfl⟩ rfl ⟨by rw [hl2]; rfl, rfl, rfl, rfl, trivial⟩ ⟨by show some (ABlk.ro (ints (castL Q))) = some (ABlk.ro ((ints (castL Q)).map _)); rw [ints_ren], by show some (ABlk.row 3 1 _) = some (ABlk.row 3 1 ((ints _).map _)); rw [ints_ren, hB2], trivial⟩ rfl (by simp [tupA, hpLt, tmLt, AV.lt, AE.lt, AC.lt, LL_cons, LL_nil, idOk, ABlk.lt, ints_LL, GB, tab64_LL, pC, castL, lC, tdSt, tV, tH, tK, qV]) (by simp [tupA, hpLt, tmLt, AV.lt, AE.lt, AC.lt, LL_cons, LL_nil, idOk, ABlk.lt, ints_LL, GB, tab64_LL, pC, castL, lC, tdSt, tV, tH, tK, qV])) ⟨by omega, by rw [hsu, hB2]⟩ (by show Q.length - (i + 1) < Q.length - i; omega)
    · obtain rfl : i = Q.length := by omega
      rw [List.take_of_length_le (Nat.le_refl _)] at htd
      have hech := (tidy_all Q).1
      rw [htd] at hech ⊢
      have hrv := isort_rev hech
      rcases L with _ | ⟨b0, L0⟩
      · refine Wk.on ?_
        rw [decide_eq_false (show ¬ ((Q.length : Nat) : Int) < ((Q.length : Nat) : Int) by omega)]
        refine Wk.on ?_
        intro _
        refine Wk.on ?_
        refine CallA.ro [] (.t []) (Sort_nil) (by first | rfl | exact congrArg AV.g (ints_ren _ _) | (simp [ints_ren, AV.ren, ABlk.ren, AC.ren, AE.ren, lC_ren, qq]; done)) rfl (by (repeat (first | exact trivial | refine ⟨⟨(by first | exact .inl (by decide) | exact .inr (by decide)), (by first | (refine Or.inl ?_; first | rfl | exact congrArg some (ints_ren _ _).symm | exact congrArg ABlk.own (ints_ren _ _).symm | exact congrArg some (tab64_ren _).symm | exact congrArg (ABlk.row _ _) (ints_ren _ _).symm | exact congrArg (ABlk.row _ _) (app_lie _ _ _) | exact congrArg some (lC_ren _ _ _).symm | exact congrArg ABlk.own (lC_ren _ _ _).symm | exact congrArg ABlk.ro (lC_ren _ _ _).symm) | rfl | exact congrArg some (ints_ren _ _).symm | exact congrArg ABlk.own (ints_ren _ _).symm | exact congrArg some (tab64_ren _).symm | exact congrArg (ABlk.row _ _) (ints_ren _ _).symm | exact congrArg (ABlk.row _ _) (app_lie _ _ _) | exact congrArg some (lC_ren _ _ _).symm | exact congrArg ABlk.own (lC_ren _ _ _).symm | exact congrArg ABlk.ro (lC_ren _ _ _).symm | exact Or.inr ⟨rfl, rfl⟩)⟩, ?_⟩))) (by first | rfl | exact congrArg AV.g (ints_ren _ _) | (simp [ints_ren, AV.ren, ABlk.ren, AC.ren, AE.ren, lC_ren, qq]; done)) ?_
        refine Wk.on ?_
        exact AH.Fin.nil [] ⟨rfl, rfl, rfl⟩ (by first | exact trivial | (simp [tupA, hpLt, tmLt, AV.lt, AE.lt, AC.lt, LL_cons, LL_nil, idOk, ABlk.lt, ints_LL, GB, tab64_LL, pC, castL, lC, tdSt, tV, tH, tK, qV]; done) | (simp [tupA, hpLt, tmLt, AV.lt, AE.lt, AC.lt, LL_cons, LL_nil, idOk, ABlk.lt, ints_LL, GB, tab64_LL, pC, castL, lC, tdSt, tV, tH, tK, qV, rdn, wrn]; done)) trivial trivial rfl (by simp [GB])
      · refine Wk.on ?_
        rw [decide_eq_false (show ¬ ((Q.length : Nat) : Int) < ((Q.length : Nat) : Int) by omega)]
        refine Wk.on ?_
        intro _
        refine Wk.on ?_
        refine CallA.det [1] (.t []) ([(0, .ro (ints (castL Q))), (1, .row 3 1 (ints (isort asc (castL (b0 :: L0)))))]) (srt_any (b0 :: L0) (by omega)) (by first | rfl | exact congrArg AV.g (ints_ren _ _) | (simp [ints_ren, AV.ren, ABlk.ren, AC.ren, AE.ren, lC_ren, qq]; done)) rfl (by (repeat (first | exact trivial | refine ⟨⟨(by first | exact .inl (by decide) | exact .inr (by decide)), (by first | (refine Or.inl ?_; first | rfl | exact congrArg some (ints_ren _ _).symm | exact congrArg ABlk.own (ints_ren _ _).symm | exact congrArg some (tab64_ren _).symm | exact congrArg (ABlk.row _ _) (ints_ren _ _).symm | exact congrArg (ABlk.row _ _) (app_lie _ _ _) | exact congrArg some (lC_ren _ _ _).symm | exact congrArg ABlk.own (lC_ren _ _ _).symm | exact congrArg ABlk.ro (lC_ren _ _ _).symm) | rfl | exact congrArg some (ints_ren _ _).symm | exact congrArg ABlk.own (ints_ren _ _).symm | exact congrArg some (tab64_ren _).symm | exact congrArg (ABlk.row _ _) (ints_ren _ _).symm | exact congrArg (ABlk.row _ _) (app_lie _ _ _) | exact congrArg some (lC_ren _ _ _).symm | exact congrArg ABlk.own (lC_ren _ _ _).symm | exact congrArg ABlk.ro (lC_ren _ _ _).symm | exact Or.inr ⟨rfl, rfl⟩)⟩, ?_⟩))) (by first | rfl | exact congrArg AV.g (ints_ren _ _) | (simp [ints_ren, AV.ren, ABlk.ren, AC.ren, AE.ren, lC_ren, qq]; done)) (by first | rfl | (simp [behind, gone, lk, up, del, qq, ABlk.wr, GB, ints_ren, AV.ren, ABlk.ren, AC.ren, AE.ren, lC_ren]; done) | (simp [behind, gone, lk, up, del, qq, ABlk.wr, GB, ints_ren, AV.ren, ABlk.ren, AC.ren, AE.ren, lC_ren]; rfl)) ?_
        rw [hrv]
        obtain ⟨b2, L2, hbl⟩ : ∃ b2 L2, (b0 :: L0).reverse = b2 :: L2 := by
          cases e : (b0 :: L0).reverse with
          | nil => simp at e
          | cons b L => exact ⟨b, L, rfl⟩
        have hll2 : (b2 :: L2).length = (b0 :: L0).length := by rw [← hbl, List.length_reverse]
        rw [hbl]
        refine Wk.on ?_
        rw [← hll2]
        exact AH.Fin.new [1] _ _ ⟨rfl, rfl, rfl⟩ rfl ⟨by show some (ABlk.row 3 1 _) = some (ABlk.row 3 1 ((ints _).map _)); rw [ints_ren], trivial⟩ rfl (by simp [tupA, hpLt, tmLt, AV.lt, AE.lt, AC.lt, LL_cons, LL_nil, idOk, ABlk.lt, ints_LL, GB, tab64_LL, pC, castL, lC, tdSt, tV, tH, tK, qV]) (by simp [tupA, hpLt, tmLt, AV.lt, AE.lt, AC.lt, LL_cons, LL_nil, idOk, ABlk.lt, ints_LL, GB, tab64_LL, pC, castL, lC, tdSt, tV, tH, tK, qV])
theorem tidied_rowA (Q : List Nat) (hQ : Q.length ≤ 1000) (hq : ∀ q ∈ Q, q < 65536) : FDet Tryd.prog 52 [.c (.row 0 Q.length)] [(0, .row 3 1 (ints (castL Q)))] 1 (tV (tidyD Q).reverse) (tH (tidyD Q).reverse) (tK (tidyD Q).reverse) :=
  FDet.wk (tidied_any Q hQ hq) ⟨⟨⟨rfl, rfl, rfl⟩, trivial⟩, trivial⟩ ⟨.inl rfl, trivial⟩
end Go.Proofs.YtimknijehaamlaaDoor
