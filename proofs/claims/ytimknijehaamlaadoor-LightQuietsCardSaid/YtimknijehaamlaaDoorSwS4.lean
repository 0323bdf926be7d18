/-
  Contracts: Quiet, for any number of sets.
-/
import Derived.Test.YtimknijehaamlaaDoorSwS3
set_option linter.unusedSimpArgs false
set_option linter.unusedVariables false
namespace Go.Proofs.YtimknijehaamlaaDoor
open Go Go.AH Go.Lin
set_option maxRecDepth 100000
set_option maxHeartbeats 1000000

theorem Quiet_any {n : Nat} {ws : List (Nat × Nat)} (h : Gr n ws) (own : Bool) (hw : ws.length ≤ 1000) : FDet Tryd.prog 18 [.c (.int .i64 n), .c (.rs 0 0 ws.length), .c (.bool own)] [(0, .ro (ints (prs ws)))] 1 (qV (tidyD (qsR n (openR n ws own))).reverse) (tH (tidyD (qsR n (openR n ws own))).reverse) (tK (tidyD (qsR n (openR n ws own))).reverse) := by
  have hn12 := h.n16
  have hQl := (inv_all (openR n ws own) n (by rw [(openR_lm h own).len]; omega)).len
  have hl := openR_lm h own
  have hl17 : (lC n (openR n ws own)).length = 17 := by rw [lC, List.length_cons, ints_len, castL_len, hl.len]
  have hn := hl.n16
  have ho := open_rn h own hw
  obtain ⟨hS, hB, hQ, hQs⟩ := hl.small (Nat.le_refl n)
  have hr := reduced_spec hl
  simp only [bsR, qsR]
  generalize openR n ws own = rows at *
  generalize reducedP rows n = BQ at *
  obtain ⟨B, Q⟩ := BQ
  dsimp only at hQl hS hB hQ hQs hr ⊢
  rcases B with _ | ⟨b0, B0⟩ <;> rcases Q with _ | ⟨q0, Q0⟩
  · skip
    have hr : FDet Tryd.prog 51 [.c (.ptr 0 0)] [(0, .ro (lC n rows))] 1 (.t [.c (.nils), .c (.nils)]) [] 1 := hr
    refine FSpec.body2 tok true Tryd.func18 ?_
    refine Wk.on ?_
    refine CallA.det2 [0] (.t [.c (.ptr 1 0), .c (.int .i64 0)]) ([(0, .ro (ints (prs ws))), (1, .own (lC n rows))]) (ho) ?_
    refine Wk.on ?_
    refine CallA.det2 [1] (.t [.c (.nils), .c (.nils)]) ([(0, .ro (ints (prs ws))), (1, .own (lC n rows))]) (hr) ?_
    refine Wk.on ?_
    refine CallA.ro2 [] (.c .nils) (tidied_nil) ?_
    refine Wk.on ?_
    exact AH.Fin.nil2 ⟨rfl, rfl, rfl⟩
  · skip
    have hr : FDet Tryd.prog 51 [.c (.ptr 0 0)] [(0, .ro (lC n rows))] 1 (.t [.c (.nils), .c (.row 1 (q0 :: Q0).length)]) [(1, .row 3 1 (ints (castL (q0 :: Q0))))] 2 := hr
    refine FSpec.body2 tok true Tryd.func18 ?_
    refine Wk.on ?_
    refine CallA.det2 [0] (.t [.c (.ptr 1 0), .c (.int .i64 0)]) ([(0, .ro (ints (prs ws))), (1, .own (lC n rows))]) (ho) ?_
    refine Wk.on ?_
    refine CallA.det2 [1] (.t [.c (.nils), .c (.row 2 (q0 :: Q0).length)]) ([(0, .ro (ints (prs ws))), (1, .own (lC n rows)), (2, .row 3 1 (ints (castL (q0 :: Q0))))]) (hr) ?_
    refine Wk.on ?_
    have htd := tidied_rowA (q0 :: Q0) (by omega) hQs
    generalize (tidyD (q0 :: Q0)).reverse = D at *
    rcases D with _ | ⟨d0, D0⟩
    · have htd : FDet Tryd.prog 52 [.c (.row 0 (q0 :: Q0).length)] [(0, .row 3 1 (ints (castL (q0 :: Q0))))] 1 (.c .nils) [] 1 := htd
      refine CallA.det2 [2] (.c .nils) ([(0, .ro (ints (prs ws))), (1, .own (lC n rows))]) (htd) ?_
      refine Wk.on ?_
      exact AH.Fin.nil2 ⟨rfl, rfl, rfl⟩
    · have htd : FDet Tryd.prog 52 [.c (.row 0 (q0 :: Q0).length)] [(0, .row 3 1 (ints (castL (q0 :: Q0))))] 1 (.c (.row 1 (d0 :: D0).length)) [(1, .row 3 1 (ints (castL (d0 :: D0))))] 2 := htd
      refine CallA.det2 [2] (.c (.row 3 (d0 :: D0).length)) ([(0, .ro (ints (prs ws))), (1, .own (lC n rows)), (3, .row 3 1 (ints (castL (d0 :: D0))))]) (htd) ?_
      refine Wk.on ?_
      exact AH.Fin.new [3] _ _ ⟨rfl, rfl, rfl⟩ rfl ⟨by show some (ABlk.row 3 1 _) = some (ABlk.row 3 1 ((ints _).map _)); rw [ints_ren], trivial⟩ rfl (by simp [tupA, hpLt, tmLt, AV.lt, AE.lt, AC.lt, LL_cons, LL_nil, idOk, ABlk.lt, ints_LL, GB, tab64_LL, pC, castL, lC, tdSt, tV, tH, tK, qV]) (by simp [tupA, hpLt, tmLt, AV.lt, AE.lt, AC.lt, LL_cons, LL_nil, idOk, ABlk.lt, ints_LL, GB, tab64_LL, pC, castL, lC, tdSt, tV, tH, tK, qV])
  · skip
    have hr : FDet Tryd.prog 51 [.c (.ptr 0 0)] [(0, .ro (lC n rows))] 1 (.t [.c (.row 1 (b0 :: B0).length), .c (.nils)]) [(1, .row 93 2 (ints (prs (b0 :: B0))))] 2 := hr
    refine FSpec.body2 tok true Tryd.func18 ?_
    refine Wk.on ?_
    refine CallA.det2 [0] (.t [.c (.ptr 1 0), .c (.int .i64 0)]) ([(0, .ro (ints (prs ws))), (1, .own (lC n rows))]) (ho) ?_
    refine Wk.on ?_
    refine CallA.det2 [1] (.t [.c (.row 2 (b0 :: B0).length), .c (.nils)]) ([(0, .ro (ints (prs ws))), (1, .own (lC n rows)), (2, .row 93 2 (ints (prs (b0 :: B0))))]) (hr) ?_
    refine Wk.on ?_
    refine CallA.ro2 [] (.c .nils) (tidied_nil) ?_
    refine Wk.on ?_
    exact AH.Fin.nil2 ⟨rfl, rfl, rfl⟩
  · skip
    have hr : FDet Tryd.prog 51 [.c (.ptr 0 0)] [(0, .ro (lC n rows))] 1 (.t [.c (.row 1 (b0 :: B0).length), .c (.row 2 (q0 :: Q0).length)]) [(1, .row 93 2 (ints (prs (b0 :: B0)))), (2, .row 3 1 (ints (castL (q0 :: Q0))))] 3 := hr
    refine FSpec.body2 tok true Tryd.func18 ?_
    refine Wk.on ?_
    refine CallA.det2 [0] (.t [.c (.ptr 1 0), .c (.int .i64 0)]) ([(0, .ro (ints (prs ws))), (1, .own (lC n rows))]) (ho) ?_
    refine Wk.on ?_
    refine CallA.det2 [1] (.t [.c (.row 2 (b0 :: B0).length), .c (.row 3 (q0 :: Q0).length)]) ([(0, .ro (ints (prs ws))), (1, .own (lC n rows)), (3, .row 3 1 (ints (castL (q0 :: Q0)))), (2, .row 93 2 (ints (prs (b0 :: B0))))]) (hr) ?_
    refine Wk.on ?_
    have htd := tidied_rowA (q0 :: Q0) (by omega) hQs
    generalize (tidyD (q0 :: Q0)).reverse = D at *
    rcases D with _ | ⟨d0, D0⟩
    · have htd : FDet Tryd.prog 52 [.c (.row 0 (q0 :: Q0).length)] [(0, .row 3 1 (ints (castL (q0 :: Q0))))] 1 (.c .nils) [] 1 := htd
      refine CallA.det2 [3] (.c .nils) ([(0, .ro (ints (prs ws))), (1, .own (lC n rows)), (2, .row 93 2 (ints (prs (b0 :: B0))))]) (htd) ?_
      refine Wk.on ?_
      exact AH.Fin.nil2 ⟨rfl, rfl, rfl⟩
    · have htd : FDet Tryd.prog 52 [.c (.row 0 (q0 :: Q0).length)] [(0, .row 3 1 (ints (castL (q0 :: Q0))))] 1 (.c (.row 1 (d0 :: D0).length)) [(1, .row 3 1 (ints (castL (d0 :: D0))))] 2 := htd
      refine CallA.det2 [3] (.c (.row 4 (d0 :: D0).length)) ([(0, .ro (ints (prs ws))), (1, .own (lC n rows)), (2, .row 93 2 (ints (prs (b0 :: B0)))), (4, .row 3 1 (ints (castL (d0 :: D0))))]) (htd) ?_
      refine Wk.on ?_
      exact AH.Fin.new [4] _ _ ⟨rfl, rfl, rfl⟩ rfl ⟨by show some (ABlk.row 3 1 _) = some (ABlk.row 3 1 ((ints _).map _)); rw [ints_ren], trivial⟩ rfl (by simp [tupA, hpLt, tmLt, AV.lt, AE.lt, AC.lt, LL_cons, LL_nil, idOk, ABlk.lt, ints_LL, GB, tab64_LL, pC, castL, lC, tdSt, tV, tH, tK, qV]) (by simp [tupA, hpLt, tmLt, AV.lt, AE.lt, AC.lt, LL_cons, LL_nil, idOk, ABlk.lt, ints_LL, GB, tab64_LL, pC, castL, lC, tdSt, tV, tH, tK, qV])
end Go.Proofs.YtimknijehaamlaaDoor
