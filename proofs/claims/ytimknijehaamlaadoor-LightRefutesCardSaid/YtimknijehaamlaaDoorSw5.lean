/-
  Contracts: Effect, Solve, IsRefutation, Check; Reachable, Refute, Quiet, for a graph and sets in range.
-/
import Derived.Test.YtimknijehaamlaaDoorSw4
set_option linter.unusedSimpArgs false
set_option linter.unusedVariables false
namespace Go.Proofs.YtimknijehaamlaaDoor
open Go Go.AH Go.Lin
set_option maxRecDepth 100000
set_option maxHeartbeats 1000000

theorem oor0 {n x : Nat} (h : x < 2 ^ n) : oorB n (x : Int) = false := by
  rw [oorB, decide_eq_false (show ¬ ((x : Nat) : Int) < 0 by omega), decide_eq_false (show ¬ (((2 ^ n : Nat) : Int) ≤ (x : Int)) by omega)]; rfl
theorem open_s1 {n : Nat} {ws : List (Nat × Nat)} (h : Gr n ws) (own : Bool) (hw : ws.length ≤ 1000) {x : Nat} (hx : x < 2 ^ n) : FDet Tryd.prog 50 [.c (.int .i64 n), .c (.rs 0 0 ws.length), .c (.bool own), .c (.sl 1 0 1 (some 1))] [(0, .ro (ints (prs ws))), (1, .ro [.int .i64 x])] 2 (.t [.c (.ptr 2 0), .c (.int .i64 0)]) [(2, .own (lC n (openR n ws own)))] 3 :=
  FDet.wk (open_rr h own hw [(x : Int)] (by simp) (by simp [oor0 hx])) ⟨rfl, rfl, rfl, ⟨rfl, rfl, rfl⟩, trivial⟩ ⟨.inl rfl, .inl rfl, trivial⟩
theorem open_s2 {n : Nat} {ws : List (Nat × Nat)} (h : Gr n ws) (own : Bool) (hw : ws.length ≤ 1000) {x y : Nat} (hx : x < 2 ^ n) (hy : y < 2 ^ n) : FDet Tryd.prog 50 [.c (.int .i64 n), .c (.rs 0 0 ws.length), .c (.bool own), .c (.sl 1 0 2 (some 2))] [(0, .ro (ints (prs ws))), (1, .ro [.int .i64 x, .int .i64 y])] 2 (.t [.c (.ptr 2 0), .c (.int .i64 0)]) [(2, .own (lC n (openR n ws own)))] 3 :=
  FDet.wk (open_rr h own hw [(x : Int), (y : Int)] (by simp) (by simp [oor0 hx, oor0 hy])) ⟨rfl, rfl, rfl, ⟨rfl, rfl, rfl⟩, trivial⟩ ⟨.inl rfl, .inl rfl, trivial⟩
theorem Effect_spec {n : Nat} {ws : List (Nat × Nat)} (h : Gr n ws) (own : Bool) (hw : ws.length ≤ 1000) {x : Nat} (hx : x < 2 ^ n) : FDet Tryd.prog 35 [.c (.int .i64 n), .c (.rs 0 0 ws.length), .c (.bool own), .c (.int .i64 x)] [(0, .ro (ints (prs ws))), (100001, .ro tab64)] 1 (.t [.c (.int .i64 (eff (openR n ws own) x : Nat)), .c (.int .i64 0)]) [] 1 := by
  refine FSpec.of_body tok true Tryd.func35 rfl (by kernel_rfl) (by decide) (by simp [tupA, hpLt, tmLt, AV.lt, AE.lt, AC.lt, LL_cons, LL_nil, idOk, ABlk.lt, ints_LL, GB, tab64_LL, pC, castL, lC]) (by simp [tupA, hpLt, tmLt, AV.lt, AE.lt, AC.lt, LL_cons, LL_nil, idOk, ABlk.lt, ints_LL, GB, tab64_LL, pC, castL, lC]) (by show 4 ≤ _; decide) ?_
  refine Wk.on ?_
  refine CallA.det [0, 1] (.t [.c (.ptr 2 0), .c (.int .i64 0)]) ([(1, .own [.int .i64 x]), (0, .ro (ints (prs ws))), (100001, .ro tab64), (2, .own (lC n (openR n ws own)))]) (open_s1 h own hw hx) (by first | rfl | exact congrArg AV.g (ints_ren _ _) | (simp [ints_ren, AV.ren, ABlk.ren, AC.ren, AE.ren, lC_ren, qq]; done)) rfl (by (repeat (first | exact trivial | refine ⟨⟨(by first | exact .inl (by decide) | exact .inr (by decide)), (by first | (refine Or.inl ?_; first | rfl | exact congrArg some (ints_ren _ _).symm | exact congrArg ABlk.own (ints_ren _ _).symm | exact congrArg some (tab64_ren _).symm | exact congrArg (ABlk.row _ _) (ints_ren _ _).symm | exact congrArg some (lC_ren _ _ _).symm | exact congrArg ABlk.own (lC_ren _ _ _).symm | exact congrArg ABlk.ro (lC_ren _ _ _).symm) | rfl | exact congrArg some (ints_ren _ _).symm | exact congrArg ABlk.own (ints_ren _ _).symm | exact congrArg some (tab64_ren _).symm | exact congrArg (ABlk.row _ _) (ints_ren _ _).symm | exact congrArg some (lC_ren _ _ _).symm | exact congrArg ABlk.own (lC_ren _ _ _).symm | exact congrArg ABlk.ro (lC_ren _ _ _).symm | exact Or.inr ⟨rfl, rfl⟩)⟩, ?_⟩))) (by first | rfl | exact congrArg AV.g (ints_ren _ _) | (simp [ints_ren, AV.ren, ABlk.ren, AC.ren, AE.ren, lC_ren, qq]; done)) (by first | rfl | (simp [behind, gone, lk, up, del, qq, ABlk.wr, GB, ints_ren, AV.ren, ABlk.ren, AC.ren, AE.ren, lC_ren]; done) | (simp [behind, gone, lk, up, del, qq, ABlk.wr, GB, ints_ren, AV.ren, ABlk.ren, AC.ren, AE.ren, lC_ren]; rfl)) ?_
  refine Wk.on ?_
  refine CallA.ro [2] (.c (.int .i64 (eff (openR n ws own) x : Nat))) (effect_spec (openR_lm h own) hx) (by first | rfl | exact congrArg AV.g (ints_ren _ _) | (simp [ints_ren, AV.ren, ABlk.ren, AC.ren, AE.ren, lC_ren, qq]; done)) rfl (by (repeat (first | exact trivial | refine ⟨⟨(by first | exact .inl (by decide) | exact .inr (by decide)), (by first | (refine Or.inl ?_; first | rfl | exact congrArg some (ints_ren _ _).symm | exact congrArg ABlk.own (ints_ren _ _).symm | exact congrArg some (tab64_ren _).symm | exact congrArg (ABlk.row _ _) (ints_ren _ _).symm | exact congrArg some (lC_ren _ _ _).symm | exact congrArg ABlk.own (lC_ren _ _ _).symm | exact congrArg ABlk.ro (lC_ren _ _ _).symm) | rfl | exact congrArg some (ints_ren _ _).symm | exact congrArg ABlk.own (ints_ren _ _).symm | exact congrArg some (tab64_ren _).symm | exact congrArg (ABlk.row _ _) (ints_ren _ _).symm | exact congrArg some (lC_ren _ _ _).symm | exact congrArg ABlk.own (lC_ren _ _ _).symm | exact congrArg ABlk.ro (lC_ren _ _ _).symm | exact Or.inr ⟨rfl, rfl⟩)⟩, ?_⟩))) (by first | rfl | exact congrArg AV.g (ints_ren _ _) | (simp [ints_ren, AV.ren, ABlk.ren, AC.ren, AE.ren, lC_ren, qq]; done)) ?_
  refine Wk.on ?_
  exact AH.Fin.nil [] ⟨rfl, rfl, rfl⟩ (by first | exact trivial | (simp [tupA, hpLt, tmLt, AV.lt, AE.lt, AC.lt, LL_cons, LL_nil, idOk, ABlk.lt, ints_LL, GB, tab64_LL, pC, castL, lC]; done) | (simp [tupA, hpLt, tmLt, AV.lt, AE.lt, AC.lt, LL_cons, LL_nil, idOk, ABlk.lt, ints_LL, GB, tab64_LL, pC, castL, lC, rdn, wrn]; done)) trivial trivial rfl (by simp [GB])
theorem Check_spec {n : Nat} {ws : List (Nat × Nat)} (h : Gr n ws) (hw : ws.length ≤ 1000) : FDet Tryd.prog 25 [.c (.int .i64 n), .c (.rs 0 0 ws.length)] [(0, .ro (ints (prs ws)))] 1 (.c (.int .i64 0)) [] 1 := by
  refine FSpec.of_body tok true Tryd.func25 rfl (by kernel_rfl) (by decide) (by simp [tupA, hpLt, tmLt, AV.lt, AE.lt, AC.lt, LL_cons, LL_nil, idOk, ABlk.lt, ints_LL, GB, tab64_LL, pC, castL, lC]) (by simp [tupA, hpLt, tmLt, AV.lt, AE.lt, AC.lt, LL_cons, LL_nil, idOk, ABlk.lt, ints_LL, GB, tab64_LL, pC, castL, lC]) (by show 2 ≤ _; decide) ?_
  refine Wk.on ?_
  refine CallA.det [0] (.t [.c (.ptr 1 0), .c (.int .i64 0)]) ([(0, .ro (ints (prs ws))), (1, .own (lC n (openR n ws false)))]) (open_rn h false hw) (by first | rfl | exact congrArg AV.g (ints_ren _ _) | (simp [ints_ren, AV.ren, ABlk.ren, AC.ren, AE.ren, lC_ren, qq]; done)) rfl (by (repeat (first | exact trivial | refine ⟨⟨(by first | exact .inl (by decide) | exact .inr (by decide)), (by first | (refine Or.inl ?_; first | rfl | exact congrArg some (ints_ren _ _).symm | exact congrArg ABlk.own (ints_ren _ _).symm | exact congrArg some (tab64_ren _).symm | exact congrArg (ABlk.row _ _) (ints_ren _ _).symm | exact congrArg some (lC_ren _ _ _).symm | exact congrArg ABlk.own (lC_ren _ _ _).symm | exact congrArg ABlk.ro (lC_ren _ _ _).symm) | rfl | exact congrArg some (ints_ren _ _).symm | exact congrArg ABlk.own (ints_ren _ _).symm | exact congrArg some (tab64_ren _).symm | exact congrArg (ABlk.row _ _) (ints_ren _ _).symm | exact congrArg some (lC_ren _ _ _).symm | exact congrArg ABlk.own (lC_ren _ _ _).symm | exact congrArg ABlk.ro (lC_ren _ _ _).symm | exact Or.inr ⟨rfl, rfl⟩)⟩, ?_⟩))) (by first | rfl | exact congrArg AV.g (ints_ren _ _) | (simp [ints_ren, AV.ren, ABlk.ren, AC.ren, AE.ren, lC_ren, qq]; done)) (by first | rfl | (simp [behind, gone, lk, up, del, qq, ABlk.wr, GB, ints_ren, AV.ren, ABlk.ren, AC.ren, AE.ren, lC_ren]; done) | (simp [behind, gone, lk, up, del, qq, ABlk.wr, GB, ints_ren, AV.ren, ABlk.ren, AC.ren, AE.ren, lC_ren]; rfl)) ?_
  refine Wk.on ?_
  exact AH.Fin.nil [] ⟨rfl, rfl, rfl⟩ (by first | exact trivial | (simp [tupA, hpLt, tmLt, AV.lt, AE.lt, AC.lt, LL_cons, LL_nil, idOk, ABlk.lt, ints_LL, GB, tab64_LL, pC, castL, lC]; done) | (simp [tupA, hpLt, tmLt, AV.lt, AE.lt, AC.lt, LL_cons, LL_nil, idOk, ABlk.lt, ints_LL, GB, tab64_LL, pC, castL, lC, rdn, wrn]; done)) trivial trivial rfl (by simp [GB])
theorem Solve_spec {n : Nat} {ws : List (Nat × Nat)} (h : Gr n ws) (own : Bool) (hw : ws.length ≤ 1000) {t : Nat} (ht : t < 2 ^ n) : FDet Tryd.prog 40 [.c (.int .i64 n), .c (.rs 0 0 ws.length), .c (.bool own), .c (.int .i64 t)] [(0, .ro (ints (prs ws)))] 1
    (.t [.c (.int .i64 (if (solP (bsR n (openR n ws own)) t).2 = 0 then (solP (bsR n (openR n ws own)) t).1 else 0 : Nat)), .c (.bool (decide ((solP (bsR n (openR n ws own)) t).2 = 0))), .c (.int .i64 0)]) [] 1 := by
  refine FSpec.of_body tok true Tryd.func40 rfl (by kernel_rfl) (by decide) (by simp [tupA, hpLt, tmLt, AV.lt, AE.lt, AC.lt, LL_cons, LL_nil, idOk, ABlk.lt, ints_LL, GB, tab64_LL, pC, castL, lC]) (by simp [tupA, hpLt, tmLt, AV.lt, AE.lt, AC.lt, LL_cons, LL_nil, idOk, ABlk.lt, ints_LL, GB, tab64_LL, pC, castL, lC]) (by show 4 ≤ _; decide) ?_
  refine Wk.on ?_
  refine CallA.det [0, 1] (.t [.c (.ptr 2 0), .c (.int .i64 0)]) ([(1, .own [.int .i64 t]), (0, .ro (ints (prs ws))), (2, .own (lC n (openR n ws own)))]) (open_s1 h own hw ht) (by first | rfl | exact congrArg AV.g (ints_ren _ _) | (simp [ints_ren, AV.ren, ABlk.ren, AC.ren, AE.ren, lC_ren, qq]; done)) rfl (by (repeat (first | exact trivial | refine ⟨⟨(by first | exact .inl (by decide) | exact .inr (by decide)), (by first | (refine Or.inl ?_; first | rfl | exact congrArg some (ints_ren _ _).symm | exact congrArg ABlk.own (ints_ren _ _).symm | exact congrArg some (tab64_ren _).symm | exact congrArg (ABlk.row _ _) (ints_ren _ _).symm | exact congrArg some (lC_ren _ _ _).symm | exact congrArg ABlk.own (lC_ren _ _ _).symm | exact congrArg ABlk.ro (lC_ren _ _ _).symm) | rfl | exact congrArg some (ints_ren _ _).symm | exact congrArg ABlk.own (ints_ren _ _).symm | exact congrArg some (tab64_ren _).symm | exact congrArg (ABlk.row _ _) (ints_ren _ _).symm | exact congrArg some (lC_ren _ _ _).symm | exact congrArg ABlk.own (lC_ren _ _ _).symm | exact congrArg ABlk.ro (lC_ren _ _ _).symm | exact Or.inr ⟨rfl, rfl⟩)⟩, ?_⟩))) (by first | rfl | exact congrArg AV.g (ints_ren _ _) | (simp [ints_ren, AV.ren, ABlk.ren, AC.ren, AE.ren, lC_ren, qq]; done)) (by first | rfl | (simp [behind, gone, lk, up, del, qq, ABlk.wr, GB, ints_ren, AV.ren, ABlk.ren, AC.ren, AE.ren, lC_ren]; done) | (simp [behind, gone, lk, up, del, qq, ABlk.wr, GB, ints_ren, AV.ren, ABlk.ren, AC.ren, AE.ren, lC_ren]; rfl)) ?_
  refine Wk.on ?_
  refine CallA.ro [2] (.t [.c (.int .i64 (solP (bsR n (openR n ws own)) t).1), .c (.bool (decide ((solP (bsR n (openR n ws own)) t).2 = 0)))]) (solve_spec (openR_lm h own) ht) (by first | rfl | exact congrArg AV.g (ints_ren _ _) | (simp [ints_ren, AV.ren, ABlk.ren, AC.ren, AE.ren, lC_ren, qq]; done)) rfl (by (repeat (first | exact trivial | refine ⟨⟨(by first | exact .inl (by decide) | exact .inr (by decide)), (by first | (refine Or.inl ?_; first | rfl | exact congrArg some (ints_ren _ _).symm | exact congrArg ABlk.own (ints_ren _ _).symm | exact congrArg some (tab64_ren _).symm | exact congrArg (ABlk.row _ _) (ints_ren _ _).symm | exact congrArg some (lC_ren _ _ _).symm | exact congrArg ABlk.own (lC_ren _ _ _).symm | exact congrArg ABlk.ro (lC_ren _ _ _).symm) | rfl | exact congrArg some (ints_ren _ _).symm | exact congrArg ABlk.own (ints_ren _ _).symm | exact congrArg some (tab64_ren _).symm | exact congrArg (ABlk.row _ _) (ints_ren _ _).symm | exact congrArg some (lC_ren _ _ _).symm | exact congrArg ABlk.own (lC_ren _ _ _).symm | exact congrArg ABlk.ro (lC_ren _ _ _).symm | exact Or.inr ⟨rfl, rfl⟩)⟩, ?_⟩))) (by first | rfl | exact congrArg AV.g (ints_ren _ _) | (simp [ints_ren, AV.ren, ABlk.ren, AC.ren, AE.ren, lC_ren, qq]; done)) ?_
  refine Wk.on ?_
  by_cases hz : (solP (bsR n (openR n ws own)) t).2 = 0
  · rw [decide_eq_true hz, if_pos hz]
    refine Wk.on ?_
    exact AH.Fin.nil [] ⟨rfl, rfl, rfl⟩ (by first | exact trivial | (simp [tupA, hpLt, tmLt, AV.lt, AE.lt, AC.lt, LL_cons, LL_nil, idOk, ABlk.lt, ints_LL, GB, tab64_LL, pC, castL, lC]; done) | (simp [tupA, hpLt, tmLt, AV.lt, AE.lt, AC.lt, LL_cons, LL_nil, idOk, ABlk.lt, ints_LL, GB, tab64_LL, pC, castL, lC, rdn, wrn]; done)) trivial trivial rfl (by simp [GB])
  · rw [decide_eq_false hz, if_neg hz]
    refine Wk.on ?_
    exact AH.Fin.nil [] ⟨rfl, rfl, rfl⟩ (by first | exact trivial | (simp [tupA, hpLt, tmLt, AV.lt, AE.lt, AC.lt, LL_cons, LL_nil, idOk, ABlk.lt, ints_LL, GB, tab64_LL, pC, castL, lC]; done) | (simp [tupA, hpLt, tmLt, AV.lt, AE.lt, AC.lt, LL_cons, LL_nil, idOk, ABlk.lt, ints_LL, GB, tab64_LL, pC, castL, lC, rdn, wrn]; done)) trivial trivial rfl (by simp [GB])
theorem IsRefutation_spec {n : Nat} {ws : List (Nat × Nat)} (h : Gr n ws) (own : Bool) (hw : ws.length ≤ 1000) {t q : Nat} (ht : t < 2 ^ n) (hq : q < 2 ^ n) : FDet Tryd.prog 44 [.c (.int .i64 n), .c (.rs 0 0 ws.length), .c (.bool own), .c (.int .i64 t), .c (.int .i64 q)] [(0, .ro (ints (prs ws))), (100001, .ro tab64)] 1
    (.t [.c (.bool (decide (eff (openR n ws own) q = 0) && decide (pop (q &&& t) % 2 = 1))), .c (.int .i64 0)]) [] 1 := by
  have hp := (openR_lm h own).pow
  have ht2 : t < 65536 := by omega
  have hq2 : q < 65536 := by omega
  have hqt : q &&& t < 65536 := Nat.lt_of_le_of_lt Nat.and_le_left hq2
  refine FSpec.of_body tok true Tryd.func44 rfl (by kernel_rfl) (by decide) (by simp [tupA, hpLt, tmLt, AV.lt, AE.lt, AC.lt, LL_cons, LL_nil, idOk, ABlk.lt, ints_LL, GB, tab64_LL, pC, castL, lC]) (by simp [tupA, hpLt, tmLt, AV.lt, AE.lt, AC.lt, LL_cons, LL_nil, idOk, ABlk.lt, ints_LL, GB, tab64_LL, pC, castL, lC]) (by show 5 ≤ _; decide) ?_
  refine Wk.on ?_
  refine CallA.det [0, 1] (.t [.c (.ptr 2 0), .c (.int .i64 0)]) ([(1, .own [.int .i64 t, .int .i64 q]), (0, .ro (ints (prs ws))), (100001, .ro tab64), (2, .own (lC n (openR n ws own)))]) (open_s2 h own hw ht hq) (by first | rfl | exact congrArg AV.g (ints_ren _ _) | (simp [ints_ren, AV.ren, ABlk.ren, AC.ren, AE.ren, lC_ren, qq]; done)) rfl (by (repeat (first | exact trivial | refine ⟨⟨(by first | exact .inl (by decide) | exact .inr (by decide)), (by first | (refine Or.inl ?_; first | rfl | exact congrArg some (ints_ren _ _).symm | exact congrArg ABlk.own (ints_ren _ _).symm | exact congrArg some (tab64_ren _).symm | exact congrArg (ABlk.row _ _) (ints_ren _ _).symm | exact congrArg some (lC_ren _ _ _).symm | exact congrArg ABlk.own (lC_ren _ _ _).symm | exact congrArg ABlk.ro (lC_ren _ _ _).symm) | rfl | exact congrArg some (ints_ren _ _).symm | exact congrArg ABlk.own (ints_ren _ _).symm | exact congrArg some (tab64_ren _).symm | exact congrArg (ABlk.row _ _) (ints_ren _ _).symm | exact congrArg some (lC_ren _ _ _).symm | exact congrArg ABlk.own (lC_ren _ _ _).symm | exact congrArg ABlk.ro (lC_ren _ _ _).symm | exact Or.inr ⟨rfl, rfl⟩)⟩, ?_⟩))) (by first | rfl | exact congrArg AV.g (ints_ren _ _) | (simp [ints_ren, AV.ren, ABlk.ren, AC.ren, AE.ren, lC_ren, qq]; done)) (by first | rfl | (simp [behind, gone, lk, up, del, qq, ABlk.wr, GB, ints_ren, AV.ren, ABlk.ren, AC.ren, AE.ren, lC_ren]; done) | (simp [behind, gone, lk, up, del, qq, ABlk.wr, GB, ints_ren, AV.ren, ABlk.ren, AC.ren, AE.ren, lC_ren]; rfl)) ?_
  refine Wk.on ?_
  refine CallA.ro [2] (.c (.int .i64 (eff (openR n ws own) q : Nat))) (effect_spec (openR_lm h own) hq) (by first | rfl | exact congrArg AV.g (ints_ren _ _) | (simp [ints_ren, AV.ren, ABlk.ren, AC.ren, AE.ren, lC_ren, qq]; done)) rfl (by (repeat (first | exact trivial | refine ⟨⟨(by first | exact .inl (by decide) | exact .inr (by decide)), (by first | (refine Or.inl ?_; first | rfl | exact congrArg some (ints_ren _ _).symm | exact congrArg ABlk.own (ints_ren _ _).symm | exact congrArg some (tab64_ren _).symm | exact congrArg (ABlk.row _ _) (ints_ren _ _).symm | exact congrArg some (lC_ren _ _ _).symm | exact congrArg ABlk.own (lC_ren _ _ _).symm | exact congrArg ABlk.ro (lC_ren _ _ _).symm) | rfl | exact congrArg some (ints_ren _ _).symm | exact congrArg ABlk.own (ints_ren _ _).symm | exact congrArg some (tab64_ren _).symm | exact congrArg (ABlk.row _ _) (ints_ren _ _).symm | exact congrArg some (lC_ren _ _ _).symm | exact congrArg ABlk.own (lC_ren _ _ _).symm | exact congrArg ABlk.ro (lC_ren _ _ _).symm | exact Or.inr ⟨rfl, rfl⟩)⟩, ?_⟩))) (by first | rfl | exact congrArg AV.g (ints_ren _ _) | (simp [ints_ren, AV.ren, ABlk.ren, AC.ren, AE.ren, lC_ren, qq]; done)) ?_
  refine Wk.on ?_
  by_cases hz : eff (openR n ws own) q = 0
  · rw [hz]
    refine Wk.on ?_
    rw [show (Int.toNat ((q : Nat) : Int) &&& Int.toNat ((t : Nat) : Int) : Nat) = q &&& t by rw [Int.toNat_natCast, Int.toNat_natCast]]
    refine CallA.ro [] (.c (.bool (decide (pop (q &&& t) % 2 = 1)))) (odd_spec hqt) (by first | rfl | exact congrArg AV.g (ints_ren _ _) | (simp [ints_ren, AV.ren, ABlk.ren, AC.ren, AE.ren, lC_ren, qq]; done)) rfl (by (repeat (first | exact trivial | refine ⟨⟨(by first | exact .inl (by decide) | exact .inr (by decide)), (by first | (refine Or.inl ?_; first | rfl | exact congrArg some (ints_ren _ _).symm | exact congrArg ABlk.own (ints_ren _ _).symm | exact congrArg some (tab64_ren _).symm | exact congrArg (ABlk.row _ _) (ints_ren _ _).symm | exact congrArg some (lC_ren _ _ _).symm | exact congrArg ABlk.own (lC_ren _ _ _).symm | exact congrArg ABlk.ro (lC_ren _ _ _).symm) | rfl | exact congrArg some (ints_ren _ _).symm | exact congrArg ABlk.own (ints_ren _ _).symm | exact congrArg some (tab64_ren _).symm | exact congrArg (ABlk.row _ _) (ints_ren _ _).symm | exact congrArg some (lC_ren _ _ _).symm | exact congrArg ABlk.own (lC_ren _ _ _).symm | exact congrArg ABlk.ro (lC_ren _ _ _).symm | exact Or.inr ⟨rfl, rfl⟩)⟩, ?_⟩))) (by first | rfl | exact congrArg AV.g (ints_ren _ _) | (simp [ints_ren, AV.ren, ABlk.ren, AC.ren, AE.ren, lC_ren, qq]; done)) ?_
    refine Wk.on ?_
    exact AH.Fin.nil [] ⟨rfl, rfl, rfl⟩ (by first | exact trivial | (simp [tupA, hpLt, tmLt, AV.lt, AE.lt, AC.lt, LL_cons, LL_nil, idOk, ABlk.lt, ints_LL, GB, tab64_LL, pC, castL, lC]; done) | (simp [tupA, hpLt, tmLt, AV.lt, AE.lt, AC.lt, LL_cons, LL_nil, idOk, ABlk.lt, ints_LL, GB, tab64_LL, pC, castL, lC, rdn, wrn]; done)) trivial trivial rfl (by simp [GB])
  · rw [decide_eq_false (show ¬ ((eff (openR n ws own) q : Nat) : Int) = 0 by omega), decide_eq_false hz]
    refine Wk.on ?_
    exact AH.Fin.nil [] ⟨rfl, rfl, rfl⟩ (by first | exact trivial | (simp [tupA, hpLt, tmLt, AV.lt, AE.lt, AC.lt, LL_cons, LL_nil, idOk, ABlk.lt, ints_LL, GB, tab64_LL, pC, castL, lC]; done) | (simp [tupA, hpLt, tmLt, AV.lt, AE.lt, AC.lt, LL_cons, LL_nil, idOk, ABlk.lt, ints_LL, GB, tab64_LL, pC, castL, lC, rdn, wrn]; done)) trivial trivial rfl (by simp [GB])

end Go.Proofs.YtimknijehaamlaaDoor

/-
  Contracts: Reachable, Refute, Quiet, for a graph and sets in range.
-/
namespace Go.Proofs.YtimknijehaamlaaDoor
open Go Go.AH Go.Lin
set_option maxRecDepth 100000
set_option maxHeartbeats 1000000

/-- What Quiet answers. -/
def qV : List Nat → AV
  | [] => .t [.c .nils, .c (.int .i64 0)]
  | b :: L => .t [.c (.row 1 (b :: L).length), .c (.int .i64 0)]
/-- The first quiet set that refutes. -/
def refQ (Q : List Nat) (t : Nat) : Option Nat := Q.find? fun q => decide (pop (q &&& t) % 2 = 1)
theorem tidied_nil : FDet Tryd.prog 52 [.c .nils] [] 0 (.c .nils) [] 0 := by
  refine FSpec.of_body tok true Tryd.func52 rfl (by kernel_rfl) (by decide) (by simp [tupA, hpLt, tmLt, AV.lt, AE.lt, AC.lt, LL_cons, LL_nil, idOk, ABlk.lt, ints_LL, GB, tab64_LL, pC, castL, lC, tV, tH, tK, qV]) (by simp [tupA, hpLt, tmLt, AV.lt, AE.lt, AC.lt, LL_cons, LL_nil, idOk, ABlk.lt, ints_LL, GB, tab64_LL, pC, castL, lC, tV, tH, tK, qV]) (by show 1 ≤ _; decide) ?_
  refine Wk.on ?_
  refine Tr.loop (md := true) (X := Unit) (st := fun _ => ⟨[(3, .c .nils), (12, .c (.int .i64 0)), (13, .c (.int .i64 0))], [], 0, 65, 0⟩) (inv := fun _ => True) (μ := fun _ => 0) (x0 := ()) (l := []) tok trivial ?_ ?_
  · exact Sub.nil ⟨rfl, rfl, (by simp [tab64_LL, pC, castL, lC, tV, tH, tK, qV]), rfl, (by simp [tupA, hpLt, tmLt, AV.lt, AE.lt, AC.lt, LL_cons, LL_nil, idOk, ABlk.lt, ints_LL, GB, tab64_LL, pC, castL, lC, tV, tH, tK, qV]), (by simp [tupA, hpLt, tmLt, AV.lt, AE.lt, AC.lt, LL_cons, LL_nil, idOk, ABlk.lt, ints_LL, GB, tab64_LL, pC, castL, lC, tV, tH, tK, qV])⟩ (by (repeat (first | exact trivial | refine ⟨trivial, ?_⟩ | refine ⟨rfl, ?_⟩))) (by (repeat (first | exact trivial | refine ⟨trivial, ?_⟩ | refine ⟨rfl, ?_⟩)))
  · intro _ _
    refine Wk.on ?_
    refine CallA.ro [] (.t []) (Sort_nil) (by first | rfl | exact congrArg AV.g (ints_ren _ _) | (simp [ints_ren, AV.ren, ABlk.ren, AC.ren, AE.ren, lC_ren, qq]; done)) rfl (by (repeat (first | exact trivial | refine ⟨⟨(by first | exact .inl (by decide) | exact .inr (by decide)), (by first | (refine Or.inl ?_; first | rfl | exact congrArg some (ints_ren _ _).symm | exact congrArg ABlk.own (ints_ren _ _).symm | exact congrArg some (tab64_ren _).symm | exact congrArg (ABlk.row _ _) (ints_ren _ _).symm | exact congrArg some (lC_ren _ _ _).symm | exact congrArg ABlk.own (lC_ren _ _ _).symm | exact congrArg ABlk.ro (lC_ren _ _ _).symm) | rfl | exact congrArg some (ints_ren _ _).symm | exact congrArg ABlk.own (ints_ren _ _).symm | exact congrArg some (tab64_ren _).symm | exact congrArg (ABlk.row _ _) (ints_ren _ _).symm | exact congrArg some (lC_ren _ _ _).symm | exact congrArg ABlk.own (lC_ren _ _ _).symm | exact congrArg ABlk.ro (lC_ren _ _ _).symm | exact Or.inr ⟨rfl, rfl⟩)⟩, ?_⟩))) (by first | rfl | exact congrArg AV.g (ints_ren _ _) | (simp [ints_ren, AV.ren, ABlk.ren, AC.ren, AE.ren, lC_ren, qq]; done)) ?_
    refine Wk.on ?_
    exact AH.Fin.nil [] ⟨rfl, rfl, rfl⟩ (by first | exact trivial | (simp [tupA, hpLt, tmLt, AV.lt, AE.lt, AC.lt, LL_cons, LL_nil, idOk, ABlk.lt, ints_LL, GB, tab64_LL, pC, castL, lC, tV, tH, tK, qV]; done) | (simp [tupA, hpLt, tmLt, AV.lt, AE.lt, AC.lt, LL_cons, LL_nil, idOk, ABlk.lt, ints_LL, GB, tab64_LL, pC, castL, lC, tV, tH, tK, qV, rdn, wrn]; done)) trivial trivial rfl (by simp [GB])
theorem tidied_row (Q : List Nat) (hQ : Q.length ≤ 12) (hq : ∀ q ∈ Q, q < 65536) : FDet Tryd.prog 52 [.c (.row 0 Q.length)] [(0, .row 3 1 (ints (castL Q)))] 1 (tV (tidyD Q).reverse) (tH (tidyD Q).reverse) (tK (tidyD Q).reverse) :=
  FDet.wk (tidied_spec Q hQ hq) ⟨⟨⟨rfl, rfl, rfl⟩, trivial⟩, trivial⟩ ⟨.inl rfl, trivial⟩

theorem find_at {Q : List Nat} {p : Nat → Bool} {k e : Nat} (hk : k < Q.length) (he : Q[k] = e) (hp : p e = true) (h : ∀ j, j < k → p (Q.getD j 0) = false) : Q.find? p = some e := by
  induction Q generalizing k with
  | nil => cases hk
  | cons q Q ih =>
    cases k with
    | zero =>
      simp only [List.getElem_cons_zero] at he
      rw [List.find?_cons, he, hp]
    | succ k =>
      have h0 := h 0 (by omega)
      simp only [List.getD_cons_zero] at h0
      rw [List.find?_cons, h0]
      simp only [List.getElem_cons_succ, List.length_cons] at he hk
      exact ih (by omega) he fun j hj => by
        have := h (j + 1) (by omega)
        simpa using this
theorem find_no {Q : List Nat} {p : Nat → Bool} (h : ∀ j, j < Q.length → p (Q.getD j 0) = false) : Q.find? p = none := by
  rw [List.find?_eq_none]
  intro x hx
  obtain ⟨j, hj, rfl⟩ := List.getElem_of_mem hx
  have := h j hj
  rw [List.getD_eq_getElem?_getD, List.getElem?_eq_getElem hj] at this
  simpa using this

theorem Reachable_spec {n : Nat} {ws : List (Nat × Nat)} (h : Gr n ws) (own : Bool) (hw : ws.length ≤ 1000) : FDet Tryd.prog 41 [.c (.int .i64 n), .c (.rs 0 0 ws.length), .c (.bool own)] [(0, .ro (ints (prs ws)))] 1 (.t [.c (.int .i64 (2 ^ (bsR n (openR n ws own)).length : Nat)), .c (.int .i64 0)]) [] 1 := by
  have hl := openR_lm h own
  have hl17 : (lC n (openR n ws own)).length = 17 := by rw [lC, List.length_cons, ints_len, castL_len, hl.len]
  have hn := hl.n16
  have ho := open_rn h own hw
  obtain ⟨hS, hB, hQ, hQs⟩ := hl.small (Nat.le_refl n)
  have hr := reduced_spec hl
  simp only [bsR, qsR]
  generalize openR n ws own = rows at *
  generalize reducedP rows n = BQ at *
  obtain ⟨B, Q⟩ := BQ
  dsimp only at hS hB hQ hQs hr ⊢
  rcases B with _ | ⟨b0, B0⟩ <;> rcases Q with _ | ⟨q0, Q0⟩
  · skip
    have hr : FDet Tryd.prog 51 [.c (.ptr 0 0)] [(0, .ro (lC n rows))] 1 (.t [.c (.nils), .c (.nils)]) [] 1 := hr
    refine FSpec.of_body tok true Tryd.func41 rfl (by kernel_rfl) (by decide) (by simp [tupA, hpLt, tmLt, AV.lt, AE.lt, AC.lt, LL_cons, LL_nil, idOk, ABlk.lt, ints_LL, GB, tab64_LL, pC, castL, lC, tV, tH, tK, qV]) (by simp [tupA, hpLt, tmLt, AV.lt, AE.lt, AC.lt, LL_cons, LL_nil, idOk, ABlk.lt, ints_LL, GB, tab64_LL, pC, castL, lC, tV, tH, tK, qV]) (by show 3 ≤ _; decide) ?_
    refine Wk.on ?_
    refine CallA.det [0] (.t [.c (.ptr 1 0), .c (.int .i64 0)]) ([(0, .ro (ints (prs ws))), (1, .own (lC n rows))]) (ho) (by first | rfl | exact congrArg AV.g (ints_ren _ _) | (simp [ints_ren, AV.ren, ABlk.ren, AC.ren, AE.ren, lC_ren, qq]; done)) rfl (by (repeat (first | exact trivial | refine ⟨⟨(by first | exact .inl (by decide) | exact .inr (by decide)), (by first | (refine Or.inl ?_; first | rfl | exact congrArg some (ints_ren _ _).symm | exact congrArg ABlk.own (ints_ren _ _).symm | exact congrArg some (tab64_ren _).symm | exact congrArg (ABlk.row _ _) (ints_ren _ _).symm | exact congrArg some (lC_ren _ _ _).symm | exact congrArg ABlk.own (lC_ren _ _ _).symm | exact congrArg ABlk.ro (lC_ren _ _ _).symm) | rfl | exact congrArg some (ints_ren _ _).symm | exact congrArg ABlk.own (ints_ren _ _).symm | exact congrArg some (tab64_ren _).symm | exact congrArg (ABlk.row _ _) (ints_ren _ _).symm | exact congrArg some (lC_ren _ _ _).symm | exact congrArg ABlk.own (lC_ren _ _ _).symm | exact congrArg ABlk.ro (lC_ren _ _ _).symm | exact Or.inr ⟨rfl, rfl⟩)⟩, ?_⟩))) (by first | rfl | exact congrArg AV.g (ints_ren _ _) | (simp [ints_ren, AV.ren, ABlk.ren, AC.ren, AE.ren, lC_ren, qq]; done)) (by first | rfl | (simp [behind, gone, lk, up, del, qq, ABlk.wr, GB, ints_ren, AV.ren, ABlk.ren, AC.ren, AE.ren, lC_ren]; done) | (simp [behind, gone, lk, up, del, qq, ABlk.wr, GB, ints_ren, AV.ren, ABlk.ren, AC.ren, AE.ren, lC_ren]; rfl)) ?_
    refine Wk.on ?_
    refine CallA.det [1] (.t [.c (.nils), .c (.nils)]) ([(0, .ro (ints (prs ws))), (1, .own (lC n rows))]) (hr) (by first | rfl | exact congrArg AV.g (ints_ren _ _) | (simp [ints_ren, AV.ren, ABlk.ren, AC.ren, AE.ren, lC_ren, qq]; done)) rfl (by (repeat (first | exact trivial | refine ⟨⟨(by first | exact .inl (by decide) | exact .inr (by decide)), (by first | (refine Or.inl ?_; first | rfl | exact congrArg some (ints_ren _ _).symm | exact congrArg ABlk.own (ints_ren _ _).symm | exact congrArg some (tab64_ren _).symm | exact congrArg (ABlk.row _ _) (ints_ren _ _).symm | exact congrArg some (lC_ren _ _ _).symm | exact congrArg ABlk.own (lC_ren _ _ _).symm | exact congrArg ABlk.ro (lC_ren _ _ _).symm) | rfl | exact congrArg some (ints_ren _ _).symm | exact congrArg ABlk.own (ints_ren _ _).symm | exact congrArg some (tab64_ren _).symm | exact congrArg (ABlk.row _ _) (ints_ren _ _).symm | exact congrArg some (lC_ren _ _ _).symm | exact congrArg ABlk.own (lC_ren _ _ _).symm | exact congrArg ABlk.ro (lC_ren _ _ _).symm | exact Or.inr ⟨rfl, rfl⟩)⟩, ?_⟩))) (by first | rfl | exact congrArg AV.g (ints_ren _ _) | (simp [ints_ren, AV.ren, ABlk.ren, AC.ren, AE.ren, lC_ren, qq]; done)) (by first | rfl | (simp [behind, gone, lk, up, del, qq, ABlk.wr, GB, ints_ren, AV.ren, ABlk.ren, AC.ren, AE.ren, lC_ren]; done) | (simp [behind, gone, lk, up, del, qq, ABlk.wr, GB, ints_ren, AV.ren, ABlk.ren, AC.ren, AE.ren, lC_ren]; rfl)) ?_
    have hw0 : IntKind.u64.wrap (0 : Int) = 0 := by decide
    have hsh : (1 : Int) * 2 ^ (Int.toNat (0 : Int)) = 1 := by decide
    refine Wk.on ?_
    rw [hw0]
    refine Wk.on ?_
    rw [hsh]
    refine Wk.on ?_
    exact AH.Fin.nil [] ⟨rfl, rfl, rfl⟩ (by first | exact trivial | (simp [tupA, hpLt, tmLt, AV.lt, AE.lt, AC.lt, LL_cons, LL_nil, idOk, ABlk.lt, ints_LL, GB, tab64_LL, pC, castL, lC, tV, tH, tK, qV]; done) | (simp [tupA, hpLt, tmLt, AV.lt, AE.lt, AC.lt, LL_cons, LL_nil, idOk, ABlk.lt, ints_LL, GB, tab64_LL, pC, castL, lC, tV, tH, tK, qV, rdn, wrn]; done)) trivial trivial rfl (by simp [GB])
  · skip
    have hr : FDet Tryd.prog 51 [.c (.ptr 0 0)] [(0, .ro (lC n rows))] 1 (.t [.c (.nils), .c (.row 1 (q0 :: Q0).length)]) [(1, .row 3 1 (ints (castL (q0 :: Q0))))] 2 := hr
    refine FSpec.of_body tok true Tryd.func41 rfl (by kernel_rfl) (by decide) (by simp [tupA, hpLt, tmLt, AV.lt, AE.lt, AC.lt, LL_cons, LL_nil, idOk, ABlk.lt, ints_LL, GB, tab64_LL, pC, castL, lC, tV, tH, tK, qV]) (by simp [tupA, hpLt, tmLt, AV.lt, AE.lt, AC.lt, LL_cons, LL_nil, idOk, ABlk.lt, ints_LL, GB, tab64_LL, pC, castL, lC, tV, tH, tK, qV]) (by show 3 ≤ _; decide) ?_
    refine Wk.on ?_
    refine CallA.det [0] (.t [.c (.ptr 1 0), .c (.int .i64 0)]) ([(0, .ro (ints (prs ws))), (1, .own (lC n rows))]) (ho) (by first | rfl | exact congrArg AV.g (ints_ren _ _) | (simp [ints_ren, AV.ren, ABlk.ren, AC.ren, AE.ren, lC_ren, qq]; done)) rfl (by (repeat (first | exact trivial | refine ⟨⟨(by first | exact .inl (by decide) | exact .inr (by decide)), (by first | (refine Or.inl ?_; first | rfl | exact congrArg some (ints_ren _ _).symm | exact congrArg ABlk.own (ints_ren _ _).symm | exact congrArg some (tab64_ren _).symm | exact congrArg (ABlk.row _ _) (ints_ren _ _).symm | exact congrArg some (lC_ren _ _ _).symm | exact congrArg ABlk.own (lC_ren _ _ _).symm | exact congrArg ABlk.ro (lC_ren _ _ _).symm) | rfl | exact congrArg some (ints_ren _ _).symm | exact congrArg ABlk.own (ints_ren _ _).symm | exact congrArg some (tab64_ren _).symm | exact congrArg (ABlk.row _ _) (ints_ren _ _).symm | exact congrArg some (lC_ren _ _ _).symm | exact congrArg ABlk.own (lC_ren _ _ _).symm | exact congrArg ABlk.ro (lC_ren _ _ _).symm | exact Or.inr ⟨rfl, rfl⟩)⟩, ?_⟩))) (by first | rfl | exact congrArg AV.g (ints_ren _ _) | (simp [ints_ren, AV.ren, ABlk.ren, AC.ren, AE.ren, lC_ren, qq]; done)) (by first | rfl | (simp [behind, gone, lk, up, del, qq, ABlk.wr, GB, ints_ren, AV.ren, ABlk.ren, AC.ren, AE.ren, lC_ren]; done) | (simp [behind, gone, lk, up, del, qq, ABlk.wr, GB, ints_ren, AV.ren, ABlk.ren, AC.ren, AE.ren, lC_ren]; rfl)) ?_
    refine Wk.on ?_
    refine CallA.det [1] (.t [.c (.nils), .c (.row 2 (q0 :: Q0).length)]) ([(0, .ro (ints (prs ws))), (1, .own (lC n rows)), (2, .row 3 1 (ints (castL (q0 :: Q0))))]) (hr) (by first | rfl | exact congrArg AV.g (ints_ren _ _) | (simp [ints_ren, AV.ren, ABlk.ren, AC.ren, AE.ren, lC_ren, qq]; done)) rfl (by (repeat (first | exact trivial | refine ⟨⟨(by first | exact .inl (by decide) | exact .inr (by decide)), (by first | (refine Or.inl ?_; first | rfl | exact congrArg some (ints_ren _ _).symm | exact congrArg ABlk.own (ints_ren _ _).symm | exact congrArg some (tab64_ren _).symm | exact congrArg (ABlk.row _ _) (ints_ren _ _).symm | exact congrArg some (lC_ren _ _ _).symm | exact congrArg ABlk.own (lC_ren _ _ _).symm | exact congrArg ABlk.ro (lC_ren _ _ _).symm) | rfl | exact congrArg some (ints_ren _ _).symm | exact congrArg ABlk.own (ints_ren _ _).symm | exact congrArg some (tab64_ren _).symm | exact congrArg (ABlk.row _ _) (ints_ren _ _).symm | exact congrArg some (lC_ren _ _ _).symm | exact congrArg ABlk.own (lC_ren _ _ _).symm | exact congrArg ABlk.ro (lC_ren _ _ _).symm | exact Or.inr ⟨rfl, rfl⟩)⟩, ?_⟩))) (by first | rfl | exact congrArg AV.g (ints_ren _ _) | (simp [ints_ren, AV.ren, ABlk.ren, AC.ren, AE.ren, lC_ren, qq]; done)) (by first | rfl | (simp [behind, gone, lk, up, del, qq, ABlk.wr, GB, ints_ren, AV.ren, ABlk.ren, AC.ren, AE.ren, lC_ren]; done) | (simp [behind, gone, lk, up, del, qq, ABlk.wr, GB, ints_ren, AV.ren, ABlk.ren, AC.ren, AE.ren, lC_ren]; rfl)) ?_
    have hw0 : IntKind.u64.wrap (0 : Int) = 0 := by decide
    have hsh : (1 : Int) * 2 ^ (Int.toNat (0 : Int)) = 1 := by decide
    refine Wk.on ?_
    rw [hw0]
    refine Wk.on ?_
    rw [hsh]
    refine Wk.on ?_
    exact AH.Fin.nil [] ⟨rfl, rfl, rfl⟩ (by first | exact trivial | (simp [tupA, hpLt, tmLt, AV.lt, AE.lt, AC.lt, LL_cons, LL_nil, idOk, ABlk.lt, ints_LL, GB, tab64_LL, pC, castL, lC, tV, tH, tK, qV]; done) | (simp [tupA, hpLt, tmLt, AV.lt, AE.lt, AC.lt, LL_cons, LL_nil, idOk, ABlk.lt, ints_LL, GB, tab64_LL, pC, castL, lC, tV, tH, tK, qV, rdn, wrn]; done)) trivial trivial rfl (by simp [GB])
  · skip
    have hr : FDet Tryd.prog 51 [.c (.ptr 0 0)] [(0, .ro (lC n rows))] 1 (.t [.c (.row 1 (b0 :: B0).length), .c (.nils)]) [(1, .row 93 2 (ints (prs (b0 :: B0))))] 2 := hr
    refine FSpec.of_body tok true Tryd.func41 rfl (by kernel_rfl) (by decide) (by simp [tupA, hpLt, tmLt, AV.lt, AE.lt, AC.lt, LL_cons, LL_nil, idOk, ABlk.lt, ints_LL, GB, tab64_LL, pC, castL, lC, tV, tH, tK, qV]) (by simp [tupA, hpLt, tmLt, AV.lt, AE.lt, AC.lt, LL_cons, LL_nil, idOk, ABlk.lt, ints_LL, GB, tab64_LL, pC, castL, lC, tV, tH, tK, qV]) (by show 3 ≤ _; decide) ?_
    refine Wk.on ?_
    refine CallA.det [0] (.t [.c (.ptr 1 0), .c (.int .i64 0)]) ([(0, .ro (ints (prs ws))), (1, .own (lC n rows))]) (ho) (by first | rfl | exact congrArg AV.g (ints_ren _ _) | (simp [ints_ren, AV.ren, ABlk.ren, AC.ren, AE.ren, lC_ren, qq]; done)) rfl (by (repeat (first | exact trivial | refine ⟨⟨(by first | exact .inl (by decide) | exact .inr (by decide)), (by first | (refine Or.inl ?_; first | rfl | exact congrArg some (ints_ren _ _).symm | exact congrArg ABlk.own (ints_ren _ _).symm | exact congrArg some (tab64_ren _).symm | exact congrArg (ABlk.row _ _) (ints_ren _ _).symm | exact congrArg some (lC_ren _ _ _).symm | exact congrArg ABlk.own (lC_ren _ _ _).symm | exact congrArg ABlk.ro (lC_ren _ _ _).symm) | rfl | exact congrArg some (ints_ren _ _).symm | exact congrArg ABlk.own (ints_ren _ _).symm | exact congrArg some (tab64_ren _).symm | exact congrArg (ABlk.row _ _) (ints_ren _ _).symm | exact congrArg some (lC_ren _ _ _).symm | exact congrArg ABlk.own (lC_ren _ _ _).symm | exact congrArg ABlk.ro (lC_ren _ _ _).symm | exact Or.inr ⟨rfl, rfl⟩)⟩, ?_⟩))) (by first | rfl | exact congrArg AV.g (ints_ren _ _) | (simp [ints_ren, AV.ren, ABlk.ren, AC.ren, AE.ren, lC_ren, qq]; done)) (by first | rfl | (simp [behind, gone, lk, up, del, qq, ABlk.wr, GB, ints_ren, AV.ren, ABlk.ren, AC.ren, AE.ren, lC_ren]; done) | (simp [behind, gone, lk, up, del, qq, ABlk.wr, GB, ints_ren, AV.ren, ABlk.ren, AC.ren, AE.ren, lC_ren]; rfl)) ?_
    refine Wk.on ?_
    refine CallA.det [1] (.t [.c (.row 2 (b0 :: B0).length), .c (.nils)]) ([(0, .ro (ints (prs ws))), (1, .own (lC n rows)), (2, .row 93 2 (ints (prs (b0 :: B0))))]) (hr) (by first | rfl | exact congrArg AV.g (ints_ren _ _) | (simp [ints_ren, AV.ren, ABlk.ren, AC.ren, AE.ren, lC_ren, qq]; done)) rfl (by (repeat (first | exact trivial | refine ⟨⟨(by first | exact .inl (by decide) | exact .inr (by decide)), (by first | (refine Or.inl ?_; first | rfl | exact congrArg some (ints_ren _ _).symm | exact congrArg ABlk.own (ints_ren _ _).symm | exact congrArg some (tab64_ren _).symm | exact congrArg (ABlk.row _ _) (ints_ren _ _).symm | exact congrArg some (lC_ren _ _ _).symm | exact congrArg ABlk.own (lC_ren _ _ _).symm | exact congrArg ABlk.ro (lC_ren _ _ _).symm) | rfl | exact congrArg some (ints_ren _ _).symm | exact congrArg ABlk.own (ints_ren _ _).symm | exact congrArg some (tab64_ren _).symm | exact congrArg (ABlk.row _ _) (ints_ren _ _).symm | exact congrArg some (lC_ren _ _ _).symm | exact congrArg ABlk.own (lC_ren _ _ _).symm | exact congrArg ABlk.ro (lC_ren _ _ _).symm | exact Or.inr ⟨rfl, rfl⟩)⟩, ?_⟩))) (by first | rfl | exact congrArg AV.g (ints_ren _ _) | (simp [ints_ren, AV.ren, ABlk.ren, AC.ren, AE.ren, lC_ren, qq]; done)) (by first | rfl | (simp [behind, gone, lk, up, del, qq, ABlk.wr, GB, ints_ren, AV.ren, ABlk.ren, AC.ren, AE.ren, lC_ren]; done) | (simp [behind, gone, lk, up, del, qq, ABlk.wr, GB, ints_ren, AV.ren, ABlk.ren, AC.ren, AE.ren, lC_ren]; rfl)) ?_
    generalize hBB : b0 :: B0 = B at *
    have hwb : IntKind.u64.wrap ((B.length : Nat) : Int) = (B.length : Nat) := wrapU (by omega)
    have hsh : (1 : Int) * 2 ^ (Int.toNat ((B.length : Nat) : Int)) = ((2 ^ B.length : Nat) : Int) := by simp
    have hp2 : 2 ^ B.length < 131072 := Nat.pow_lt_pow_right (n := 17) (by omega) (by omega)
    generalize 2 ^ B.length = q at *
    refine Wk.on ?_
    rw [hwb]
    refine Wk.on ?_
    rw [hsh]
    refine Wk.on ?_
    exact AH.Fin.nil [] ⟨rfl, rfl, rfl⟩ (by first | exact trivial | (simp [tupA, hpLt, tmLt, AV.lt, AE.lt, AC.lt, LL_cons, LL_nil, idOk, ABlk.lt, ints_LL, GB, tab64_LL, pC, castL, lC, tV, tH, tK, qV]; done) | (simp [tupA, hpLt, tmLt, AV.lt, AE.lt, AC.lt, LL_cons, LL_nil, idOk, ABlk.lt, ints_LL, GB, tab64_LL, pC, castL, lC, tV, tH, tK, qV, rdn, wrn]; done)) trivial trivial rfl (by simp [GB])
  · skip
    have hr : FDet Tryd.prog 51 [.c (.ptr 0 0)] [(0, .ro (lC n rows))] 1 (.t [.c (.row 1 (b0 :: B0).length), .c (.row 2 (q0 :: Q0).length)]) [(1, .row 93 2 (ints (prs (b0 :: B0)))), (2, .row 3 1 (ints (castL (q0 :: Q0))))] 3 := hr
    refine FSpec.of_body tok true Tryd.func41 rfl (by kernel_rfl) (by decide) (by simp [tupA, hpLt, tmLt, AV.lt, AE.lt, AC.lt, LL_cons, LL_nil, idOk, ABlk.lt, ints_LL, GB, tab64_LL, pC, castL, lC, tV, tH, tK, qV]) (by simp [tupA, hpLt, tmLt, AV.lt, AE.lt, AC.lt, LL_cons, LL_nil, idOk, ABlk.lt, ints_LL, GB, tab64_LL, pC, castL, lC, tV, tH, tK, qV]) (by show 3 ≤ _; decide) ?_
    refine Wk.on ?_
    refine CallA.det [0] (.t [.c (.ptr 1 0), .c (.int .i64 0)]) ([(0, .ro (ints (prs ws))), (1, .own (lC n rows))]) (ho) (by first | rfl | exact congrArg AV.g (ints_ren _ _) | (simp [ints_ren, AV.ren, ABlk.ren, AC.ren, AE.ren, lC_ren, qq]; done)) rfl (by (repeat (first | exact trivial | refine ⟨⟨(by first | exact .inl (by decide) | exact .inr (by decide)), (by first | (refine Or.inl ?_; first | rfl | exact congrArg some (ints_ren _ _).symm | exact congrArg ABlk.own (ints_ren _ _).symm | exact congrArg some (tab64_ren _).symm | exact congrArg (ABlk.row _ _) (ints_ren _ _).symm | exact congrArg some (lC_ren _ _ _).symm | exact congrArg ABlk.own (lC_ren _ _ _).symm | exact congrArg ABlk.ro (lC_ren _ _ _).symm) | rfl | exact congrArg some (ints_ren _ _).symm | exact congrArg ABlk.own (ints_ren _ _).symm | exact congrArg some (tab64_ren _).symm | exact congrArg (ABlk.row _ _) (ints_ren _ _).symm | exact congrArg some (lC_ren _ _ _).symm | exact congrArg ABlk.own (lC_ren _ _ _).symm | exact congrArg ABlk.ro (lC_ren _ _ _).symm | exact Or.inr ⟨rfl, rfl⟩)⟩, ?_⟩))) (by first | rfl | exact congrArg AV.g (ints_ren _ _) | (simp [ints_ren, AV.ren, ABlk.ren, AC.ren, AE.ren, lC_ren, qq]; done)) (by first | rfl | (simp [behind, gone, lk, up, del, qq, ABlk.wr, GB, ints_ren, AV.ren, ABlk.ren, AC.ren, AE.ren, lC_ren]; done) | (simp [behind, gone, lk, up, del, qq, ABlk.wr, GB, ints_ren, AV.ren, ABlk.ren, AC.ren, AE.ren, lC_ren]; rfl)) ?_
    refine Wk.on ?_
    refine CallA.det [1] (.t [.c (.row 2 (b0 :: B0).length), .c (.row 3 (q0 :: Q0).length)]) ([(0, .ro (ints (prs ws))), (1, .own (lC n rows)), (3, .row 3 1 (ints (castL (q0 :: Q0)))), (2, .row 93 2 (ints (prs (b0 :: B0))))]) (hr) (by first | rfl | exact congrArg AV.g (ints_ren _ _) | (simp [ints_ren, AV.ren, ABlk.ren, AC.ren, AE.ren, lC_ren, qq]; done)) rfl (by (repeat (first | exact trivial | refine ⟨⟨(by first | exact .inl (by decide) | exact .inr (by decide)), (by first | (refine Or.inl ?_; first | rfl | exact congrArg some (ints_ren _ _).symm | exact congrArg ABlk.own (ints_ren _ _).symm | exact congrArg some (tab64_ren _).symm | exact congrArg (ABlk.row _ _) (ints_ren _ _).symm | exact congrArg some (lC_ren _ _ _).symm | exact congrArg ABlk.own (lC_ren _ _ _).symm | exact congrArg ABlk.ro (lC_ren _ _ _).symm) | rfl | exact congrArg some (ints_ren _ _).symm | exact congrArg ABlk.own (ints_ren _ _).symm | exact congrArg some (tab64_ren _).symm | exact congrArg (ABlk.row _ _) (ints_ren _ _).symm | exact congrArg some (lC_ren _ _ _).symm | exact congrArg ABlk.own (lC_ren _ _ _).symm | exact congrArg ABlk.ro (lC_ren _ _ _).symm | exact Or.inr ⟨rfl, rfl⟩)⟩, ?_⟩))) (by first | rfl | exact congrArg AV.g (ints_ren _ _) | (simp [ints_ren, AV.ren, ABlk.ren, AC.ren, AE.ren, lC_ren, qq]; done)) (by first | rfl | (simp [behind, gone, lk, up, del, qq, ABlk.wr, GB, ints_ren, AV.ren, ABlk.ren, AC.ren, AE.ren, lC_ren]; done) | (simp [behind, gone, lk, up, del, qq, ABlk.wr, GB, ints_ren, AV.ren, ABlk.ren, AC.ren, AE.ren, lC_ren]; rfl)) ?_
    generalize hBB : b0 :: B0 = B at *
    have hwb : IntKind.u64.wrap ((B.length : Nat) : Int) = (B.length : Nat) := wrapU (by omega)
    have hsh : (1 : Int) * 2 ^ (Int.toNat ((B.length : Nat) : Int)) = ((2 ^ B.length : Nat) : Int) := by simp
    have hp2 : 2 ^ B.length < 131072 := Nat.pow_lt_pow_right (n := 17) (by omega) (by omega)
    generalize 2 ^ B.length = q at *
    refine Wk.on ?_
    rw [hwb]
    refine Wk.on ?_
    rw [hsh]
    refine Wk.on ?_
    exact AH.Fin.nil [] ⟨rfl, rfl, rfl⟩ (by first | exact trivial | (simp [tupA, hpLt, tmLt, AV.lt, AE.lt, AC.lt, LL_cons, LL_nil, idOk, ABlk.lt, ints_LL, GB, tab64_LL, pC, castL, lC, tV, tH, tK, qV]; done) | (simp [tupA, hpLt, tmLt, AV.lt, AE.lt, AC.lt, LL_cons, LL_nil, idOk, ABlk.lt, ints_LL, GB, tab64_LL, pC, castL, lC, tV, tH, tK, qV, rdn, wrn]; done)) trivial trivial rfl (by simp [GB])
theorem Refute_spec {n : Nat} {ws : List (Nat × Nat)} (h : Gr n ws) (own : Bool) (hw : ws.length ≤ 1000) {t : Nat} (ht : t < 2 ^ n) : FDet Tryd.prog 43 [.c (.int .i64 n), .c (.rs 0 0 ws.length), .c (.bool own), .c (.int .i64 t)] [(0, .ro (ints (prs ws)))] 1 (.t [.c (.int .i64 (((refQ (qsR n (openR n ws own)) t).getD 0 : Nat) : Int)), .c (.bool (refQ (qsR n (openR n ws own)) t).isSome), .c (.int .i64 0)]) [] 1 := by
  have hpw := (openR_lm h own).pow
  have ht2 : t < 65536 := by omega
  have hl := openR_lm h own
  have hl17 : (lC n (openR n ws own)).length = 17 := by rw [lC, List.length_cons, ints_len, castL_len, hl.len]
  have hn := hl.n16
  have ho := open_s1 h own hw ht
  obtain ⟨hS, hB, hQ, hQs⟩ := hl.small (Nat.le_refl n)
  have hr := reduced_spec hl
  simp only [bsR, qsR]
  generalize openR n ws own = rows at *
  generalize reducedP rows n = BQ at *
  obtain ⟨B, Q⟩ := BQ
  dsimp only at hS hB hQ hQs hr ⊢
  rcases B with _ | ⟨b0, B0⟩ <;> rcases Q with _ | ⟨q0, Q0⟩
  · skip
    have hr : FDet Tryd.prog 51 [.c (.ptr 0 0)] [(0, .ro (lC n rows))] 1 (.t [.c (.nils), .c (.nils)]) [] 1 := hr
    refine FSpec.of_body tok true Tryd.func43 rfl (by kernel_rfl) (by decide) (by simp [tupA, hpLt, tmLt, AV.lt, AE.lt, AC.lt, LL_cons, LL_nil, idOk, ABlk.lt, ints_LL, GB, tab64_LL, pC, castL, lC, tV, tH, tK, qV]) (by simp [tupA, hpLt, tmLt, AV.lt, AE.lt, AC.lt, LL_cons, LL_nil, idOk, ABlk.lt, ints_LL, GB, tab64_LL, pC, castL, lC, tV, tH, tK, qV]) (by show 4 ≤ _; decide) ?_
    refine Wk.on ?_
    refine CallA.det [0, 1] (.t [.c (.ptr 2 0), .c (.int .i64 0)]) ([(1, .own [.int .i64 t]), (0, .ro (ints (prs ws))), (2, .own (lC n rows))]) (ho) (by first | rfl | exact congrArg AV.g (ints_ren _ _) | (simp [ints_ren, AV.ren, ABlk.ren, AC.ren, AE.ren, lC_ren, qq]; done)) rfl (by (repeat (first | exact trivial | refine ⟨⟨(by first | exact .inl (by decide) | exact .inr (by decide)), (by first | (refine Or.inl ?_; first | rfl | exact congrArg some (ints_ren _ _).symm | exact congrArg ABlk.own (ints_ren _ _).symm | exact congrArg some (tab64_ren _).symm | exact congrArg (ABlk.row _ _) (ints_ren _ _).symm | exact congrArg some (lC_ren _ _ _).symm | exact congrArg ABlk.own (lC_ren _ _ _).symm | exact congrArg ABlk.ro (lC_ren _ _ _).symm) | rfl | exact congrArg some (ints_ren _ _).symm | exact congrArg ABlk.own (ints_ren _ _).symm | exact congrArg some (tab64_ren _).symm | exact congrArg (ABlk.row _ _) (ints_ren _ _).symm | exact congrArg some (lC_ren _ _ _).symm | exact congrArg ABlk.own (lC_ren _ _ _).symm | exact congrArg ABlk.ro (lC_ren _ _ _).symm | exact Or.inr ⟨rfl, rfl⟩)⟩, ?_⟩))) (by first | rfl | exact congrArg AV.g (ints_ren _ _) | (simp [ints_ren, AV.ren, ABlk.ren, AC.ren, AE.ren, lC_ren, qq]; done)) (by first | rfl | (simp [behind, gone, lk, up, del, qq, ABlk.wr, GB, ints_ren, AV.ren, ABlk.ren, AC.ren, AE.ren, lC_ren]; done) | (simp [behind, gone, lk, up, del, qq, ABlk.wr, GB, ints_ren, AV.ren, ABlk.ren, AC.ren, AE.ren, lC_ren]; rfl)) ?_
    refine Wk.on ?_
    refine CallA.det [2] (.t [.c (.nils), .c (.nils)]) ([(1, .own [.int .i64 t]), (0, .ro (ints (prs ws))), (2, .own (lC n rows))]) (hr) (by first | rfl | exact congrArg AV.g (ints_ren _ _) | (simp [ints_ren, AV.ren, ABlk.ren, AC.ren, AE.ren, lC_ren, qq]; done)) rfl (by (repeat (first | exact trivial | refine ⟨⟨(by first | exact .inl (by decide) | exact .inr (by decide)), (by first | (refine Or.inl ?_; first | rfl | exact congrArg some (ints_ren _ _).symm | exact congrArg ABlk.own (ints_ren _ _).symm | exact congrArg some (tab64_ren _).symm | exact congrArg (ABlk.row _ _) (ints_ren _ _).symm | exact congrArg some (lC_ren _ _ _).symm | exact congrArg ABlk.own (lC_ren _ _ _).symm | exact congrArg ABlk.ro (lC_ren _ _ _).symm) | rfl | exact congrArg some (ints_ren _ _).symm | exact congrArg ABlk.own (ints_ren _ _).symm | exact congrArg some (tab64_ren _).symm | exact congrArg (ABlk.row _ _) (ints_ren _ _).symm | exact congrArg some (lC_ren _ _ _).symm | exact congrArg ABlk.own (lC_ren _ _ _).symm | exact congrArg ABlk.ro (lC_ren _ _ _).symm | exact Or.inr ⟨rfl, rfl⟩)⟩, ?_⟩))) (by first | rfl | exact congrArg AV.g (ints_ren _ _) | (simp [ints_ren, AV.ren, ABlk.ren, AC.ren, AE.ren, lC_ren, qq]; done)) (by first | rfl | (simp [behind, gone, lk, up, del, qq, ABlk.wr, GB, ints_ren, AV.ren, ABlk.ren, AC.ren, AE.ren, lC_ren]; done) | (simp [behind, gone, lk, up, del, qq, ABlk.wr, GB, ints_ren, AV.ren, ABlk.ren, AC.ren, AE.ren, lC_ren]; rfl)) ?_
    refine Wk.on ?_
    refine Tr.loop (md := true) (X := Unit) (st := fun _ => ⟨[(15, .c (.int .i64 0)), (16, .c (.bool false)), (37, .c (.int .i64 0)), (38, .c (.int .i64 0))], [], 3, 50, 1⟩) (inv := fun _ => True) (μ := fun _ => 0) (x0 := ()) (l := []) tok trivial ?_ ?_
    · exact Sub.nil ⟨rfl, rfl, (by simp [tab64_LL, pC, castL, lC, tV, tH, tK, qV]), rfl, (by simp [tupA, hpLt, tmLt, AV.lt, AE.lt, AC.lt, LL_cons, LL_nil, idOk, ABlk.lt, ints_LL, GB, tab64_LL, pC, castL, lC, tV, tH, tK, qV]), (by simp [tupA, hpLt, tmLt, AV.lt, AE.lt, AC.lt, LL_cons, LL_nil, idOk, ABlk.lt, ints_LL, GB, tab64_LL, pC, castL, lC, tV, tH, tK, qV])⟩ (by (repeat (first | exact trivial | refine ⟨trivial, ?_⟩ | refine ⟨rfl, ?_⟩))) (by (repeat (first | exact trivial | refine ⟨trivial, ?_⟩ | refine ⟨rfl, ?_⟩)))
    intro _ _
    refine Wk.on ?_
    exact AH.Fin.nil [] ⟨rfl, rfl, rfl⟩ (by first | exact trivial | (simp [tupA, hpLt, tmLt, AV.lt, AE.lt, AC.lt, LL_cons, LL_nil, idOk, ABlk.lt, ints_LL, GB, tab64_LL, pC, castL, lC, tV, tH, tK, qV]; done) | (simp [tupA, hpLt, tmLt, AV.lt, AE.lt, AC.lt, LL_cons, LL_nil, idOk, ABlk.lt, ints_LL, GB, tab64_LL, pC, castL, lC, tV, tH, tK, qV, rdn, wrn]; done)) trivial trivial rfl (by simp [GB])
  · skip
    have hr : FDet Tryd.prog 51 [.c (.ptr 0 0)] [(0, .ro (lC n rows))] 1 (.t [.c (.nils), .c (.row 1 (q0 :: Q0).length)]) [(1, .row 3 1 (ints (castL (q0 :: Q0))))] 2 := hr
    refine FSpec.of_body tok true Tryd.func43 rfl (by kernel_rfl) (by decide) (by simp [tupA, hpLt, tmLt, AV.lt, AE.lt, AC.lt, LL_cons, LL_nil, idOk, ABlk.lt, ints_LL, GB, tab64_LL, pC, castL, lC, tV, tH, tK, qV]) (by simp [tupA, hpLt, tmLt, AV.lt, AE.lt, AC.lt, LL_cons, LL_nil, idOk, ABlk.lt, ints_LL, GB, tab64_LL, pC, castL, lC, tV, tH, tK, qV]) (by show 4 ≤ _; decide) ?_
    refine Wk.on ?_
    refine CallA.det [0, 1] (.t [.c (.ptr 2 0), .c (.int .i64 0)]) ([(1, .own [.int .i64 t]), (0, .ro (ints (prs ws))), (2, .own (lC n rows))]) (ho) (by first | rfl | exact congrArg AV.g (ints_ren _ _) | (simp [ints_ren, AV.ren, ABlk.ren, AC.ren, AE.ren, lC_ren, qq]; done)) rfl (by (repeat (first | exact trivial | refine ⟨⟨(by first | exact .inl (by decide) | exact .inr (by decide)), (by first | (refine Or.inl ?_; first | rfl | exact congrArg some (ints_ren _ _).symm | exact congrArg ABlk.own (ints_ren _ _).symm | exact congrArg some (tab64_ren _).symm | exact congrArg (ABlk.row _ _) (ints_ren _ _).symm | exact congrArg some (lC_ren _ _ _).symm | exact congrArg ABlk.own (lC_ren _ _ _).symm | exact congrArg ABlk.ro (lC_ren _ _ _).symm) | rfl | exact congrArg some (ints_ren _ _).symm | exact congrArg ABlk.own (ints_ren _ _).symm | exact congrArg some (tab64_ren _).symm | exact congrArg (ABlk.row _ _) (ints_ren _ _).symm | exact congrArg some (lC_ren _ _ _).symm | exact congrArg ABlk.own (lC_ren _ _ _).symm | exact congrArg ABlk.ro (lC_ren _ _ _).symm | exact Or.inr ⟨rfl, rfl⟩)⟩, ?_⟩))) (by first | rfl | exact congrArg AV.g (ints_ren _ _) | (simp [ints_ren, AV.ren, ABlk.ren, AC.ren, AE.ren, lC_ren, qq]; done)) (by first | rfl | (simp [behind, gone, lk, up, del, qq, ABlk.wr, GB, ints_ren, AV.ren, ABlk.ren, AC.ren, AE.ren, lC_ren]; done) | (simp [behind, gone, lk, up, del, qq, ABlk.wr, GB, ints_ren, AV.ren, ABlk.ren, AC.ren, AE.ren, lC_ren]; rfl)) ?_
    refine Wk.on ?_
    refine CallA.det [2] (.t [.c (.nils), .c (.row 3 (q0 :: Q0).length)]) ([(1, .own [.int .i64 t]), (0, .ro (ints (prs ws))), (2, .own (lC n rows)), (3, .row 3 1 (ints (castL (q0 :: Q0))))]) (hr) (by first | rfl | exact congrArg AV.g (ints_ren _ _) | (simp [ints_ren, AV.ren, ABlk.ren, AC.ren, AE.ren, lC_ren, qq]; done)) rfl (by (repeat (first | exact trivial | refine ⟨⟨(by first | exact .inl (by decide) | exact .inr (by decide)), (by first | (refine Or.inl ?_; first | rfl | exact congrArg some (ints_ren _ _).symm | exact congrArg ABlk.own (ints_ren _ _).symm | exact congrArg some (tab64_ren _).symm | exact congrArg (ABlk.row _ _) (ints_ren _ _).symm | exact congrArg some (lC_ren _ _ _).symm | exact congrArg ABlk.own (lC_ren _ _ _).symm | exact congrArg ABlk.ro (lC_ren _ _ _).symm) | rfl | exact congrArg some (ints_ren _ _).symm | exact congrArg ABlk.own (ints_ren _ _).symm | exact congrArg some (tab64_ren _).symm | exact congrArg (ABlk.row _ _) (ints_ren _ _).symm | exact congrArg some (lC_ren _ _ _).symm | exact congrArg ABlk.own (lC_ren _ _ _).symm | exact congrArg ABlk.ro (lC_ren _ _ _).symm | exact Or.inr ⟨rfl, rfl⟩)⟩, ?_⟩))) (by first | rfl | exact congrArg AV.g (ints_ren _ _) | (simp [ints_ren, AV.ren, ABlk.ren, AC.ren, AE.ren, lC_ren, qq]; done)) (by first | rfl | (simp [behind, gone, lk, up, del, qq, ABlk.wr, GB, ints_ren, AV.ren, ABlk.ren, AC.ren, AE.ren, lC_ren]; done) | (simp [behind, gone, lk, up, del, qq, ABlk.wr, GB, ints_ren, AV.ren, ABlk.ren, AC.ren, AE.ren, lC_ren]; rfl)) ?_
    refine Wk.on ?_
    generalize hQQ : q0 :: Q0 = Q at *
    have hlen : (ints (castL Q)).length = Q.length := by rw [ints_len, castL_len]
    refine Tr.loop (md := true) (X := Nat) (st := fun k => ⟨[(3, .c (.int .i64 t)), (15, .c (.int .i64 0)), (16, .c (.bool false)), (36, .c (.row 3 Q.length)), (37, .c (.int .i64 Q.length)), (38, .c (.int .i64 k))], [(3, .row 3 1 (ints (castL Q)))], 4, 50, 1⟩) (inv := fun k => k ≤ Q.length ∧ ∀ j, j < k → ¬ pop (Q.getD j 0 &&& t) % 2 = 1) (μ := fun k => Q.length - k) (x0 := 0) (l := []) tok ⟨by omega, fun j hj => by omega⟩ ?_ ?_
    · exact Sub.nil ⟨rfl, rfl, (by simp [tab64_LL, pC, castL, lC, tV, tH, tK, qV]), rfl, (by simp [tupA, hpLt, tmLt, AV.lt, AE.lt, AC.lt, LL_cons, LL_nil, idOk, ABlk.lt, ints_LL, GB, tab64_LL, pC, castL, lC, tV, tH, tK, qV]), (by simp [tupA, hpLt, tmLt, AV.lt, AE.lt, AC.lt, LL_cons, LL_nil, idOk, ABlk.lt, ints_LL, GB, tab64_LL, pC, castL, lC, tV, tH, tK, qV])⟩ (by (repeat (first | exact trivial | refine ⟨trivial, ?_⟩ | refine ⟨rfl, ?_⟩))) (by (repeat (first | exact trivial | refine ⟨trivial, ?_⟩ | refine ⟨rfl, ?_⟩)))
    rintro k ⟨hk, hall⟩
    by_cases hkl : k < Q.length
    · obtain ⟨e, he⟩ : ∃ e, e = Q.getD k 0 := ⟨_, rfl⟩
      have heq : Q[k] = e := by rw [he, List.getD_eq_getElem?_getD, List.getElem?_eq_getElem hkl]; rfl
      have he2 : e < 65536 := by rw [← heq]; exact hQs _ (List.getElem_mem hkl)
      have hqt : e &&& t < 65536 := Nat.lt_of_le_of_lt Nat.and_le_left he2
      refine Wk.on ?_
      rw [decide_eq_true (show ((k : Nat) : Int) < ((Q.length : Nat) : Int) by omega)]
      refine Wk.on ?_
      rw [show Int.toNat ((k : Nat) : Int) * 1 = k by rw [Int.toNat_natCast]; omega, ints_getD, castL_getD, ← he]
      refine Wk.on ?_
      rw [show (Int.toNat ((e : Nat) : Int) &&& Int.toNat ((t : Nat) : Int) : Nat) = e &&& t by rw [Int.toNat_natCast, Int.toNat_natCast]]
      refine CallA.ro [] (.c (.bool (decide (pop (e &&& t) % 2 = 1)))) (odd_spec hqt) (by first | rfl | exact congrArg AV.g (ints_ren _ _) | (simp [ints_ren, AV.ren, ABlk.ren, AC.ren, AE.ren, lC_ren, qq]; done)) rfl (by (repeat (first | exact trivial | refine ⟨⟨(by first | exact .inl (by decide) | exact .inr (by decide)), (by first | (refine Or.inl ?_; first | rfl | exact congrArg some (ints_ren _ _).symm | exact congrArg ABlk.own (ints_ren _ _).symm | exact congrArg some (tab64_ren _).symm | exact congrArg (ABlk.row _ _) (ints_ren _ _).symm | exact congrArg some (lC_ren _ _ _).symm | exact congrArg ABlk.own (lC_ren _ _ _).symm | exact congrArg ABlk.ro (lC_ren _ _ _).symm) | rfl | exact congrArg some (ints_ren _ _).symm | exact congrArg ABlk.own (ints_ren _ _).symm | exact congrArg some (tab64_ren _).symm | exact congrArg (ABlk.row _ _) (ints_ren _ _).symm | exact congrArg some (lC_ren _ _ _).symm | exact congrArg ABlk.own (lC_ren _ _ _).symm | exact congrArg ABlk.ro (lC_ren _ _ _).symm | exact Or.inr ⟨rfl, rfl⟩)⟩, ?_⟩))) (by first | rfl | exact congrArg AV.g (ints_ren _ _) | (simp [ints_ren, AV.ren, ABlk.ren, AC.ren, AE.ren, lC_ren, qq]; done)) ?_
      refine Wk.on ?_
      by_cases hx : pop (e &&& t) % 2 = 1
      · rw [decide_eq_true hx]
        refine Wk.on ?_
        have hf : refQ Q t = some e := find_at hkl heq (decide_eq_true hx) fun j hj => decide_eq_false (hall j hj)
        exact AH.Fin.nil [] ⟨by rw [hf]; rfl, rfl, rfl⟩ (by first | exact trivial | (simp [tupA, hpLt, tmLt, AV.lt, AE.lt, AC.lt, LL_cons, LL_nil, idOk, ABlk.lt, ints_LL, GB, tab64_LL, pC, castL, lC, tV, tH, tK, qV]; done) | (simp [tupA, hpLt, tmLt, AV.lt, AE.lt, AC.lt, LL_cons, LL_nil, idOk, ABlk.lt, ints_LL, GB, tab64_LL, pC, castL, lC, tV, tH, tK, qV, rdn, wrn]; done)) trivial trivial rfl (by simp [GB])
      · rw [decide_eq_false hx]
        refine Wk.on ?_
        have hnx : ∀ j, j < k + 1 → ¬ pop (Q.getD j 0 &&& t) % 2 = 1 := fun j hj => by
          by_cases e1 : j = k
          · rw [e1, ← he]; exact hx
          · exact hall j (by omega)
        refine Again.mk (k + 1) (Sub.nil ⟨rfl, rfl, (by simp [tab64_LL, pC, castL, lC, tV, tH, tK, qV]), rfl, (by simp [tupA, hpLt, tmLt, AV.lt, AE.lt, AC.lt, LL_cons, LL_nil, idOk, ABlk.lt, ints_LL, GB, tab64_LL, pC, castL, lC, tV, tH, tK, qV]), (by simp [tupA, hpLt, tmLt, AV.lt, AE.lt, AC.lt, LL_cons, LL_nil, idOk, ABlk.lt, ints_LL, GB, tab64_LL, pC, castL, lC, tV, tH, tK, qV])⟩ (by (repeat (first | exact trivial | refine ⟨trivial, ?_⟩ | refine ⟨rfl, ?_⟩))) (by (repeat (first | exact trivial | refine ⟨trivial, ?_⟩ | refine ⟨rfl, ?_⟩)))) (⟨by omega, hnx⟩) (by omega)
    obtain rfl : k = Q.length := by omega
    refine Wk.on ?_
    rw [decide_eq_false (show ¬ ((Q.length : Nat) : Int) < ((Q.length : Nat) : Int) by omega)]
    refine Wk.on ?_
    intro _
    refine Wk.on ?_
    have hf : refQ Q t = none := find_no fun j hj => decide_eq_false (hall j hj)
    exact AH.Fin.nil [] ⟨by rw [hf]; rfl, rfl, rfl⟩ (by first | exact trivial | (simp [tupA, hpLt, tmLt, AV.lt, AE.lt, AC.lt, LL_cons, LL_nil, idOk, ABlk.lt, ints_LL, GB, tab64_LL, pC, castL, lC, tV, tH, tK, qV]; done) | (simp [tupA, hpLt, tmLt, AV.lt, AE.lt, AC.lt, LL_cons, LL_nil, idOk, ABlk.lt, ints_LL, GB, tab64_LL, pC, castL, lC, tV, tH, tK, qV, rdn, wrn]; done)) trivial trivial rfl (by simp [GB])
  · skip
    have hr : FDet Tryd.prog 51 [.c (.ptr 0 0)] [(0, .ro (lC n rows))] 1 (.t [.c (.row 1 (b0 :: B0).length), .c (.nils)]) [(1, .row 93 2 (ints (prs (b0 :: B0))))] 2 := hr
    refine FSpec.of_body tok true Tryd.func43 rfl (by kernel_rfl) (by decide) (by simp [tupA, hpLt, tmLt, AV.lt, AE.lt, AC.lt, LL_cons, LL_nil, idOk, ABlk.lt, ints_LL, GB, tab64_LL, pC, castL, lC, tV, tH, tK, qV]) (by simp [tupA, hpLt, tmLt, AV.lt, AE.lt, AC.lt, LL_cons, LL_nil, idOk, ABlk.lt, ints_LL, GB, tab64_LL, pC, castL, lC, tV, tH, tK, qV]) (by show 4 ≤ _; decide) ?_
    refine Wk.on ?_
    refine CallA.det [0, 1] (.t [.c (.ptr 2 0), .c (.int .i64 0)]) ([(1, .own [.int .i64 t]), (0, .ro (ints (prs ws))), (2, .own (lC n rows))]) (ho) (by first | rfl | exact congrArg AV.g (ints_ren _ _) | (simp [ints_ren, AV.ren, ABlk.ren, AC.ren, AE.ren, lC_ren, qq]; done)) rfl (by (repeat (first | exact trivial | refine ⟨⟨(by first | exact .inl (by decide) | exact .inr (by decide)), (by first | (refine Or.inl ?_; first | rfl | exact congrArg some (ints_ren _ _).symm | exact congrArg ABlk.own (ints_ren _ _).symm | exact congrArg some (tab64_ren _).symm | exact congrArg (ABlk.row _ _) (ints_ren _ _).symm | exact congrArg some (lC_ren _ _ _).symm | exact congrArg ABlk.own (lC_ren _ _ _).symm | exact congrArg ABlk.ro (lC_ren _ _ _).symm) | rfl | exact congrArg some (ints_ren _ _).symm | exact congrArg ABlk.own (ints_ren _ _).symm | exact congrArg some (tab64_ren _).symm | exact congrArg (ABlk.row _ _) (ints_ren _ _).symm | exact congrArg some (lC_ren _ _ _).symm | exact congrArg ABlk.own (lC_ren _ _ _).symm | exact congrArg ABlk.ro (lC_ren _ _ _).symm | exact Or.inr ⟨rfl, rfl⟩)⟩, ?_⟩))) (by first | rfl | exact congrArg AV.g (ints_ren _ _) | (simp [ints_ren, AV.ren, ABlk.ren, AC.ren, AE.ren, lC_ren, qq]; done)) (by first | rfl | (simp [behind, gone, lk, up, del, qq, ABlk.wr, GB, ints_ren, AV.ren, ABlk.ren, AC.ren, AE.ren, lC_ren]; done) | (simp [behind, gone, lk, up, del, qq, ABlk.wr, GB, ints_ren, AV.ren, ABlk.ren, AC.ren, AE.ren, lC_ren]; rfl)) ?_
    refine Wk.on ?_
    refine CallA.det [2] (.t [.c (.row 3 (b0 :: B0).length), .c (.nils)]) ([(1, .own [.int .i64 t]), (0, .ro (ints (prs ws))), (2, .own (lC n rows)), (3, .row 93 2 (ints (prs (b0 :: B0))))]) (hr) (by first | rfl | exact congrArg AV.g (ints_ren _ _) | (simp [ints_ren, AV.ren, ABlk.ren, AC.ren, AE.ren, lC_ren, qq]; done)) rfl (by (repeat (first | exact trivial | refine ⟨⟨(by first | exact .inl (by decide) | exact .inr (by decide)), (by first | (refine Or.inl ?_; first | rfl | exact congrArg some (ints_ren _ _).symm | exact congrArg ABlk.own (ints_ren _ _).symm | exact congrArg some (tab64_ren _).symm | exact congrArg (ABlk.row _ _) (ints_ren _ _).symm | exact congrArg some (lC_ren _ _ _).symm | exact congrArg ABlk.own (lC_ren _ _ _).symm | exact congrArg ABlk.ro (lC_ren _ _ _).symm) | rfl | exact congrArg some (ints_ren _ _).symm | exact congrArg ABlk.own (ints_ren _ _).symm | exact congrArg some (tab64_ren _).symm | exact congrArg (ABlk.row _ _) (ints_ren _ _).symm | exact congrArg some (lC_ren _ _ _).symm | exact congrArg ABlk.own (lC_ren _ _ _).symm | exact congrArg ABlk.ro (lC_ren _ _ _).symm | exact Or.inr ⟨rfl, rfl⟩)⟩, ?_⟩))) (by first | rfl | exact congrArg AV.g (ints_ren _ _) | (simp [ints_ren, AV.ren, ABlk.ren, AC.ren, AE.ren, lC_ren, qq]; done)) (by first | rfl | (simp [behind, gone, lk, up, del, qq, ABlk.wr, GB, ints_ren, AV.ren, ABlk.ren, AC.ren, AE.ren, lC_ren]; done) | (simp [behind, gone, lk, up, del, qq, ABlk.wr, GB, ints_ren, AV.ren, ABlk.ren, AC.ren, AE.ren, lC_ren]; rfl)) ?_
    refine Wk.on ?_
    refine Tr.loop (md := true) (X := Unit) (st := fun _ => ⟨[(15, .c (.int .i64 0)), (16, .c (.bool false)), (37, .c (.int .i64 0)), (38, .c (.int .i64 0))], [], 4, 50, 1⟩) (inv := fun _ => True) (μ := fun _ => 0) (x0 := ()) (l := []) tok trivial ?_ ?_
    · exact Sub.nil ⟨rfl, rfl, (by simp [tab64_LL, pC, castL, lC, tV, tH, tK, qV]), rfl, (by simp [tupA, hpLt, tmLt, AV.lt, AE.lt, AC.lt, LL_cons, LL_nil, idOk, ABlk.lt, ints_LL, GB, tab64_LL, pC, castL, lC, tV, tH, tK, qV]), (by simp [tupA, hpLt, tmLt, AV.lt, AE.lt, AC.lt, LL_cons, LL_nil, idOk, ABlk.lt, ints_LL, GB, tab64_LL, pC, castL, lC, tV, tH, tK, qV])⟩ (by (repeat (first | exact trivial | refine ⟨trivial, ?_⟩ | refine ⟨rfl, ?_⟩))) (by (repeat (first | exact trivial | refine ⟨trivial, ?_⟩ | refine ⟨rfl, ?_⟩)))
    intro _ _
    refine Wk.on ?_
    exact AH.Fin.nil [] ⟨rfl, rfl, rfl⟩ (by first | exact trivial | (simp [tupA, hpLt, tmLt, AV.lt, AE.lt, AC.lt, LL_cons, LL_nil, idOk, ABlk.lt, ints_LL, GB, tab64_LL, pC, castL, lC, tV, tH, tK, qV]; done) | (simp [tupA, hpLt, tmLt, AV.lt, AE.lt, AC.lt, LL_cons, LL_nil, idOk, ABlk.lt, ints_LL, GB, tab64_LL, pC, castL, lC, tV, tH, tK, qV, rdn, wrn]; done)) trivial trivial rfl (by simp [GB])
  · skip
    have hr : FDet Tryd.prog 51 [.c (.ptr 0 0)] [(0, .ro (lC n rows))] 1 (.t [.c (.row 1 (b0 :: B0).length), .c (.row 2 (q0 :: Q0).length)]) [(1, .row 93 2 (ints (prs (b0 :: B0)))), (2, .row 3 1 (ints (castL (q0 :: Q0))))] 3 := hr
    refine FSpec.of_body tok true Tryd.func43 rfl (by kernel_rfl) (by decide) (by simp [tupA, hpLt, tmLt, AV.lt, AE.lt, AC.lt, LL_cons, LL_nil, idOk, ABlk.lt, ints_LL, GB, tab64_LL, pC, castL, lC, tV, tH, tK, qV]) (by simp [tupA, hpLt, tmLt, AV.lt, AE.lt, AC.lt, LL_cons, LL_nil, idOk, ABlk.lt, ints_LL, GB, tab64_LL, pC, castL, lC, tV, tH, tK, qV]) (by show 4 ≤ _; decide) ?_
    refine Wk.on ?_
    refine CallA.det [0, 1] (.t [.c (.ptr 2 0), .c (.int .i64 0)]) ([(1, .own [.int .i64 t]), (0, .ro (ints (prs ws))), (2, .own (lC n rows))]) (ho) (by first | rfl | exact congrArg AV.g (ints_ren _ _) | (simp [ints_ren, AV.ren, ABlk.ren, AC.ren, AE.ren, lC_ren, qq]; done)) rfl (by (repeat (first | exact trivial | refine ⟨⟨(by first | exact .inl (by decide) | exact .inr (by decide)), (by first | (refine Or.inl ?_; first | rfl | exact congrArg some (ints_ren _ _).symm | exact congrArg ABlk.own (ints_ren _ _).symm | exact congrArg some (tab64_ren _).symm | exact congrArg (ABlk.row _ _) (ints_ren _ _).symm | exact congrArg some (lC_ren _ _ _).symm | exact congrArg ABlk.own (lC_ren _ _ _).symm | exact congrArg ABlk.ro (lC_ren _ _ _).symm) | rfl | exact congrArg some (ints_ren _ _).symm | exact congrArg ABlk.own (ints_ren _ _).symm | exact congrArg some (tab64_ren _).symm | exact congrArg (ABlk.row _ _) (ints_ren _ _).symm | exact congrArg some (lC_ren _ _ _).symm | exact congrArg ABlk.own (lC_ren _ _ _).symm | exact congrArg ABlk.ro (lC_ren _ _ _).symm | exact Or.inr ⟨rfl, rfl⟩)⟩, ?_⟩))) (by first | rfl | exact congrArg AV.g (ints_ren _ _) | (simp [ints_ren, AV.ren, ABlk.ren, AC.ren, AE.ren, lC_ren, qq]; done)) (by first | rfl | (simp [behind, gone, lk, up, del, qq, ABlk.wr, GB, ints_ren, AV.ren, ABlk.ren, AC.ren, AE.ren, lC_ren]; done) | (simp [behind, gone, lk, up, del, qq, ABlk.wr, GB, ints_ren, AV.ren, ABlk.ren, AC.ren, AE.ren, lC_ren]; rfl)) ?_
    refine Wk.on ?_
    refine CallA.det [2] (.t [.c (.row 3 (b0 :: B0).length), .c (.row 4 (q0 :: Q0).length)]) ([(1, .own [.int .i64 t]), (0, .ro (ints (prs ws))), (2, .own (lC n rows)), (4, .row 3 1 (ints (castL (q0 :: Q0)))), (3, .row 93 2 (ints (prs (b0 :: B0))))]) (hr) (by first | rfl | exact congrArg AV.g (ints_ren _ _) | (simp [ints_ren, AV.ren, ABlk.ren, AC.ren, AE.ren, lC_ren, qq]; done)) rfl (by (repeat (first | exact trivial | refine ⟨⟨(by first | exact .inl (by decide) | exact .inr (by decide)), (by first | (refine Or.inl ?_; first | rfl | exact congrArg some (ints_ren _ _).symm | exact congrArg ABlk.own (ints_ren _ _).symm | exact congrArg some (tab64_ren _).symm | exact congrArg (ABlk.row _ _) (ints_ren _ _).symm | exact congrArg some (lC_ren _ _ _).symm | exact congrArg ABlk.own (lC_ren _ _ _).symm | exact congrArg ABlk.ro (lC_ren _ _ _).symm) | rfl | exact congrArg some (ints_ren _ _).symm | exact congrArg ABlk.own (ints_ren _ _).symm | exact congrArg some (tab64_ren _).symm | exact congrArg (ABlk.row _ _) (ints_ren _ _).symm | exact congrArg some (lC_ren _ _ _).symm | exact congrArg ABlk.own (lC_ren _ _ _).symm | exact congrArg ABlk.ro (lC_ren _ _ _).symm | exact Or.inr ⟨rfl, rfl⟩)⟩, ?_⟩))) (by first | rfl | exact congrArg AV.g (ints_ren _ _) | (simp [ints_ren, AV.ren, ABlk.ren, AC.ren, AE.ren, lC_ren, qq]; done)) (by first | rfl | (simp [behind, gone, lk, up, del, qq, ABlk.wr, GB, ints_ren, AV.ren, ABlk.ren, AC.ren, AE.ren, lC_ren]; done) | (simp [behind, gone, lk, up, del, qq, ABlk.wr, GB, ints_ren, AV.ren, ABlk.ren, AC.ren, AE.ren, lC_ren]; rfl)) ?_
    refine Wk.on ?_
    generalize hQQ : q0 :: Q0 = Q at *
    have hlen : (ints (castL Q)).length = Q.length := by rw [ints_len, castL_len]
    refine Tr.loop (md := true) (X := Nat) (st := fun k => ⟨[(3, .c (.int .i64 t)), (15, .c (.int .i64 0)), (16, .c (.bool false)), (36, .c (.row 4 Q.length)), (37, .c (.int .i64 Q.length)), (38, .c (.int .i64 k))], [(4, .row 3 1 (ints (castL Q)))], 5, 50, 1⟩) (inv := fun k => k ≤ Q.length ∧ ∀ j, j < k → ¬ pop (Q.getD j 0 &&& t) % 2 = 1) (μ := fun k => Q.length - k) (x0 := 0) (l := []) tok ⟨by omega, fun j hj => by omega⟩ ?_ ?_
    · exact Sub.nil ⟨rfl, rfl, (by simp [tab64_LL, pC, castL, lC, tV, tH, tK, qV]), rfl, (by simp [tupA, hpLt, tmLt, AV.lt, AE.lt, AC.lt, LL_cons, LL_nil, idOk, ABlk.lt, ints_LL, GB, tab64_LL, pC, castL, lC, tV, tH, tK, qV]), (by simp [tupA, hpLt, tmLt, AV.lt, AE.lt, AC.lt, LL_cons, LL_nil, idOk, ABlk.lt, ints_LL, GB, tab64_LL, pC, castL, lC, tV, tH, tK, qV])⟩ (by (repeat (first | exact trivial | refine ⟨trivial, ?_⟩ | refine ⟨rfl, ?_⟩))) (by (repeat (first | exact trivial | refine ⟨trivial, ?_⟩ | refine ⟨rfl, ?_⟩)))
    rintro k ⟨hk, hall⟩
    by_cases hkl : k < Q.length
    · obtain ⟨e, he⟩ : ∃ e, e = Q.getD k 0 := ⟨_, rfl⟩
      have heq : Q[k] = e := by rw [he, List.getD_eq_getElem?_getD, List.getElem?_eq_getElem hkl]; rfl
      have he2 : e < 65536 := by rw [← heq]; exact hQs _ (List.getElem_mem hkl)
      have hqt : e &&& t < 65536 := Nat.lt_of_le_of_lt Nat.and_le_left he2
      refine Wk.on ?_
      rw [decide_eq_true (show ((k : Nat) : Int) < ((Q.length : Nat) : Int) by omega)]
      refine Wk.on ?_
      rw [show Int.toNat ((k : Nat) : Int) * 1 = k by rw [Int.toNat_natCast]; omega, ints_getD, castL_getD, ← he]
      refine Wk.on ?_
      rw [show (Int.toNat ((e : Nat) : Int) &&& Int.toNat ((t : Nat) : Int) : Nat) = e &&& t by rw [Int.toNat_natCast, Int.toNat_natCast]]
      refine CallA.ro [] (.c (.bool (decide (pop (e &&& t) % 2 = 1)))) (odd_spec hqt) (by first | rfl | exact congrArg AV.g (ints_ren _ _) | (simp [ints_ren, AV.ren, ABlk.ren, AC.ren, AE.ren, lC_ren, qq]; done)) rfl (by (repeat (first | exact trivial | refine ⟨⟨(by first | exact .inl (by decide) | exact .inr (by decide)), (by first | (refine Or.inl ?_; first | rfl | exact congrArg some (ints_ren _ _).symm | exact congrArg ABlk.own (ints_ren _ _).symm | exact congrArg some (tab64_ren _).symm | exact congrArg (ABlk.row _ _) (ints_ren _ _).symm | exact congrArg some (lC_ren _ _ _).symm | exact congrArg ABlk.own (lC_ren _ _ _).symm | exact congrArg ABlk.ro (lC_ren _ _ _).symm) | rfl | exact congrArg some (ints_ren _ _).symm | exact congrArg ABlk.own (ints_ren _ _).symm | exact congrArg some (tab64_ren _).symm | exact congrArg (ABlk.row _ _) (ints_ren _ _).symm | exact congrArg some (lC_ren _ _ _).symm | exact congrArg ABlk.own (lC_ren _ _ _).symm | exact congrArg ABlk.ro (lC_ren _ _ _).symm | exact Or.inr ⟨rfl, rfl⟩)⟩, ?_⟩))) (by first | rfl | exact congrArg AV.g (ints_ren _ _) | (simp [ints_ren, AV.ren, ABlk.ren, AC.ren, AE.ren, lC_ren, qq]; done)) ?_
      refine Wk.on ?_
      by_cases hx : pop (e &&& t) % 2 = 1
      · rw [decide_eq_true hx]
        refine Wk.on ?_
        have hf : refQ Q t = some e := find_at hkl heq (decide_eq_true hx) fun j hj => decide_eq_false (hall j hj)
        exact AH.Fin.nil [] ⟨by rw [hf]; rfl, rfl, rfl⟩ (by first | exact trivial | (simp [tupA, hpLt, tmLt, AV.lt, AE.lt, AC.lt, LL_cons, LL_nil, idOk, ABlk.lt, ints_LL, GB, tab64_LL, pC, castL, lC, tV, tH, tK, qV]; done) | (simp [tupA, hpLt, tmLt, AV.lt, AE.lt, AC.lt, LL_cons, LL_nil, idOk, ABlk.lt, ints_LL, GB, tab64_LL, pC, castL, lC, tV, tH, tK, qV, rdn, wrn]; done)) trivial trivial rfl (by simp [GB])
      · rw [decide_eq_false hx]
        refine Wk.on ?_
        have hnx : ∀ j, j < k + 1 → ¬ pop (Q.getD j 0 &&& t) % 2 = 1 := fun j hj => by
          by_cases e1 : j = k
          · rw [e1, ← he]; exact hx
          · exact hall j (by omega)
        refine Again.mk (k + 1) (Sub.nil ⟨rfl, rfl, (by simp [tab64_LL, pC, castL, lC, tV, tH, tK, qV]), rfl, (by simp [tupA, hpLt, tmLt, AV.lt, AE.lt, AC.lt, LL_cons, LL_nil, idOk, ABlk.lt, ints_LL, GB, tab64_LL, pC, castL, lC, tV, tH, tK, qV]), (by simp [tupA, hpLt, tmLt, AV.lt, AE.lt, AC.lt, LL_cons, LL_nil, idOk, ABlk.lt, ints_LL, GB, tab64_LL, pC, castL, lC, tV, tH, tK, qV])⟩ (by (repeat (first | exact trivial | refine ⟨trivial, ?_⟩ | refine ⟨rfl, ?_⟩))) (by (repeat (first | exact trivial | refine ⟨trivial, ?_⟩ | refine ⟨rfl, ?_⟩)))) (⟨by omega, hnx⟩) (by omega)
    obtain rfl : k = Q.length := by omega
    refine Wk.on ?_
    rw [decide_eq_false (show ¬ ((Q.length : Nat) : Int) < ((Q.length : Nat) : Int) by omega)]
    refine Wk.on ?_
    intro _
    refine Wk.on ?_
    have hf : refQ Q t = none := find_no fun j hj => decide_eq_false (hall j hj)
    exact AH.Fin.nil [] ⟨by rw [hf]; rfl, rfl, rfl⟩ (by first | exact trivial | (simp [tupA, hpLt, tmLt, AV.lt, AE.lt, AC.lt, LL_cons, LL_nil, idOk, ABlk.lt, ints_LL, GB, tab64_LL, pC, castL, lC, tV, tH, tK, qV]; done) | (simp [tupA, hpLt, tmLt, AV.lt, AE.lt, AC.lt, LL_cons, LL_nil, idOk, ABlk.lt, ints_LL, GB, tab64_LL, pC, castL, lC, tV, tH, tK, qV, rdn, wrn]; done)) trivial trivial rfl (by simp [GB])
theorem Quiet_spec {n : Nat} {ws : List (Nat × Nat)} (h : Gr n ws) (hn12 : n ≤ 12) (own : Bool) (hw : ws.length ≤ 1000) : FDet Tryd.prog 18 [.c (.int .i64 n), .c (.rs 0 0 ws.length), .c (.bool own)] [(0, .ro (ints (prs ws)))] 1 (qV (tidyD (qsR n (openR n ws own))).reverse) (tH (tidyD (qsR n (openR n ws own))).reverse) (tK (tidyD (qsR n (openR n ws own))).reverse) := by
  have hQl := (inv_all (openR n ws own) n (by rw [(openR_lm h own).len]; omega)).len
  have hl := openR_lm h own
  have hl17 : (lC n (openR n ws own)).length = 17 := by rw [lC, List.length_cons, ints_len, castL_len, hl.len]
  have hn := hl.n16
  have ho := open_rn h own hw
  obtain ⟨hS, hB, hQ, hQs⟩ := hl.small (Nat.le_refl n)
  have hr := reduced_spec hl
  simp only [bsR, qsR]
  generalize openR n ws own = rows at *
  generalize reducedP rows n = BQ at *
  obtain ⟨B, Q⟩ := BQ
  dsimp only at hQl hS hB hQ hQs hr ⊢
  rcases B with _ | ⟨b0, B0⟩ <;> rcases Q with _ | ⟨q0, Q0⟩
  · skip
    have hr : FDet Tryd.prog 51 [.c (.ptr 0 0)] [(0, .ro (lC n rows))] 1 (.t [.c (.nils), .c (.nils)]) [] 1 := hr
    refine FSpec.of_body tok true Tryd.func18 rfl (by kernel_rfl) (by decide) (by simp [tupA, hpLt, tmLt, AV.lt, AE.lt, AC.lt, LL_cons, LL_nil, idOk, ABlk.lt, ints_LL, GB, tab64_LL, pC, castL, lC, tV, tH, tK, qV]) (by simp [tupA, hpLt, tmLt, AV.lt, AE.lt, AC.lt, LL_cons, LL_nil, idOk, ABlk.lt, ints_LL, GB, tab64_LL, pC, castL, lC, tV, tH, tK, qV]) (by show 3 ≤ _; decide) ?_
    refine Wk.on ?_
    refine CallA.det [0] (.t [.c (.ptr 1 0), .c (.int .i64 0)]) ([(0, .ro (ints (prs ws))), (1, .own (lC n rows))]) (ho) (by first | rfl | exact congrArg AV.g (ints_ren _ _) | (simp [ints_ren, AV.ren, ABlk.ren, AC.ren, AE.ren, lC_ren, qq]; done)) rfl (by (repeat (first | exact trivial | refine ⟨⟨(by first | exact .inl (by decide) | exact .inr (by decide)), (by first | (refine Or.inl ?_; first | rfl | exact congrArg some (ints_ren _ _).symm | exact congrArg ABlk.own (ints_ren _ _).symm | exact congrArg some (tab64_ren _).symm | exact congrArg (ABlk.row _ _) (ints_ren _ _).symm | exact congrArg some (lC_ren _ _ _).symm | exact congrArg ABlk.own (lC_ren _ _ _).symm | exact congrArg ABlk.ro (lC_ren _ _ _).symm) | rfl | exact congrArg some (ints_ren _ _).symm | exact congrArg ABlk.own (ints_ren _ _).symm | exact congrArg some (tab64_ren _).symm | exact congrArg (ABlk.row _ _) (ints_ren _ _).symm | exact congrArg some (lC_ren _ _ _).symm | exact congrArg ABlk.own (lC_ren _ _ _).symm | exact congrArg ABlk.ro (lC_ren _ _ _).symm | exact Or.inr ⟨rfl, rfl⟩)⟩, ?_⟩))) (by first | rfl | exact congrArg AV.g (ints_ren _ _) | (simp [ints_ren, AV.ren, ABlk.ren, AC.ren, AE.ren, lC_ren, qq]; done)) (by first | rfl | (simp [behind, gone, lk, up, del, qq, ABlk.wr, GB, ints_ren, AV.ren, ABlk.ren, AC.ren, AE.ren, lC_ren]; done) | (simp [behind, gone, lk, up, del, qq, ABlk.wr, GB, ints_ren, AV.ren, ABlk.ren, AC.ren, AE.ren, lC_ren]; rfl)) ?_
    refine Wk.on ?_
    refine CallA.det [1] (.t [.c (.nils), .c (.nils)]) ([(0, .ro (ints (prs ws))), (1, .own (lC n rows))]) (hr) (by first | rfl | exact congrArg AV.g (ints_ren _ _) | (simp [ints_ren, AV.ren, ABlk.ren, AC.ren, AE.ren, lC_ren, qq]; done)) rfl (by (repeat (first | exact trivial | refine ⟨⟨(by first | exact .inl (by decide) | exact .inr (by decide)), (by first | (refine Or.inl ?_; first | rfl | exact congrArg some (ints_ren _ _).symm | exact congrArg ABlk.own (ints_ren _ _).symm | exact congrArg some (tab64_ren _).symm | exact congrArg (ABlk.row _ _) (ints_ren _ _).symm | exact congrArg some (lC_ren _ _ _).symm | exact congrArg ABlk.own (lC_ren _ _ _).symm | exact congrArg ABlk.ro (lC_ren _ _ _).symm) | rfl | exact congrArg some (ints_ren _ _).symm | exact congrArg ABlk.own (ints_ren _ _).symm | exact congrArg some (tab64_ren _).symm | exact congrArg (ABlk.row _ _) (ints_ren _ _).symm | exact congrArg some (lC_ren _ _ _).symm | exact congrArg ABlk.own (lC_ren _ _ _).symm | exact congrArg ABlk.ro (lC_ren _ _ _).symm | exact Or.inr ⟨rfl, rfl⟩)⟩, ?_⟩))) (by first | rfl | exact congrArg AV.g (ints_ren _ _) | (simp [ints_ren, AV.ren, ABlk.ren, AC.ren, AE.ren, lC_ren, qq]; done)) (by first | rfl | (simp [behind, gone, lk, up, del, qq, ABlk.wr, GB, ints_ren, AV.ren, ABlk.ren, AC.ren, AE.ren, lC_ren]; done) | (simp [behind, gone, lk, up, del, qq, ABlk.wr, GB, ints_ren, AV.ren, ABlk.ren, AC.ren, AE.ren, lC_ren]; rfl)) ?_
    refine Wk.on ?_
    refine CallA.ro [] (.c .nils) (tidied_nil) (by first | rfl | exact congrArg AV.g (ints_ren _ _) | (simp [ints_ren, AV.ren, ABlk.ren, AC.ren, AE.ren, lC_ren, qq]; done)) rfl (by (repeat (first | exact trivial | refine ⟨⟨(by first | exact .inl (by decide) | exact .inr (by decide)), (by first | (refine Or.inl ?_; first | rfl | exact congrArg some (ints_ren _ _).symm | exact congrArg ABlk.own (ints_ren _ _).symm | exact congrArg some (tab64_ren _).symm | exact congrArg (ABlk.row _ _) (ints_ren _ _).symm | exact congrArg some (lC_ren _ _ _).symm | exact congrArg ABlk.own (lC_ren _ _ _).symm | exact congrArg ABlk.ro (lC_ren _ _ _).symm) | rfl | exact congrArg some (ints_ren _ _).symm | exact congrArg ABlk.own (ints_ren _ _).symm | exact congrArg some (tab64_ren _).symm | exact congrArg (ABlk.row _ _) (ints_ren _ _).symm | exact congrArg some (lC_ren _ _ _).symm | exact congrArg ABlk.own (lC_ren _ _ _).symm | exact congrArg ABlk.ro (lC_ren _ _ _).symm | exact Or.inr ⟨rfl, rfl⟩)⟩, ?_⟩))) (by first | rfl | exact congrArg AV.g (ints_ren _ _) | (simp [ints_ren, AV.ren, ABlk.ren, AC.ren, AE.ren, lC_ren, qq]; done)) ?_
    refine Wk.on ?_
    exact AH.Fin.nil [] ⟨rfl, rfl, rfl⟩ (by first | exact trivial | (simp [tupA, hpLt, tmLt, AV.lt, AE.lt, AC.lt, LL_cons, LL_nil, idOk, ABlk.lt, ints_LL, GB, tab64_LL, pC, castL, lC, tV, tH, tK, qV]; done) | (simp [tupA, hpLt, tmLt, AV.lt, AE.lt, AC.lt, LL_cons, LL_nil, idOk, ABlk.lt, ints_LL, GB, tab64_LL, pC, castL, lC, tV, tH, tK, qV, rdn, wrn]; done)) trivial trivial rfl (by simp [GB])
  · skip
    have hr : FDet Tryd.prog 51 [.c (.ptr 0 0)] [(0, .ro (lC n rows))] 1 (.t [.c (.nils), .c (.row 1 (q0 :: Q0).length)]) [(1, .row 3 1 (ints (castL (q0 :: Q0))))] 2 := hr
    refine FSpec.of_body tok true Tryd.func18 rfl (by kernel_rfl) (by decide) (by simp [tupA, hpLt, tmLt, AV.lt, AE.lt, AC.lt, LL_cons, LL_nil, idOk, ABlk.lt, ints_LL, GB, tab64_LL, pC, castL, lC, tV, tH, tK, qV]) (by simp [tupA, hpLt, tmLt, AV.lt, AE.lt, AC.lt, LL_cons, LL_nil, idOk, ABlk.lt, ints_LL, GB, tab64_LL, pC, castL, lC, tV, tH, tK, qV]) (by show 3 ≤ _; decide) ?_
    refine Wk.on ?_
    refine CallA.det [0] (.t [.c (.ptr 1 0), .c (.int .i64 0)]) ([(0, .ro (ints (prs ws))), (1, .own (lC n rows))]) (ho) (by first | rfl | exact congrArg AV.g (ints_ren _ _) | (simp [ints_ren, AV.ren, ABlk.ren, AC.ren, AE.ren, lC_ren, qq]; done)) rfl (by (repeat (first | exact trivial | refine ⟨⟨(by first | exact .inl (by decide) | exact .inr (by decide)), (by first | (refine Or.inl ?_; first | rfl | exact congrArg some (ints_ren _ _).symm | exact congrArg ABlk.own (ints_ren _ _).symm | exact congrArg some (tab64_ren _).symm | exact congrArg (ABlk.row _ _) (ints_ren _ _).symm | exact congrArg some (lC_ren _ _ _).symm | exact congrArg ABlk.own (lC_ren _ _ _).symm | exact congrArg ABlk.ro (lC_ren _ _ _).symm) | rfl | exact congrArg some (ints_ren _ _).symm | exact congrArg ABlk.own (ints_ren _ _).symm | exact congrArg some (tab64_ren _).symm | exact congrArg (ABlk.row _ _) (ints_ren _ _).symm | exact congrArg some (lC_ren _ _ _).symm | exact congrArg ABlk.own (lC_ren _ _ _).symm | exact congrArg ABlk.ro (lC_ren _ _ _).symm | exact Or.inr ⟨rfl, rfl⟩)⟩, ?_⟩))) (by first | rfl | exact congrArg AV.g (ints_ren _ _) | (simp [ints_ren, AV.ren, ABlk.ren, AC.ren, AE.ren, lC_ren, qq]; done)) (by first | rfl | (simp [behind, gone, lk, up, del, qq, ABlk.wr, GB, ints_ren, AV.ren, ABlk.ren, AC.ren, AE.ren, lC_ren]; done) | (simp [behind, gone, lk, up, del, qq, ABlk.wr, GB, ints_ren, AV.ren, ABlk.ren, AC.ren, AE.ren, lC_ren]; rfl)) ?_
    refine Wk.on ?_
    refine CallA.det [1] (.t [.c (.nils), .c (.row 2 (q0 :: Q0).length)]) ([(0, .ro (ints (prs ws))), (1, .own (lC n rows)), (2, .row 3 1 (ints (castL (q0 :: Q0))))]) (hr) (by first | rfl | exact congrArg AV.g (ints_ren _ _) | (simp [ints_ren, AV.ren, ABlk.ren, AC.ren, AE.ren, lC_ren, qq]; done)) rfl (by (repeat (first | exact trivial | refine ⟨⟨(by first | exact .inl (by decide) | exact .inr (by decide)), (by first | (refine Or.inl ?_; first | rfl | exact congrArg some (ints_ren _ _).symm | exact congrArg ABlk.own (ints_ren _ _).symm | exact congrArg some (tab64_ren _).symm | exact congrArg (ABlk.row _ _) (ints_ren _ _).symm | exact congrArg some (lC_ren _ _ _).symm | exact congrArg ABlk.own (lC_ren _ _ _).symm | exact congrArg ABlk.ro (lC_ren _ _ _).symm) | rfl | exact congrArg some (ints_ren _ _).symm | exact congrArg ABlk.own (ints_ren _ _).symm | exact congrArg some (tab64_ren _).symm | exact congrArg (ABlk.row _ _) (ints_ren _ _).symm | exact congrArg some (lC_ren _ _ _).symm | exact congrArg ABlk.own (lC_ren _ _ _).symm | exact congrArg ABlk.ro (lC_ren _ _ _).symm | exact Or.inr ⟨rfl, rfl⟩)⟩, ?_⟩))) (by first | rfl | exact congrArg AV.g (ints_ren _ _) | (simp [ints_ren, AV.ren, ABlk.ren, AC.ren, AE.ren, lC_ren, qq]; done)) (by first | rfl | (simp [behind, gone, lk, up, del, qq, ABlk.wr, GB, ints_ren, AV.ren, ABlk.ren, AC.ren, AE.ren, lC_ren]; done) | (simp [behind, gone, lk, up, del, qq, ABlk.wr, GB, ints_ren, AV.ren, ABlk.ren, AC.ren, AE.ren, lC_ren]; rfl)) ?_
    refine Wk.on ?_
    have htd := tidied_row (q0 :: Q0) (by omega) hQs
    generalize (tidyD (q0 :: Q0)).reverse = D at *
    rcases D with _ | ⟨d0, D0⟩
    · have htd : FDet Tryd.prog 52 [.c (.row 0 (q0 :: Q0).length)] [(0, .row 3 1 (ints (castL (q0 :: Q0))))] 1 (.c .nils) [] 1 := htd
      refine CallA.det [2] (.c .nils) ([(0, .ro (ints (prs ws))), (1, .own (lC n rows))]) (htd) (by first | rfl | exact congrArg AV.g (ints_ren _ _) | (simp [ints_ren, AV.ren, ABlk.ren, AC.ren, AE.ren, lC_ren, qq]; done)) rfl (by (repeat (first | exact trivial | refine ⟨⟨(by first | exact .inl (by decide) | exact .inr (by decide)), (by first | (refine Or.inl ?_; first | rfl | exact congrArg some (ints_ren _ _).symm | exact congrArg ABlk.own (ints_ren _ _).symm | exact congrArg some (tab64_ren _).symm | exact congrArg (ABlk.row _ _) (ints_ren _ _).symm | exact congrArg some (lC_ren _ _ _).symm | exact congrArg ABlk.own (lC_ren _ _ _).symm | exact congrArg ABlk.ro (lC_ren _ _ _).symm) | rfl | exact congrArg some (ints_ren _ _).symm | exact congrArg ABlk.own (ints_ren _ _).symm | exact congrArg some (tab64_ren _).symm | exact congrArg (ABlk.row _ _) (ints_ren _ _).symm | exact congrArg some (lC_ren _ _ _).symm | exact congrArg ABlk.own (lC_ren _ _ _).symm | exact congrArg ABlk.ro (lC_ren _ _ _).symm | exact Or.inr ⟨rfl, rfl⟩)⟩, ?_⟩))) (by first | rfl | exact congrArg AV.g (ints_ren _ _) | (simp [ints_ren, AV.ren, ABlk.ren, AC.ren, AE.ren, lC_ren, qq]; done)) (by first | rfl | (simp [behind, gone, lk, up, del, qq, ABlk.wr, GB, ints_ren, AV.ren, ABlk.ren, AC.ren, AE.ren, lC_ren]; done) | (simp [behind, gone, lk, up, del, qq, ABlk.wr, GB, ints_ren, AV.ren, ABlk.ren, AC.ren, AE.ren, lC_ren]; rfl)) ?_
      refine Wk.on ?_
      exact AH.Fin.nil [] ⟨rfl, rfl, rfl⟩ (by first | exact trivial | (simp [tupA, hpLt, tmLt, AV.lt, AE.lt, AC.lt, LL_cons, LL_nil, idOk, ABlk.lt, ints_LL, GB, tab64_LL, pC, castL, lC, tV, tH, tK, qV]; done) | (simp [tupA, hpLt, tmLt, AV.lt, AE.lt, AC.lt, LL_cons, LL_nil, idOk, ABlk.lt, ints_LL, GB, tab64_LL, pC, castL, lC, tV, tH, tK, qV, rdn, wrn]; done)) trivial trivial rfl (by simp [GB])
    · have htd : FDet Tryd.prog 52 [.c (.row 0 (q0 :: Q0).length)] [(0, .row 3 1 (ints (castL (q0 :: Q0))))] 1 (.c (.row 1 (d0 :: D0).length)) [(1, .row 3 1 (ints (castL (d0 :: D0))))] 2 := htd
      refine CallA.det [2] (.c (.row 3 (d0 :: D0).length)) ([(0, .ro (ints (prs ws))), (1, .own (lC n rows)), (3, .row 3 1 (ints (castL (d0 :: D0))))]) (htd) (by first | rfl | exact congrArg AV.g (ints_ren _ _) | (simp [ints_ren, AV.ren, ABlk.ren, AC.ren, AE.ren, lC_ren, qq]; done)) rfl (by (repeat (first | exact trivial | refine ⟨⟨(by first | exact .inl (by decide) | exact .inr (by decide)), (by first | (refine Or.inl ?_; first | rfl | exact congrArg some (ints_ren _ _).symm | exact congrArg ABlk.own (ints_ren _ _).symm | exact congrArg some (tab64_ren _).symm | exact congrArg (ABlk.row _ _) (ints_ren _ _).symm | exact congrArg some (lC_ren _ _ _).symm | exact congrArg ABlk.own (lC_ren _ _ _).symm | exact congrArg ABlk.ro (lC_ren _ _ _).symm) | rfl | exact congrArg some (ints_ren _ _).symm | exact congrArg ABlk.own (ints_ren _ _).symm | exact congrArg some (tab64_ren _).symm | exact congrArg (ABlk.row _ _) (ints_ren _ _).symm | exact congrArg some (lC_ren _ _ _).symm | exact congrArg ABlk.own (lC_ren _ _ _).symm | exact congrArg ABlk.ro (lC_ren _ _ _).symm | exact Or.inr ⟨rfl, rfl⟩)⟩, ?_⟩))) (by first | rfl | exact congrArg AV.g (ints_ren _ _) | (simp [ints_ren, AV.ren, ABlk.ren, AC.ren, AE.ren, lC_ren, qq]; done)) (by first | rfl | (simp [behind, gone, lk, up, del, qq, ABlk.wr, GB, ints_ren, AV.ren, ABlk.ren, AC.ren, AE.ren, lC_ren]; done) | (simp [behind, gone, lk, up, del, qq, ABlk.wr, GB, ints_ren, AV.ren, ABlk.ren, AC.ren, AE.ren, lC_ren]; rfl)) ?_
      refine Wk.on ?_
      exact AH.Fin.new [3] _ _ ⟨rfl, rfl, rfl⟩ rfl ⟨by show some (ABlk.row 3 1 _) = some (ABlk.row 3 1 ((ints _).map _)); rw [ints_ren], trivial⟩ rfl (by simp [tupA, hpLt, tmLt, AV.lt, AE.lt, AC.lt, LL_cons, LL_nil, idOk, ABlk.lt, ints_LL, GB, tab64_LL, pC, castL, lC, tV, tH, tK, qV]) (by simp [tupA, hpLt, tmLt, AV.lt, AE.lt, AC.lt, LL_cons, LL_nil, idOk, ABlk.lt, ints_LL, GB, tab64_LL, pC, castL, lC, tV, tH, tK, qV])
  · skip
    have hr : FDet Tryd.prog 51 [.c (.ptr 0 0)] [(0, .ro (lC n rows))] 1 (.t [.c (.row 1 (b0 :: B0).length), .c (.nils)]) [(1, .row 93 2 (ints (prs (b0 :: B0))))] 2 := hr
    refine FSpec.of_body tok true Tryd.func18 rfl (by kernel_rfl) (by decide) (by simp [tupA, hpLt, tmLt, AV.lt, AE.lt, AC.lt, LL_cons, LL_nil, idOk, ABlk.lt, ints_LL, GB, tab64_LL, pC, castL, lC, tV, tH, tK, qV]) (by simp [tupA, hpLt, tmLt, AV.lt, AE.lt, AC.lt, LL_cons, LL_nil, idOk, ABlk.lt, ints_LL, GB, tab64_LL, pC, castL, lC, tV, tH, tK, qV]) (by show 3 ≤ _; decide) ?_
    refine Wk.on ?_
    refine CallA.det [0] (.t [.c (.ptr 1 0), .c (.int .i64 0)]) ([(0, .ro (ints (prs ws))), (1, .own (lC n rows))]) (ho) (by first | rfl | exact congrArg AV.g (ints_ren _ _) | (simp [ints_ren, AV.ren, ABlk.ren, AC.ren, AE.ren, lC_ren, qq]; done)) rfl (by (repeat (first | exact trivial | refine ⟨⟨(by first | exact .inl (by decide) | exact .inr (by decide)), (by first | (refine Or.inl ?_; first | rfl | exact congrArg some (ints_ren _ _).symm | exact congrArg ABlk.own (ints_ren _ _).symm | exact congrArg some (tab64_ren _).symm | exact congrArg (ABlk.row _ _) (ints_ren _ _).symm | exact congrArg some (lC_ren _ _ _).symm | exact congrArg ABlk.own (lC_ren _ _ _).symm | exact congrArg ABlk.ro (lC_ren _ _ _).symm) | rfl | exact congrArg some (ints_ren _ _).symm | exact congrArg ABlk.own (ints_ren _ _).symm | exact congrArg some (tab64_ren _).symm | exact congrArg (ABlk.row _ _) (ints_ren _ _).symm | exact congrArg some (lC_ren _ _ _).symm | exact congrArg ABlk.own (lC_ren _ _ _).symm | exact congrArg ABlk.ro (lC_ren _ _ _).symm | exact Or.inr ⟨rfl, rfl⟩)⟩, ?_⟩))) (by first | rfl | exact congrArg AV.g (ints_ren _ _) | (simp [ints_ren, AV.ren, ABlk.ren, AC.ren, AE.ren, lC_ren, qq]; done)) (by first | rfl | (simp [behind, gone, lk, up, del, qq, ABlk.wr, GB, ints_ren, AV.ren, ABlk.ren, AC.ren, AE.ren, lC_ren]; done) | (simp [behind, gone, lk, up, del, qq, ABlk.wr, GB, ints_ren, AV.ren, ABlk.ren, AC.ren, AE.ren, lC_ren]; rfl)) ?_
    refine Wk.on ?_
    refine CallA.det [1] (.t [.c (.row 2 (b0 :: B0).length), .c (.nils)]) ([(0, .ro (ints (prs ws))), (1, .own (lC n rows)), (2, .row 93 2 (ints (prs (b0 :: B0))))]) (hr) (by first | rfl | exact congrArg AV.g (ints_ren _ _) | (simp [ints_ren, AV.ren, ABlk.ren, AC.ren, AE.ren, lC_ren, qq]; done)) rfl (by (repeat (first | exact trivial | refine ⟨⟨(by first | exact .inl (by decide) | exact .inr (by decide)), (by first | (refine Or.inl ?_; first | rfl | exact congrArg some (ints_ren _ _).symm | exact congrArg ABlk.own (ints_ren _ _).symm | exact congrArg some (tab64_ren _).symm | exact congrArg (ABlk.row _ _) (ints_ren _ _).symm | exact congrArg some (lC_ren _ _ _).symm | exact congrArg ABlk.own (lC_ren _ _ _).symm | exact congrArg ABlk.ro (lC_ren _ _ _).symm) | rfl | exact congrArg some (ints_ren _ _).symm | exact congrArg ABlk.own (ints_ren _ _).symm | exact congrArg some (tab64_ren _).symm | exact congrArg (ABlk.row _ _) (ints_ren _ _).symm | exact congrArg some (lC_ren _ _ _).symm | exact congrArg ABlk.own (lC_ren _ _ _).symm | exact congrArg ABlk.ro (lC_ren _ _ _).symm | exact Or.inr ⟨rfl, rfl⟩)⟩, ?_⟩))) (by first | rfl | exact congrArg AV.g (ints_ren _ _) | (simp [ints_ren, AV.ren, ABlk.ren, AC.ren, AE.ren, lC_ren, qq]; done)) (by first | rfl | (simp [behind, gone, lk, up, del, qq, ABlk.wr, GB, ints_ren, AV.ren, ABlk.ren, AC.ren, AE.ren, lC_ren]; done) | (simp [behind, gone, lk, up, del, qq, ABlk.wr, GB, ints_ren, AV.ren, ABlk.ren, AC.ren, AE.ren, lC_ren]; rfl)) ?_
    refine Wk.on ?_
    refine CallA.ro [] (.c .nils) (tidied_nil) (by first | rfl | exact congrArg AV.g (ints_ren _ _) | (simp [ints_ren, AV.ren, ABlk.ren, AC.ren, AE.ren, lC_ren, qq]; done)) rfl (by (repeat (first | exact trivial | refine ⟨⟨(by first | exact .inl (by decide) | exact .inr (by decide)), (by first | (refine Or.inl ?_; first | rfl | exact congrArg some (ints_ren _ _).symm | exact congrArg ABlk.own (ints_ren _ _).symm | exact congrArg some (tab64_ren _).symm | exact congrArg (ABlk.row _ _) (ints_ren _ _).symm | exact congrArg some (lC_ren _ _ _).symm | exact congrArg ABlk.own (lC_ren _ _ _).symm | exact congrArg ABlk.ro (lC_ren _ _ _).symm) | rfl | exact congrArg some (ints_ren _ _).symm | exact congrArg ABlk.own (ints_ren _ _).symm | exact congrArg some (tab64_ren _).symm | exact congrArg (ABlk.row _ _) (ints_ren _ _).symm | exact congrArg some (lC_ren _ _ _).symm | exact congrArg ABlk.own (lC_ren _ _ _).symm | exact congrArg ABlk.ro (lC_ren _ _ _).symm | exact Or.inr ⟨rfl, rfl⟩)⟩, ?_⟩))) (by first | rfl | exact congrArg AV.g (ints_ren _ _) | (simp [ints_ren, AV.ren, ABlk.ren, AC.ren, AE.ren, lC_ren, qq]; done)) ?_
    refine Wk.on ?_
    exact AH.Fin.nil [] ⟨rfl, rfl, rfl⟩ (by first | exact trivial | (simp [tupA, hpLt, tmLt, AV.lt, AE.lt, AC.lt, LL_cons, LL_nil, idOk, ABlk.lt, ints_LL, GB, tab64_LL, pC, castL, lC, tV, tH, tK, qV]; done) | (simp [tupA, hpLt, tmLt, AV.lt, AE.lt, AC.lt, LL_cons, LL_nil, idOk, ABlk.lt, ints_LL, GB, tab64_LL, pC, castL, lC, tV, tH, tK, qV, rdn, wrn]; done)) trivial trivial rfl (by simp [GB])
  · skip
    have hr : FDet Tryd.prog 51 [.c (.ptr 0 0)] [(0, .ro (lC n rows))] 1 (.t [.c (.row 1 (b0 :: B0).length), .c (.row 2 (q0 :: Q0).length)]) [(1, .row 93 2 (ints (prs (b0 :: B0)))), (2, .row 3 1 (ints (castL (q0 :: Q0))))] 3 := hr
    refine FSpec.of_body tok true Tryd.func18 rfl (by kernel_rfl) (by decide) (by simp [tupA, hpLt, tmLt, AV.lt, AE.lt, AC.lt, LL_cons, LL_nil, idOk, ABlk.lt, ints_LL, GB, tab64_LL, pC, castL, lC, tV, tH, tK, qV]) (by simp [tupA, hpLt, tmLt, AV.lt, AE.lt, AC.lt, LL_cons, LL_nil, idOk, ABlk.lt, ints_LL, GB, tab64_LL, pC, castL, lC, tV, tH, tK, qV]) (by show 3 ≤ _; decide) ?_
    refine Wk.on ?_
    refine CallA.det [0] (.t [.c (.ptr 1 0), .c (.int .i64 0)]) ([(0, .ro (ints (prs ws))), (1, .own (lC n rows))]) (ho) (by first | rfl | exact congrArg AV.g (ints_ren _ _) | (simp [ints_ren, AV.ren, ABlk.ren, AC.ren, AE.ren, lC_ren, qq]; done)) rfl (by (repeat (first | exact trivial | refine ⟨⟨(by first | exact .inl (by decide) | exact .inr (by decide)), (by first | (refine Or.inl ?_; first | rfl | exact congrArg some (ints_ren _ _).symm | exact congrArg ABlk.own (ints_ren _ _).symm | exact congrArg some (tab64_ren _).symm | exact congrArg (ABlk.row _ _) (ints_ren _ _).symm | exact congrArg some (lC_ren _ _ _).symm | exact congrArg ABlk.own (lC_ren _ _ _).symm | exact congrArg ABlk.ro (lC_ren _ _ _).symm) | rfl | exact congrArg some (ints_ren _ _).symm | exact congrArg ABlk.own (ints_ren _ _).symm | exact congrArg some (tab64_ren _).symm | exact congrArg (ABlk.row _ _) (ints_ren _ _).symm | exact congrArg some (lC_ren _ _ _).symm | exact congrArg ABlk.own (lC_ren _ _ _).symm | exact congrArg ABlk.ro (lC_ren _ _ _).symm | exact Or.inr ⟨rfl, rfl⟩)⟩, ?_⟩))) (by first | rfl | exact congrArg AV.g (ints_ren _ _) | (simp [ints_ren, AV.ren, ABlk.ren, AC.ren, AE.ren, lC_ren, qq]; done)) (by first | rfl | (simp [behind, gone, lk, up, del, qq, ABlk.wr, GB, ints_ren, AV.ren, ABlk.ren, AC.ren, AE.ren, lC_ren]; done) | (simp [behind, gone, lk, up, del, qq, ABlk.wr, GB, ints_ren, AV.ren, ABlk.ren, AC.ren, AE.ren, lC_ren]; rfl)) ?_
    refine Wk.on ?_
    refine CallA.det [1] (.t [.c (.row 2 (b0 :: B0).length), .c (.row 3 (q0 :: Q0).length)]) ([(0, .ro (ints (prs ws))), (1, .own (lC n rows)), (3, .row 3 1 (ints (castL (q0 :: Q0)))), (2, .row 93 2 (ints (prs (b0 :: B0))))]) (hr) (by first | rfl | exact congrArg AV.g (ints_ren _ _) | (simp [ints_ren, AV.ren, ABlk.ren, AC.ren, AE.ren, lC_ren, qq]; done)) rfl (by (repeat (first | exact trivial | refine ⟨⟨(by first | exact .inl (by decide) | exact .inr (by decide)), (by first | (refine Or.inl ?_; first | rfl | exact congrArg some (ints_ren _ _).symm | exact congrArg ABlk.own (ints_ren _ _).symm | exact congrArg some (tab64_ren _).symm | exact congrArg (ABlk.row _ _) (ints_ren _ _).symm | exact congrArg some (lC_ren _ _ _).symm | exact congrArg ABlk.own (lC_ren _ _ _).symm | exact congrArg ABlk.ro (lC_ren _ _ _).symm) | rfl | exact congrArg some (ints_ren _ _).symm | exact congrArg ABlk.own (ints_ren _ _).symm | exact congrArg some (tab64_ren _).symm | exact congrArg (ABlk.row _ _) (ints_ren _ _).symm | exact congrArg some (lC_ren _ _ _).symm | exact congrArg ABlk.own (lC_ren _ _ _).symm | exact congrArg ABlk.ro (lC_ren _ _ _).symm | exact Or.inr ⟨rfl, rfl⟩)⟩, ?_⟩))) (by first | rfl | exact congrArg AV.g (ints_ren _ _) | (simp [ints_ren, AV.ren, ABlk.ren, AC.ren, AE.ren, lC_ren, qq]; done)) (by first | rfl | (simp [behind, gone, lk, up, del, qq, ABlk.wr, GB, ints_ren, AV.ren, ABlk.ren, AC.ren, AE.ren, lC_ren]; done) | (simp [behind, gone, lk, up, del, qq, ABlk.wr, GB, ints_ren, AV.ren, ABlk.ren, AC.ren, AE.ren, lC_ren]; rfl)) ?_
    refine Wk.on ?_
    have htd := tidied_row (q0 :: Q0) (by omega) hQs
    generalize (tidyD (q0 :: Q0)).reverse = D at *
    rcases D with _ | ⟨d0, D0⟩
    · have htd : FDet Tryd.prog 52 [.c (.row 0 (q0 :: Q0).length)] [(0, .row 3 1 (ints (castL (q0 :: Q0))))] 1 (.c .nils) [] 1 := htd
      refine CallA.det [3] (.c .nils) ([(0, .ro (ints (prs ws))), (1, .own (lC n rows)), (2, .row 93 2 (ints (prs (b0 :: B0))))]) (htd) (by first | rfl | exact congrArg AV.g (ints_ren _ _) | (simp [ints_ren, AV.ren, ABlk.ren, AC.ren, AE.ren, lC_ren, qq]; done)) rfl (by (repeat (first | exact trivial | refine ⟨⟨(by first | exact .inl (by decide) | exact .inr (by decide)), (by first | (refine Or.inl ?_; first | rfl | exact congrArg some (ints_ren _ _).symm | exact congrArg ABlk.own (ints_ren _ _).symm | exact congrArg some (tab64_ren _).symm | exact congrArg (ABlk.row _ _) (ints_ren _ _).symm | exact congrArg some (lC_ren _ _ _).symm | exact congrArg ABlk.own (lC_ren _ _ _).symm | exact congrArg ABlk.ro (lC_ren _ _ _).symm) | rfl | exact congrArg some (ints_ren _ _).symm | exact congrArg ABlk.own (ints_ren _ _).symm | exact congrArg some (tab64_ren _).symm | exact congrArg (ABlk.row _ _) (ints_ren _ _).symm | exact congrArg some (lC_ren _ _ _).symm | exact congrArg ABlk.own (lC_ren _ _ _).symm | exact congrArg ABlk.ro (lC_ren _ _ _).symm | exact Or.inr ⟨rfl, rfl⟩)⟩, ?_⟩))) (by first | rfl | exact congrArg AV.g (ints_ren _ _) | (simp [ints_ren, AV.ren, ABlk.ren, AC.ren, AE.ren, lC_ren, qq]; done)) (by first | rfl | (simp [behind, gone, lk, up, del, qq, ABlk.wr, GB, ints_ren, AV.ren, ABlk.ren, AC.ren, AE.ren, lC_ren]; done) | (simp [behind, gone, lk, up, del, qq, ABlk.wr, GB, ints_ren, AV.ren, ABlk.ren, AC.ren, AE.ren, lC_ren]; rfl)) ?_
      refine Wk.on ?_
      exact AH.Fin.nil [] ⟨rfl, rfl, rfl⟩ (by first | exact trivial | (simp [tupA, hpLt, tmLt, AV.lt, AE.lt, AC.lt, LL_cons, LL_nil, idOk, ABlk.lt, ints_LL, GB, tab64_LL, pC, castL, lC, tV, tH, tK, qV]; done) | (simp [tupA, hpLt, tmLt, AV.lt, AE.lt, AC.lt, LL_cons, LL_nil, idOk, ABlk.lt, ints_LL, GB, tab64_LL, pC, castL, lC, tV, tH, tK, qV, rdn, wrn]; done)) trivial trivial rfl (by simp [GB])
    · have htd : FDet Tryd.prog 52 [.c (.row 0 (q0 :: Q0).length)] [(0, .row 3 1 (ints (castL (q0 :: Q0))))] 1 (.c (.row 1 (d0 :: D0).length)) [(1, .row 3 1 (ints (castL (d0 :: D0))))] 2 := htd
      refine CallA.det [3] (.c (.row 4 (d0 :: D0).length)) ([(0, .ro (ints (prs ws))), (1, .own (lC n rows)), (2, .row 93 2 (ints (prs (b0 :: B0)))), (4, .row 3 1 (ints (castL (d0 :: D0))))]) (htd) (by first | rfl | exact congrArg AV.g (ints_ren _ _) | (simp [ints_ren, AV.ren, ABlk.ren, AC.ren, AE.ren, lC_ren, qq]; done)) rfl (by (repeat (first | exact trivial | refine ⟨⟨(by first | exact .inl (by decide) | exact .inr (by decide)), (by first | (refine Or.inl ?_; first | rfl | exact congrArg some (ints_ren _ _).symm | exact congrArg ABlk.own (ints_ren _ _).symm | exact congrArg some (tab64_ren _).symm | exact congrArg (ABlk.row _ _) (ints_ren _ _).symm | exact congrArg some (lC_ren _ _ _).symm | exact congrArg ABlk.own (lC_ren _ _ _).symm | exact congrArg ABlk.ro (lC_ren _ _ _).symm) | rfl | exact congrArg some (ints_ren _ _).symm | exact congrArg ABlk.own (ints_ren _ _).symm | exact congrArg some (tab64_ren _).symm | exact congrArg (ABlk.row _ _) (ints_ren _ _).symm | exact congrArg some (lC_ren _ _ _).symm | exact congrArg ABlk.own (lC_ren _ _ _).symm | exact congrArg ABlk.ro (lC_ren _ _ _).symm | exact Or.inr ⟨rfl, rfl⟩)⟩, ?_⟩))) (by first | rfl | exact congrArg AV.g (ints_ren _ _) | (simp [ints_ren, AV.ren, ABlk.ren, AC.ren, AE.ren, lC_ren, qq]; done)) (by first | rfl | (simp [behind, gone, lk, up, del, qq, ABlk.wr, GB, ints_ren, AV.ren, ABlk.ren, AC.ren, AE.ren, lC_ren]; done) | (simp [behind, gone, lk, up, del, qq, ABlk.wr, GB, ints_ren, AV.ren, ABlk.ren, AC.ren, AE.ren, lC_ren]; rfl)) ?_
      refine Wk.on ?_
      exact AH.Fin.new [4] _ _ ⟨rfl, rfl, rfl⟩ rfl ⟨by show some (ABlk.row 3 1 _) = some (ABlk.row 3 1 ((ints _).map _)); rw [ints_ren], trivial⟩ rfl (by simp [tupA, hpLt, tmLt, AV.lt, AE.lt, AC.lt, LL_cons, LL_nil, idOk, ABlk.lt, ints_LL, GB, tab64_LL, pC, castL, lC, tV, tH, tK, qV]) (by simp [tupA, hpLt, tmLt, AV.lt, AE.lt, AC.lt, LL_cons, LL_nil, idOk, ABlk.lt, ints_LL, GB, tab64_LL, pC, castL, lC, tV, tH, tK, qV])
end Go.Proofs.YtimknijehaamlaaDoor

/-
  Contracts: sums of polynomials.
-/
namespace Go.Proofs.YtimknijehaamlaaDoor
open Go Go.AH Go.Lin
set_option maxRecDepth 100000
set_option maxHeartbeats 1000000

def bls (L : List Bool) : List AC := L.map AC.bool
theorem bls_len (L : List Bool) : (bls L).length = L.length := by simp [bls]
theorem bls_ren (q : Nat → Nat) (L : List Bool) : (bls L).map (AC.ren q) = bls L := by
  rw [bls, List.map_map]; rfl
theorem bls_LL (n : Nat) (L : List Bool) : LL n (bls L) := fun x hx => by
  obtain ⟨b, _, rfl⟩ := List.mem_map.1 hx; trivial
theorem bls_getD (L : List Bool) (i : Nat) : (bls L).getD i (.bool false) = .bool (L.getD i false) := by
  rw [bls, List.getD_eq_getElem?_getD, List.getD_eq_getElem?_getD, List.getElem?_map]
  cases L[i]? <;> rfl
theorem bls_set (L : List Bool) (i : Nat) (b : Bool) : (bls L).set i (.bool b) = bls (L.set i b) := by
  simp only [bls, List.map_set]
theorem rep_bls (n : Nat) : rep n [.bool false] = bls (List.replicate n false) := by
  induction n with
  | zero => rfl
  | succ n ih => rw [rep, ih, List.replicate_succ]; rfl
theorem bls_app (A B : List Bool) : bls A ++ bls B = bls (A ++ B) := by simp [bls]
theorem bls_take (A : List Bool) (n : Nat) : (bls A).take n = bls (A.take n) := by simp [bls, List.map_take]
theorem bls_drop (A : List Bool) (n : Nat) : (bls A).drop n = bls (A.drop n) := by simp [bls, List.map_drop]
/-- a, laid out in n places. -/
def padB (n : Nat) (a : List Bool) : List Bool := a ++ List.replicate (n - a.length) false
def addF (s : Nat) (b : List Bool) (c : List Bool) (i : Nat) : List Bool := c.set (i + s) (c.getD (i + s) false != b.getD i false)
def addTo (a b : List Bool) (s k : Nat) : List Bool := (List.range k).foldl (addF s b) (padB (max a.length (b.length + s)) a)
def addB (a b : List Bool) (s : Nat) : List Bool := addTo a b s b.length
def trimN (c : List Bool) : Nat → Nat
  | 0 => 0
  | n + 1 => if c.getD n false then n + 1 else trimN c n
theorem trimN_le (c : List Bool) : ∀ n, trimN c n ≤ n
  | 0 => Nat.le_refl 0
  | n + 1 => by
    rw [trimN]
    split
    · exact Nat.le_refl _
    · exact Nat.le_succ_of_le (trimN_le c n)
theorem padB_len {n : Nat} {a : List Bool} (h : a.length ≤ n) : (padB n a).length = n := by simp [padB]; omega
theorem addTo_len (a b : List Bool) (s k : Nat) : (addTo a b s k).length = max a.length (b.length + s) := by
  induction k with
  | zero => exact padB_len (Nat.le_max_left _ _)
  | succ k ih => rw [addTo, List.range_succ, List.foldl_append, List.foldl_cons, List.foldl_nil, addF, List.length_set]; exact ih
theorem addTo_succ (a b : List Bool) (s k : Nat) : addTo a b s (k + 1) = addF s b (addTo a b s k) k := by
  rw [addTo, List.range_succ, List.foldl_append]; rfl
theorem max_cast (a b : Nat) : max ((a : Nat) : Int) ((b : Nat) : Int) = ((max a b : Nat) : Int) := by omega
theorem cells0 {A a b : List Bool} {n m s L : Nat} (hA : n ≤ A.length) (hL : L = max n (m + s)) (hb : b.length = m) (hal : a.length = n) (ha : a = A.take n) : (rep L [.bool false]).take 0 ++ ((bls A).drop 0).take (n * 1) ++ (rep L [.bool false]).drop (0 + n * 1) = bls (addTo (A.take n) b s 0) := by
  rw [rep_bls, List.take_zero, List.nil_append, List.drop_zero, Nat.mul_one, Nat.zero_add, bls_take, bls_drop, bls_app, addTo, List.range_zero, List.foldl_nil, padB, ← ha, hal, hb, ← hL, List.drop_replicate]
theorem sum_spec (A B : List Bool) (n m s : Nat) (hA : n ≤ A.length) (hB : m ≤ B.length) (hn : n ≤ 1000) (hm : m + s ≤ 1000) : FDet Tryd.prog 75 [.c (.rs 0 0 n), .c (.rs 1 0 m), .c (.int .i64 s)] [(0, .ro (bls A)), (1, .ro (bls B))] 2
    (.c (.sl 2 0 (trimN (addB (A.take n) (B.take m) s) (max n (m + s))) (some (trimN (addB (A.take n) (B.take m) s) (max n (m + s)))))) [(2, .own (bls (addB (A.take n) (B.take m) s)))] 3 := by
  have hAl : (A.take n).length = n := by simp; omega
  have hBl : (B.take m).length = m := by simp; omega
  obtain ⟨a, ha⟩ : ∃ a, a = A.take n := ⟨_, rfl⟩
  obtain ⟨b, hb⟩ : ∃ b, b = B.take m := ⟨_, rfl⟩
  rw [← ha, ← hb]
  rw [← ha] at hAl
  rw [← hb] at hBl
  obtain ⟨L, hL⟩ : ∃ L, L = max n (m + s) := ⟨_, rfl⟩
  have hL1 : L ≤ 1000 := by omega
  have hbA : (bls A).length = A.length := bls_len A
  have hbB : (bls B).length = B.length := bls_len B
  rw [← hL]
  refine FSpec.of_body tok true Tryd.func75 rfl (by kernel_rfl) (by decide) (by simp [tupA, hpLt, tmLt, AV.lt, AE.lt, AC.lt, LL_cons, LL_nil, idOk, ABlk.lt, ints_LL, GB, bls_LL]) (by simp [tupA, hpLt, tmLt, AV.lt, AE.lt, AC.lt, LL_cons, LL_nil, idOk, ABlk.lt, ints_LL, GB, bls_LL]) (by show 3 ≤ _; decide) ?_
  refine Wk.on ?_
  have hmx : max ((n : Nat) : Int) (((m : Nat) : Int) + ((s : Nat) : Int)) = ((L : Nat) : Int) := by omega
  rw [hmx]
  refine Wk.on ?_
  refine ⟨⟨Nat.le_of_ble_eq_true rfl, Nat.le_of_ble_eq_true rfl, rfl, by omega, rfl, by show (1 : Int) * (L : Int) ≤ _; omega, by omega⟩, ?_⟩
  rw [Int.toNat_natCast]
  refine Wk.on ?_
  rw [show min n L = n by omega]
  refine ⟨by show 0 + n * 1 ≤ _; omega, ?_⟩
  refine Wk.on ?_
  refine ⟨⟨rfl, by show 0 + n * 1 ≤ (rep L [.bool false]).length; rw [rep_bls, bls_len, List.length_replicate]; omega⟩, ?_⟩
  refine Wk.on ?_
  refine Tr.loop (md := true) (X := Nat) (st := fun k => ⟨[(2, .c (.int .i64 s)), (7, .c (.sl 2 0 L (some L))), (22, .c (.rs 1 0 m)), (23, .c (.int .i64 m)), (24, .c (.int .i64 k))], [(2, .own (bls (addTo a b s k))), (0, .ro (bls A)), (1, .ro (bls B))], 3, 61, 2⟩) (inv := fun k => k ≤ m) (μ := fun k => m - k) (x0 := 0) (l := []) tok (by omega) ?_ ?_
  · exact Sub.nil ⟨rfl, rfl, (by simp [bls_LL]), rfl, (by simp [tupA, hpLt, tmLt, AV.lt, AE.lt, AC.lt, LL_cons, LL_nil, idOk, ABlk.lt, ints_LL, GB, bls_LL]), (by simp [tupA, hpLt, tmLt, AV.lt, AE.lt, AC.lt, LL_cons, LL_nil, idOk, ABlk.lt, ints_LL, GB, bls_LL])⟩ (by (repeat (first | exact trivial | refine ⟨trivial, ?_⟩ | refine ⟨rfl, ?_⟩))) ⟨by show ABlk.own _ = ABlk.own _; exact congrArg ABlk.own (by rw [ha]; exact cells0 (by omega) hL hBl hAl ha), rfl, rfl, trivial⟩
  · intro k hk
    have hcl : (bls (addTo a b s k)).length = L := by rw [bls_len, addTo_len, hAl, hBl, hL]
    by_cases hkm : k < m
    · obtain ⟨v, hv⟩ : ∃ v, v = B.getD k false := ⟨_, rfl⟩
      have hbv : b.getD k false = v := by
        rw [hb, hv, List.getD_eq_getElem?_getD, List.getElem?_take, if_pos hkm, ← List.getD_eq_getElem?_getD]
      obtain ⟨u, hu⟩ : ∃ u, u = (addTo a b s k).getD (k + s) false := ⟨_, rfl⟩
      refine Wk.on ?_
      rw [decide_eq_true (show ((k : Nat) : Int) < ((m : Nat) : Int) by omega)]
      refine Wk.on ?_
      rw [show 0 + Int.toNat ((k : Nat) : Int) * 1 = k by rw [Int.toNat_natCast]; omega, bls_getD, bls_getD, ← hv, show 0 + Int.toNat ((k : Nat) + (s : Nat) : Int) * 1 = k + s by omega, ← hu]
      refine Wk.on ?_
      refine Again.mk (k + 1) (Sub.nil ⟨rfl, rfl, (by simp [bls_LL]), rfl, (by simp [tupA, hpLt, tmLt, AV.lt, AE.lt, AC.lt, LL_cons, LL_nil, idOk, ABlk.lt, ints_LL, GB, bls_LL]), (by simp [tupA, hpLt, tmLt, AV.lt, AE.lt, AC.lt, LL_cons, LL_nil, idOk, ABlk.lt, ints_LL, GB, bls_LL])⟩ (by (repeat (first | exact trivial | refine ⟨trivial, ?_⟩ | refine ⟨rfl, ?_⟩))) ⟨by show ABlk.own ((bls (addTo a b s k)).set (0 + Int.toNat ((k : Nat) + (s : Nat) : Int) * 1) (.bool (u != v))) = ABlk.own (bls (addTo a b s (k + 1))); rw [show 0 + Int.toNat ((k : Nat) + (s : Nat) : Int) * 1 = k + s by omega, bls_set, addTo_succ, addF, ← hu, hbv], rfl, rfl, trivial⟩) (by omega) (by omega)
    · obtain rfl : k = m := by omega
      obtain ⟨C, hC⟩ : ∃ C, C = addTo a b s k := ⟨_, rfl⟩
      have hCb : C = addB a b s := by rw [hC, addB, hBl]
      rw [← hCb]
      rw [← hC] at hcl ⊢
      refine Wk.on ?_
      rw [decide_eq_false (show ¬ ((k : Nat) : Int) < ((k : Nat) : Int) by omega)]
      refine Wk.on ?_
      intro _
      refine Wk.on ?_
      refine Tr.loop (md := true) (X := Nat) (st := fun d => ⟨[(7, .c (.sl 2 0 L (some L))), (10, .c (.int .i64 d))], [(2, .own (bls C)), (0, .ro (bls A)), (1, .ro (bls B))], 3, 61, 2⟩) (inv := fun d => d ≤ L ∧ trimN C d = trimN C L) (μ := fun d => d) (x0 := L) (l := []) tok ⟨by omega, rfl⟩ ?_ ?_
      · exact Sub.nil ⟨rfl, rfl, (by simp [bls_LL]), rfl, (by simp [tupA, hpLt, tmLt, AV.lt, AE.lt, AC.lt, LL_cons, LL_nil, idOk, ABlk.lt, ints_LL, GB, bls_LL]), (by simp [tupA, hpLt, tmLt, AV.lt, AE.lt, AC.lt, LL_cons, LL_nil, idOk, ABlk.lt, ints_LL, GB, bls_LL])⟩ (by (repeat (first | exact trivial | refine ⟨trivial, ?_⟩ | refine ⟨rfl, ?_⟩))) (by (repeat (first | exact trivial | refine ⟨trivial, ?_⟩ | refine ⟨rfl, ?_⟩)))
      · rintro d ⟨hd, htr⟩
        cases d with
        | zero =>
          refine Wk.on ?_
          exact AH.Fin.new [2] _ _ ⟨by rw [← htr] <;> rfl, rfl, rfl⟩ rfl ⟨by show some (ABlk.own (bls C)) = some (ABlk.own ((bls C).map _)); rw [bls_ren], trivial⟩ rfl (by simp [tupA, hpLt, tmLt, AV.lt, AE.lt, AC.lt, LL_cons, LL_nil, idOk, ABlk.lt, ints_LL, GB, bls_LL]) (by simp [tupA, hpLt, tmLt, AV.lt, AE.lt, AC.lt, LL_cons, LL_nil, idOk, ABlk.lt, ints_LL, GB, bls_LL])
        | succ d =>
          obtain ⟨u, hu⟩ : ∃ u, u = C.getD d false := ⟨_, rfl⟩
          rw [trimN, ← hu] at htr
          refine Wk.on ?_
          rw [decide_eq_true (show (0 : Int) < ((d + 1 : Nat) : Int) by omega)]
          refine Wk.on ?_
          rw [show ((d + 1 : Nat) : Int) - 1 = ((d : Nat) : Int) by omega, show 0 + Int.toNat ((d : Nat) : Int) * 1 = d by rw [Int.toNat_natCast]; omega, bls_getD, ← hu]
          cases u
          · rw [if_neg (by simp)] at htr
            refine Wk.on ?_
            rw [show ((d + 1 : Nat) : Int) - 1 = ((d : Nat) : Int) by omega]
            refine Again.mk (d) (Sub.nil ⟨rfl, rfl, (by simp [bls_LL]), rfl, (by simp [tupA, hpLt, tmLt, AV.lt, AE.lt, AC.lt, LL_cons, LL_nil, idOk, ABlk.lt, ints_LL, GB, bls_LL]), (by simp [tupA, hpLt, tmLt, AV.lt, AE.lt, AC.lt, LL_cons, LL_nil, idOk, ABlk.lt, ints_LL, GB, bls_LL])⟩ (by (repeat (first | exact trivial | refine ⟨trivial, ?_⟩ | refine ⟨rfl, ?_⟩))) (by (repeat (first | exact trivial | refine ⟨trivial, ?_⟩ | refine ⟨rfl, ?_⟩)))) (⟨by omega, htr⟩) (by omega)
          · rw [if_pos rfl] at htr
            refine Wk.on ?_
            refine ⟨⟨Int.le_refl 0, by show (0 : Int) ≤ _; omega, by omega, by omega, .inr (by omega)⟩, ?_⟩
            refine Wk.on ?_
            exact AH.Fin.new [2] _ _ ⟨by rw [← htr] <;> rfl, rfl, rfl⟩ rfl ⟨by show some (ABlk.own (bls C)) = some (ABlk.own ((bls C).map _)); rw [bls_ren], trivial⟩ rfl (by simp [tupA, hpLt, tmLt, AV.lt, AE.lt, AC.lt, LL_cons, LL_nil, idOk, ABlk.lt, ints_LL, GB, bls_LL]) (by simp [tupA, hpLt, tmLt, AV.lt, AE.lt, AC.lt, LL_cons, LL_nil, idOk, ABlk.lt, ints_LL, GB, bls_LL])
end Go.Proofs.YtimknijehaamlaaDoor

/-
  Contracts: the polynomials of paths.
-/
namespace Go.Proofs.YtimknijehaamlaaDoor
open Go Go.AH Go.Lin
set_option maxRecDepth 100000
set_option maxHeartbeats 1000000

/-- A polynomial as it lies: its cells, how many count. -/
abbrev PC := List Bool × Nat
def sumQ (a b : PC) (s : Nat) : PC := (addB (a.1.take a.2) (b.1.take b.2) s, trimN (addB (a.1.take a.2) (b.1.take b.2) s) (max a.2 (b.2 + s)))
def pathQ (own : Bool) : Nat → PC × PC
  | 0 => (([], 0), ([true], 1))
  | i + 1 => ((pathQ own i).2, if own then sumQ (sumQ (pathQ own i).1 (pathQ own i).2 1) (pathQ own i).2 0 else sumQ (pathQ own i).1 (pathQ own i).2 1)
def pathC (n : Nat) (own : Bool) : PC := (pathQ own (n - 1)).2
structure POk (p : PC) (k : Nat) : Prop where
  le : p.2 ≤ p.1.length
  k : p.2 ≤ k
theorem sumQ_ok {a b : PC} {s k m : Nat} (ha : POk a k) (hb : POk b m) : POk (sumQ a b s) (max k (m + s)) := by
  have h1 := ha.le
  have h2 := hb.le
  have h3 := ha.k
  have h4 := hb.k
  have e1 : (a.1.take a.2).length = a.2 := by simp; omega
  have e2 : (b.1.take b.2).length = b.2 := by simp; omega
  have h5 := trimN_le (addB (a.1.take a.2) (b.1.take b.2) s) (max a.2 (b.2 + s))
  have h6 := addTo_len (a.1.take a.2) (b.1.take b.2) s (b.1.take b.2).length
  rw [e1] at h6
  have h7 : (b.1.take b.2).length + s = b.2 + s := by omega
  rw [h7] at h6
  refine ⟨?_, ?_⟩
  · show trimN _ _ ≤ (addTo _ _ _ _).length
    rw [h6]; exact h5
  · show trimN _ _ ≤ _
    omega
theorem POk.mono {p : PC} {k m : Nat} (h : POk p k) (hk : k ≤ m) : POk p m := ⟨h.le, Nat.le_trans h.k hk⟩
theorem pathQ_ok (own : Bool) (i : Nat) : POk (pathQ own i).1 i ∧ POk (pathQ own i).2 (i + 1) := by
  induction i with
  | zero => exact ⟨⟨Nat.le_refl _, Nat.le_refl _⟩, ⟨Nat.le_refl _, Nat.le_refl _⟩⟩
  | succ i ih =>
    refine ⟨ih.2, ?_⟩
    have h1 := (sumQ_ok (s := 1) ih.1 ih.2).mono (m := i + 2) (by omega)
    rw [pathQ]
    split
    · exact (sumQ_ok (s := 0) h1 ih.2).mono (by omega)
    · exact h1
theorem sumQ_spec {a b : PC} {k m s : Nat} (ha : POk a k) (hb : POk b m) (hk : k ≤ 1000) (hm : m + s ≤ 1000) : FDet Tryd.prog 75 [.c (.rs 0 0 a.2), .c (.rs 1 0 b.2), .c (.int .i64 s)] [(0, .ro (bls a.1)), (1, .ro (bls b.1))] 2
    (.c (.sl 2 0 (sumQ a b s).2 (some (sumQ a b s).2))) [(2, .own (bls (sumQ a b s).1))] 3 :=
  sum_spec a.1 b.1 a.2 b.2 s ha.le hb.le (by have := ha.k; omega) (by have := hb.k; omega)
theorem sumQ_sl {a b : PC} {k m s : Nat} (ha : POk a k) (hb : POk b m) (hk : k ≤ 1000) (hm : m + s ≤ 1000) : FDet Tryd.prog 75 [.c (.sl 0 0 a.2 (some a.2)), .c (.rs 1 0 b.2), .c (.int .i64 s)] [(0, .ro (bls a.1)), (1, .ro (bls b.1))] 2
    (.c (.sl 2 0 (sumQ a b s).2 (some (sumQ a b s).2))) [(2, .own (bls (sumQ a b s).1))] 3 :=
  FDet.wk (sumQ_spec ha hb hk hm) ⟨⟨rfl, rfl, rfl⟩, rfl, rfl, trivial⟩ ⟨.inl rfl, .inl rfl, trivial⟩
theorem path_spec {n : Nat} (hn : 1 ≤ n) (hn2 : n ≤ 200) (own : Bool) : FDet Tryd.prog 55 [.c (.int .i64 n), .c (.bool own)] [(100001, .ro tab64)] 0 (.c (.rs 0 0 (pathC n own).2)) [(0, .own (bls (pathC n own).1))] 1 := by
  refine FSpec.of_body tok true Tryd.func55 rfl (by kernel_rfl) (by decide) (by simp [tupA, hpLt, tmLt, AV.lt, AE.lt, AC.lt, LL_cons, LL_nil, idOk, ABlk.lt, ints_LL, GB, bls_LL, tab64_LL]) (by simp [tupA, hpLt, tmLt, AV.lt, AE.lt, AC.lt, LL_cons, LL_nil, idOk, ABlk.lt, ints_LL, GB, bls_LL, tab64_LL]) (by show 2 ≤ _; decide) ?_
  refine Wk.on ?_
  rw [decide_eq_false (show ¬ ((n : Nat) : Int) = 0 by omega)]
  refine Wk.on ?_
  rw [show ((n : Nat) : Int) - 1 = ((n - 1 : Nat) : Int) by omega]
  refine Tr.loopU (md := true) (X := Nat) (fun i => ⟨[(1, .c (.bool own)), (5, .c (.rs 1 0 (pathQ own i).1.2)), (6, .c (.rs 2 0 (pathQ own i).2.2)), (12, .c (.int .i64 (n - 1 : Nat))), (13, .c (.int .i64 i))], [(1, .ro (bls (pathQ own i).1.1)), (2, .own (bls (pathQ own i).2.1))], 3, 26, 0⟩) (fun i => i ≤ n - 1) (fun i => n - 1 - i) 0 tok (by omega) (Under.wk [(1, 100001), (2, 0)] ⟨rfl, rfl, Nat.le_of_ble_eq_true rfl, Nat.le_of_ble_eq_true rfl⟩ rfl ⟨.inl rfl, .inr rfl, .inr ⟨rfl, rfl, rfl⟩, .inl rfl, .inl rfl, trivial⟩ ⟨.inr (.inr ⟨rfl, rfl⟩), .inr (.inl (.inl rfl)), trivial⟩ rfl (by simp [tupA, hpLt, tmLt, AV.lt, AE.lt, AC.lt, LL_cons, LL_nil, idOk, ABlk.lt, ints_LL, GB, bls_LL, tab64_LL]) (by simp [tupA, hpLt, tmLt, AV.lt, AE.lt, AC.lt, LL_cons, LL_nil, idOk, ABlk.lt, ints_LL, GB, bls_LL, tab64_LL])) ?_
  intro i hi
  obtain ⟨hp, hq⟩ := pathQ_ok own i
  have hsu : pathQ own (i + 1) = ((pathQ own i).2, if own then sumQ (sumQ (pathQ own i).1 (pathQ own i).2 1) (pathQ own i).2 0 else sumQ (pathQ own i).1 (pathQ own i).2 1) := rfl
  by_cases hin : i < n - 1
  · generalize pathQ own i = PQ at *
    obtain ⟨p, q⟩ := PQ
    dsimp only at hp hq hsu
    have h1 := (sumQ_ok (s := 1) hp hq).mono (m := i + 2) (by omega)
    refine Wk.on ?_
    rw [decide_eq_true (show ((i : Nat) : Int) < ((n - 1 : Nat) : Int) by omega)]
    refine Wk.on ?_
    refine CallA.det [1, 2] (.c (.sl 3 0 (sumQ p q 1).2 (some (sumQ p q 1).2))) ([(1, .ro (bls p.1)), (2, .own (bls q.1)), (3, .own (bls (sumQ p q 1).1))]) (sumQ_spec (s := 1) hp hq (by omega) (by omega)) (by first | rfl | exact congrArg AV.g (ints_ren _ _) | (simp [ints_ren, AV.ren, ABlk.ren, AC.ren, AE.ren, bls_ren, qq]; done)) rfl (by (repeat (first | exact trivial | refine ⟨⟨(by first | exact .inl (by decide) | exact .inr (by decide)), (by first | (refine Or.inl ?_; first | rfl | exact congrArg some (ints_ren _ _).symm | exact congrArg ABlk.own (ints_ren _ _).symm | exact congrArg some (tab64_ren _).symm | exact congrArg some (bls_ren _ _).symm | exact congrArg ABlk.own (bls_ren _ _).symm | exact congrArg ABlk.ro (bls_ren _ _).symm) | rfl | exact congrArg some (ints_ren _ _).symm | exact congrArg ABlk.own (ints_ren _ _).symm | exact congrArg some (tab64_ren _).symm | exact congrArg some (bls_ren _ _).symm | exact congrArg ABlk.own (bls_ren _ _).symm | exact congrArg ABlk.ro (bls_ren _ _).symm | exact Or.inr ⟨rfl, rfl⟩)⟩, ?_⟩))) (by first | rfl | exact congrArg AV.g (ints_ren _ _) | (simp [ints_ren, AV.ren, ABlk.ren, AC.ren, AE.ren, bls_ren, qq]; done)) (by first | rfl | (simp [behind, gone, lk, up, del, qq, ABlk.wr, GB, ints_ren, AV.ren, ABlk.ren, AC.ren, AE.ren, bls_ren]; done) | (simp [behind, gone, lk, up, del, qq, ABlk.wr, GB, ints_ren, AV.ren, ABlk.ren, AC.ren, AE.ren, bls_ren]; rfl)) ?_
    refine Wk.on ?_
    cases own
    · refine Wk.on ?_
      exact Again.under (i + 1) (Under.wk [(1, 2), (2, 3)] ⟨rfl, rfl, Nat.le_of_ble_eq_true rfl, Nat.le_of_ble_eq_true rfl⟩ rfl (by rw [hsu]; exact ⟨.inl rfl, .inl rfl, .inr ⟨rfl, rfl, rfl⟩, .inl rfl, .inl rfl, trivial⟩) (by rw [hsu]; exact ⟨.inr (.inl (.inl (bls_ren _ _).symm)), .inr (.inl (.inl (bls_ren _ _).symm)), trivial⟩) rfl (by simp [tupA, hpLt, tmLt, AV.lt, AE.lt, AC.lt, LL_cons, LL_nil, idOk, ABlk.lt, ints_LL, GB, bls_LL, tab64_LL]) (by simp [tupA, hpLt, tmLt, AV.lt, AE.lt, AC.lt, LL_cons, LL_nil, idOk, ABlk.lt, ints_LL, GB, bls_LL, tab64_LL])) (by omega) (by omega)
    · refine Wk.on ?_
      refine CallA.det [3, 2] (.c (.sl 4 0 (sumQ (sumQ p q 1) q 0).2 (some (sumQ (sumQ p q 1) q 0).2))) ([(1, .ro (bls p.1)), (2, .own (bls q.1)), (3, .own (bls (sumQ p q 1).1)), (4, .own (bls (sumQ (sumQ p q 1) q 0).1))]) (sumQ_sl (s := 0) h1 hq (by omega) (by omega)) (by first | rfl | exact congrArg AV.g (ints_ren _ _) | (simp [ints_ren, AV.ren, ABlk.ren, AC.ren, AE.ren, bls_ren, qq]; done)) rfl (by (repeat (first | exact trivial | refine ⟨⟨(by first | exact .inl (by decide) | exact .inr (by decide)), (by first | (refine Or.inl ?_; first | rfl | exact congrArg some (ints_ren _ _).symm | exact congrArg ABlk.own (ints_ren _ _).symm | exact congrArg some (tab64_ren _).symm | exact congrArg some (bls_ren _ _).symm | exact congrArg ABlk.own (bls_ren _ _).symm | exact congrArg ABlk.ro (bls_ren _ _).symm) | rfl | exact congrArg some (ints_ren _ _).symm | exact congrArg ABlk.own (ints_ren _ _).symm | exact congrArg some (tab64_ren _).symm | exact congrArg some (bls_ren _ _).symm | exact congrArg ABlk.own (bls_ren _ _).symm | exact congrArg ABlk.ro (bls_ren _ _).symm | exact Or.inr ⟨rfl, rfl⟩)⟩, ?_⟩))) (by first | rfl | exact congrArg AV.g (ints_ren _ _) | (simp [ints_ren, AV.ren, ABlk.ren, AC.ren, AE.ren, bls_ren, qq]; done)) (by first | rfl | (simp [behind, gone, lk, up, del, qq, ABlk.wr, GB, ints_ren, AV.ren, ABlk.ren, AC.ren, AE.ren, bls_ren]; done) | (simp [behind, gone, lk, up, del, qq, ABlk.wr, GB, ints_ren, AV.ren, ABlk.ren, AC.ren, AE.ren, bls_ren]; rfl)) ?_
      refine Wk.on ?_
      exact Again.under (i + 1) (Under.wk [(1, 2), (2, 4)] ⟨rfl, rfl, Nat.le_of_ble_eq_true rfl, Nat.le_of_ble_eq_true rfl⟩ rfl (by rw [hsu]; exact ⟨.inl rfl, .inl rfl, .inr ⟨rfl, rfl, rfl⟩, .inl rfl, .inl rfl, trivial⟩) (by rw [hsu]; exact ⟨.inr (.inl (.inl (bls_ren _ _).symm)), .inr (.inl (.inl (bls_ren _ _).symm)), trivial⟩) rfl (by simp [tupA, hpLt, tmLt, AV.lt, AE.lt, AC.lt, LL_cons, LL_nil, idOk, ABlk.lt, ints_LL, GB, bls_LL, tab64_LL]) (by simp [tupA, hpLt, tmLt, AV.lt, AE.lt, AC.lt, LL_cons, LL_nil, idOk, ABlk.lt, ints_LL, GB, bls_LL, tab64_LL])) (by omega) (by omega)
  · obtain rfl : i = n - 1 := by omega
    rw [show (pathC n own) = (pathQ own (n - 1)).2 from rfl]
    generalize pathQ own (n - 1) = PQ at *
    obtain ⟨p, q⟩ := PQ
    refine Wk.on ?_
    rw [decide_eq_false (show ¬ ((n - 1 : Nat) : Int) < ((n - 1 : Nat) : Int) by omega)]
    refine Wk.on ?_
    intro _
    refine Wk.on ?_
    exact AH.Fin.new [2] _ _ ⟨rfl, rfl, rfl⟩ rfl ⟨by show some (ABlk.own (bls q.1)) = some (ABlk.own ((bls q.1).map _)); rw [bls_ren], trivial⟩ rfl (by simp [tupA, hpLt, tmLt, AV.lt, AE.lt, AC.lt, LL_cons, LL_nil, idOk, ABlk.lt, ints_LL, GB, bls_LL, tab64_LL]) (by simp [tupA, hpLt, tmLt, AV.lt, AE.lt, AC.lt, LL_cons, LL_nil, idOk, ABlk.lt, ints_LL, GB, bls_LL, tab64_LL])
end Go.Proofs.YtimknijehaamlaaDoor

/-
  Sums of polynomials, cell by cell; a remainder is shorter. (Plain Lean, nothing of the program.)
-/
namespace Go.Lin
theorem getD_set' {L : List Bool} {i j : Nat} {b : Bool} (hi : i < L.length) : (L.set i b).getD j false = if i = j then b else L.getD j false := by
  rw [List.getD_eq_getElem?_getD, List.getD_eq_getElem?_getD, List.getElem?_set]
  by_cases e : i = j
  · rw [if_pos e, if_pos e, if_pos hi]; rfl
  · rw [if_neg e, if_neg e]
end Go.Lin
