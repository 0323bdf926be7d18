/-
  Contracts: Effect, Solve, IsRefutation, Check; Reachable, Refute, Quiet, for a graph and sets in range.
-/
import Derived.Test.YtimknijehaamlaaDoorSw3
set_option linter.unusedSimpArgs false
set_option linter.unusedVariables false
namespace Go.Proofs.YtimknijehaamlaaDoor
open Go Go.AH Go.Lin
set_option maxRecDepth 100000
set_option maxHeartbeats 1000000

theorem oor0 {n x : Nat} (h : x < 2 ^ n) : oorB n (x : Int) = false := by
  rw [oorB, decide_eq_false (show ¬ ((x : Nat) : Int) < 0 by omega), decide_eq_false (show ¬ (((2 ^ n : Nat) : Int) ≤ (x : Int)) by omega)]; rfl
theorem open_s1 {n : Nat} {ws : List (Nat × Nat)} (h : Gr n ws) (own : Bool) (hw : ws.length ≤ 1000) {x : Nat} (hx : x < 2 ^ n) : FDet Tryd.prog 50 [.c (.int .i64 n), .c (.rs 0 0 ws.length), .c (.bool own), .c (.sl 1 0 1 (some 1))] [(0, .ro (ints (prs ws))), (1, .ro [.int .i64 x])] 2 (.t [.c (.ptr 2 0), .c (.int .i64 0)]) [(2, .own (lC n (openR n ws own)))] 3 :=
  FDet.wk (open_rr h own hw [(x : Int)] (by simp) (by simp [oor0 hx])) ⟨rfl, rfl, rfl, ⟨rfl, rfl, rfl⟩, trivial⟩ ⟨.inl rfl, .inl rfl, trivial⟩
theorem open_s2 {n : Nat} {ws : List (Nat × Nat)} (h : Gr n ws) (own : Bool) (hw : ws.length ≤ 1000) {x y : Nat} (hx : x < 2 ^ n) (hy : y < 2 ^ n) : FDet Tryd.prog 50 [.c (.int .i64 n), .c (.rs 0 0 ws.length), .c (.bool own), .c (.sl 1 0 2 (some 2))] [(0, .ro (ints (prs ws))), (1, .ro [.int .i64 x, .int .i64 y])] 2 (.t [.c (.ptr 2 0), .c (.int .i64 0)]) [(2, .own (lC n (openR n ws own)))] 3 :=
  FDet.wk (open_rr h own hw [(x : Int), (y : Int)] (by simp) (by simp [oor0 hx, oor0 hy])) ⟨rfl, rfl, rfl, ⟨rfl, rfl, rfl⟩, trivial⟩ ⟨.inl rfl, .inl rfl, trivial⟩
theorem Effect_spec {n : Nat} {ws : List (Nat × Nat)} (h : Gr n ws) (own : Bool) (hw : ws.length ≤ 1000) {x : Nat} (hx : x < 2 ^ n) : FDet Tryd.prog 35 [.c (.int .i64 n), .c (.rs 0 0 ws.length), .c (.bool own), .c (.int .i64 x)] [(0, .ro (ints (prs ws))), (100001, .ro tab64)] 1 (.t [.c (.int .i64 (eff (openR n ws own) x : Nat)), .c (.int .i64 0)]) [] 1 := by
  refine FSpec.body2 tok true Tryd.func35 ?_
  refine Wk.on ?_
  refine CallA.det2 [0, 1] (.t [.c (.ptr 2 0), .c (.int .i64 0)]) ([(1, .own [.int .i64 x]), (0, .ro (ints (prs ws))), (100001, .ro tab64), (2, .own (lC n (openR n ws own)))]) (open_s1 h own hw hx) ?_
  refine Wk.on ?_
  refine CallA.ro2 [2] (.c (.int .i64 (eff (openR n ws own) x : Nat))) (effect_spec (openR_lm h own) hx) ?_
  refine Wk.on ?_
  exact AH.Fin.nil2 ⟨rfl, rfl, rfl⟩
theorem Check_spec {n : Nat} {ws : List (Nat × Nat)} (h : Gr n ws) (hw : ws.length ≤ 1000) : FDet Tryd.prog 25 [.c (.int .i64 n), .c (.rs 0 0 ws.length)] [(0, .ro (ints (prs ws)))] 1 (.c (.int .i64 0)) [] 1 := by
  refine FSpec.body2 tok true Tryd.func25 ?_
  refine Wk.on ?_
  refine CallA.det2 [0] (.t [.c (.ptr 1 0), .c (.int .i64 0)]) ([(0, .ro (ints (prs ws))), (1, .own (lC n (openR n ws false)))]) (open_rn h false hw) ?_
  refine Wk.on ?_
  exact AH.Fin.nil2 ⟨rfl, rfl, rfl⟩
theorem Solve_spec {n : Nat} {ws : List (Nat × Nat)} (h : Gr n ws) (own : Bool) (hw : ws.length ≤ 1000) {t : Nat} (ht : t < 2 ^ n) : FDet Tryd.prog 40 [.c (.int .i64 n), .c (.rs 0 0 ws.length), .c (.bool own), .c (.int .i64 t)] [(0, .ro (ints (prs ws)))] 1
    (.t [.c (.int .i64 (if (solP (bsR n (openR n ws own)) t).2 = 0 then (solP (bsR n (openR n ws own)) t).1 else 0 : Nat)), .c (.bool (decide ((solP (bsR n (openR n ws own)) t).2 = 0))), .c (.int .i64 0)]) [] 1 := by
  refine FSpec.body2 tok true Tryd.func40 ?_
  refine Wk.on ?_
  refine CallA.det2 [0, 1] (.t [.c (.ptr 2 0), .c (.int .i64 0)]) ([(1, .own [.int .i64 t]), (0, .ro (ints (prs ws))), (2, .own (lC n (openR n ws own)))]) (open_s1 h own hw ht) ?_
  refine Wk.on ?_
  refine CallA.ro2 [2] (.t [.c (.int .i64 (solP (bsR n (openR n ws own)) t).1), .c (.bool (decide ((solP (bsR n (openR n ws own)) t).2 = 0)))]) (solve_spec (openR_lm h own) ht) ?_
  refine Wk.on ?_
  by_cases hz : (solP (bsR n (openR n ws own)) t).2 = 0
  · rw [decide_eq_true hz, if_pos hz]
    refine Wk.on ?_
    exact AH.Fin.nil2 ⟨rfl, rfl, rfl⟩
  · rw [decide_eq_false hz, if_neg hz]
    refine Wk.on ?_
    exact AH.Fin.nil2 ⟨rfl, rfl, rfl⟩
theorem IsRefutation_spec {n : Nat} {ws : List (Nat × Nat)} (h : Gr n ws) (own : Bool) (hw : ws.length ≤ 1000) {t q : Nat} (ht : t < 2 ^ n) (hq : q < 2 ^ n) : FDet Tryd.prog 44 [.c (.int .i64 n), .c (.rs 0 0 ws.length), .c (.bool own), .c (.int .i64 t), .c (.int .i64 q)] [(0, .ro (ints (prs ws))), (100001, .ro tab64)] 1
    (.t [.c (.bool (decide (eff (openR n ws own) q = 0) && decide (pop (q &&& t) % 2 = 1))), .c (.int .i64 0)]) [] 1 := by
  have hp := (openR_lm h own).pow
  have ht2 : t < 65536 := by omega
  have hq2 : q < 65536 := by omega
  have hqt : q &&& t < 65536 := Nat.lt_of_le_of_lt Nat.and_le_left hq2
  refine FSpec.body2 tok true Tryd.func44 ?_
  refine Wk.on ?_
  refine CallA.det2 [0, 1] (.t [.c (.ptr 2 0), .c (.int .i64 0)]) ([(1, .own [.int .i64 t, .int .i64 q]), (0, .ro (ints (prs ws))), (100001, .ro tab64), (2, .own (lC n (openR n ws own)))]) (open_s2 h own hw ht hq) ?_
  refine Wk.on ?_
  refine CallA.ro2 [2] (.c (.int .i64 (eff (openR n ws own) q : Nat))) (effect_spec (openR_lm h own) hq) ?_
  refine Wk.on ?_
  by_cases hz : eff (openR n ws own) q = 0
  · rw [hz]
    refine Wk.on ?_
    rw [show (Int.toNat ((q : Nat) : Int) &&& Int.toNat ((t : Nat) : Int) : Nat) = q &&& t by rw [Int.toNat_natCast, Int.toNat_natCast]]
    refine CallA.ro2 [] (.c (.bool (decide (pop (q &&& t) % 2 = 1)))) (odd_spec hqt) ?_
    refine Wk.on ?_
    exact AH.Fin.nil2 ⟨rfl, rfl, rfl⟩
  · rw [decide_eq_false (show ¬ ((eff (openR n ws own) q : Nat) : Int) = 0 by omega), decide_eq_false hz]
    refine Wk.on ?_
    exact AH.Fin.nil2 ⟨rfl, rfl, rfl⟩

end Go.Proofs.YtimknijehaamlaaDoor

/-
  Contracts: Reachable, Refute, Quiet, for a graph and sets in range.
-/
namespace Go.Proofs.YtimknijehaamlaaDoor
open Go Go.AH Go.Lin
set_option maxRecDepth 100000
set_option maxHeartbeats 1000000

/-- What Quiet answers. -/
def qV : List Nat → AV
  | [] => .t [.c .nils, .c (.int .i64 0)]
  | b :: L => .t [.c (.row 1 (b :: L).length), .c (.int .i64 0)]
/-- The first quiet set that refutes. -/
def refQ (Q : List Nat) (t : Nat) : Option Nat := Q.find? fun q => decide (pop (q &&& t) % 2 = 1)
theorem tidied_nil : FDet Tryd.prog 52 [.c .nils] [] 0 (.c .nils) [] 0 := by
  refine FSpec.body2 tok true Tryd.func52 ?_
  refine Wk.on ?_
  refine Tr.loop (md := true) (X := Unit) (st := fun _ => ⟨[(3, .c .nils), (12, .c (.int .i64 0)), (13, .c (.int .i64 0))], [], 0, 65, 0⟩) (inv := fun _ => True) (μ := fun _ => 0) (x0 := ()) (l := []) tok trivial ?_ ?_
  · exact Sub.nil ⟨rfl, rfl, (by simp [tab64_LL, pC, castL, lC, tV, tH, tK, qV]), rfl, (by simp [tupA, hpLt, tmLt, AV.lt, AE.lt, AC.lt, LL_cons, LL_nil, idOk, ABlk.lt, ints_LL, GB, tab64_LL, pC, castL, lC, tV, tH, tK, qV]), (by simp [tupA, hpLt, tmLt, AV.lt, AE.lt, AC.lt, LL_cons, LL_nil, idOk, ABlk.lt, ints_LL, GB, tab64_LL, pC, castL, lC, tV, tH, tK, qV])⟩ (by (repeat (first | exact trivial | refine ⟨trivial, ?_⟩ | refine ⟨rfl, ?_⟩))) (by (repeat (first | exact trivial | refine ⟨trivial, ?_⟩ | refine ⟨rfl, ?_⟩)))
  · intro _ _
    refine Wk.on ?_
    refine CallA.ro2 [] (.t []) (Sort_nil) ?_
    refine Wk.on ?_
    exact AH.Fin.nil2 ⟨rfl, rfl, rfl⟩
theorem tidied_row (Q : List Nat) (hQ : Q.length ≤ 12) (hq : ∀ q ∈ Q, q < 65536) : FDet Tryd.prog 52 [.c (.row 0 Q.length)] [(0, .row 3 1 (ints (castL Q)))] 1 (tV (tidyD Q).reverse) (tH (tidyD Q).reverse) (tK (tidyD Q).reverse) :=
  FDet.wk (tidied_spec Q hQ hq) ⟨⟨⟨rfl, rfl, rfl⟩, trivial⟩, trivial⟩ ⟨.inl rfl, trivial⟩

theorem find_at {Q : List Nat} {p : Nat → Bool} {k e : Nat} (hk : k < Q.length) (he : Q[k] = e) (hp : p e = true) (h : ∀ j, j < k → p (Q.getD j 0) = false) : Q.find? p = some e := by
  induction Q generalizing k with
  | nil => cases hk
  | cons q Q ih =>
    cases k with
    | zero =>
      simp only [List.getElem_cons_zero] at he
      rw [List.find?_cons, he, hp]
    | succ k =>
      have h0 := h 0 (by omega)
      simp only [List.getD_cons_zero] at h0
      rw [List.find?_cons, h0]
      simp only [List.getElem_cons_succ, List.length_cons] at he hk
      exact ih (by omega) he fun j hj => by
        have := h (j + 1) (by omega)
        simpa using this
theorem find_no {Q : List Nat} {p : Nat → Bool} (h : ∀ j, j < Q.length → p (Q.getD j 0) = false) : Q.find? p = none := by
  rw [List.find?_eq_none]
  intro x hx
  obtain ⟨j, hj, rfl⟩ := List.getElem_of_mem hx
  have := h j hj
  rw [List.getD_eq_getElem?_getD, List.getElem?_eq_getElem hj] at this
  simpa using this

theorem Reachable_spec {n : Nat} {ws : List (Nat × Nat)} (h : Gr n ws) (own : Bool) (hw : ws.length ≤ 1000) : FDet Tryd.prog 41 [.c (.int .i64 n), .c (.rs 0 0 ws.length), .c (.bool own)] [(0, .ro (ints (prs ws)))] 1 (.t [.c (.int .i64 (2 ^ (bsR n (openR n ws own)).length : Nat)), .c (.int .i64 0)]) [] 1 := by
  have hl := openR_lm h own
  have hl17 : (lC n (openR n ws own)).length = 17 := by rw [lC, List.length_cons, ints_len, castL_len, hl.len]
  have hn := hl.n16
  have ho := open_rn h own hw
  obtain ⟨hS, hB, hQ, hQs⟩ := hl.small (Nat.le_refl n)
  have hr := reduced_spec hl
  simp only [bsR, qsR]
  generalize openR n ws own = rows at *
  generalize reducedP rows n = BQ at *
  obtain ⟨B, Q⟩ := BQ
  dsimp only at hS hB hQ hQs hr ⊢
  rcases B with _ | ⟨b0, B0⟩ <;> rcases Q with _ | ⟨q0, Q0⟩
  · skip
    have hr : FDet Tryd.prog 51 [.c (.ptr 0 0)] [(0, .ro (lC n rows))] 1 (.t [.c (.nils), .c (.nils)]) [] 1 := hr
    refine FSpec.body2 tok true Tryd.func41 ?_
    refine Wk.on ?_
    refine CallA.det2 [0] (.t [.c (.ptr 1 0), .c (.int .i64 0)]) ([(0, .ro (ints (prs ws))), (1, .own (lC n rows))]) (ho) ?_
    refine Wk.on ?_
    refine CallA.det2 [1] (.t [.c (.nils), .c (.nils)]) ([(0, .ro (ints (prs ws))), (1, .own (lC n rows))]) (hr) ?_
    have hw0 : IntKind.u64.wrap (0 : Int) = 0 := by decide
    have hsh : (1 : Int) * 2 ^ (Int.toNat (0 : Int)) = 1 := by decide
    refine Wk.on ?_
    rw [hw0]
    refine Wk.on ?_
    rw [hsh]
    refine Wk.on ?_
    exact AH.Fin.nil2 ⟨rfl, rfl, rfl⟩
  · skip
    have hr : FDet Tryd.prog 51 [.c (.ptr 0 0)] [(0, .ro (lC n rows))] 1 (.t [.c (.nils), .c (.row 1 (q0 :: Q0).length)]) [(1, .row 3 1 (ints (castL (q0 :: Q0))))] 2 := hr
    refine FSpec.body2 tok true Tryd.func41 ?_
    refine Wk.on ?_
    refine CallA.det2 [0] (.t [.c (.ptr 1 0), .c (.int .i64 0)]) ([(0, .ro (ints (prs ws))), (1, .own (lC n rows))]) (ho) ?_
    refine Wk.on ?_
    refine CallA.det2 [1] (.t [.c (.nils), .c (.row 2 (q0 :: Q0).length)]) ([(0, .ro (ints (prs ws))), (1, .own (lC n rows)), (2, .row 3 1 (ints (castL (q0 :: Q0))))]) (hr) ?_
    have hw0 : IntKind.u64.wrap (0 : Int) = 0 := by decide
    have hsh : (1 : Int) * 2 ^ (Int.toNat (0 : Int)) = 1 := by decide
    refine Wk.on ?_
    rw [hw0]
    refine Wk.on ?_
    rw [hsh]
    refine Wk.on ?_
    exact AH.Fin.nil2 ⟨rfl, rfl, rfl⟩
  · skip
    have hr : FDet Tryd.prog 51 [.c (.ptr 0 0)] [(0, .ro (lC n rows))] 1 (.t [.c (.row 1 (b0 :: B0).length), .c (.nils)]) [(1, .row 93 2 (ints (prs (b0 :: B0))))] 2 := hr
    refine FSpec.body2 tok true Tryd.func41 ?_
    refine Wk.on ?_
    refine CallA.det2 [0] (.t [.c (.ptr 1 0), .c (.int .i64 0)]) ([(0, .ro (ints (prs ws))), (1, .own (lC n rows))]) (ho) ?_
    refine Wk.on ?_
    refine CallA.det2 [1] (.t [.c (.row 2 (b0 :: B0).length), .c (.nils)]) ([(0, .ro (ints (prs ws))), (1, .own (lC n rows)), (2, .row 93 2 (ints (prs (b0 :: B0))))]) (hr) ?_
    generalize hBB : b0 :: B0 = B at *
    have hwb : IntKind.u64.wrap ((B.length : Nat) : Int) = (B.length : Nat) := wrapU (by omega)
    have hsh : (1 : Int) * 2 ^ (Int.toNat ((B.length : Nat) : Int)) = ((2 ^ B.length : Nat) : Int) := by simp
    have hp2 : 2 ^ B.length < 131072 := Nat.pow_lt_pow_right (n := 17) (by omega) (by omega)
    generalize 2 ^ B.length = q at *
    refine Wk.on ?_
    rw [hwb]
    refine Wk.on ?_
    rw [hsh]
    refine Wk.on ?_
    exact AH.Fin.nil2 ⟨rfl, rfl, rfl⟩
  · skip
    have hr : FDet Tryd.prog 51 [.c (.ptr 0 0)] [(0, .ro (lC n rows))] 1 (.t [.c (.row 1 (b0 :: B0).length), .c (.row 2 (q0 :: Q0).length)]) [(1, .row 93 2 (ints (prs (b0 :: B0)))), (2, .row 3 1 (ints (castL (q0 :: Q0))))] 3 := hr
    refine FSpec.body2 tok true Tryd.func41 ?_
    refine Wk.on ?_
    refine CallA.det2 [0] (.t [.c (.ptr 1 0), .c (.int .i64 0)]) ([(0, .ro (ints (prs ws))), (1, .own (lC n rows))]) (ho) ?_
    refine Wk.on ?_
    refine CallA.det2 [1] (.t [.c (.row 2 (b0 :: B0).length), .c (.row 3 (q0 :: Q0).length)]) ([(0, .ro (ints (prs ws))), (1, .own (lC n rows)), (3, .row 3 1 (ints (castL (q0 :: Q0)))), (2, .row 93 2 (ints (prs (b0 :: B0))))]) (hr) ?_
    generalize hBB : b0 :: B0 = B at *
    have hwb : IntKind.u64.wrap ((B.length : Nat) : Int) = (B.length : Nat) := wrapU (by omega)
    have hsh : (1 : Int) * 2 ^ (Int.toNat ((B.length : Nat) : Int)) = ((2 ^ B.length : Nat) : Int) := by simp
    have hp2 : 2 ^ B.length < 131072 := Nat.pow_lt_pow_right (n := 17) (by omega) (by omega)
    generalize 2 ^ B.length = q at *
    refine Wk.on ?_
    rw [hwb]
    refine Wk.on ?_
    rw [hsh]
    refine Wk.on ?_
    exact AH.Fin.nil2 ⟨rfl, rfl, rfl⟩
theorem Refute_spec {n : Nat} {ws : List (Nat × Nat)} (h : Gr n ws) (own : Bool) (hw : ws.length ≤ 1000) {t : Nat} (ht : t < 2 ^ n) : FDet Tryd.prog 43 [.c (.int .i64 n), .c (.rs 0 0 ws.length), .c (.bool own), .c (.int .i64 t)] [(0, .ro (ints (prs ws)))] 1 (.t [.c (.int .i64 (((refQ (qsR n (openR n ws own)) t).getD 0 : Nat) : Int)), .c (.bool (refQ (qsR n (openR n ws own)) t).isSome), .c (.int .i64 0)]) [] 1 := by
  have hpw := (openR_lm h own).pow
  have ht2 : t < 65536 := by omega
  have hl := openR_lm h own
  have hl17 : (lC n (openR n ws own)).length = 17 := by rw [lC, List.length_cons, ints_len, castL_len, hl.len]
  have hn := hl.n16
  have ho := open_s1 h own hw ht
  obtain ⟨hS, hB, hQ, hQs⟩ := hl.small (Nat.le_refl n)
  have hr := reduced_spec hl
  simp only [bsR, qsR]
  generalize openR n ws own = rows at *
  generalize reducedP rows n = BQ at *
  obtain ⟨B, Q⟩ := BQ
  dsimp only at hS hB hQ hQs hr ⊢
  rcases B with _ | ⟨b0, B0⟩ <;> rcases Q with _ | ⟨q0, Q0⟩
  · skip
    have hr : FDet Tryd.prog 51 [.c (.ptr 0 0)] [(0, .ro (lC n rows))] 1 (.t [.c (.nils), .c (.nils)]) [] 1 := hr
    refine FSpec.body2 tok true Tryd.func43 ?_
    refine Wk.on ?_
    refine CallA.det2 [0, 1] (.t [.c (.ptr 2 0), .c (.int .i64 0)]) ([(1, .own [.int .i64 t]), (0, .ro (ints (prs ws))), (2, .own (lC n rows))]) (ho) ?_
    refine Wk.on ?_
    refine CallA.det2 [2] (.t [.c (.nils), .c (.nils)]) ([(1, .own [.int .i64 t]), (0, .ro (ints (prs ws))), (2, .own (lC n rows))]) (hr) ?_
    refine Wk.on ?_
    refine Tr.loop (md := true) (X := Unit) (st := fun _ => ⟨[(15, .c (.int .i64 0)), (16, .c (.bool false)), (37, .c (.int .i64 0)), (38, .c (.int .i64 0))], [], 3, 50, 1⟩) (inv := fun _ => True) (μ := fun _ => 0) (x0 := ()) (l := []) tok trivial ?_ ?_
    · exact Sub.nil ⟨rfl, rfl, (by simp [tab64_LL, pC, castL, lC, tV, tH, tK, qV]), rfl, (by simp [tupA, hpLt, tmLt, AV.lt, AE.lt, AC.lt, LL_cons, LL_nil, idOk, ABlk.lt, ints_LL, GB, tab64_LL, pC, castL, lC, tV, tH, tK, qV]), (by simp [tupA, hpLt, tmLt, AV.lt, AE.lt, AC.lt, LL_cons, LL_nil, idOk, ABlk.lt, ints_LL, GB, tab64_LL, pC, castL, lC, tV, tH, tK, qV])⟩ (by (repeat (first | exact trivial | refine ⟨trivial, ?_⟩ | refine ⟨rfl, ?_⟩))) (by (repeat (first | exact trivial | refine ⟨trivial, ?_⟩ | refine ⟨rfl, ?_⟩)))
    intro _ _
    refine Wk.on ?_
    exact AH.Fin.nil2 ⟨rfl, rfl, rfl⟩
  · skip
    have hr : FDet Tryd.prog 51 [.c (.ptr 0 0)] [(0, .ro (lC n rows))] 1 (.t [.c (.nils), .c (.row 1 (q0 :: Q0).length)]) [(1, .row 3 1 (ints (castL (q0 :: Q0))))] 2 := hr
    refine FSpec.body2 tok true Tryd.func43 ?_
    refine Wk.on ?_
    refine CallA.det2 [0, 1] (.t [.c (.ptr 2 0), .c (.int .i64 0)]) ([(1, .own [.int .i64 t]), (0, .ro (ints (prs ws))), (2, .own (lC n rows))]) (ho) ?_
    refine Wk.on ?_
    refine CallA.det2 [2] (.t [.c (.nils), .c (.row 3 (q0 :: Q0).length)]) ([(1, .own [.int .i64 t]), (0, .ro (ints (prs ws))), (2, .own (lC n rows)), (3, .row 3 1 (ints (castL (q0 :: Q0))))]) (hr) ?_
    refine Wk.on ?_
    generalize hQQ : q0 :: Q0 = Q at *
    have hlen : (ints (castL Q)).length = Q.length := by rw [ints_len, castL_len]
    refine Tr.loop (md := true) (X := Nat) (st := fun k => ⟨[(3, .c (.int .i64 t)), (15, .c (.int .i64 0)), (16, .c (.bool false)), (36, .c (.row 3 Q.length)), (37, .c (.int .i64 Q.length)), (38, .c (.int .i64 k))], [(3, .row 3 1 (ints (castL Q)))], 4, 50, 1⟩) (inv := fun k => k ≤ Q.length ∧ ∀ j, j < k → ¬ pop (Q.getD j 0 &&& t) % 2 = 1) (μ := fun k => Q.length - k) (x0 := 0) (l := []) tok ⟨by omega, fun j hj => by omega⟩ ?_ ?_
    · exact Sub.nil ⟨rfl, rfl, (by simp [tab64_LL, pC, castL, lC, tV, tH, tK, qV]), rfl, (by simp [tupA, hpLt, tmLt, AV.lt, AE.lt, AC.lt, LL_cons, LL_nil, idOk, ABlk.lt, ints_LL, GB, tab64_LL, pC, castL, lC, tV, tH, tK, qV]), (by simp [tupA, hpLt, tmLt, AV.lt, AE.lt, AC.lt, LL_cons, LL_nil, idOk, ABlk.lt, ints_LL, GB, tab64_LL, pC, castL, lC, tV, tH, tK, qV])⟩ (by (repeat (first | exact trivial | refine ⟨trivial, ?_⟩ | refine ⟨rfl, ?_⟩))) (by (repeat (first | exact trivial | refine ⟨trivial, ?_⟩ | refine ⟨rfl, ?_⟩)))
    rintro k ⟨hk, hall⟩
    by_cases hkl : k < Q.length
    · obtain ⟨e, he⟩ : ∃ e, e = Q.getD k 0 := ⟨_, rfl⟩
      have heq : Q[k] = e := by rw [he, List.getD_eq_getElem?_getD, List.getElem?_eq_getElem hkl]; rfl
      have he2 : e < 65536 := by rw [← heq]; exact hQs _ (List.getElem_mem hkl)
      have hqt : e &&& t < 65536 := Nat.lt_of_le_of_lt Nat.and_le_left he2
      refine Wk.on ?_
      rw [decide_eq_true (show ((k : Nat) : Int) < ((Q.length : Nat) : Int) by omega)]
      refine Wk.on ?_
      rw [show Int.toNat ((k : Nat) : Int) * 1 = k by rw [Int.toNat_natCast]; omega, ints_getD, castL_getD, ← he]
      refine Wk.on ?_
      rw [show (Int.toNat ((e : Nat) : Int) &&& Int.toNat ((t : Nat) : Int) : Nat) = e &&& t by rw [Int.toNat_natCast, Int.toNat_natCast]]
      refine CallA.ro2 [] (.c (.bool (decide (pop (e &&& t) % 2 = 1)))) (odd_spec hqt) ?_
      refine Wk.on ?_
      by_cases hx : pop (e &&& t) % 2 = 1
      · rw [decide_eq_true hx]
        refine Wk.on ?_
        have hf : refQ Q t = some e := find_at hkl heq (decide_eq_true hx) fun j hj => decide_eq_false (hall j hj)
        exact AH.Fin.nil2 ⟨by rw [hf]; rfl, rfl, rfl⟩
      · rw [decide_eq_false hx]
        refine Wk.on ?_
        have hnx : ∀ j, j < k + 1 → ¬ pop (Q.getD j 0 &&& t) % 2 = 1 := fun j hj => by
          by_cases e1 : j = k
          · rw [e1, ← he]; exact hx
          · exact hall j (by omega)
        refine Again.mk (k + 1) (Sub.nil ⟨rfl, rfl, (by simp [tab64_LL, pC, castL, lC, tV, tH, tK, qV]), rfl, (by simp [tupA, hpLt, tmLt, AV.lt, AE.lt, AC.lt, LL_cons, LL_nil, idOk, ABlk.lt, ints_LL, GB, tab64_LL, pC, castL, lC, tV, tH, tK, qV]), (by simp [tupA, hpLt, tmLt, AV.lt, AE.lt, AC.lt, LL_cons, LL_nil, idOk, ABlk.lt, ints_LL, GB, tab64_LL, pC, castL, lC, tV, tH, tK, qV])⟩ (by (repeat (first | exact trivial | refine ⟨trivial, ?_⟩ | refine ⟨rfl, ?_⟩))) (by (repeat (first | exact trivial | refine ⟨trivial, ?_⟩ | refine ⟨rfl, ?_⟩)))) (⟨by omega, hnx⟩) (by omega)
    obtain rfl : k = Q.length := by omega
    refine Wk.on ?_
    rw [decide_eq_false (show ¬ ((Q.length : Nat) : Int) < ((Q.length : Nat) : Int) by omega)]
    refine Wk.on ?_
    intro _
    refine Wk.on ?_
    have hf : refQ Q t = none := find_no fun j hj => decide_eq_false (hall j hj)
    exact AH.Fin.nil2 ⟨by rw [hf]; rfl, rfl, rfl⟩
  · skip
    have hr : FDet Tryd.prog 51 [.c (.ptr 0 0)] [(0, .ro (lC n rows))] 1 (.t [.c (.row 1 (b0 :: B0).length), .c (.nils)]) [(1, .row 93 2 (ints (prs (b0 :: B0))))] 2 := hr
    refine FSpec.body2 tok true Tryd.func43 ?_
    refine Wk.on ?_
    refine CallA.det2 [0, 1] (.t [.c (.ptr 2 0), .c (.int .i64 0)]) ([(1, .own [.int .i64 t]), (0, .ro (ints (prs ws))), (2, .own (lC n rows))]) (ho) ?_
    refine Wk.on ?_
    refine CallA.det2 [2] (.t [.c (.row 3 (b0 :: B0).length), .c (.nils)]) ([(1, .own [.int .i64 t]), (0, .ro (ints (prs ws))), (2, .own (lC n rows)), (3, .row 93 2 (ints (prs (b0 :: B0))))]) (hr) ?_
    refine Wk.on ?_
    refine Tr.loop (md := true) (X := Unit) (st := fun _ => ⟨[(15, .c (.int .i64 0)), (16, .c (.bool false)), (37, .c (.int .i64 0)), (38, .c (.int .i64 0))], [], 4, 50, 1⟩) (inv := fun _ => True) (μ := fun _ => 0) (x0 := ()) (l := []) tok trivial ?_ ?_
    · exact Sub.nil ⟨rfl, rfl, (by simp [tab64_LL, pC, castL, lC, tV, tH, tK, qV]), rfl, (by simp [tupA, hpLt, tmLt, AV.lt, AE.lt, AC.lt, LL_cons, LL_nil, idOk, ABlk.lt, ints_LL, GB, tab64_LL, pC, castL, lC, tV, tH, tK, qV]), (by simp [tupA, hpLt, tmLt, AV.lt, AE.lt, AC.lt, LL_cons, LL_nil, idOk, ABlk.lt, ints_LL, GB, tab64_LL, pC, castL, lC, tV, tH, tK, qV])⟩ (by (repeat (first | exact trivial | refine ⟨trivial, ?_⟩ | refine ⟨rfl, ?_⟩))) (by (repeat (first | exact trivial | refine ⟨trivial, ?_⟩ | refine ⟨rfl, ?_⟩)))
    intro _ _
    refine Wk.on ?_
    exact AH.Fin.nil2 ⟨rfl, rfl, rfl⟩
  · skip
    have hr : FDet Tryd.prog 51 [.c (.ptr 0 0)] [(0, .ro (lC n rows))] 1 (.t [.c (.row 1 (b0 :: B0).length), .c (.row 2 (q0 :: Q0).length)]) [(1, .row 93 2 (ints (prs (b0 :: B0)))), (2, .row 3 1 (ints (castL (q0 :: Q0))))] 3 := hr
    refine FSpec.body2 tok true Tryd.func43 ?_
    refine Wk.on ?_
    refine CallA.det2 [0, 1] (.t [.c (.ptr 2 0), .c (.int .i64 0)]) ([(1, .own [.int .i64 t]), (0, .ro (ints (prs ws))), (2, .own (lC n rows))]) (ho) ?_
    refine Wk.on ?_
    refine CallA.det2 [2] (.t [.c (.row 3 (b0 :: B0).length), .c (.row 4 (q0 :: Q0).length)]) ([(1, .own [.int .i64 t]), (0, .ro (ints (prs ws))), (2, .own (lC n rows)), (4, .row 3 1 (ints (castL (q0 :: Q0)))), (3, .row 93 2 (ints (prs (b0 :: B0))))]) (hr) ?_
    refine Wk.on ?_
    generalize hQQ : q0 :: Q0 = Q at *
    have hlen : (ints (castL Q)).length = Q.length := by rw [ints_len, castL_len]
    refine Tr.loop (md := true) (X := Nat) (st := fun k => ⟨[(3, .c (.int .i64 t)), (15, .c (.int .i64 0)), (16, .c (.bool false)), (36, .c (.row 4 Q.length)), (37, .c (.int .i64 Q.length)), (38, .c (.int .i64 k))], [(4, .row 3 1 (ints (castL Q)))], 5, 50, 1⟩) (inv := fun k => k ≤ Q.length ∧ ∀ j, j < k → ¬ pop (Q.getD j 0 &&& t) % 2 = 1) (μ := fun k => Q.length - k) (x0 := 0) (l := []) tok ⟨by omega, fun j hj => by omega⟩ ?_ ?_
    · exact Sub.nil ⟨rfl, rfl, (by simp [tab64_LL, pC, castL, lC, tV, tH, tK, qV]), rfl, (by simp [tupA, hpLt, tmLt, AV.lt, AE.lt, AC.lt, LL_cons, LL_nil, idOk, ABlk.lt, ints_LL, GB, tab64_LL, pC, castL, lC, tV, tH, tK, qV]), (by simp [tupA, hpLt, tmLt, AV.lt, AE.lt, AC.lt, LL_cons, LL_nil, idOk, ABlk.lt, ints_LL, GB, tab64_LL, pC, castL, lC, tV, tH, tK, qV])⟩ (by (repeat (first | exact trivial | refine ⟨trivial, ?_⟩ | refine ⟨rfl, ?_⟩))) (by (repeat (first | exact trivial | refine ⟨trivial, ?_⟩ | refine ⟨rfl, ?_⟩)))
    rintro k ⟨hk, hall⟩
    by_cases hkl : k < Q.length
    · obtain ⟨e, he⟩ : ∃ e, e = Q.getD k 0 := ⟨_, rfl⟩
      have heq : Q[k] = e := by rw [he, List.getD_eq_getElem?_getD, List.getElem?_eq_getElem hkl]; rfl
      have he2 : e < 65536 := by rw [← heq]; exact hQs _ (List.getElem_mem hkl)
      have hqt : e &&& t < 65536 := Nat.lt_of_le_of_lt Nat.and_le_left he2
      refine Wk.on ?_
      rw [decide_eq_true (show ((k : Nat) : Int) < ((Q.length : Nat) : Int) by omega)]
      refine Wk.on ?_
      rw [show Int.toNat ((k : Nat) : Int) * 1 = k by rw [Int.toNat_natCast]; omega, ints_getD, castL_getD, ← he]
      refine Wk.on ?_
      rw [show (Int.toNat ((e : Nat) : Int) &&& Int.toNat ((t : Nat) : Int) : Nat) = e &&& t by rw [Int.toNat_natCast, Int.toNat_natCast]]
      refine CallA.ro2 [] (.c (.bool (decide (pop (e &&& t) % 2 = 1)))) (odd_spec hqt) ?_
      refine Wk.on ?_
      by_cases hx : pop (e &&& t) % 2 = 1
      · rw [decide_eq_true hx]
        refine Wk.on ?_
        have hf : refQ Q t = some e := find_at hkl heq (decide_eq_true hx) fun j hj => decide_eq_false (hall j hj)
        exact AH.Fin.nil2 ⟨by rw [hf]; rfl, rfl, rfl⟩
      · rw [decide_eq_false hx]
        refine Wk.on ?_
        have hnx : ∀ j, j < k + 1 → ¬ pop (Q.getD j 0 &&& t) % 2 = 1 := fun j hj => by
          by_cases e1 : j = k
          · rw [e1, ← he]; exact hx
          · exact hall j (by omega)
        refine Again.mk (k + 1) (Sub.nil ⟨rfl, rfl, (by simp [tab64_LL, pC, castL, lC, tV, tH, tK, qV]), rfl, (by simp [tupA, hpLt, tmLt, AV.lt, AE.lt, AC.lt, LL_cons, LL_nil, idOk, ABlk.lt, ints_LL, GB, tab64_LL, pC, castL, lC, tV, tH, tK, qV]), (by simp [tupA, hpLt, tmLt, AV.lt, AE.lt, AC.lt, LL_cons, LL_nil, idOk, ABlk.lt, ints_LL, GB, tab64_LL, pC, castL, lC, tV, tH, tK, qV])⟩ (by (repeat (first | exact trivial | refine ⟨trivial, ?_⟩ | refine ⟨rfl, ?_⟩))) (by (repeat (first | exact trivial | refine ⟨trivial, ?_⟩ | refine ⟨rfl, ?_⟩)))) (⟨by omega, hnx⟩) (by omega)
    obtain rfl : k = Q.length := by omega
    refine Wk.on ?_
    rw [decide_eq_false (show ¬ ((Q.length : Nat) : Int) < ((Q.length : Nat) : Int) by omega)]
    refine Wk.on ?_
    intro _
    refine Wk.on ?_
    have hf : refQ Q t = none := find_no fun j hj => decide_eq_false (hall j hj)
    exact AH.Fin.nil2 ⟨by rw [hf]; rfl, rfl, rfl⟩
theorem Quiet_gen {n : Nat} {ws : List (Nat × Nat)} (h : Gr n ws) (own : Bool) (hw : ws.length ≤ 1000) (hq12 : (qsR n (openR n ws own)).length ≤ 12) : FDet Tryd.prog 18 [.c (.int .i64 n), .c (.rs 0 0 ws.length), .c (.bool own)] [(0, .ro (ints (prs ws)))] 1 (qV (tidyD (qsR n (openR n ws own))).reverse) (tH (tidyD (qsR n (openR n ws own))).reverse) (tK (tidyD (qsR n (openR n ws own))).reverse) := by
  have hQl := (inv_all (openR n ws own) n (by rw [(openR_lm h own).len]; have := h.n16; omega)).len
  have hl := openR_lm h own
  have hl17 : (lC n (openR n ws own)).length = 17 := by rw [lC, List.length_cons, ints_len, castL_len, hl.len]
  have hn := hl.n16
  have ho := open_rn h own hw
  obtain ⟨hS, hB, hQ, hQs⟩ := hl.small (Nat.le_refl n)
  have hr := reduced_spec hl
  simp only [bsR, qsR] at hq12 ⊢
  generalize openR n ws own = rows at *
  generalize reducedP rows n = BQ at *
  obtain ⟨B, Q⟩ := BQ
  dsimp only at hq12 hQl hS hB hQ hQs hr ⊢
  rcases B with _ | ⟨b0, B0⟩ <;> rcases Q with _ | ⟨q0, Q0⟩
  · skip
    have hr : FDet Tryd.prog 51 [.c (.ptr 0 0)] [(0, .ro (lC n rows))] 1 (.t [.c (.nils), .c (.nils)]) [] 1 := hr
    refine FSpec.body2 tok true Tryd.func18 ?_
    refine Wk.on ?_
    refine CallA.det2 [0] (.t [.c (.ptr 1 0), .c (.int .i64 0)]) ([(0, .ro (ints (prs ws))), (1, .own (lC n rows))]) (ho) ?_
    refine Wk.on ?_
    refine CallA.det2 [1] (.t [.c (.nils), .c (.nils)]) ([(0, .ro (ints (prs ws))), (1, .own (lC n rows))]) (hr) ?_
    refine Wk.on ?_
    refine CallA.ro2 [] (.c .nils) (tidied_nil) ?_
    refine Wk.on ?_
    exact AH.Fin.nil2 ⟨rfl, rfl, rfl⟩
  · skip
    have hr : FDet Tryd.prog 51 [.c (.ptr 0 0)] [(0, .ro (lC n rows))] 1 (.t [.c (.nils), .c (.row 1 (q0 :: Q0).length)]) [(1, .row 3 1 (ints (castL (q0 :: Q0))))] 2 := hr
    refine FSpec.body2 tok true Tryd.func18 ?_
    refine Wk.on ?_
    refine CallA.det2 [0] (.t [.c (.ptr 1 0), .c (.int .i64 0)]) ([(0, .ro (ints (prs ws))), (1, .own (lC n rows))]) (ho) ?_
    refine Wk.on ?_
    refine CallA.det2 [1] (.t [.c (.nils), .c (.row 2 (q0 :: Q0).length)]) ([(0, .ro (ints (prs ws))), (1, .own (lC n rows)), (2, .row 3 1 (ints (castL (q0 :: Q0))))]) (hr) ?_
    refine Wk.on ?_
    have htd := tidied_row (q0 :: Q0) (by omega) hQs
    generalize (tidyD (q0 :: Q0)).reverse = D at *
    rcases D with _ | ⟨d0, D0⟩
    · have htd : FDet Tryd.prog 52 [.c (.row 0 (q0 :: Q0).length)] [(0, .row 3 1 (ints (castL (q0 :: Q0))))] 1 (.c .nils) [] 1 := htd
      refine CallA.det2 [2] (.c .nils) ([(0, .ro (ints (prs ws))), (1, .own (lC n rows))]) (htd) ?_
      refine Wk.on ?_
      exact AH.Fin.nil2 ⟨rfl, rfl, rfl⟩
    · have htd : FDet Tryd.prog 52 [.c (.row 0 (q0 :: Q0).length)] [(0, .row 3 1 (ints (castL (q0 :: Q0))))] 1 (.c (.row 1 (d0 :: D0).length)) [(1, .row 3 1 (ints (castL (d0 :: D0))))] 2 := htd
      refine CallA.det2 [2] (.c (.row 3 (d0 :: D0).length)) ([(0, .ro (ints (prs ws))), (1, .own (lC n rows)), (3, .row 3 1 (ints (castL (d0 :: D0))))]) (htd) ?_
      refine Wk.on ?_
      exact AH.Fin.new [3] _ _ ⟨rfl, rfl, rfl⟩ rfl ⟨by show some (ABlk.row 3 1 _) = some (ABlk.row 3 1 ((ints _).map _)); rw [ints_ren], trivial⟩ rfl (by simp [tupA, hpLt, tmLt, AV.lt, AE.lt, AC.lt, LL_cons, LL_nil, idOk, ABlk.lt, ints_LL, GB, tab64_LL, pC, castL, lC, tV, tH, tK, qV]) (by simp [tupA, hpLt, tmLt, AV.lt, AE.lt, AC.lt, LL_cons, LL_nil, idOk, ABlk.lt, ints_LL, GB, tab64_LL, pC, castL, lC, tV, tH, tK, qV])
  · skip
    have hr : FDet Tryd.prog 51 [.c (.ptr 0 0)] [(0, .ro (lC n rows))] 1 (.t [.c (.row 1 (b0 :: B0).length), .c (.nils)]) [(1, .row 93 2 (ints (prs (b0 :: B0))))] 2 := hr
    refine FSpec.body2 tok true Tryd.func18 ?_
    refine Wk.on ?_
    refine CallA.det2 [0] (.t [.c (.ptr 1 0), .c (.int .i64 0)]) ([(0, .ro (ints (prs ws))), (1, .own (lC n rows))]) (ho) ?_
    refine Wk.on ?_
    refine CallA.det2 [1] (.t [.c (.row 2 (b0 :: B0).length), .c (.nils)]) ([(0, .ro (ints (prs ws))), (1, .own (lC n rows)), (2, .row 93 2 (ints (prs (b0 :: B0))))]) (hr) ?_
    refine Wk.on ?_
    refine CallA.ro2 [] (.c .nils) (tidied_nil) ?_
    refine Wk.on ?_
    exact AH.Fin.nil2 ⟨rfl, rfl, rfl⟩
  · skip
    have hr : FDet Tryd.prog 51 [.c (.ptr 0 0)] [(0, .ro (lC n rows))] 1 (.t [.c (.row 1 (b0 :: B0).length), .c (.row 2 (q0 :: Q0).length)]) [(1, .row 93 2 (ints (prs (b0 :: B0)))), (2, .row 3 1 (ints (castL (q0 :: Q0))))] 3 := hr
    refine FSpec.body2 tok true Tryd.func18 ?_
    refine Wk.on ?_
    refine CallA.det2 [0] (.t [.c (.ptr 1 0), .c (.int .i64 0)]) ([(0, .ro (ints (prs ws))), (1, .own (lC n rows))]) (ho) ?_
    refine Wk.on ?_
    refine CallA.det2 [1] (.t [.c (.row 2 (b0 :: B0).length), .c (.row 3 (q0 :: Q0).length)]) ([(0, .ro (ints (prs ws))), (1, .own (lC n rows)), (3, .row 3 1 (ints (castL (q0 :: Q0)))), (2, .row 93 2 (ints (prs (b0 :: B0))))]) (hr) ?_
    refine Wk.on ?_
    have htd := tidied_row (q0 :: Q0) (by omega) hQs
    generalize (tidyD (q0 :: Q0)).reverse = D at *
    rcases D with _ | ⟨d0, D0⟩
    · have htd : FDet Tryd.prog 52 [.c (.row 0 (q0 :: Q0).length)] [(0, .row 3 1 (ints (castL (q0 :: Q0))))] 1 (.c .nils) [] 1 := htd
      refine CallA.det2 [3] (.c .nils) ([(0, .ro (ints (prs ws))), (1, .own (lC n rows)), (2, .row 93 2 (ints (prs (b0 :: B0))))]) (htd) ?_
      refine Wk.on ?_
      exact AH.Fin.nil2 ⟨rfl, rfl, rfl⟩
    · have htd : FDet Tryd.prog 52 [.c (.row 0 (q0 :: Q0).length)] [(0, .row 3 1 (ints (castL (q0 :: Q0))))] 1 (.c (.row 1 (d0 :: D0).length)) [(1, .row 3 1 (ints (castL (d0 :: D0))))] 2 := htd
      refine CallA.det2 [3] (.c (.row 4 (d0 :: D0).length)) ([(0, .ro (ints (prs ws))), (1, .own (lC n rows)), (2, .row 93 2 (ints (prs (b0 :: B0)))), (4, .row 3 1 (ints (castL (d0 :: D0))))]) (htd) ?_
      refine Wk.on ?_
      exact AH.Fin.new [4] _ _ ⟨rfl, rfl, rfl⟩ rfl ⟨by show some (ABlk.row 3 1 _) = some (ABlk.row 3 1 ((ints _).map _)); rw [ints_ren], trivial⟩ rfl (by simp [tupA, hpLt, tmLt, AV.lt, AE.lt, AC.lt, LL_cons, LL_nil, idOk, ABlk.lt, ints_LL, GB, tab64_LL, pC, castL, lC, tV, tH, tK, qV]) (by simp [tupA, hpLt, tmLt, AV.lt, AE.lt, AC.lt, LL_cons, LL_nil, idOk, ABlk.lt, ints_LL, GB, tab64_LL, pC, castL, lC, tV, tH, tK, qV])
theorem Quiet_spec {n : Nat} {ws : List (Nat × Nat)} (h : Gr n ws) (hn12 : n ≤ 12) (own : Bool) (hw : ws.length ≤ 1000) : FDet Tryd.prog 18 [.c (.int .i64 n), .c (.rs 0 0 ws.length), .c (.bool own)] [(0, .ro (ints (prs ws)))] 1 (qV (tidyD (qsR n (openR n ws own))).reverse) (tH (tidyD (qsR n (openR n ws own))).reverse) (tK (tidyD (qsR n (openR n ws own))).reverse) := by
  have hQl := (inv_all (openR n ws own) n (by rw [(openR_lm h own).len]; have := h.n16; omega)).len
  exact Quiet_gen h own hw (by show (reducedP (openR n ws own) n).2.length ≤ 12; omega)
end Go.Proofs.YtimknijehaamlaaDoor

/-
  Contracts: sums of polynomials.
-/
namespace Go.Proofs.YtimknijehaamlaaDoor
open Go Go.AH Go.Lin
set_option maxRecDepth 100000
set_option maxHeartbeats 1000000

def bls (L : List Bool) : List AC := L.map AC.bool
theorem bls_len (L : List Bool) : (bls L).length = L.length := by simp [bls]
theorem bls_ren (q : Nat → Nat) (L : List Bool) : (bls L).map (AC.ren q) = bls L := by
  rw [bls, List.map_map]; rfl
theorem bls_LL (n : Nat) (L : List Bool) : LL n (bls L) := fun x hx => by
  obtain ⟨b, _, rfl⟩ := List.mem_map.1 hx; trivial
instance (L : List Bool) : RenC (bls L) := ⟨fun q => bls_ren q L, fun n => bls_LL n L⟩
theorem bls_getD (L : List Bool) (i : Nat) : (bls L).getD i (.bool false) = .bool (L.getD i false) := by
  rw [bls, List.getD_eq_getElem?_getD, List.getD_eq_getElem?_getD, List.getElem?_map]
  cases L[i]? <;> rfl
theorem bls_set (L : List Bool) (i : Nat) (b : Bool) : (bls L).set i (.bool b) = bls (L.set i b) := by
  simp only [bls, List.map_set]
theorem rep_bls (n : Nat) : rep n [.bool false] = bls (List.replicate n false) := by
  induction n with
  | zero => rfl
  | succ n ih => rw [rep, ih, List.replicate_succ]; rfl
theorem bls_app (A B : List Bool) : bls A ++ bls B = bls (A ++ B) := by simp [bls]
theorem bls_take (A : List Bool) (n : Nat) : (bls A).take n = bls (A.take n) := by simp [bls, List.map_take]
theorem bls_drop (A : List Bool) (n : Nat) : (bls A).drop n = bls (A.drop n) := by simp [bls, List.map_drop]
/-- a, laid out in n places. -/
def padB (n : Nat) (a : List Bool) : List Bool := a ++ List.replicate (n - a.length) false
def addF (s : Nat) (b : List Bool) (c : List Bool) (i : Nat) : List Bool := c.set (i + s) (c.getD (i + s) false != b.getD i false)
def addTo (a b : List Bool) (s k : Nat) : List Bool := (List.range k).foldl (addF s b) (padB (max a.length (b.length + s)) a)
def addB (a b : List Bool) (s : Nat) : List Bool := addTo a b s b.length
def trimN (c : List Bool) : Nat → Nat
  | 0 => 0
  | n + 1 => if c.getD n false then n + 1 else trimN c n
theorem trimN_le (c : List Bool) : ∀ n, trimN c n ≤ n
  | 0 => Nat.le_refl 0
  | n + 1 => by
    rw [trimN]
    split
    · exact Nat.le_refl _
    · exact Nat.le_succ_of_le (trimN_le c n)
theorem padB_len {n : Nat} {a : List Bool} (h : a.length ≤ n) : (padB n a).length = n := by simp [padB]; omega
theorem addTo_len (a b : List Bool) (s k : Nat) : (addTo a b s k).length = max a.length (b.length + s) := by
  induction k with
  | zero => exact padB_len (Nat.le_max_left _ _)
  | succ k ih => rw [addTo, List.range_succ, List.foldl_append, List.foldl_cons, List.foldl_nil, addF, List.length_set]; exact ih
theorem addTo_succ (a b : List Bool) (s k : Nat) : addTo a b s (k + 1) = addF s b (addTo a b s k) k := by
  rw [addTo, List.range_succ, List.foldl_append]; rfl
theorem max_cast (a b : Nat) : max ((a : Nat) : Int) ((b : Nat) : Int) = ((max a b : Nat) : Int) := by omega
theorem cells0 {A a b : List Bool} {n m s L : Nat} (hA : n ≤ A.length) (hL : L = max n (m + s)) (hb : b.length = m) (hal : a.length = n) (ha : a = A.take n) : (rep L [.bool false]).take 0 ++ ((bls A).drop 0).take (n * 1) ++ (rep L [.bool false]).drop (0 + n * 1) = bls (addTo (A.take n) b s 0) := by
  rw [rep_bls, List.take_zero, List.nil_append, List.drop_zero, Nat.mul_one, Nat.zero_add, bls_take, bls_drop, bls_app, addTo, List.range_zero, List.foldl_nil, padB, ← ha, hal, hb, ← hL, List.drop_replicate]
theorem sum_spec (A B : List Bool) (n m s : Nat) (hA : n ≤ A.length) (hB : m ≤ B.length) (hn : n ≤ 1000) (hm : m + s ≤ 1000) : FDet Tryd.prog 75 [.c (.rs 0 0 n), .c (.rs 1 0 m), .c (.int .i64 s)] [(0, .ro (bls A)), (1, .ro (bls B))] 2
    (.c (.sl 2 0 (trimN (addB (A.take n) (B.take m) s) (max n (m + s))) (some (trimN (addB (A.take n) (B.take m) s) (max n (m + s)))))) [(2, .own (bls (addB (A.take n) (B.take m) s)))] 3 := by
  have hAl : (A.take n).length = n := by simp; omega
  have hBl : (B.take m).length = m := by simp; omega
  obtain ⟨a, ha⟩ : ∃ a, a = A.take n := ⟨_, rfl⟩
  obtain ⟨b, hb⟩ : ∃ b, b = B.take m := ⟨_, rfl⟩
  rw [← ha, ← hb]
  rw [← ha] at hAl
  rw [← hb] at hBl
  obtain ⟨L, hL⟩ : ∃ L, L = max n (m + s) := ⟨_, rfl⟩
  have hL1 : L ≤ 1000 := by omega
  have hbA : (bls A).length = A.length := bls_len A
  have hbB : (bls B).length = B.length := bls_len B
  rw [← hL]
  refine FSpec.body2 tok true Tryd.func75 ?_
  refine Wk.on ?_
  have hmx : max ((n : Nat) : Int) (((m : Nat) : Int) + ((s : Nat) : Int)) = ((L : Nat) : Int) := by omega
  rw [hmx]
  refine Wk.on ?_
  refine ⟨⟨Nat.le_of_ble_eq_true rfl, Nat.le_of_ble_eq_true rfl, rfl, by omega, rfl, by show (1 : Int) * (L : Int) ≤ _; omega, by omega⟩, ?_⟩
  rw [Int.toNat_natCast]
  refine Wk.on ?_
  rw [show min n L = n by omega]
  refine ⟨by show 0 + n * 1 ≤ _; omega, ?_⟩
  refine Wk.on ?_
  refine ⟨⟨rfl, by show 0 + n * 1 ≤ (rep L [.bool false]).length; rw [rep_bls, bls_len, List.length_replicate]; omega⟩, ?_⟩
  refine Wk.on ?_
  refine Tr.loop (md := true) (X := Nat) (st := fun k => ⟨[(2, .c (.int .i64 s)), (7, .c (.sl 2 0 L (some L))), (22, .c (.rs 1 0 m)), (23, .c (.int .i64 m)), (24, .c (.int .i64 k))], [(2, .own (bls (addTo a b s k))), (0, .ro (bls A)), (1, .ro (bls B))], 3, 61, 2⟩) (inv := fun k => k ≤ m) (μ := fun k => m - k) (x0 := 0) (l := []) tok (by omega) ?_ ?_
  · exact Sub.nil ⟨rfl, rfl, (by simp [bls_LL]), rfl, (by simp [tupA, hpLt, tmLt, AV.lt, AE.lt, AC.lt, LL_cons, LL_nil, idOk, ABlk.lt, ints_LL, GB, bls_LL]), (by simp [tupA, hpLt, tmLt, AV.lt, AE.lt, AC.lt, LL_cons, LL_nil, idOk, ABlk.lt, ints_LL, GB, bls_LL])⟩ (by (repeat (first | exact trivial | refine ⟨trivial, ?_⟩ | refine ⟨rfl, ?_⟩))) ⟨by show ABlk.own _ = ABlk.own _; exact congrArg ABlk.own (by rw [ha]; exact cells0 (by omega) hL hBl hAl ha), rfl, rfl, trivial⟩
  · intro k hk
    have hcl : (bls (addTo a b s k)).length = L := by rw [bls_len, addTo_len, hAl, hBl, hL]
    by_cases hkm : k < m
    · obtain ⟨v, hv⟩ : ∃ v, v = B.getD k false := ⟨_, rfl⟩
      have hbv : b.getD k false = v := by
        rw [hb, hv, List.getD_eq_getElem?_getD, List.getElem?_take, if_pos hkm, ← List.getD_eq_getElem?_getD]
      obtain ⟨u, hu⟩ : ∃ u, u = (addTo a b s k).getD (k + s) false := ⟨_, rfl⟩
      refine Wk.on ?_
      rw [decide_eq_true (show ((k : Nat) : Int) < ((m : Nat) : Int) by omega)]
      refine Wk.on ?_
      rw [show 0 + Int.toNat ((k : Nat) : Int) * 1 = k by rw [Int.toNat_natCast]; omega, bls_getD, bls_getD, ← hv, show 0 + Int.toNat ((k : Nat) + (s : Nat) : Int) * 1 = k + s by omega, ← hu]
      refine Wk.on ?_
      refine Again.mk (k + 1) (Sub.nil ⟨rfl, rfl, (by simp [bls_LL]), rfl, (by simp [tupA, hpLt, tmLt, AV.lt, AE.lt, AC.lt, LL_cons, LL_nil, idOk, ABlk.lt, ints_LL, GB, bls_LL]), (by simp [tupA, hpLt, tmLt, AV.lt, AE.lt, AC.lt, LL_cons, LL_nil, idOk, ABlk.lt, ints_LL, GB, bls_LL])⟩ (by (repeat (first | exact trivial | refine ⟨trivial, ?_⟩ | refine ⟨rfl, ?_⟩))) ⟨by show ABlk.own ((bls (addTo a b s k)).set (0 + Int.toNat ((k : Nat) + (s : Nat) : Int) * 1) (.bool (u != v))) = ABlk.own (bls (addTo a b s (k + 1))); rw [show 0 + Int.toNat ((k : Nat) + (s : Nat) : Int) * 1 = k + s by omega, bls_set, addTo_succ, addF, ← hu, hbv], rfl, rfl, trivial⟩) (by omega) (by omega)
    · obtain rfl : k = m := by omega
      obtain ⟨C, hC⟩ : ∃ C, C = addTo a b s k := ⟨_, rfl⟩
      have hCb : C = addB a b s := by rw [hC, addB, hBl]
      rw [← hCb]
      rw [← hC] at hcl ⊢
      refine Wk.on ?_
      rw [decide_eq_false (show ¬ ((k : Nat) : Int) < ((k : Nat) : Int) by omega)]
      refine Wk.on ?_
      intro _
      refine Wk.on ?_
      refine Tr.loop (md := true) (X := Nat) (st := fun d => ⟨[(7, .c (.sl 2 0 L (some L))), (10, .c (.int .i64 d))], [(2, .own (bls C)), (0, .ro (bls A)), (1, .ro (bls B))], 3, 61, 2⟩) (inv := fun d => d ≤ L ∧ trimN C d = trimN C L) (μ := fun d => d) (x0 := L) (l := []) tok ⟨by omega, rfl⟩ ?_ ?_
      · exact Sub.nil ⟨rfl, rfl, (by simp [bls_LL]), rfl, (by simp [tupA, hpLt, tmLt, AV.lt, AE.lt, AC.lt, LL_cons, LL_nil, idOk, ABlk.lt, ints_LL, GB, bls_LL]), (by simp [tupA, hpLt, tmLt, AV.lt, AE.lt, AC.lt, LL_cons, LL_nil, idOk, ABlk.lt, ints_LL, GB, bls_LL])⟩ (by (repeat (first | exact trivial | refine ⟨trivial, ?_⟩ | refine ⟨rfl, ?_⟩))) (by (repeat (first | exact trivial | refine ⟨trivial, ?_⟩ | refine ⟨rfl, ?_⟩)))
      · rintro d ⟨hd, htr⟩
        cases d with
        | zero =>
          refine Wk.on ?_
          exact AH.Fin.new [2] _ _ ⟨by rw [← htr] <;> rfl, rfl, rfl⟩ rfl ⟨by show some (ABlk.own (bls C)) = some (ABlk.own ((bls C).map _)); rw [bls_ren], trivial⟩ rfl (by simp [tupA, hpLt, tmLt, AV.lt, AE.lt, AC.lt, LL_cons, LL_nil, idOk, ABlk.lt, ints_LL, GB, bls_LL]) (by simp [tupA, hpLt, tmLt, AV.lt, AE.lt, AC.lt, LL_cons, LL_nil, idOk, ABlk.lt, ints_LL, GB, bls_LL])
        | succ d =>
          obtain ⟨u, hu⟩ : ∃ u, u = C.getD d false := ⟨_, rfl⟩
          rw [trimN, ← hu] at htr
          refine Wk.on ?_
          rw [decide_eq_true (show (0 : Int) < ((d + 1 : Nat) : Int) by omega)]
          refine Wk.on ?_
          rw [show ((d + 1 : Nat) : Int) - 1 = ((d : Nat) : Int) by omega, show 0 + Int.toNat ((d : Nat) : Int) * 1 = d by rw [Int.toNat_natCast]; omega, bls_getD, ← hu]
          cases u
          · rw [if_neg (by simp)] at htr
            refine Wk.on ?_
            rw [show ((d + 1 : Nat) : Int) - 1 = ((d : Nat) : Int) by omega]
            refine Again.mk (d) (Sub.nil ⟨rfl, rfl, (by simp [bls_LL]), rfl, (by simp [tupA, hpLt, tmLt, AV.lt, AE.lt, AC.lt, LL_cons, LL_nil, idOk, ABlk.lt, ints_LL, GB, bls_LL]), (by simp [tupA, hpLt, tmLt, AV.lt, AE.lt, AC.lt, LL_cons, LL_nil, idOk, ABlk.lt, ints_LL, GB, bls_LL])⟩ (by (repeat (first | exact trivial | refine ⟨trivial, ?_⟩ | refine ⟨rfl, ?_⟩))) (by (repeat (first | exact trivial | refine ⟨trivial, ?_⟩ | refine ⟨rfl, ?_⟩)))) (⟨by omega, htr⟩) (by omega)
          · rw [if_pos rfl] at htr
            refine Wk.on ?_
            refine ⟨⟨Int.le_refl 0, by show (0 : Int) ≤ _; omega, by omega, by omega, .inr (by omega)⟩, ?_⟩
            refine Wk.on ?_
            exact AH.Fin.new [2] _ _ ⟨by rw [← htr] <;> rfl, rfl, rfl⟩ rfl ⟨by show some (ABlk.own (bls C)) = some (ABlk.own ((bls C).map _)); rw [bls_ren], trivial⟩ rfl (by simp [tupA, hpLt, tmLt, AV.lt, AE.lt, AC.lt, LL_cons, LL_nil, idOk, ABlk.lt, ints_LL, GB, bls_LL]) (by simp [tupA, hpLt, tmLt, AV.lt, AE.lt, AC.lt, LL_cons, LL_nil, idOk, ABlk.lt, ints_LL, GB, bls_LL])
end Go.Proofs.YtimknijehaamlaaDoor

/-
  Contracts: the polynomials of paths.
-/
namespace Go.Proofs.YtimknijehaamlaaDoor
open Go Go.AH Go.Lin
set_option maxRecDepth 100000
set_option maxHeartbeats 1000000

/-- A polynomial as it lies: its cells, how many count. -/
abbrev PC := List Bool × Nat
def sumQ (a b : PC) (s : Nat) : PC := (addB (a.1.take a.2) (b.1.take b.2) s, trimN (addB (a.1.take a.2) (b.1.take b.2) s) (max a.2 (b.2 + s)))
def pathQ (own : Bool) : Nat → PC × PC
  | 0 => (([], 0), ([true], 1))
  | i + 1 => ((pathQ own i).2, if own then sumQ (sumQ (pathQ own i).1 (pathQ own i).2 1) (pathQ own i).2 0 else sumQ (pathQ own i).1 (pathQ own i).2 1)
def pathC (n : Nat) (own : Bool) : PC := (pathQ own (n - 1)).2
structure POk (p : PC) (k : Nat) : Prop where
  le : p.2 ≤ p.1.length
  k : p.2 ≤ k
theorem sumQ_ok {a b : PC} {s k m : Nat} (ha : POk a k) (hb : POk b m) : POk (sumQ a b s) (max k (m + s)) := by
  have h1 := ha.le
  have h2 := hb.le
  have h3 := ha.k
  have h4 := hb.k
  have e1 : (a.1.take a.2).length = a.2 := by simp; omega
  have e2 : (b.1.take b.2).length = b.2 := by simp; omega
  have h5 := trimN_le (addB (a.1.take a.2) (b.1.take b.2) s) (max a.2 (b.2 + s))
  have h6 := addTo_len (a.1.take a.2) (b.1.take b.2) s (b.1.take b.2).length
  rw [e1] at h6
  have h7 : (b.1.take b.2).length + s = b.2 + s := by omega
  rw [h7] at h6
  refine ⟨?_, ?_⟩
  · show trimN _ _ ≤ (addTo _ _ _ _).length
    rw [h6]; exact h5
  · show trimN _ _ ≤ _
    omega
theorem POk.mono {p : PC} {k m : Nat} (h : POk p k) (hk : k ≤ m) : POk p m := ⟨h.le, Nat.le_trans h.k hk⟩
theorem pathQ_ok (own : Bool) (i : Nat) : POk (pathQ own i).1 i ∧ POk (pathQ own i).2 (i + 1) := by
  induction i with
  | zero => exact ⟨⟨Nat.le_refl _, Nat.le_refl _⟩, ⟨Nat.le_refl _, Nat.le_refl _⟩⟩
  | succ i ih =>
    refine ⟨ih.2, ?_⟩
    have h1 := (sumQ_ok (s := 1) ih.1 ih.2).mono (m := i + 2) (by omega)
    rw [pathQ]
    split
    · exact (sumQ_ok (s := 0) h1 ih.2).mono (by omega)
    · exact h1
theorem sumQ_spec {a b : PC} {k m s : Nat} (ha : POk a k) (hb : POk b m) (hk : k ≤ 1000) (hm : m + s ≤ 1000) : FDet Tryd.prog 75 [.c (.rs 0 0 a.2), .c (.rs 1 0 b.2), .c (.int .i64 s)] [(0, .ro (bls a.1)), (1, .ro (bls b.1))] 2
    (.c (.sl 2 0 (sumQ a b s).2 (some (sumQ a b s).2))) [(2, .own (bls (sumQ a b s).1))] 3 :=
  sum_spec a.1 b.1 a.2 b.2 s ha.le hb.le (by have := ha.k; omega) (by have := hb.k; omega)
theorem sumQ_sl {a b : PC} {k m s : Nat} (ha : POk a k) (hb : POk b m) (hk : k ≤ 1000) (hm : m + s ≤ 1000) : FDet Tryd.prog 75 [.c (.sl 0 0 a.2 (some a.2)), .c (.rs 1 0 b.2), .c (.int .i64 s)] [(0, .ro (bls a.1)), (1, .ro (bls b.1))] 2
    (.c (.sl 2 0 (sumQ a b s).2 (some (sumQ a b s).2))) [(2, .own (bls (sumQ a b s).1))] 3 :=
  FDet.wk (sumQ_spec ha hb hk hm) ⟨⟨rfl, rfl, rfl⟩, rfl, rfl, trivial⟩ ⟨.inl rfl, .inl rfl, trivial⟩
theorem path_spec {n : Nat} (hn : 1 ≤ n) (hn2 : n ≤ 200) (own : Bool) : FDet Tryd.prog 55 [.c (.int .i64 n), .c (.bool own)] [(100001, .ro tab64)] 0 (.c (.rs 0 0 (pathC n own).2)) [(0, .own (bls (pathC n own).1))] 1 := by
  refine FSpec.body2 tok true Tryd.func55 ?_
  refine Wk.on ?_
  rw [decide_eq_false (show ¬ ((n : Nat) : Int) = 0 by omega)]
  refine Wk.on ?_
  rw [show ((n : Nat) : Int) - 1 = ((n - 1 : Nat) : Int) by omega]
  refine Tr.loopU (md := true) (X := Nat) (fun i => ⟨[(1, .c (.bool own)), (5, .c (.rs 1 0 (pathQ own i).1.2)), (6, .c (.rs 2 0 (pathQ own i).2.2)), (12, .c (.int .i64 (n - 1 : Nat))), (13, .c (.int .i64 i))], [(1, .ro (bls (pathQ own i).1.1)), (2, .own (bls (pathQ own i).2.1))], 3, 26, 0⟩) (fun i => i ≤ n - 1) (fun i => n - 1 - i) 0 tok (by omega) (Under.wk [(1, 100001), (2, 0)] ⟨rfl, rfl, Nat.le_of_ble_eq_true rfl, Nat.le_of_ble_eq_true rfl⟩ rfl ⟨.inl rfl, .inr rfl, .inr ⟨rfl, rfl, rfl⟩, .inl rfl, .inl rfl, trivial⟩ ⟨.inr (.inr ⟨rfl, rfl⟩), .inr (.inl (.inl rfl)), trivial⟩ rfl (by simp [tupA, hpLt, tmLt, AV.lt, AE.lt, AC.lt, LL_cons, LL_nil, idOk, ABlk.lt, ints_LL, GB, bls_LL, tab64_LL]) (by simp [tupA, hpLt, tmLt, AV.lt, AE.lt, AC.lt, LL_cons, LL_nil, idOk, ABlk.lt, ints_LL, GB, bls_LL, tab64_LL])) ?_
  intro i hi
  obtain ⟨hp, hq⟩ := pathQ_ok own i
  have hsu : pathQ own (i + 1) = ((pathQ own i).2, if own then sumQ (sumQ (pathQ own i).1 (pathQ own i).2 1) (pathQ own i).2 0 else sumQ (pathQ own i).1 (pathQ own i).2 1) := rfl
  by_cases hin : i < n - 1
  · generalize pathQ own i = PQ at *
    obtain ⟨p, q⟩ := PQ
    dsimp only at hp hq hsu
    have h1 := (sumQ_ok (s := 1) hp hq).mono (m := i + 2) (by omega)
    refine Wk.on ?_
    rw [decide_eq_true (show ((i : Nat) : Int) < ((n - 1 : Nat) : Int) by omega)]
    refine Wk.on ?_
    refine CallA.det2 [1, 2] (.c (.sl 3 0 (sumQ p q 1).2 (some (sumQ p q 1).2))) ([(1, .ro (bls p.1)), (2, .own (bls q.1)), (3, .own (bls (sumQ p q 1).1))]) (sumQ_spec (s := 1) hp hq (by omega) (by omega)) ?_
    refine Wk.on ?_
    cases own
    · refine Wk.on ?_
      exact Again.under (i + 1) (Under.wk [(1, 2), (2, 3)] ⟨rfl, rfl, Nat.le_of_ble_eq_true rfl, Nat.le_of_ble_eq_true rfl⟩ rfl (by rw [hsu]; exact ⟨.inl rfl, .inl rfl, .inr ⟨rfl, rfl, rfl⟩, .inl rfl, .inl rfl, trivial⟩) (by rw [hsu]; exact ⟨.inr (.inl (.inl (bls_ren _ _).symm)), .inr (.inl (.inl (bls_ren _ _).symm)), trivial⟩) rfl (by simp [tupA, hpLt, tmLt, AV.lt, AE.lt, AC.lt, LL_cons, LL_nil, idOk, ABlk.lt, ints_LL, GB, bls_LL, tab64_LL]) (by simp [tupA, hpLt, tmLt, AV.lt, AE.lt, AC.lt, LL_cons, LL_nil, idOk, ABlk.lt, ints_LL, GB, bls_LL, tab64_LL])) (by omega) (by omega)
    · refine Wk.on ?_
      refine CallA.det2 [3, 2] (.c (.sl 4 0 (sumQ (sumQ p q 1) q 0).2 (some (sumQ (sumQ p q 1) q 0).2))) ([(1, .ro (bls p.1)), (2, .own (bls q.1)), (3, .own (bls (sumQ p q 1).1)), (4, .own (bls (sumQ (sumQ p q 1) q 0).1))]) (sumQ_sl (s := 0) h1 hq (by omega) (by omega)) ?_
      refine Wk.on ?_
      exact Again.under (i + 1) (Under.wk [(1, 2), (2, 4)] ⟨rfl, rfl, Nat.le_of_ble_eq_true rfl, Nat.le_of_ble_eq_true rfl⟩ rfl (by rw [hsu]; exact ⟨.inl rfl, .inl rfl, .inr ⟨rfl, rfl, rfl⟩, .inl rfl, .inl rfl, trivial⟩) (by rw [hsu]; exact ⟨.inr (.inl (.inl (bls_ren _ _).symm)), .inr (.inl (.inl (bls_ren _ _).symm)), trivial⟩) rfl (by simp [tupA, hpLt, tmLt, AV.lt, AE.lt, AC.lt, LL_cons, LL_nil, idOk, ABlk.lt, ints_LL, GB, bls_LL, tab64_LL]) (by simp [tupA, hpLt, tmLt, AV.lt, AE.lt, AC.lt, LL_cons, LL_nil, idOk, ABlk.lt, ints_LL, GB, bls_LL, tab64_LL])) (by omega) (by omega)
  · obtain rfl : i = n - 1 := by omega
    rw [show (pathC n own) = (pathQ own (n - 1)).2 from rfl]
    generalize pathQ own (n - 1) = PQ at *
    obtain ⟨p, q⟩ := PQ
    refine Wk.on ?_
    rw [decide_eq_false (show ¬ ((n - 1 : Nat) : Int) < ((n - 1 : Nat) : Int) by omega)]
    refine Wk.on ?_
    intro _
    refine Wk.on ?_
    exact AH.Fin.new [2] _ _ ⟨rfl, rfl, rfl⟩ rfl ⟨by show some (ABlk.own (bls q.1)) = some (ABlk.own ((bls q.1).map _)); rw [bls_ren], trivial⟩ rfl (by simp [tupA, hpLt, tmLt, AV.lt, AE.lt, AC.lt, LL_cons, LL_nil, idOk, ABlk.lt, ints_LL, GB, bls_LL, tab64_LL]) (by simp [tupA, hpLt, tmLt, AV.lt, AE.lt, AC.lt, LL_cons, LL_nil, idOk, ABlk.lt, ints_LL, GB, bls_LL, tab64_LL])
end Go.Proofs.YtimknijehaamlaaDoor

/-
  Sums of polynomials, cell by cell; a remainder is shorter. (Plain Lean, nothing of the program.)
-/
namespace Go.Lin
theorem getD_set' {L : List Bool} {i j : Nat} {b : Bool} (hi : i < L.length) : (L.set i b).getD j false = if i = j then b else L.getD j false := by
  rw [List.getD_eq_getElem?_getD, List.getD_eq_getElem?_getD, List.getElem?_set]
  by_cases e : i = j
  · rw [if_pos e, if_pos e, if_pos hi]; rfl
  · rw [if_neg e, if_neg e]
end Go.Lin

/-
  Contracts: the common part of polynomials; GridQuiet; Polynomial.
-/
namespace Go.Proofs.YtimknijehaamlaaDoor
open Go Go.AH Go.Lin
set_option maxRecDepth 100000
set_option maxHeartbeats 1000000

theorem padB_get {n : Nat} {a : List Bool} (j : Nat) : (padB n a).getD j false = a.getD j false := by
  rw [padB, List.getD_eq_getElem?_getD, List.getD_eq_getElem?_getD]
  by_cases h : j < a.length
  · rw [List.getElem?_append_left h]
  · rw [List.getElem?_append_right (by omega), List.getElem?_eq_none (by omega : a.length ≤ j), List.getElem?_replicate]
    split <;> rfl
theorem addTo_get (a b : List Bool) (s k : Nat) (hk : k ≤ b.length) (j : Nat) : (addTo a b s k).getD j false = (a.getD j false != (decide (s ≤ j ∧ j < s + k) && b.getD (j - s) false)) := by
  induction k with
  | zero =>
    rw [decide_eq_false (by omega), show addTo a b s 0 = padB (max a.length (b.length + s)) a from rfl, padB_get]
    simp
  | succ k ih =>
    have ih := ih (by omega)
    have hl := addTo_len a b s k
    rw [addTo_succ, addF, getD_set' (by rw [hl]; omega)]
    by_cases e : k + s = j
    · subst e
      rw [if_pos rfl, ih, decide_eq_false (by omega), decide_eq_true (by omega), Nat.add_sub_cancel]
      simp
    · rw [if_neg e, ih]
      congr 2
      exact decide_eq_decide.2 (by omega)
theorem trimN_top (c : List Bool) : ∀ n, 0 < trimN c n → c.getD (trimN c n - 1) false = true
  | 0, h => absurd h (Nat.lt_irrefl 0)
  | n + 1, h => by
    rw [trimN] at h ⊢
    split
    · assumption
    · rename_i e
      rw [if_neg e] at h
      exact trimN_top c n h
/-- The last cell counts. -/
structure Top (p : PC) : Prop where
  le : p.2 ≤ p.1.length
  top : 0 < p.2 → p.1.getD (p.2 - 1) false = true
theorem sumQ_top {a b : PC} {s : Nat} (ha : a.2 ≤ a.1.length) (hb : b.2 ≤ b.1.length) : Top (sumQ a b s) :=
  ⟨(sumQ_ok (k := a.2) (m := b.2) ⟨ha, Nat.le_refl _⟩ ⟨hb, Nat.le_refl _⟩).le, fun h => trimN_top _ _ h⟩
theorem take_getD {L : List Bool} {n j : Nat} (h : j < n) : (L.take n).getD j false = L.getD j false := by
  rw [List.getD_eq_getElem?_getD, List.getD_eq_getElem?_getD, List.getElem?_take, if_pos h]
theorem sumQ_dec {a b : PC} (ha : Top a) (hb : Top b) (h0 : 0 < b.2) (h : b.2 ≤ a.2) : (sumQ a b (a.2 - b.2)).2 < a.2 := by
  have h1 := ha.le
  have h2 := hb.le
  have e1 : (a.1.take a.2).length = a.2 := by simp; omega
  have e2 : (b.1.take b.2).length = b.2 := by simp; omega
  have g := addTo_get (a.1.take a.2) (b.1.take b.2) (a.2 - b.2) (b.1.take b.2).length (Nat.le_refl _) (a.2 - 1)
  rw [decide_eq_true (by omega), take_getD (by omega), show a.2 - 1 - (a.2 - b.2) = b.2 - 1 by omega, take_getD (by omega), ha.top (by omega), hb.top h0] at g
  show trimN (addB _ _ _) _ < _
  rw [show max a.2 (b.2 + (a.2 - b.2)) = (a.2 - 1) + 1 by omega, trimN, show (addB (a.1.take a.2) (b.1.take b.2) (a.2 - b.2)).getD (a.2 - 1) false = false from g]
  rw [if_neg (by simp)]
  have := trimN_le (addB (a.1.take a.2) (b.1.take b.2) (a.2 - b.2)) (a.2 - 1)
  omega
def modQ : Nat → PC → PC → PC
  | 0, a, _ => a
  | f + 1, a, b => if b.2 ≤ a.2 then modQ f (sumQ a b (a.2 - b.2)) b else a
def gcdQ : Nat → PC → PC → PC
  | 0, a, _ => a
  | f + 1, a, b => if 0 < b.2 then gcdQ f b (modQ (a.2 + 1) a b) else a
theorem modQ_fuel {b : PC} (hb : Top b) (h0 : 0 < b.2) : ∀ (f : Nat) (a : PC), Top a → a.2 < f → modQ f a b = modQ (a.2 + 1) a b
  | 0, a, _, h => absurd h (Nat.not_lt_zero _)
  | f + 1, a, ha, h => by
    rw [modQ, modQ]
    by_cases hle : b.2 ≤ a.2
    · have hd := sumQ_dec ha hb h0 hle
      have ht := sumQ_top (a := a) (b := b) (s := a.2 - b.2) ha.le hb.le
      rw [if_pos hle, if_pos hle, modQ_fuel hb h0 f _ ht (by omega), modQ_fuel hb h0 a.2 _ ht (by omega)]
    · rw [if_neg hle, if_neg hle]
theorem modQ_ok {b : PC} (hb : Top b) (h0 : 0 < b.2) : ∀ (f : Nat) (a : PC), Top a → a.2 < f → Top (modQ f a b) ∧ (modQ f a b).2 < b.2
  | 0, a, _, h => absurd h (Nat.not_lt_zero _)
  | f + 1, a, ha, h => by
    rw [modQ]
    by_cases hle : b.2 ≤ a.2
    · have hd := sumQ_dec ha hb h0 hle
      rw [if_pos hle]
      exact modQ_ok hb h0 f _ (sumQ_top ha.le hb.le) (by omega)
    · rw [if_neg hle]; exact ⟨ha, by omega⟩
theorem gcdQ_fuel : ∀ (f : Nat) (a b : PC), Top a → Top b → b.2 < f → gcdQ f a b = gcdQ (b.2 + 1) a b
  | 0, _, _, _, _, h => absurd h (Nat.not_lt_zero _)
  | f + 1, a, b, ha, hb, h => by
    rw [gcdQ, gcdQ]
    by_cases h0 : 0 < b.2
    · obtain ⟨h1, h2⟩ := modQ_ok hb h0 (a.2 + 1) a ha (by omega)
      rw [if_pos h0, if_pos h0, gcdQ_fuel f b _ hb h1 (by omega), gcdQ_fuel b.2 b _ hb h1 (by omega)]
    · rw [if_neg h0, if_neg h0]
theorem gcdQ_len : ∀ (f : Nat) (a b : PC), Top a → Top b → b.2 < f → (gcdQ f a b).2 ≤ max a.2 b.2
  | 0, _, _, _, _, h => absurd h (Nat.not_lt_zero _)
  | f + 1, a, b, ha, hb, h => by
    rw [gcdQ]
    by_cases h0 : 0 < b.2
    · obtain ⟨h1, h2⟩ := modQ_ok hb h0 (a.2 + 1) a ha (by omega)
      rw [if_pos h0]
      have := gcdQ_len f b _ hb h1 (by omega)
      omega
    · rw [if_neg h0]; omega
def comQ (a b : PC) : PC := gcdQ (b.2 + 1) a b
theorem comQ_len {a b : PC} (ha : Top a) (hb : Top b) : (comQ a b).2 ≤ max a.2 b.2 := gcdQ_len _ a b ha hb (by omega)
theorem common_spec {a b : PC} {m : Nat} (ha : Top a) (hb : Top b) (hm : m ≤ 500) (hak : a.2 ≤ m) (hbk : b.2 ≤ m) : FDet Tryd.prog 54 [.c (.rs 0 0 a.2), .c (.rs 1 0 b.2)] [(0, .ro (bls a.1)), (1, .ro (bls b.1))] 2 (.c (.rs 2 0 (comQ a b).2)) [] 3 := by
  refine FSpec.body2 tok true Tryd.func54 ?_
  refine Wk.on ?_
  refine Tr.loopU (md := true) (X := PC × PC) (fun q => ⟨[(0, .c (.rs 2 0 q.1.2)), (1, .c (.rs 3 0 q.2.2))], [(2, .ro (bls q.1.1)), (3, .ro (bls q.2.1))], 4, 24, 2⟩) (fun q => Top q.1 ∧ Top q.2 ∧ q.1.2 ≤ m ∧ q.2.2 ≤ m ∧ comQ q.1 q.2 = comQ a b) (fun q => q.2.2) (a, b) tok ⟨ha, hb, hak, hbk, rfl⟩ (Under.wk [(2, 0), (3, 1)] ⟨rfl, rfl, Nat.le_of_ble_eq_true rfl, Nat.le_of_ble_eq_true rfl⟩ rfl ⟨.inl rfl, .inl rfl, trivial⟩ ⟨.inr (.inl (.inl (bls_ren _ _).symm)), .inr (.inl (.inl (bls_ren _ _).symm)), trivial⟩ rfl (by simp [tupA, hpLt, tmLt, AV.lt, AE.lt, AC.lt, LL_cons, LL_nil, idOk, ABlk.lt, ints_LL, GB, bls_LL, tab64_LL]) (by simp [tupA, hpLt, tmLt, AV.lt, AE.lt, AC.lt, LL_cons, LL_nil, idOk, ABlk.lt, ints_LL, GB, bls_LL, tab64_LL])) ?_
  rintro ⟨p, q⟩ ⟨hp, hq, hpk, hqk, hc⟩
  dsimp only at hp hq hpk hqk hc ⊢
  by_cases h0 : 0 < q.2
  · have hcs : comQ p q = comQ q (modQ (p.2 + 1) p q) := by
      obtain ⟨h1, h2⟩ := modQ_ok hq h0 (p.2 + 1) p hp (by omega)
      rw [comQ, gcdQ, if_pos h0, gcdQ_fuel _ _ _ hq h1 (by omega)]; rfl
    obtain ⟨hmt, hml⟩ := modQ_ok hq h0 (p.2 + 1) p hp (by omega)
    refine Wk.on ?_
    rw [decide_eq_true (show (0 : Int) < ((q.2 : Nat) : Int) by omega)]
    refine Wk.on ?_
    refine Tr.loopU (md := true) (X := PC) (fun x => ⟨[(0, .c (.rs 2 0 x.2)), (1, .c (.rs 3 0 q.2))], [(2, .ro (bls x.1)), (3, .ro (bls q.1))], 4, 24, 2⟩) (fun x => Top x ∧ x.2 ≤ m ∧ modQ (x.2 + 1) x q = modQ (p.2 + 1) p q) (fun x => x.2) p tok ⟨hp, hpk, rfl⟩ (Under.wk [] ⟨rfl, rfl, Nat.le_of_ble_eq_true rfl, Nat.le_of_ble_eq_true rfl⟩ rfl ⟨.inl rfl, .inl rfl, trivial⟩ ⟨.inr (.inl (.inl (bls_ren _ _).symm)), .inr (.inl (.inl (bls_ren _ _).symm)), trivial⟩ rfl (by simp [tupA, hpLt, tmLt, AV.lt, AE.lt, AC.lt, LL_cons, LL_nil, idOk, ABlk.lt, ints_LL, GB, bls_LL, tab64_LL]) (by simp [tupA, hpLt, tmLt, AV.lt, AE.lt, AC.lt, LL_cons, LL_nil, idOk, ABlk.lt, ints_LL, GB, bls_LL, tab64_LL])) ?_
    rintro x ⟨hx, hxk, hxm⟩
    by_cases hle : q.2 ≤ x.2
    · have hd := sumQ_dec hx hq h0 hle
      have hst := sumQ_top (a := x) (b := q) (s := x.2 - q.2) hx.le hq.le
      have hxs : modQ ((sumQ x q (x.2 - q.2)).2 + 1) (sumQ x q (x.2 - q.2)) q = modQ (p.2 + 1) p q := by
        rw [← hxm, ← modQ_fuel hq h0 x.2 _ hst (by omega)]
        conv => rhs; rw [modQ, if_pos hle]
      refine Wk.on ?_
      rw [decide_eq_true (show ((q.2 : Nat) : Int) ≤ ((x.2 : Nat) : Int) by omega)]
      refine Wk.on ?_
      rw [show ((x.2 : Nat) : Int) - ((q.2 : Nat) : Int) = ((x.2 - q.2 : Nat) : Int) by omega]
      refine CallA.det2 [2, 3] (.c (.sl 4 0 (sumQ x q (x.2 - q.2)).2 (some (sumQ x q (x.2 - q.2)).2))) ([(2, .ro (bls x.1)), (3, .ro (bls q.1)), (4, .own (bls (sumQ x q (x.2 - q.2)).1))]) (sumQ_spec (k := x.2) (m := q.2) (s := x.2 - q.2) ⟨hx.le, Nat.le_refl _⟩ ⟨hq.le, Nat.le_refl _⟩ (by omega) (by omega)) ?_
      refine Wk.on ?_
      exact Again.under (sumQ x q (x.2 - q.2)) (Under.wk [(2, 4)] ⟨rfl, rfl, Nat.le_of_ble_eq_true rfl, Nat.le_of_ble_eq_true rfl⟩ rfl ⟨.inr ⟨rfl, rfl, rfl⟩, .inl rfl, trivial⟩ ⟨.inr (.inl (.inl (bls_ren _ _).symm)), .inr (.inl (.inl (bls_ren _ _).symm)), trivial⟩ rfl (by simp [tupA, hpLt, tmLt, AV.lt, AE.lt, AC.lt, LL_cons, LL_nil, idOk, ABlk.lt, ints_LL, GB, bls_LL, tab64_LL]) (by simp [tupA, hpLt, tmLt, AV.lt, AE.lt, AC.lt, LL_cons, LL_nil, idOk, ABlk.lt, ints_LL, GB, bls_LL, tab64_LL])) ⟨hst, by omega, hxs⟩ (by omega)
    · have hxe : modQ (p.2 + 1) p q = x := by rw [← hxm, modQ, if_neg hle]
      refine Wk.on ?_
      rw [decide_eq_false (show ¬ ((q.2 : Nat) : Int) ≤ ((x.2 : Nat) : Int) by omega)]
      refine Wk.on ?_
      rw [hxe] at hcs hmt hml
      exact Again.under (q, x) (Under.wk [(2, 3), (3, 2)] ⟨rfl, rfl, Nat.le_of_ble_eq_true rfl, Nat.le_of_ble_eq_true rfl⟩ rfl ⟨.inl rfl, .inl rfl, trivial⟩ ⟨.inr (.inl (.inl (bls_ren _ _).symm)), .inr (.inl (.inl (bls_ren _ _).symm)), trivial⟩ rfl (by simp [tupA, hpLt, tmLt, AV.lt, AE.lt, AC.lt, LL_cons, LL_nil, idOk, ABlk.lt, ints_LL, GB, bls_LL, tab64_LL]) (by simp [tupA, hpLt, tmLt, AV.lt, AE.lt, AC.lt, LL_cons, LL_nil, idOk, ABlk.lt, ints_LL, GB, bls_LL, tab64_LL])) ⟨hq, hmt, hqk, by omega, by rw [← hcs]; exact hc⟩ hml
  · have hcp : comQ a b = p := by rw [← hc, comQ, gcdQ, if_neg h0]
    rw [hcp]
    refine Wk.on ?_
    rw [decide_eq_false (show ¬ (0 : Int) < ((q.2 : Nat) : Int) by omega)]
    refine Wk.on ?_
    exact AH.Fin.new [2] _ _ ⟨rfl, rfl, rfl⟩ rfl trivial rfl (by simp [tupA, hpLt, tmLt, AV.lt, AE.lt, AC.lt, LL_cons, LL_nil, idOk, ABlk.lt, ints_LL, GB, bls_LL, tab64_LL]) (by simp [tupA, hpLt, tmLt, AV.lt, AE.lt, AC.lt, LL_cons, LL_nil, idOk, ABlk.lt, ints_LL, GB, bls_LL, tab64_LL])

theorem pathQ_top (own : Bool) (i : Nat) : Top (pathQ own i).1 ∧ Top (pathQ own i).2 := by
  induction i with
  | zero => exact ⟨⟨Nat.le_refl _, fun h => absurd h (Nat.lt_irrefl 0)⟩, ⟨Nat.le_refl _, fun _ => rfl⟩⟩
  | succ i ih =>
    refine ⟨ih.2, ?_⟩
    rw [pathQ]
    split
    · exact sumQ_top (sumQ_top ih.1.le ih.2.le).le ih.2.le
    · exact sumQ_top ih.1.le ih.2.le
theorem pathC_len {n : Nat} (hn : 1 ≤ n) (own : Bool) : (pathC n own).2 ≤ n := by
  have := (pathQ_ok own (n - 1)).2.k
  show (pathQ own (n - 1)).2.2 ≤ n
  omega
theorem GridQuiet_spec {h w : Nat} (h1 : 1 ≤ h) (w1 : 1 ≤ w) (h60 : h ≤ 60) (w60 : w ≤ 60) (own : Bool) : FDet Tryd.prog 26 [.c (.int .i64 h), .c (.int .i64 w), .c (.bool own)] [(100001, .ro tab64)] 0
    (.t [.c (.int .i64 (((comQ (pathC (h + 1) own) (pathC (w + 1) false)).2 : Int) - 1)), .c (.int .i64 0)]) [] 0 := by
  have hl1 := pathC_len (n := h + 1) (by omega) own
  have hl2 := pathC_len (n := w + 1) (by omega) false
  have ht1 := (pathQ_top own (h + 1 - 1)).2
  have ht2 := (pathQ_top false (w + 1 - 1)).2
  have hp1 := path_spec (n := h + 1) (by omega) (by omega) own
  have hp2 := path_spec (n := w + 1) (by omega) (by omega) false
  change Top (pathC (h + 1) own) at ht1
  change Top (pathC (w + 1) false) at ht2
  generalize pathC (h + 1) own = p at *
  generalize pathC (w + 1) false = q at *
  have hc := common_spec (m := 61) ht1 ht2 (by omega) (by omega) (by omega)
  have hcl : (comQ p q).2 ≤ 1000000 := by
    have := comQ_len ht1 ht2
    omega
  generalize comQ p q = c at *
  refine FSpec.body2 tok true Tryd.func26 ?_
  refine Wk.on ?_
  rw [decide_eq_false (show ¬ min ((h : Nat) : Int) ((w : Nat) : Int) < 1 by omega)]
  refine Wk.on ?_
  rw [decide_eq_false (show ¬ 60 < max ((h : Nat) : Int) ((w : Nat) : Int) by omega)]
  refine Wk.on ?_
  refine CallA.det2 [] (.c (.rs 0 0 p.2)) ([(100001, .ro tab64), (0, .own (bls p.1))]) (hp1) ?_
  refine Wk.on ?_
  refine CallA.det2 [] (.c (.rs 1 0 q.2)) ([(100001, .ro tab64), (0, .own (bls p.1)), (1, .own (bls q.1))]) (hp2) ?_
  refine Wk.on ?_
  refine CallA.det2 [0, 1] (.c (.rs 2 0 c.2)) ([(100001, .ro tab64), (0, .own (bls p.1)), (1, .own (bls q.1))]) (hc) ?_
  refine Wk.on ?_
  exact AH.Fin.nil2 ⟨rfl, rfl, rfl⟩
end Go.Proofs.YtimknijehaamlaaDoor

/-
  Contracts: Polynomial; Grid.
-/
namespace Go.Proofs.YtimknijehaamlaaDoor
open Go Go.AH Go.Lin
set_option maxRecDepth 100000
set_option maxHeartbeats 1000000

/-- The exponents of a polynomial. -/
def exQ (p : PC) (k : Nat) : List Nat := (List.range k).filter fun i => p.1.getD i false
theorem exQ_succ (p : PC) (k : Nat) : exQ p (k + 1) = exQ p k ++ if p.1.getD k false then [k] else [] := by
  rw [exQ, List.range_succ, List.filter_append]
  rw [List.filter_cons, List.filter_nil]; rfl
theorem one_lie (s : Nat) (q : Nat → Nat) : [AC.int .i64 (s : Int)] = (ints (castL [s])).map (AC.ren q) := by
  rw [ints_ren]; rfl
theorem exQ_len (p : PC) (k : Nat) : (exQ p k).length ≤ k := by
  have := List.length_filter_le (fun i => p.1.getD i false) (List.range k)
  rw [List.length_range] at this; exact this
def plSt (p : PC) : Nat × List Nat → AS
  | (i, []) => ⟨[(4, .c .nils), (14, .c (.rs 0 0 p.2)), (15, .c (.int .i64 p.2)), (16, .c (.int .i64 i))], [(0, .own (bls p.1))], 2, 28, 0⟩
  | (i, e :: E) => ⟨[(4, .c (.row 1 (e :: E).length)), (14, .c (.rs 0 0 p.2)), (15, .c (.int .i64 p.2)), (16, .c (.int .i64 i))], [(0, .own (bls p.1)), (1, .row 3 1 (ints (castL (e :: E))))], 2, 28, 0⟩
def pV : List Nat → AV
  | [] => .t [.c .nils, .c (.int .i64 0)]
  | b :: L => .t [.c (.row 0 (b :: L).length), .c (.int .i64 0)]
def pH : List Nat → List (Nat × ABlk)
  | [] => []
  | b :: L => [(0, .row 3 1 (ints (castL (b :: L))))]
def pK : List Nat → Nat
  | [] => 0
  | _ :: _ => 1
theorem Polynomial_spec {n : Nat} (hn : 1 ≤ n) (hn2 : n ≤ 200) : FDet Tryd.prog 28 [.c (.int .i64 n)] [(100001, .ro tab64)] 0
    (pV (exQ (pathC n false) (pathC n false).2)) (pH (exQ (pathC n false) (pathC n false).2)) (pK (exQ (pathC n false) (pathC n false).2)) := by
  have hp := path_spec hn hn2 false
  have hl := pathC_len hn false
  have hle := (pathQ_ok false (n - 1)).2.le
  change (pathC n false).2 ≤ (pathC n false).1.length at hle
  generalize pathC n false = p at *
  have hbl : (bls p.1).length = p.1.length := bls_len _
  refine FSpec.of_body tok true Tryd.func28 rfl (by kernel_rfl) (by decide) (by simp [tupA, hpLt, tmLt, AV.lt, AE.lt, AC.lt, LL_cons, LL_nil, idOk, ABlk.lt, ints_LL, GB, bls_LL, tab64_LL, pV, pH, pK, plSt, tV, tH, tK, qV, castL]) (by simp [tupA, hpLt, tmLt, AV.lt, AE.lt, AC.lt, LL_cons, LL_nil, idOk, ABlk.lt, ints_LL, GB, bls_LL, tab64_LL, pV, pH, pK, plSt, tV, tH, tK, qV, castL]) (by show 1 ≤ _; decide) ?_
  refine Wk.on ?_
  rw [decide_eq_false (show ¬ ((n : Nat) : Int) < 0 by omega)]
  refine Wk.on ?_
  rw [decide_eq_false (show ¬ 200 < ((n : Nat) : Int) by omega)]
  refine Wk.on ?_
  refine CallA.det [] (.c (.rs 0 0 p.2)) ([(100001, .ro tab64), (0, .own (bls p.1))]) (hp) (by first | rfl | exact congrArg AV.g (ints_ren _ _) | (simp [ints_ren, AV.ren, ABlk.ren, AC.ren, AE.ren, bls_ren, qq]; done)) rfl (by (repeat (first | exact trivial | refine ⟨⟨(by first | exact .inl (by decide) | exact .inr (by decide)), (by first | (refine Or.inl ?_; first | rfl | exact congrArg some (ints_ren _ _).symm | exact congrArg ABlk.own (ints_ren _ _).symm | exact congrArg some (tab64_ren _).symm | exact congrArg (ABlk.row _ _) (ints_ren _ _).symm | exact congrArg some (bls_ren _ _).symm | exact congrArg ABlk.own (bls_ren _ _).symm | exact congrArg ABlk.ro (bls_ren _ _).symm) | rfl | exact congrArg some (ints_ren _ _).symm | exact congrArg ABlk.own (ints_ren _ _).symm | exact congrArg some (tab64_ren _).symm | exact congrArg (ABlk.row _ _) (ints_ren _ _).symm | exact congrArg some (bls_ren _ _).symm | exact congrArg ABlk.own (bls_ren _ _).symm | exact congrArg ABlk.ro (bls_ren _ _).symm | exact Or.inr ⟨rfl, rfl⟩)⟩, ?_⟩))) (by first | rfl | exact congrArg AV.g (ints_ren _ _) | (simp [ints_ren, AV.ren, ABlk.ren, AC.ren, AE.ren, bls_ren, qq]; done)) (by first | rfl | (simp [behind, gone, lk, up, del, qq, ABlk.wr, GB, ints_ren, AV.ren, ABlk.ren, AC.ren, AE.ren, bls_ren]; done) | (simp [behind, gone, lk, up, del, qq, ABlk.wr, GB, ints_ren, AV.ren, ABlk.ren, AC.ren, AE.ren, bls_ren]; rfl)) ?_
  refine Wk.on ?_
  refine Tr.loopU (md := true) (X := Nat × List Nat) (plSt p) (fun q => q.1 ≤ p.2 ∧ exQ p q.1 = q.2) (fun q => p.2 - q.1) (0, []) tok ⟨by omega, rfl⟩ (Under.wk [] ⟨rfl, rfl, Nat.le_of_ble_eq_true rfl, Nat.le_of_ble_eq_true rfl⟩ rfl ⟨.inl rfl, .inl rfl, .inl rfl, .inl rfl, trivial⟩ ⟨.inr (.inl (.inl (bls_ren _ _).symm)), trivial⟩ rfl (by simp [tupA, hpLt, tmLt, AV.lt, AE.lt, AC.lt, LL_cons, LL_nil, idOk, ABlk.lt, ints_LL, GB, bls_LL, tab64_LL, pV, pH, pK, plSt, tV, tH, tK, qV, castL]) (by simp [tupA, hpLt, tmLt, AV.lt, AE.lt, AC.lt, LL_cons, LL_nil, idOk, ABlk.lt, ints_LL, GB, bls_LL, tab64_LL, pV, pH, pK, plSt, tV, tH, tK, qV, castL])) ?_
  rintro ⟨i, L⟩ ⟨hi, hex⟩
  dsimp only at hi hex
  have hLl := exQ_len p i
  rw [hex] at hLl
  by_cases hil : i < p.2
  · have hsu := exQ_succ p i
    rw [hex] at hsu
    obtain ⟨u, hu⟩ : ∃ u, u = p.1.getD i false := ⟨_, rfl⟩
    rw [← hu] at hsu
    rcases L with _ | ⟨b0, L0⟩
    · refine Wk.on ?_
      rw [decide_eq_true (show ((i : Nat) : Int) < ((p.2 : Nat) : Int) by omega)]
      refine Wk.on ?_
      rw [show 0 + Int.toNat ((i : Nat) : Int) * 1 = i by rw [Int.toNat_natCast]; omega, bls_getD, ← hu]
      cases u
      · refine Wk.on ?_
        exact Again.under (i + 1, []) (Under.wk [] ⟨rfl, rfl, Nat.le_of_ble_eq_true rfl, Nat.le_of_ble_eq_true rfl⟩ rfl ⟨.inl rfl, .inl rfl, .inl rfl, .inl rfl, trivial⟩ ⟨.inr (.inl (.inl (bls_ren _ _).symm)), trivial⟩ rfl (by simp [tupA, hpLt, tmLt, AV.lt, AE.lt, AC.lt, LL_cons, LL_nil, idOk, ABlk.lt, ints_LL, GB, bls_LL, tab64_LL, pV, pH, pK, plSt, tV, tH, tK, qV, castL]) (by simp [tupA, hpLt, tmLt, AV.lt, AE.lt, AC.lt, LL_cons, LL_nil, idOk, ABlk.lt, ints_LL, GB, bls_LL, tab64_LL, pV, pH, pK, plSt, tV, tH, tK, qV, castL])) ⟨by omega, hsu⟩ (by show p.2 - (i + 1) < p.2 - i; omega)
      · refine Wk.on ?_
        exact Again.under (i + 1, [i]) (Under.wk [(1, 3)] ⟨rfl, rfl, Nat.le_of_ble_eq_true rfl, Nat.le_of_ble_eq_true rfl⟩ rfl ⟨.inl rfl, .inl rfl, .inl rfl, .inl rfl, trivial⟩ ⟨.inr (.inl (.inl (bls_ren _ _).symm)), .inl (congrArg (ABlk.row _ _) (one_lie _ _)), trivial⟩ rfl (by simp [tupA, hpLt, tmLt, AV.lt, AE.lt, AC.lt, LL_cons, LL_nil, idOk, ABlk.lt, ints_LL, GB, bls_LL, tab64_LL, pV, pH, pK, plSt, tV, tH, tK, qV, castL]) (by simp [tupA, hpLt, tmLt, AV.lt, AE.lt, AC.lt, LL_cons, LL_nil, idOk, ABlk.lt, ints_LL, GB, bls_LL, tab64_LL, pV, pH, pK, plSt, tV, tH, tK, qV, castL])) ⟨by omega, hsu⟩ (by show p.2 - (i + 1) < p.2 - i; omega)
    · generalize hLL : b0 :: L0 = L at *
      have hml : (ints (castL L)).length = L.length := by rw [ints_len, castL_len]
      have hst : ∀ i : Nat, plSt p (i, L) = ⟨[(4, .c (.row 1 L.length)), (14, .c (.rs 0 0 p.2)), (15, .c (.int .i64 p.2)), (16, .c (.int .i64 i))], [(0, .own (bls p.1)), (1, .row 3 1 (ints (castL L)))], 2, 28, 0⟩ := fun i => by rw [← hLL]; rfl
      rw [hst]
      refine Wk.on ?_
      rw [decide_eq_true (show ((i : Nat) : Int) < ((p.2 : Nat) : Int) by omega)]
      refine Wk.on ?_
      rw [show 0 + Int.toNat ((i : Nat) : Int) * 1 = i by rw [Int.toNat_natCast]; omega, bls_getD, ← hu]
      cases u
      · refine Wk.on ?_
        refine Again.under (i + 1, L) ?_ ⟨by omega, by rw [hsu]; exact List.append_nil _⟩ (by show p.2 - (i + 1) < p.2 - i; omega)
        rw [hst]
        exact Under.wk [] ⟨rfl, rfl, Nat.le_of_ble_eq_true rfl, Nat.le_of_ble_eq_true rfl⟩ rfl ⟨.inl rfl, .inl rfl, .inl rfl, .inl rfl, trivial⟩ ⟨.inr (.inl (.inl (bls_ren _ _).symm)), .inl (congrArg (ABlk.row _ _) (ints_ren _ _).symm), trivial⟩ rfl (by simp [tupA, hpLt, tmLt, AV.lt, AE.lt, AC.lt, LL_cons, LL_nil, idOk, ABlk.lt, ints_LL, GB, bls_LL, tab64_LL, pV, pH, pK, plSt, tV, tH, tK, qV, castL]) (by simp [tupA, hpLt, tmLt, AV.lt, AE.lt, AC.lt, LL_cons, LL_nil, idOk, ABlk.lt, ints_LL, GB, bls_LL, tab64_LL, pV, pH, pK, plSt, tV, tH, tK, qV, castL])
      · refine Wk.on ?_
        refine ⟨⟨Nat.le_of_ble_eq_true rfl, rfl, rfl, by rw [hml]; show L.length = L.length * 1; omega, by show ((L.length + 1 : Nat) : Int) * 8 ≤ _; omega, by omega⟩, ?_⟩
        refine Wk.on ?_
        have hal : L ++ [i] = b0 :: (L0 ++ [i]) := by rw [← hLL]; rfl
        have hll : L.length + 1 = (b0 :: (L0 ++ [i])).length := by rw [← hal]; simp
        refine Again.under (i + 1, b0 :: (L0 ++ [i])) ?_ ⟨by omega, by rw [hsu, ← hal]; rfl⟩ (by show p.2 - (i + 1) < p.2 - i; omega)
        exact Under.wk [(1, 3)] ⟨rfl, rfl, Nat.le_of_ble_eq_true rfl, Nat.le_of_ble_eq_true rfl⟩ rfl ⟨.inl (by rw [hll]; rfl), .inl rfl, .inl rfl, .inl rfl, trivial⟩ ⟨.inr (.inl (.inl (bls_ren _ _).symm)), .inl (by rw [← hal]; exact congrArg (ABlk.row _ _) (app_lie _ _ _)), trivial⟩ rfl (by simp [tupA, hpLt, tmLt, AV.lt, AE.lt, AC.lt, LL_cons, LL_nil, idOk, ABlk.lt, ints_LL, GB, bls_LL, tab64_LL, pV, pH, pK, plSt, tV, tH, tK, qV, castL]) (by simp [tupA, hpLt, tmLt, AV.lt, AE.lt, AC.lt, LL_cons, LL_nil, idOk, ABlk.lt, ints_LL, GB, bls_LL, tab64_LL, pV, pH, pK, plSt, tV, tH, tK, qV, castL])
  · obtain rfl : i = p.2 := by omega
    rw [hex]
    rcases L with _ | ⟨b0, L0⟩
    · refine Wk.on ?_
      rw [decide_eq_false (show ¬ ((p.2 : Nat) : Int) < ((p.2 : Nat) : Int) by omega)]
      refine Wk.on ?_
      intro _
      refine Wk.on ?_
      exact AH.Fin.nil [] ⟨rfl, rfl, rfl⟩ (by first | exact trivial | (simp [tupA, hpLt, tmLt, AV.lt, AE.lt, AC.lt, LL_cons, LL_nil, idOk, ABlk.lt, ints_LL, GB, bls_LL, tab64_LL, pV, pH, pK, plSt, tV, tH, tK, qV, castL]; done) | (simp [tupA, hpLt, tmLt, AV.lt, AE.lt, AC.lt, LL_cons, LL_nil, idOk, ABlk.lt, ints_LL, GB, bls_LL, tab64_LL, pV, pH, pK, plSt, tV, tH, tK, qV, castL, rdn, wrn]; done)) trivial trivial rfl (by simp [GB])
    · refine Wk.on ?_
      rw [decide_eq_false (show ¬ ((p.2 : Nat) : Int) < ((p.2 : Nat) : Int) by omega)]
      refine Wk.on ?_
      intro _
      refine Wk.on ?_
      exact AH.Fin.new [1] _ _ ⟨rfl, rfl, rfl⟩ rfl ⟨by show some (ABlk.row 3 1 _) = some (ABlk.row 3 1 ((ints _).map _)); rw [ints_ren], trivial⟩ rfl (by simp [tupA, hpLt, tmLt, AV.lt, AE.lt, AC.lt, LL_cons, LL_nil, idOk, ABlk.lt, ints_LL, GB, bls_LL, tab64_LL, pV, pH, pK, plSt, tV, tH, tK, qV, castL]) (by simp [tupA, hpLt, tmLt, AV.lt, AE.lt, AC.lt, LL_cons, LL_nil, idOk, ABlk.lt, ints_LL, GB, bls_LL, tab64_LL, pV, pH, pK, plSt, tV, tH, tK, qV, castL])
end Go.Proofs.YtimknijehaamlaaDoor

/-
  Contracts: Grid.
-/
namespace Go.Proofs.YtimknijehaamlaaDoor
open Go Go.AH Go.Lin
set_option maxRecDepth 100000
set_option maxHeartbeats 1000000

def gridF (h w i : Nat) : List (Nat × Nat) := (if i % w < w - 1 then [(i, i + 1)] else []) ++ if i + w < h * w then [(i, i + w)] else []
def gridL (h w k : Nat) : List (Nat × Nat) := (List.range k).flatMap (gridF h w)
theorem gridL_succ (h w k : Nat) : gridL h w (k + 1) = gridL h w k ++ gridF h w k := by
  rw [gridL, List.range_succ, List.flatMap_append]; simp [gridL]
theorem gridF_len (h w i : Nat) : (gridF h w i).length ≤ 2 := by
  rw [gridF, List.length_append]
  split <;> split <;> simp
theorem gridL_len (h w k : Nat) : (gridL h w k).length ≤ 2 * k := by
  induction k with
  | zero => exact Nat.le_refl 0
  | succ k ih =>
    rw [gridL_succ, List.length_append]
    have := gridF_len h w k
    omega
def gdSt (h w : Nat) : Nat × List (Nat × Nat) → AS
  | (i, []) => ⟨[(0, .c (.int .i64 h)), (1, .c (.int .i64 w)), (7, .c .nils), (27, .c (.int .i64 (h * w : Nat))), (28, .c (.int .i64 i))], [], 2, 64, 0⟩
  | (i, e :: E) => ⟨[(0, .c (.int .i64 h)), (1, .c (.int .i64 w)), (7, .c (.row 1 (e :: E).length)), (27, .c (.int .i64 (h * w : Nat))), (28, .c (.int .i64 i))], [(1, .row 38 2 (ints (prs (e :: E))))], 2, 64, 0⟩
def gV (m : Nat) : List (Nat × Nat) → AV
  | [] => .t [.c (.int .i64 m), .c .nils, .c (.int .i64 0)]
  | b :: L => .t [.c (.int .i64 m), .c (.row 0 (b :: L).length), .c (.int .i64 0)]
def gH : List (Nat × Nat) → List (Nat × ABlk)
  | [] => []
  | b :: L => [(0, .row 38 2 (ints (prs (b :: L))))]
def gK : List (Nat × Nat) → Nat
  | [] => 0
  | _ :: _ => 1
theorem prs_one (a b : Nat) (q : Nat → Nat) : [AC.int .i64 (a : Int), .int .i64 (b : Int)] = (ints (prs [(a, b)])).map (AC.ren q) := by
  rw [ints_ren]; rfl
theorem prs_lie (L : List (Nat × Nat)) (a b : Nat) (q : Nat → Nat) : ints (prs L) ++ [AC.int .i64 (a : Int), .int .i64 (b : Int)] = (ints (prs (L ++ [(a, b)]))).map (AC.ren q) := by
  rw [ints_ren, prs_app, ← ints_app]; rfl
theorem prs_lie2 (L : List (Nat × Nat)) (a b c d : Nat) (q : Nat → Nat) : ints (prs L) ++ [AC.int .i64 (a : Int), .int .i64 (b : Int)] ++ [AC.int .i64 (c : Int), .int .i64 (d : Int)] = (ints (prs (L ++ [(a, b), (c, d)]))).map (AC.ren q) := by
  rw [ints_ren, prs_app, ← ints_app, List.append_assoc]; rfl
theorem Grid_spec {h w : Nat} (h1 : 1 ≤ h) (w1 : 1 ≤ w) (hw : h * w ≤ 16) : FDet Tryd.prog 23 [.c (.int .i64 h), .c (.int .i64 w)] [] 0 (gV (h * w) (gridL h w (h * w))) (gH (gridL h w (h * w))) (gK (gridL h w (h * w))) := by
  have h16 : h ≤ 16 := Nat.le_trans (Nat.le_mul_of_pos_right h w1) hw
  have w16 : w ≤ 16 := Nat.le_trans (Nat.le_mul_of_pos_left w h1) hw
  have hmul : ((h : Nat) : Int) * ((w : Nat) : Int) = ((h * w : Nat) : Int) := (Int.natCast_mul h w).symm
  refine FSpec.of_body tok true Tryd.func23 rfl (by kernel_rfl) (by decide) (by simp [tupA, hpLt, tmLt, AV.lt, AE.lt, AC.lt, LL_cons, LL_nil, idOk, ABlk.lt, ints_LL, GB, gdSt, gV, gH, gK, prs]) (by simp [tupA, hpLt, tmLt, AV.lt, AE.lt, AC.lt, LL_cons, LL_nil, idOk, ABlk.lt, ints_LL, GB, gdSt, gV, gH, gK, prs]) (by show 2 ≤ _; decide) ?_
  refine Wk.on ?_
  rw [decide_eq_false (show ¬ min ((h : Nat) : Int) ((w : Nat) : Int) < 1 by omega)]
  refine Wk.on ?_
  rw [decide_eq_false (show ¬ 16 < max ((h : Nat) : Int) ((w : Nat) : Int) by omega)]
  refine Wk.on ?_
  rw [hmul]
  refine Wk.on ?_
  rw [decide_eq_false (show ¬ 16 < ((h * w : Nat) : Int) by omega)]
  refine Wk.on ?_
  rw [hmul]
  refine Wk.on ?_
  refine Tr.loopU (md := true) (X := Nat × List (Nat × Nat)) (gdSt h w) (fun q => q.1 ≤ h * w ∧ gridL h w q.1 = q.2) (fun q => h * w - q.1) (0, []) tok ⟨by omega, rfl⟩ (Under.wk [] ⟨rfl, rfl, Nat.le_of_ble_eq_true rfl, Nat.le_of_ble_eq_true rfl⟩ rfl ⟨.inl rfl, .inl rfl, .inl rfl, .inl rfl, .inl rfl, trivial⟩ trivial rfl (by simp [tupA, hpLt, tmLt, AV.lt, AE.lt, AC.lt, LL_cons, LL_nil, idOk, ABlk.lt, ints_LL, GB, gdSt, gV, gH, gK, prs]) (by simp [tupA, hpLt, tmLt, AV.lt, AE.lt, AC.lt, LL_cons, LL_nil, idOk, ABlk.lt, ints_LL, GB, gdSt, gV, gH, gK, prs])) ?_
  rintro ⟨i, L⟩ ⟨hi, hgl⟩
  dsimp only at hi hgl
  have hLl := gridL_len h w i
  rw [hgl] at hLl
  by_cases hil : i < h * w
  · have hsu := gridL_succ h w i
    rw [hgl] at hsu
    have hrem : ((i : Nat) : Int) % ((w : Nat) : Int) = ((i % w : Nat) : Int) := rfl
    have hmw : i % w < w := Nat.mod_lt _ w1
    rcases L with _ | ⟨b0, L0⟩
    · skip
      have hst : ∀ i : Nat, gdSt h w (i, []) = ⟨[(0, .c (.int .i64 h)), (1, .c (.int .i64 w)), (7, .c .nils), (27, .c (.int .i64 (h * w : Nat))), (28, .c (.int .i64 i))], [], 2, 64, 0⟩ := fun i => rfl
      rw [hst]
      refine Wk.on ?_
      rw [decide_eq_true (show ((i : Nat) : Int) < ((h * w : Nat) : Int) by omega)]
      refine Wk.on ?_
      rw [hrem]
      by_cases c1 : i % w < w - 1
      · rw [decide_eq_true (show ((i % w : Nat) : Int) < ((w : Nat) : Int) - 1 by omega)]
        refine Wk.on ?_
        rw [hmul]
        by_cases c2 : i + w < h * w
        · rw [decide_eq_true (show ((i : Nat) : Int) + ((w : Nat) : Int) < ((h * w : Nat) : Int) by omega)]
          refine Wk.on ?_
          refine ⟨⟨Nat.le_of_ble_eq_true rfl, rfl, rfl, rfl, by decide, by decide⟩, ?_⟩
          refine Wk.on ?_
          have hgf : gridF h w i = [(i, i + 1), (i, i + w)] := by rw [gridF, if_pos c1, if_pos c2]; rfl
          rw [hgf] at hsu
          refine Again.under (i + 1, [(i, i + 1), (i, i + w)]) ?_ ⟨by omega, hsu⟩ (by show h * w - (i + 1) < h * w - i; omega)
          exact Under.wk [(1, 5)] ⟨rfl, rfl, Nat.le_of_ble_eq_true rfl, Nat.le_of_ble_eq_true rfl⟩ rfl ⟨.inl rfl, .inl rfl, .inl rfl, .inl rfl, .inl rfl, trivial⟩ ⟨.inl (by show ABlk.row 38 2 _ = ABlk.row 38 2 ((ints _).map _); rw [ints_ren]; rfl), trivial⟩ rfl (by simp [tupA, hpLt, tmLt, AV.lt, AE.lt, AC.lt, LL_cons, LL_nil, idOk, ABlk.lt, ints_LL, GB, gdSt, gV, gH, gK, prs]) (by simp [tupA, hpLt, tmLt, AV.lt, AE.lt, AC.lt, LL_cons, LL_nil, idOk, ABlk.lt, ints_LL, GB, gdSt, gV, gH, gK, prs])
        · rw [decide_eq_false (show ¬ ((i : Nat) : Int) + ((w : Nat) : Int) < ((h * w : Nat) : Int) by omega)]
          refine Wk.on ?_
          have hgf : gridF h w i = [(i, i + 1)] := by rw [gridF, if_pos c1, if_neg c2]; rfl
          rw [hgf] at hsu
          refine Again.under (i + 1, [(i, i + 1)]) ?_ ⟨by omega, hsu⟩ (by show h * w - (i + 1) < h * w - i; omega)
          exact Under.wk [(1, 3)] ⟨rfl, rfl, Nat.le_of_ble_eq_true rfl, Nat.le_of_ble_eq_true rfl⟩ rfl ⟨.inl rfl, .inl rfl, .inl rfl, .inl rfl, .inl rfl, trivial⟩ ⟨.inl (by show ABlk.row 38 2 _ = ABlk.row 38 2 ((ints _).map _); rw [ints_ren]; rfl), trivial⟩ rfl (by simp [tupA, hpLt, tmLt, AV.lt, AE.lt, AC.lt, LL_cons, LL_nil, idOk, ABlk.lt, ints_LL, GB, gdSt, gV, gH, gK, prs]) (by simp [tupA, hpLt, tmLt, AV.lt, AE.lt, AC.lt, LL_cons, LL_nil, idOk, ABlk.lt, ints_LL, GB, gdSt, gV, gH, gK, prs])
      · rw [decide_eq_false (show ¬ ((i % w : Nat) : Int) < ((w : Nat) : Int) - 1 by omega)]
        refine Wk.on ?_
        rw [hmul]
        by_cases c2 : i + w < h * w
        · rw [decide_eq_true (show ((i : Nat) : Int) + ((w : Nat) : Int) < ((h * w : Nat) : Int) by omega)]
          refine Wk.on ?_
          have hgf : gridF h w i = [(i, i + w)] := by rw [gridF, if_neg c1, if_pos c2]; rfl
          rw [hgf] at hsu
          refine Again.under (i + 1, [(i, i + w)]) ?_ ⟨by omega, hsu⟩ (by show h * w - (i + 1) < h * w - i; omega)
          exact Under.wk [(1, 3)] ⟨rfl, rfl, Nat.le_of_ble_eq_true rfl, Nat.le_of_ble_eq_true rfl⟩ rfl ⟨.inl rfl, .inl rfl, .inl rfl, .inl rfl, .inl rfl, trivial⟩ ⟨.inl (by show ABlk.row 38 2 _ = ABlk.row 38 2 ((ints _).map _); rw [ints_ren]; rfl), trivial⟩ rfl (by simp [tupA, hpLt, tmLt, AV.lt, AE.lt, AC.lt, LL_cons, LL_nil, idOk, ABlk.lt, ints_LL, GB, gdSt, gV, gH, gK, prs]) (by simp [tupA, hpLt, tmLt, AV.lt, AE.lt, AC.lt, LL_cons, LL_nil, idOk, ABlk.lt, ints_LL, GB, gdSt, gV, gH, gK, prs])
        · rw [decide_eq_false (show ¬ ((i : Nat) : Int) + ((w : Nat) : Int) < ((h * w : Nat) : Int) by omega)]
          refine Wk.on ?_
          have hgf : gridF h w i = [] := by rw [gridF, if_neg c1, if_neg c2]; rfl
          rw [hgf] at hsu
          refine Again.under (i + 1, []) ?_ ⟨by omega, hsu⟩ (by show h * w - (i + 1) < h * w - i; omega)
          rw [hst]
          exact Under.wk [] ⟨rfl, rfl, Nat.le_of_ble_eq_true rfl, Nat.le_of_ble_eq_true rfl⟩ rfl ⟨.inl rfl, .inl rfl, .inl rfl, .inl rfl, .inl rfl, trivial⟩ trivial rfl (by simp [tupA, hpLt, tmLt, AV.lt, AE.lt, AC.lt, LL_cons, LL_nil, idOk, ABlk.lt, ints_LL, GB, gdSt, gV, gH, gK, prs]) (by simp [tupA, hpLt, tmLt, AV.lt, AE.lt, AC.lt, LL_cons, LL_nil, idOk, ABlk.lt, ints_LL, GB, gdSt, gV, gH, gK, prs])
    · skip
      generalize hLL : b0 :: L0 = L at *
      have hml : (ints (prs L)).length = L.length * 2 := by rw [ints_len, prs_len]
      have hst : ∀ i : Nat, gdSt h w (i, L) = ⟨[(0, .c (.int .i64 h)), (1, .c (.int .i64 w)), (7, .c (.row 1 L.length)), (27, .c (.int .i64 (h * w : Nat))), (28, .c (.int .i64 i))], [(1, .row 38 2 (ints (prs L)))], 2, 64, 0⟩ := fun i => by rw [← hLL]; rfl
      rw [hst]
      refine Wk.on ?_
      rw [decide_eq_true (show ((i : Nat) : Int) < ((h * w : Nat) : Int) by omega)]
      refine Wk.on ?_
      rw [hrem]
      by_cases c1 : i % w < w - 1
      · rw [decide_eq_true (show ((i % w : Nat) : Int) < ((w : Nat) : Int) - 1 by omega)]
        refine Wk.on ?_
        refine ⟨⟨Nat.le_of_ble_eq_true rfl, rfl, rfl, by rw [hml], by show ((L.length + 1 : Nat) : Int) * 16 ≤ _; omega, by omega⟩, ?_⟩
        refine Wk.on ?_
        rw [hmul]
        by_cases c2 : i + w < h * w
        · rw [decide_eq_true (show ((i : Nat) : Int) + ((w : Nat) : Int) < ((h * w : Nat) : Int) by omega)]
          refine Wk.on ?_
          refine ⟨⟨Nat.le_of_ble_eq_true rfl, rfl, rfl, by rw [List.length_append, hml]; show L.length * 2 + 2 = (L.length + 1) * 2; omega, by show ((L.length + 1 + 1 : Nat) : Int) * 16 ≤ _; omega, by omega⟩, ?_⟩
          refine Wk.on ?_
          have hgf : gridF h w i = [(i, i + 1), (i, i + w)] := by rw [gridF, if_pos c1, if_pos c2]; rfl
          rw [hgf] at hsu
          have hal : L ++ [(i, i + 1), (i, i + w)] = b0 :: (L0 ++ [(i, i + 1), (i, i + w)]) := by rw [← hLL]; rfl
          have hll : L.length + 2 = (b0 :: (L0 ++ [(i, i + 1), (i, i + w)])).length := by rw [← hal]; simp
          refine Again.under (i + 1, b0 :: (L0 ++ [(i, i + 1), (i, i + w)])) ?_ ⟨by omega, by rw [hsu, ← hal]⟩ (by show h * w - (i + 1) < h * w - i; omega)
          exact Under.wk [(1, 5)] ⟨rfl, rfl, Nat.le_of_ble_eq_true rfl, Nat.le_of_ble_eq_true rfl⟩ rfl ⟨.inl rfl, .inl rfl, .inl (by show AV.c (.row _ (L.length + 2)) = _; rw [hll]; rfl), .inl rfl, .inl rfl, trivial⟩ ⟨.inl (by rw [← hal]; exact congrArg (ABlk.row _ _) (prs_lie2 _ _ _ _ _ _)), trivial⟩ rfl (by simp [tupA, hpLt, tmLt, AV.lt, AE.lt, AC.lt, LL_cons, LL_nil, idOk, ABlk.lt, ints_LL, GB, gdSt, gV, gH, gK, prs]) (by simp [tupA, hpLt, tmLt, AV.lt, AE.lt, AC.lt, LL_cons, LL_nil, idOk, ABlk.lt, ints_LL, GB, gdSt, gV, gH, gK, prs])
        · rw [decide_eq_false (show ¬ ((i : Nat) : Int) + ((w : Nat) : Int) < ((h * w : Nat) : Int) by omega)]
          refine Wk.on ?_
          have hgf : gridF h w i = [(i, i + 1)] := by rw [gridF, if_pos c1, if_neg c2]; rfl
          rw [hgf] at hsu
          have hal : L ++ [(i, i + 1)] = b0 :: (L0 ++ [(i, i + 1)]) := by rw [← hLL]; rfl
          have hll : L.length + 1 = (b0 :: (L0 ++ [(i, i + 1)])).length := by rw [← hal]; simp
          refine Again.under (i + 1, b0 :: (L0 ++ [(i, i + 1)])) ?_ ⟨by omega, by rw [hsu, ← hal]⟩ (by show h * w - (i + 1) < h * w - i; omega)
          exact Under.wk [(1, 3)] ⟨rfl, rfl, Nat.le_of_ble_eq_true rfl, Nat.le_of_ble_eq_true rfl⟩ rfl ⟨.inl rfl, .inl rfl, .inl (by show AV.c (.row _ (L.length + 1)) = _; rw [hll]; rfl), .inl rfl, .inl rfl, trivial⟩ ⟨.inl (by rw [← hal]; exact congrArg (ABlk.row _ _) (prs_lie _ _ _ _)), trivial⟩ rfl (by simp [tupA, hpLt, tmLt, AV.lt, AE.lt, AC.lt, LL_cons, LL_nil, idOk, ABlk.lt, ints_LL, GB, gdSt, gV, gH, gK, prs]) (by simp [tupA, hpLt, tmLt, AV.lt, AE.lt, AC.lt, LL_cons, LL_nil, idOk, ABlk.lt, ints_LL, GB, gdSt, gV, gH, gK, prs])
      · rw [decide_eq_false (show ¬ ((i % w : Nat) : Int) < ((w : Nat) : Int) - 1 by omega)]
        refine Wk.on ?_
        rw [hmul]
        by_cases c2 : i + w < h * w
        · rw [decide_eq_true (show ((i : Nat) : Int) + ((w : Nat) : Int) < ((h * w : Nat) : Int) by omega)]
          refine Wk.on ?_
          refine ⟨⟨Nat.le_of_ble_eq_true rfl, rfl, rfl, by rw [hml], by show ((L.length + 1 : Nat) : Int) * 16 ≤ _; omega, by omega⟩, ?_⟩
          refine Wk.on ?_
          have hgf : gridF h w i = [(i, i + w)] := by rw [gridF, if_neg c1, if_pos c2]; rfl
          rw [hgf] at hsu
          have hal : L ++ [(i, i + w)] = b0 :: (L0 ++ [(i, i + w)]) := by rw [← hLL]; rfl
          have hll : L.length + 1 = (b0 :: (L0 ++ [(i, i + w)])).length := by rw [← hal]; simp
          refine Again.under (i + 1, b0 :: (L0 ++ [(i, i + w)])) ?_ ⟨by omega, by rw [hsu, ← hal]⟩ (by show h * w - (i + 1) < h * w - i; omega)
          exact Under.wk [(1, 3)] ⟨rfl, rfl, Nat.le_of_ble_eq_true rfl, Nat.le_of_ble_eq_true rfl⟩ rfl ⟨.inl rfl, .inl rfl, .inl (by show AV.c (.row _ (L.length + 1)) = _; rw [hll]; rfl), .inl rfl, .inl rfl, trivial⟩ ⟨.inl (by rw [← hal]; exact congrArg (ABlk.row _ _) (prs_lie _ _ _ _)), trivial⟩ rfl (by simp [tupA, hpLt, tmLt, AV.lt, AE.lt, AC.lt, LL_cons, LL_nil, idOk, ABlk.lt, ints_LL, GB, gdSt, gV, gH, gK, prs]) (by simp [tupA, hpLt, tmLt, AV.lt, AE.lt, AC.lt, LL_cons, LL_nil, idOk, ABlk.lt, ints_LL, GB, gdSt, gV, gH, gK, prs])
        · rw [decide_eq_false (show ¬ ((i : Nat) : Int) + ((w : Nat) : Int) < ((h * w : Nat) : Int) by omega)]
          refine Wk.on ?_
          have hgf : gridF h w i = [] := by rw [gridF, if_neg c1, if_neg c2]; rfl
          rw [hgf] at hsu
          refine Again.under (i + 1, L) ?_ ⟨by omega, by rw [hsu]; exact List.append_nil _⟩ (by show h * w - (i + 1) < h * w - i; omega)
          rw [hst]
          exact Under.wk [] ⟨rfl, rfl, Nat.le_of_ble_eq_true rfl, Nat.le_of_ble_eq_true rfl⟩ rfl ⟨.inl rfl, .inl rfl, .inl rfl, .inl rfl, .inl rfl, trivial⟩ ⟨.inl (congrArg (ABlk.row _ _) (ints_ren _ _).symm), trivial⟩ rfl (by simp [tupA, hpLt, tmLt, AV.lt, AE.lt, AC.lt, LL_cons, LL_nil, idOk, ABlk.lt, ints_LL, GB, gdSt, gV, gH, gK, prs]) (by simp [tupA, hpLt, tmLt, AV.lt, AE.lt, AC.lt, LL_cons, LL_nil, idOk, ABlk.lt, ints_LL, GB, gdSt, gV, gH, gK, prs])
  · obtain hin : i = h * w := by omega
    subst hin
    rw [hgl]
    rcases L with _ | ⟨b0, L0⟩
    · refine Wk.on ?_
      rw [decide_eq_false (show ¬ ((h * w : Nat) : Int) < ((h * w : Nat) : Int) by omega)]
      refine Wk.on ?_
      intro _
      refine Wk.on ?_
      rw [hmul]
      refine Wk.on ?_
      exact AH.Fin.nil [] ⟨rfl, rfl, rfl⟩ (by first | exact trivial | (simp [tupA, hpLt, tmLt, AV.lt, AE.lt, AC.lt, LL_cons, LL_nil, idOk, ABlk.lt, ints_LL, GB, gdSt, gV, gH, gK, prs]; done) | (simp [tupA, hpLt, tmLt, AV.lt, AE.lt, AC.lt, LL_cons, LL_nil, idOk, ABlk.lt, ints_LL, GB, gdSt, gV, gH, gK, prs, rdn, wrn]; done)) trivial trivial rfl (by simp [GB])
    · refine Wk.on ?_
      rw [decide_eq_false (show ¬ ((h * w : Nat) : Int) < ((h * w : Nat) : Int) by omega)]
      refine Wk.on ?_
      intro _
      refine Wk.on ?_
      rw [hmul]
      refine Wk.on ?_
      exact AH.Fin.new [1] _ _ ⟨rfl, rfl, rfl⟩ rfl ⟨by show some (ABlk.row 38 2 _) = some (ABlk.row 38 2 ((ints _).map _)); rw [ints_ren], trivial⟩ rfl (by simp [tupA, hpLt, tmLt, AV.lt, AE.lt, AC.lt, LL_cons, LL_nil, idOk, ABlk.lt, ints_LL, GB, gdSt, gV, gH, gK, prs]) (by simp [tupA, hpLt, tmLt, AV.lt, AE.lt, AC.lt, LL_cons, LL_nil, idOk, ABlk.lt, ints_LL, GB, gdSt, gV, gH, gK, prs])
end Go.Proofs.YtimknijehaamlaaDoor

/-
  Contracts: any numbers made a set, a graph.
-/
namespace Go.Proofs.YtimknijehaamlaaDoor
open Go Go.AH Go.Lin
set_option maxRecDepth 100000
set_option maxHeartbeats 1000000

def flI (ws : List (Int × Int)) : List Int := ws.flatMap fun w => [w.1, w.2]
theorem flI_len (ws : List (Int × Int)) : (flI ws).length = ws.length * 2 := by
  induction ws with
  | nil => rfl
  | cons w ws ih => simp [flI] at ih ⊢; omega
theorem flI_get (ws : List (Int × Int)) (i : Nat) : (flI ws).getD (i * 2) 0 = (ws.getD i (0, 0)).1 ∧ (flI ws).getD (i * 2 + 1) 0 = (ws.getD i (0, 0)).2 := by
  induction ws generalizing i with
  | nil => simp [flI]
  | cons w ws ih =>
    cases i with
    | zero => simp [flI]
    | succ i =>
      have := ih i
      simp only [flI, List.flatMap_cons, List.getD_eq_getElem?_getD, List.cons_append, List.nil_append] at this ⊢
      rw [show (i + 1) * 2 = i * 2 + 1 + 1 by omega]
      simpa using this
theorem wgetI0 (ws : List (Int × Int)) (i : Nat) : (ints (flI ws)).getD (0 + i * 2 + Int.toNat 0 * 1) (.int .i64 0) = .int .i64 (ws.getD i (0, 0)).1 := by
  rw [ints_getD, show 0 + i * 2 + Int.toNat 0 * 1 = i * 2 by simp, (flI_get ws i).1]
theorem wgetI1 (ws : List (Int × Int)) (i : Nat) : (ints (flI ws)).getD (0 + i * 2 + Int.toNat 1 * 1) (.int .i64 0) = .int .i64 (ws.getD i (0, 0)).2 := by
  rw [ints_getD, show 0 + i * 2 + Int.toNat 1 * 1 = i * 2 + 1 by simp, (flI_get ws i).2]
def um (v : Int) (n : Nat) : Nat := (v % 2 ^ 64 % n).toNat
theorem um_lt (v : Int) {n : Nat} (h : 0 < n) : um v n < n := by
  unfold um
  have := Int.emod_lt_of_pos (v % 2 ^ 64) (show (0 : Int) < n by omega)
  have := Int.emod_nonneg (v % 2 ^ 64) (show (n : Int) ≠ 0 by omega)
  omega
theorem um_int (v : Int) {n : Nat} (h : 0 < n) : ((um v n : Nat) : Int) = IntKind.u64.wrap v % (n : Int) := by
  have h1 := Int.emod_nonneg (v % 2 ^ 64) (show (n : Int) ≠ 0 by omega)
  show ((v % 2 ^ 64 % n).toNat : Int) = v % 2 ^ 64 % (n : Int)
  omega
theorem um_wrap (v : Int) {n : Nat} (h : 0 < n) (h2 : n < 1000000) : IntKind.i64.wrap (IntKind.u64.wrap v % (n : Int)) = ((um v n : Nat) : Int) := by
  have := um_lt v h
  rw [← um_int v h]
  exact AH.wrap_small _ _ (by omega) (by show ((um v n : Nat) : Int) < 2 ^ 64; omega) (by intro _; show ((um v n : Nat) : Int) < 2 ^ 63; omega)
theorem wrap_nn (v : Int) : 0 ≤ IntKind.u64.wrap v := by show 0 ≤ v % 2 ^ 64; omega
/-- The table of pairs. -/
def tabF (N : Nat) (T : List Bool) (p : Int × Int) : List Bool := T.set (16 * min (um p.1 N) (um p.2 N) + max (um p.1 N) (um p.2 N)) (decide (um p.1 N ≠ um p.2 N))
def tabT (ws : List (Int × Int)) (N k : Nat) : List Bool := (ws.take k).foldl (tabF N) (List.replicate 256 false)
theorem tabT_len (ws : List (Int × Int)) (N k : Nat) : (tabT ws N k).length = 256 := by
  have : ∀ (l : List (Int × Int)) (T : List Bool), T.length = 256 → (l.foldl (tabF N) T).length = 256 := by
    intro l
    induction l with
    | nil => intro T h; exact h
    | cons p l ih => intro T h; exact ih _ (by rw [tabF, List.length_set, h])
  exact this _ _ rfl
theorem tabT_succ (ws : List (Int × Int)) (N : Nat) {k : Nat} (h : k < ws.length) : tabT ws N (k + 1) = tabF N (tabT ws N k) (ws.getD k (0, 0)) := by
  rw [tabT, take_succ ws (0, 0) h, List.foldl_append]; rfl
def prT (T : List Bool) (k : Nat) : List (Nat × Nat) := ((List.range k).filter fun i => T.getD i false).map fun i => (i / 16, i % 16)
theorem prT_succ (T : List Bool) (k : Nat) : prT T (k + 1) = prT T k ++ if T.getD k false then [(k / 16, k % 16)] else [] := by
  rw [prT, List.range_succ, List.filter_append, List.map_append, List.filter_cons, List.filter_nil]
  split <;> rfl
theorem prT_len (T : List Bool) (k : Nat) : (prT T k).length ≤ k := by
  rw [prT, List.length_map]
  have := List.length_filter_le (fun i => T.getD i false) (List.range k)
  rw [List.length_range] at this; exact this
def tameN (n : Int) (most : Nat) : Nat := 1 + um n most
def tameP (n : Int) (ws : List (Int × Int)) (most : Nat) : List (Nat × Nat) := prT (tabT ws (tameN n most) (min ws.length 60)) 256
def tmSt (N : Nat) (T : List Bool) : Nat × List (Nat × Nat) → AS
  | (i, []) => ⟨[(0, .c (.int .i64 N)), (8, .c (.ptr 1 0)), (12, .c .nils), (13, .c (.int .i64 i))], [(1, .own (bls T))], 3, 80, 1⟩
  | (i, e :: E) => ⟨[(0, .c (.int .i64 N)), (8, .c (.ptr 1 0)), (12, .c (.row 2 (e :: E).length)), (13, .c (.int .i64 i))], [(1, .own (bls T)), (2, .row 38 2 (ints (prs (e :: E))))], 3, 80, 1⟩
def tmV (N : Nat) : List (Nat × Nat) → AV
  | [] => .t [.c (.int .i64 N), .c .nils]
  | b :: L => .t [.c (.int .i64 N), .c (.row 1 (b :: L).length)]
def tmH : List (Nat × Nat) → List (Nat × ABlk)
  | [] => []
  | b :: L => [(1, .row 38 2 (ints (prs (b :: L))))]
def tmK : List (Nat × Nat) → Nat
  | [] => 1
  | _ :: _ => 2
def setN (x : Int) (n : Nat) : Nat := um x (2 ^ n)
theorem setN_lt (x : Int) (n : Nat) : setN x n < 2 ^ n := um_lt x (Nat.two_pow_pos n)
theorem set_spec (x : Int) {n : Nat} (hn : n ≤ 16) : FDet Tryd.prog 34 [.c (.int .i64 x), .c (.int .i64 n)] [] 0 (.c (.int .i64 (setN x n : Nat))) [] 0 := by
  obtain ⟨q, hq⟩ : ∃ q, q = 2 ^ n := ⟨_, rfl⟩
  have hq2 : q ≤ 65536 := by rw [hq]; exact (Nat.pow_le_pow_right (by omega) hn : 2 ^ n ≤ 2 ^ 16)
  have hq0 : 0 < q := by rw [hq]; exact Nat.two_pow_pos n
  have hsh : (1 : Int) * 2 ^ min (Int.toNat ((n : Nat) : Int)) IntKind.u64.bits = (q : Int) := by
    rw [Int.toNat_natCast, show min n IntKind.u64.bits = n from Nat.min_eq_left (by show n ≤ 64; omega)]; simp [hq]
  have hwq : IntKind.u64.wrap ((q : Nat) : Int) = q := wrapU (by omega)
  rw [setN, ← hq]
  refine FSpec.of_body tok true Tryd.func34 rfl (by kernel_rfl) (by decide) (by simp [tupA, hpLt, tmLt, AV.lt, AE.lt, AC.lt, LL_cons, LL_nil, idOk, ABlk.lt, ints_LL, GB, bls_LL, tmSt, tmV, gH, tmH, tmK, prs]) (by simp [tupA, hpLt, tmLt, AV.lt, AE.lt, AC.lt, LL_cons, LL_nil, idOk, ABlk.lt, ints_LL, GB, bls_LL, tmSt, tmV, gH, tmH, tmK, prs]) (by show 2 ≤ _; decide) ?_
  refine Wk.on ?_
  rw [hsh, hwq]
  refine ⟨⟨wrap_nn _, by omega⟩, ?_⟩
  refine Wk.on ?_
  rw [um_wrap _ hq0 (by omega)]
  refine Wk.on ?_
  exact AH.Fin.nil [] ⟨rfl, rfl, rfl⟩ (by first | exact trivial | (simp [tupA, hpLt, tmLt, AV.lt, AE.lt, AC.lt, LL_cons, LL_nil, idOk, ABlk.lt, ints_LL, GB, bls_LL, tmSt, tmV, gH, tmH, tmK, prs]; done) | (simp [tupA, hpLt, tmLt, AV.lt, AE.lt, AC.lt, LL_cons, LL_nil, idOk, ABlk.lt, ints_LL, GB, bls_LL, tmSt, tmV, gH, tmH, tmK, prs, rdn, wrn]; done)) trivial trivial rfl (by simp [GB])
theorem tame_spec (n : Int) (ws : List (Int × Int)) {most : Nat} (h1 : 1 ≤ most) (h2 : most ≤ 16) (h4 : ws.length ≤ 9223372036854775807) : FDet Tryd.prog 17 [.c (.int .i64 n), .c (.rs 0 0 ws.length), .c (.int .i64 most)] [(0, .ro (ints (flI ws)))] 1 (tmV (tameN n most) (tameP n ws most)) (tmH (tameP n ws most)) (tmK (tameP n ws most)) := by
  have hu := um_lt n (n := most) (by omega)
  obtain ⟨N, hN⟩ : ∃ N, N = tameN n most := ⟨_, rfl⟩
  have hN0 : N = 1 + um n most := hN
  have hfl : (ints (flI ws)).length = ws.length * 2 := by rw [ints_len, flI_len]
  rw [tameP, ← hN]
  refine FSpec.of_body tok true Tryd.func17 rfl (by kernel_rfl) (by decide) (by simp [tupA, hpLt, tmLt, AV.lt, AE.lt, AC.lt, LL_cons, LL_nil, idOk, ABlk.lt, ints_LL, GB, bls_LL, tmSt, tmV, gH, tmH, tmK, prs]) (by simp [tupA, hpLt, tmLt, AV.lt, AE.lt, AC.lt, LL_cons, LL_nil, idOk, ABlk.lt, ints_LL, GB, bls_LL, tmSt, tmV, gH, tmH, tmK, prs]) (by show 3 ≤ _; decide) ?_
  refine Wk.on ?_
  rw [wrapU (by omega)]
  refine ⟨⟨wrap_nn _, by omega⟩, ?_⟩
  refine Wk.on ?_
  rw [um_wrap _ (by omega) (by omega)]
  refine ⟨by unfold I64; omega, ?_⟩
  rw [show (1 : Int) + (um n most : Nat) = (N : Int) by omega]
  refine Wk.on ?_
  refine Tr.loop (md := true) (X := Nat) (st := fun i => ⟨[(0, .c (.int .i64 N)), (1, .c (.rs 0 0 ws.length)), (8, .c (.ptr 1 0)), (9, .c (.int .i64 i))], [(1, .own (bls (tabT ws N i))), (0, .ro (ints (flI ws)))], 2, 80, 1⟩) (inv := fun i => i ≤ min ws.length 60) (μ := fun i => min ws.length 60 - i) (x0 := 0) (l := []) tok (by omega) ?_ ?_
  · exact Sub.nil ⟨rfl, rfl, (by simp [bls_LL, tmSt, tmV, gH, tmH, tmK, prs]), rfl, (by simp [tupA, hpLt, tmLt, AV.lt, AE.lt, AC.lt, LL_cons, LL_nil, idOk, ABlk.lt, ints_LL, GB, bls_LL, tmSt, tmV, gH, tmH, tmK, prs]), (by simp [tupA, hpLt, tmLt, AV.lt, AE.lt, AC.lt, LL_cons, LL_nil, idOk, ABlk.lt, ints_LL, GB, bls_LL, tmSt, tmV, gH, tmH, tmK, prs])⟩ (by (repeat (first | exact trivial | refine ⟨trivial, ?_⟩ | refine ⟨rfl, ?_⟩))) ⟨rfl, rfl, trivial⟩
  intro i hi
  have htl : (bls (tabT ws N i)).length = 256 := by rw [bls_len, tabT_len]
  by_cases hil : i < min ws.length 60
  · obtain ⟨a, ha⟩ : ∃ a, a = um (ws.getD i (0, 0)).1 N := ⟨_, rfl⟩
    obtain ⟨b, hb⟩ : ∃ b, b = um (ws.getD i (0, 0)).2 N := ⟨_, rfl⟩
    have haN : a < N := by rw [ha]; exact um_lt _ (by omega)
    have hbN : b < N := by rw [hb]; exact um_lt _ (by omega)
    have hmin : min (a : Int) (b : Int) = ((min a b : Nat) : Int) := by omega
    have hmax : max (a : Int) (b : Int) = ((max a b : Nat) : Int) := by omega
    have hsu := tabT_succ ws N (k := i) (by omega)
    rw [tabF, ← ha, ← hb] at hsu
    refine Wk.on ?_
    rw [decide_eq_true (show ((i : Nat) : Int) < ((ws.length : Nat) : Int) by omega)]
    refine Wk.on ?_
    rw [decide_eq_true (show ((i : Nat) : Int) < 60 by omega)]
    refine Wk.on ?_
    refine Tr.draw (md := true) [⟨[], [32, 37, 38, 41, 42, 43, 44, 45, 46, 47, 48, 49, 50], [], [], []⟩, ⟨[], [31, 37, 38, 41, 42, 43, 44, 45, 46, 47, 48, 49, 50], [0], [], []⟩, ⟨[0, 1], [37, 38, 41, 42, 43, 44, 45, 46, 47, 48, 49, 50], [], [], []⟩, ⟨[0, 1, 2], [37, 38, 41, 42, 43, 44, 45, 46, 47, 48, 49, 50], [], [], []⟩, ⟨[0, 1, 2, 3], [37, 38, 41, 42, 43, 44, 45, 46, 47, 48, 49, 50], [], [], []⟩, ⟨[0, 1, 2, 3, 4], [37, 38, 41, 42, 43, 44, 45, 46, 47, 48, 49, 50], [], [], []⟩, ⟨[], [31, 32, 33, 34, 35, 36, 41, 42, 43, 44, 45, 46, 47, 48, 49, 50], [0, 1, 2, 3, 4, 5], [], []⟩, ⟨[6], [31, 32, 33, 34, 35, 36, 41, 42, 43, 44, 45, 46, 47, 48, 49, 50], [0, 1, 2, 3, 4, 5], [], []⟩, ⟨[0, 1, 2, 3, 4, 5, 6, 7], [41, 42, 43, 44, 45, 46, 47, 48, 49, 50], [], [], []⟩, ⟨[0, 1, 2, 3, 4, 5, 6, 7, 8], [41, 42, 43, 44, 45, 46, 47, 48, 49, 50], [], [], []⟩, ⟨[], [10, 31, 32, 33, 34, 35, 36, 37, 38, 39, 40, 42, 47, 48], [0, 1, 2, 3, 4, 5, 6, 7, 8, 9], [], []⟩, ⟨[], [10, 31, 32, 33, 34, 35, 36, 37, 38, 39, 40, 41, 47, 48], [0, 1, 2, 3, 4, 5, 6, 7, 8, 9, 10], [], []⟩, ⟨[10, 11], [10, 31, 32, 33, 34, 35, 36, 37, 38, 39, 40, 47, 48], [0, 1, 2, 3, 4, 5, 6, 7, 8, 9], [], []⟩, ⟨[10, 11, 12], [10, 31, 32, 33, 34, 35, 36, 37, 38, 39, 40, 47, 48], [0, 1, 2, 3, 4, 5, 6, 7, 8, 9], [], []⟩, ⟨[10, 11, 12, 13], [10, 31, 32, 33, 34, 35, 36, 37, 38, 39, 40, 47, 48], [0, 1, 2, 3, 4, 5, 6, 7, 8, 9], [], []⟩, ⟨[10, 11, 12, 13, 14], [10, 31, 32, 33, 34, 35, 36, 37, 38, 39, 40, 47, 48], [0, 1, 2, 3, 4, 5, 6, 7, 8, 9], [], []⟩, ⟨[], [10, 31, 32, 33, 34, 35, 36, 37, 38, 39, 40, 41, 42, 43, 44, 45, 46], [0, 1, 2, 3, 4, 5, 6, 7, 8, 9, 10, 11, 12, 13, 14, 15], [], []⟩, ⟨[16], [10, 31, 32, 33, 34, 35, 36, 37, 38, 39, 40, 41, 42, 43, 44, 45, 46], [0, 1, 2, 3, 4, 5, 6, 7, 8, 9, 10, 11, 12, 13, 14, 15], [], []⟩, ⟨[10, 11, 12, 13, 14, 15, 16, 17], [10, 31, 32, 33, 34, 35, 36, 37, 38, 39, 40], [0, 1, 2, 3, 4, 5, 6, 7, 8, 9], [], []⟩, ⟨[10, 11, 12, 13, 14, 15, 16, 17, 18], [10, 31, 32, 33, 34, 35, 36, 37, 38, 39, 40], [0, 1, 2, 3, 4, 5, 6, 7, 8, 9], [], []⟩, ⟨[0, 1, 2, 3, 4, 5, 6, 7, 8, 9], [41, 42, 43, 44, 45, 46, 47, 48, 49, 50], [10, 11, 12, 13, 14, 15, 16, 17, 18, 19], [], []⟩] tok (by kernel_rfl) (by kernel_rfl) ?_
    refine Wk.on ?_
    simp only [Int.toNat_natCast]
    rw [wgetI0]
    refine Wk.on ?_
    rw [wrapU (by omega)]
    refine ⟨⟨wrap_nn _, by omega⟩, ?_⟩
    refine Wk.on ?_
    rw [um_wrap _ (by omega) (by omega), ← ha]
    refine Wk.on ?_
    simp only [Int.toNat_natCast]
    rw [wgetI1]
    refine Wk.on ?_
    rw [wrapU (by omega)]
    refine ⟨⟨wrap_nn _, by omega⟩, ?_⟩
    refine Wk.on ?_
    rw [um_wrap _ (by omega) (by omega), ← hb]
    refine Wk.on ?_
    rw [hmin]
    refine Wk.on ?_
    rw [hmax]
    refine Wk.on ?_
    refine Again.mk (i + 1) (Sub.nil ⟨rfl, rfl, (by simp [bls_LL, tmSt, tmV, gH, tmH, tmK, prs]), rfl, (by simp [tupA, hpLt, tmLt, AV.lt, AE.lt, AC.lt, LL_cons, LL_nil, idOk, ABlk.lt, ints_LL, GB, bls_LL, tmSt, tmV, gH, tmH, tmK, prs]), (by simp [tupA, hpLt, tmLt, AV.lt, AE.lt, AC.lt, LL_cons, LL_nil, idOk, ABlk.lt, ints_LL, GB, bls_LL, tmSt, tmV, gH, tmH, tmK, prs])⟩ (by (repeat (first | exact trivial | refine ⟨trivial, ?_⟩ | refine ⟨rfl, ?_⟩))) ⟨by show ABlk.own ((bls (tabT ws N i)).set (0 + Int.toNat (16 * ((min a b : Nat) : Int) + ((max a b : Nat) : Int)) * 1) (.bool (decide ((a : Int) ≠ (b : Int))))) = ABlk.own (bls (tabT ws N (i + 1))); rw [show 0 + Int.toNat (16 * ((min a b : Nat) : Int) + ((max a b : Nat) : Int)) * 1 = 16 * min a b + max a b by omega, bls_set, hsu, show decide ((a : Int) ≠ (b : Int)) = decide (a ≠ b) from decide_eq_decide.2 (by omega)], rfl, trivial⟩) (by omega) (by omega)
  · obtain rfl : i = min ws.length 60 := by omega
    obtain ⟨T, hT⟩ : ∃ T, T = tabT ws N (min ws.length 60) := ⟨_, rfl⟩
    rw [← hT] at htl ⊢
    have hex : decide (((min ws.length 60 : Nat) : Int) < ((ws.length : Nat) : Int)) = true → decide (((min ws.length 60 : Nat) : Int) < 60) = false := fun h => decide_eq_false (by have := of_decide_eq_true h; omega)
    by_cases hlt : ((min ws.length 60 : Nat) : Int) < ((ws.length : Nat) : Int)
    · refine Wk.on ?_
      rw [decide_eq_true hlt]
      refine Wk.on ?_
      rw [decide_eq_false (show ¬ ((min ws.length 60 : Nat) : Int) < 60 by omega)]
      refine Wk.on ?_
      refine Tr.loopU (md := true) (X := Nat × List (Nat × Nat)) (tmSt N T) (fun q => q.1 ≤ 256 ∧ prT T q.1 = q.2) (fun q => 256 - q.1) (0, []) tok ⟨by omega, rfl⟩ (Under.wk [] ⟨rfl, rfl, Nat.le_of_ble_eq_true rfl, Nat.le_of_ble_eq_true rfl⟩ rfl ⟨.inl rfl, .inl rfl, .inl rfl, .inl rfl, trivial⟩ ⟨.inl (congrArg ABlk.own (bls_ren _ _).symm), trivial⟩ rfl (by simp [tupA, hpLt, tmLt, AV.lt, AE.lt, AC.lt, LL_cons, LL_nil, idOk, ABlk.lt, ints_LL, GB, bls_LL, tmSt, tmV, gH, tmH, tmK, prs]) (by simp [tupA, hpLt, tmLt, AV.lt, AE.lt, AC.lt, LL_cons, LL_nil, idOk, ABlk.lt, ints_LL, GB, bls_LL, tmSt, tmV, gH, tmH, tmK, prs])) ?_
      rintro ⟨k, L⟩ ⟨hk, hpr⟩
      dsimp only at hk hpr
      have hLl := prT_len T k
      rw [hpr] at hLl
      by_cases hkl : k < 256
      · have hsu := prT_succ T k
        rw [hpr] at hsu
        obtain ⟨u, hu⟩ : ∃ u, u = T.getD k false := ⟨_, rfl⟩
        rw [← hu] at hsu
        rcases L with _ | ⟨b0, L0⟩
        · refine Wk.on ?_
          rw [decide_eq_true (show ((k : Nat) : Int) < 256 by omega)]
          refine Wk.on ?_
          rw [show 0 + Int.toNat ((k : Nat) : Int) * 1 = k by rw [Int.toNat_natCast]; omega, bls_getD, ← hu]
          cases u
          · refine Wk.on ?_
            exact Again.under (k + 1, []) (Under.wk [] ⟨rfl, rfl, Nat.le_of_ble_eq_true rfl, Nat.le_of_ble_eq_true rfl⟩ rfl ⟨.inl rfl, .inl rfl, .inl rfl, .inl rfl, trivial⟩ ⟨.inl (congrArg ABlk.own (bls_ren _ _).symm), trivial⟩ rfl (by simp [tupA, hpLt, tmLt, AV.lt, AE.lt, AC.lt, LL_cons, LL_nil, idOk, ABlk.lt, ints_LL, GB, bls_LL, tmSt, tmV, gH, tmH, tmK, prs]) (by simp [tupA, hpLt, tmLt, AV.lt, AE.lt, AC.lt, LL_cons, LL_nil, idOk, ABlk.lt, ints_LL, GB, bls_LL, tmSt, tmV, gH, tmH, tmK, prs])) ⟨by omega, hsu⟩ (by show 256 - (k + 1) < 256 - k; omega)
          · refine Wk.on ?_
            refine ⟨⟨by omega, by omega, by show ((k : Nat) : Int) < 2 ^ 64; omega, fun _ => by show ((k : Nat) : Int) < 2 ^ 63; omega⟩, ?_⟩
            refine Wk.on ?_
            exact Again.under (k + 1, [(k / 16, k % 16)]) (Under.wk [(2, 4)] ⟨rfl, rfl, Nat.le_of_ble_eq_true rfl, Nat.le_of_ble_eq_true rfl⟩ rfl ⟨.inl rfl, .inl rfl, .inl rfl, .inl rfl, trivial⟩ ⟨.inl (congrArg ABlk.own (bls_ren _ _).symm), .inl (by show ABlk.row 38 2 _ = ABlk.row 38 2 ((ints _).map _); rw [ints_ren]; rfl), trivial⟩ rfl (by simp [tupA, hpLt, tmLt, AV.lt, AE.lt, AC.lt, LL_cons, LL_nil, idOk, ABlk.lt, ints_LL, GB, bls_LL, tmSt, tmV, gH, tmH, tmK, prs]) (by simp [tupA, hpLt, tmLt, AV.lt, AE.lt, AC.lt, LL_cons, LL_nil, idOk, ABlk.lt, ints_LL, GB, bls_LL, tmSt, tmV, gH, tmH, tmK, prs])) ⟨by omega, hsu⟩ (by show 256 - (k + 1) < 256 - k; omega)
        · generalize hLL : b0 :: L0 = L at *
          have hml : (ints (prs L)).length = L.length * 2 := by rw [ints_len, prs_len]
          have hst : ∀ i : Nat, tmSt N T (i, L) = ⟨[(0, .c (.int .i64 N)), (8, .c (.ptr 1 0)), (12, .c (.row 2 L.length)), (13, .c (.int .i64 i))], [(1, .own (bls T)), (2, .row 38 2 (ints (prs L)))], 3, 80, 1⟩ := fun i => by rw [← hLL]; rfl
          rw [hst]
          refine Wk.on ?_
          rw [decide_eq_true (show ((k : Nat) : Int) < 256 by omega)]
          refine Wk.on ?_
          rw [show 0 + Int.toNat ((k : Nat) : Int) * 1 = k by rw [Int.toNat_natCast]; omega, bls_getD, ← hu]
          cases u
          · refine Wk.on ?_
            refine Again.under (k + 1, L) ?_ ⟨by omega, by rw [hsu]; exact List.append_nil _⟩ (by show 256 - (k + 1) < 256 - k; omega)
            rw [hst]
            exact Under.wk [] ⟨rfl, rfl, Nat.le_of_ble_eq_true rfl, Nat.le_of_ble_eq_true rfl⟩ rfl ⟨.inl rfl, .inl rfl, .inl rfl, .inl rfl, trivial⟩ ⟨.inl (congrArg ABlk.own (bls_ren _ _).symm), .inl (congrArg (ABlk.row _ _) (ints_ren _ _).symm), trivial⟩ rfl (by simp [tupA, hpLt, tmLt, AV.lt, AE.lt, AC.lt, LL_cons, LL_nil, idOk, ABlk.lt, ints_LL, GB, bls_LL, tmSt, tmV, gH, tmH, tmK, prs]) (by simp [tupA, hpLt, tmLt, AV.lt, AE.lt, AC.lt, LL_cons, LL_nil, idOk, ABlk.lt, ints_LL, GB, bls_LL, tmSt, tmV, gH, tmH, tmK, prs])
          · refine Wk.on ?_
            refine ⟨⟨by omega, by omega, by show ((k : Nat) : Int) < 2 ^ 64; omega, fun _ => by show ((k : Nat) : Int) < 2 ^ 63; omega⟩, ?_⟩
            refine Wk.on ?_
            refine ⟨⟨Nat.le_of_ble_eq_true rfl, rfl, rfl, by rw [hml], by show ((L.length + 1 : Nat) : Int) * 16 ≤ _; omega, by omega⟩, ?_⟩
            refine Wk.on ?_
            have hal : L ++ [(k / 16, k % 16)] = b0 :: (L0 ++ [(k / 16, k % 16)]) := by rw [← hLL]; rfl
            have hll : L.length + 1 = (b0 :: (L0 ++ [(k / 16, k % 16)])).length := by rw [← hal]; simp
            refine Again.under (k + 1, b0 :: (L0 ++ [(k / 16, k % 16)])) ?_ ⟨by omega, by rw [hsu, ← hal]; rfl⟩ (by show 256 - (k + 1) < 256 - k; omega)
            exact Under.wk [(2, 4)] ⟨rfl, rfl, Nat.le_of_ble_eq_true rfl, Nat.le_of_ble_eq_true rfl⟩ rfl ⟨.inl rfl, .inl rfl, .inl (by show AV.c (.row _ (L.length + 1)) = _; rw [hll]; rfl), .inl rfl, trivial⟩ ⟨.inl (congrArg ABlk.own (bls_ren _ _).symm), .inl (by rw [← hal]; exact congrArg (ABlk.row _ _) (prs_lie _ _ _ _)), trivial⟩ rfl (by simp [tupA, hpLt, tmLt, AV.lt, AE.lt, AC.lt, LL_cons, LL_nil, idOk, ABlk.lt, ints_LL, GB, bls_LL, tmSt, tmV, gH, tmH, tmK, prs]) (by simp [tupA, hpLt, tmLt, AV.lt, AE.lt, AC.lt, LL_cons, LL_nil, idOk, ABlk.lt, ints_LL, GB, bls_LL, tmSt, tmV, gH, tmH, tmK, prs])
      obtain rfl : k = 256 := by omega
      rw [hpr]
      rcases L with _ | ⟨b0, L0⟩
      · refine Wk.on ?_
        exact AH.Fin.nil [] ⟨rfl, rfl, rfl⟩ (by first | exact trivial | (simp [tupA, hpLt, tmLt, AV.lt, AE.lt, AC.lt, LL_cons, LL_nil, idOk, ABlk.lt, ints_LL, GB, bls_LL, tmSt, tmV, gH, tmH, tmK, prs]; done) | (simp [tupA, hpLt, tmLt, AV.lt, AE.lt, AC.lt, LL_cons, LL_nil, idOk, ABlk.lt, ints_LL, GB, bls_LL, tmSt, tmV, gH, tmH, tmK, prs, rdn, wrn]; done)) trivial trivial rfl (by simp [GB])
      · refine Wk.on ?_
        exact AH.Fin.new [2] _ _ ⟨rfl, rfl, rfl⟩ rfl ⟨by show some (ABlk.row 38 2 _) = some (ABlk.row 38 2 ((ints _).map _)); rw [ints_ren], trivial⟩ rfl (by simp [tupA, hpLt, tmLt, AV.lt, AE.lt, AC.lt, LL_cons, LL_nil, idOk, ABlk.lt, ints_LL, GB, bls_LL, tmSt, tmV, gH, tmH, tmK, prs]) (by simp [tupA, hpLt, tmLt, AV.lt, AE.lt, AC.lt, LL_cons, LL_nil, idOk, ABlk.lt, ints_LL, GB, bls_LL, tmSt, tmV, gH, tmH, tmK, prs])
    · refine Wk.on ?_
      rw [decide_eq_false hlt]
      refine Wk.on ?_
      refine Tr.loopU (md := true) (X := Nat × List (Nat × Nat)) (tmSt N T) (fun q => q.1 ≤ 256 ∧ prT T q.1 = q.2) (fun q => 256 - q.1) (0, []) tok ⟨by omega, rfl⟩ (Under.wk [] ⟨rfl, rfl, Nat.le_of_ble_eq_true rfl, Nat.le_of_ble_eq_true rfl⟩ rfl ⟨.inl rfl, .inl rfl, .inl rfl, .inl rfl, trivial⟩ ⟨.inl (congrArg ABlk.own (bls_ren _ _).symm), trivial⟩ rfl (by simp [tupA, hpLt, tmLt, AV.lt, AE.lt, AC.lt, LL_cons, LL_nil, idOk, ABlk.lt, ints_LL, GB, bls_LL, tmSt, tmV, gH, tmH, tmK, prs]) (by simp [tupA, hpLt, tmLt, AV.lt, AE.lt, AC.lt, LL_cons, LL_nil, idOk, ABlk.lt, ints_LL, GB, bls_LL, tmSt, tmV, gH, tmH, tmK, prs])) ?_
      rintro ⟨k, L⟩ ⟨hk, hpr⟩
      dsimp only at hk hpr
      have hLl := prT_len T k
      rw [hpr] at hLl
      by_cases hkl : k < 256
      · have hsu := prT_succ T k
        rw [hpr] at hsu
        obtain ⟨u, hu⟩ : ∃ u, u = T.getD k false := ⟨_, rfl⟩
        rw [← hu] at hsu
        rcases L with _ | ⟨b0, L0⟩
        · refine Wk.on ?_
          rw [decide_eq_true (show ((k : Nat) : Int) < 256 by omega)]
          refine Wk.on ?_
          rw [show 0 + Int.toNat ((k : Nat) : Int) * 1 = k by rw [Int.toNat_natCast]; omega, bls_getD, ← hu]
          cases u
          · refine Wk.on ?_
            exact Again.under (k + 1, []) (Under.wk [] ⟨rfl, rfl, Nat.le_of_ble_eq_true rfl, Nat.le_of_ble_eq_true rfl⟩ rfl ⟨.inl rfl, .inl rfl, .inl rfl, .inl rfl, trivial⟩ ⟨.inl (congrArg ABlk.own (bls_ren _ _).symm), trivial⟩ rfl (by simp [tupA, hpLt, tmLt, AV.lt, AE.lt, AC.lt, LL_cons, LL_nil, idOk, ABlk.lt, ints_LL, GB, bls_LL, tmSt, tmV, gH, tmH, tmK, prs]) (by simp [tupA, hpLt, tmLt, AV.lt, AE.lt, AC.lt, LL_cons, LL_nil, idOk, ABlk.lt, ints_LL, GB, bls_LL, tmSt, tmV, gH, tmH, tmK, prs])) ⟨by omega, hsu⟩ (by show 256 - (k + 1) < 256 - k; omega)
          · refine Wk.on ?_
            refine ⟨⟨by omega, by omega, by show ((k : Nat) : Int) < 2 ^ 64; omega, fun _ => by show ((k : Nat) : Int) < 2 ^ 63; omega⟩, ?_⟩
            refine Wk.on ?_
            exact Again.under (k + 1, [(k / 16, k % 16)]) (Under.wk [(2, 4)] ⟨rfl, rfl, Nat.le_of_ble_eq_true rfl, Nat.le_of_ble_eq_true rfl⟩ rfl ⟨.inl rfl, .inl rfl, .inl rfl, .inl rfl, trivial⟩ ⟨.inl (congrArg ABlk.own (bls_ren _ _).symm), .inl (by show ABlk.row 38 2 _ = ABlk.row 38 2 ((ints _).map _); rw [ints_ren]; rfl), trivial⟩ rfl (by simp [tupA, hpLt, tmLt, AV.lt, AE.lt, AC.lt, LL_cons, LL_nil, idOk, ABlk.lt, ints_LL, GB, bls_LL, tmSt, tmV, gH, tmH, tmK, prs]) (by simp [tupA, hpLt, tmLt, AV.lt, AE.lt, AC.lt, LL_cons, LL_nil, idOk, ABlk.lt, ints_LL, GB, bls_LL, tmSt, tmV, gH, tmH, tmK, prs])) ⟨by omega, hsu⟩ (by show 256 - (k + 1) < 256 - k; omega)
        · generalize hLL : b0 :: L0 = L at *
          have hml : (ints (prs L)).length = L.length * 2 := by rw [ints_len, prs_len]
          have hst : ∀ i : Nat, tmSt N T (i, L) = ⟨[(0, .c (.int .i64 N)), (8, .c (.ptr 1 0)), (12, .c (.row 2 L.length)), (13, .c (.int .i64 i))], [(1, .own (bls T)), (2, .row 38 2 (ints (prs L)))], 3, 80, 1⟩ := fun i => by rw [← hLL]; rfl
          rw [hst]
          refine Wk.on ?_
          rw [decide_eq_true (show ((k : Nat) : Int) < 256 by omega)]
          refine Wk.on ?_
          rw [show 0 + Int.toNat ((k : Nat) : Int) * 1 = k by rw [Int.toNat_natCast]; omega, bls_getD, ← hu]
          cases u
          · refine Wk.on ?_
            refine Again.under (k + 1, L) ?_ ⟨by omega, by rw [hsu]; exact List.append_nil _⟩ (by show 256 - (k + 1) < 256 - k; omega)
            rw [hst]
            exact Under.wk [] ⟨rfl, rfl, Nat.le_of_ble_eq_true rfl, Nat.le_of_ble_eq_true rfl⟩ rfl ⟨.inl rfl, .inl rfl, .inl rfl, .inl rfl, trivial⟩ ⟨.inl (congrArg ABlk.own (bls_ren _ _).symm), .inl (congrArg (ABlk.row _ _) (ints_ren _ _).symm), trivial⟩ rfl (by simp [tupA, hpLt, tmLt, AV.lt, AE.lt, AC.lt, LL_cons, LL_nil, idOk, ABlk.lt, ints_LL, GB, bls_LL, tmSt, tmV, gH, tmH, tmK, prs]) (by simp [tupA, hpLt, tmLt, AV.lt, AE.lt, AC.lt, LL_cons, LL_nil, idOk, ABlk.lt, ints_LL, GB, bls_LL, tmSt, tmV, gH, tmH, tmK, prs])
          · refine Wk.on ?_
            refine ⟨⟨by omega, by omega, by show ((k : Nat) : Int) < 2 ^ 64; omega, fun _ => by show ((k : Nat) : Int) < 2 ^ 63; omega⟩, ?_⟩
            refine Wk.on ?_
            refine ⟨⟨Nat.le_of_ble_eq_true rfl, rfl, rfl, by rw [hml], by show ((L.length + 1 : Nat) : Int) * 16 ≤ _; omega, by omega⟩, ?_⟩
            refine Wk.on ?_
            have hal : L ++ [(k / 16, k % 16)] = b0 :: (L0 ++ [(k / 16, k % 16)]) := by rw [← hLL]; rfl
            have hll : L.length + 1 = (b0 :: (L0 ++ [(k / 16, k % 16)])).length := by rw [← hal]; simp
            refine Again.under (k + 1, b0 :: (L0 ++ [(k / 16, k % 16)])) ?_ ⟨by omega, by rw [hsu, ← hal]; rfl⟩ (by show 256 - (k + 1) < 256 - k; omega)
            exact Under.wk [(2, 4)] ⟨rfl, rfl, Nat.le_of_ble_eq_true rfl, Nat.le_of_ble_eq_true rfl⟩ rfl ⟨.inl rfl, .inl rfl, .inl (by show AV.c (.row _ (L.length + 1)) = _; rw [hll]; rfl), .inl rfl, trivial⟩ ⟨.inl (congrArg ABlk.own (bls_ren _ _).symm), .inl (by rw [← hal]; exact congrArg (ABlk.row _ _) (prs_lie _ _ _ _)), trivial⟩ rfl (by simp [tupA, hpLt, tmLt, AV.lt, AE.lt, AC.lt, LL_cons, LL_nil, idOk, ABlk.lt, ints_LL, GB, bls_LL, tmSt, tmV, gH, tmH, tmK, prs]) (by simp [tupA, hpLt, tmLt, AV.lt, AE.lt, AC.lt, LL_cons, LL_nil, idOk, ABlk.lt, ints_LL, GB, bls_LL, tmSt, tmV, gH, tmH, tmK, prs])
      obtain rfl : k = 256 := by omega
      rw [hpr]
      rcases L with _ | ⟨b0, L0⟩
      · refine Wk.on ?_
        exact AH.Fin.nil [] ⟨rfl, rfl, rfl⟩ (by first | exact trivial | (simp [tupA, hpLt, tmLt, AV.lt, AE.lt, AC.lt, LL_cons, LL_nil, idOk, ABlk.lt, ints_LL, GB, bls_LL, tmSt, tmV, gH, tmH, tmK, prs]; done) | (simp [tupA, hpLt, tmLt, AV.lt, AE.lt, AC.lt, LL_cons, LL_nil, idOk, ABlk.lt, ints_LL, GB, bls_LL, tmSt, tmV, gH, tmH, tmK, prs, rdn, wrn]; done)) trivial trivial rfl (by simp [GB])
      · refine Wk.on ?_
        exact AH.Fin.new [2] _ _ ⟨rfl, rfl, rfl⟩ rfl ⟨by show some (ABlk.row 38 2 _) = some (ABlk.row 38 2 ((ints _).map _)); rw [ints_ren], trivial⟩ rfl (by simp [tupA, hpLt, tmLt, AV.lt, AE.lt, AC.lt, LL_cons, LL_nil, idOk, ABlk.lt, ints_LL, GB, bls_LL, tmSt, tmV, gH, tmH, tmK, prs]) (by simp [tupA, hpLt, tmLt, AV.lt, AE.lt, AC.lt, LL_cons, LL_nil, idOk, ABlk.lt, ints_LL, GB, bls_LL, tmSt, tmV, gH, tmH, tmK, prs])
end Go.Proofs.YtimknijehaamlaaDoor
