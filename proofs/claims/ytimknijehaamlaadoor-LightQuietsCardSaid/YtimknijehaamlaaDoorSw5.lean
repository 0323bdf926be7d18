/-
  Contracts: Reachable, Refute, Quiet, for a graph and sets in range.
-/
import Derived.Test.YtimknijehaamlaaDoorSw4
set_option linter.unusedSimpArgs false
set_option linter.unusedVariables false
namespace Go.Proofs.YtimknijehaamlaaDoor
open Go Go.AH Go.Lin
set_option maxRecDepth 100000
set_option maxHeartbeats 1000000

/-- What Quiet answers. -/
def qV : List Nat → AV
  | [] => .t [.c .nils, .c (.int .i64 0)]
  | b :: L => .t [.c (.row 1 (b :: L).length), .c (.int .i64 0)]
/-- The first quiet set that refutes. -/
def refQ (Q : List Nat) (t : Nat) : Option Nat := Q.find? fun q => decide (pop (q &&& t) % 2 = 1)
theorem tidied_nil : FDet Tryd.prog 52 [.c .nils] [] 0 (.c .nils) [] 0 := by
  refine FSpec.body2 tok true Tryd.func52 ?_
  refine Wk.on ?_
  refine Tr.loop (md := true) (X := Unit) (st := fun _ => ⟨[(3, .c .nils), (12, .c (.int .i64 0)), (13, .c (.int .i64 0))], [], 0, 65, 0⟩) (inv := fun _ => True) (μ := fun _ => 0) (x0 := ()) (l := []) tok trivial ?_ ?_
  · exact Sub.nil ⟨rfl, rfl, (by simp [tab64_LL, pC, castL, lC, tV, tH, tK, qV]), rfl, (by simp [tupA, hpLt, tmLt, AV.lt, AE.lt, AC.lt, LL_cons, LL_nil, idOk, ABlk.lt, ints_LL, GB, tab64_LL, pC, castL, lC, tV, tH, tK, qV]), (by simp [tupA, hpLt, tmLt, AV.lt, AE.lt, AC.lt, LL_cons, LL_nil, idOk, ABlk.lt, ints_LL, GB, tab64_LL, pC, castL, lC, tV, tH, tK, qV])⟩ (by (repeat (first | exact trivial | refine ⟨trivial, ?_⟩ | refine ⟨rfl, ?_⟩))) (by (repeat (first | exact trivial | refine ⟨trivial, ?_⟩ | refine ⟨rfl, ?_⟩)))
  · intro _ _
    refine Wk.on ?_
    refine CallA.ro2 [] (.t []) (Sort_nil) ?_
    refine Wk.on ?_
    exact AH.Fin.nil2 ⟨rfl, rfl, rfl⟩
theorem tidied_row (Q : List Nat) (hQ : Q.length ≤ 12) (hq : ∀ q ∈ Q, q < 65536) : FDet Tryd.prog 52 [.c (.row 0 Q.length)] [(0, .row 3 1 (ints (castL Q)))] 1 (tV (tidyD Q).reverse) (tH (tidyD Q).reverse) (tK (tidyD Q).reverse) :=
  FDet.wk (tidied_spec Q hQ hq) ⟨⟨⟨rfl, rfl, rfl⟩, trivial⟩, trivial⟩ ⟨.inl rfl, trivial⟩

theorem find_at {Q : List Nat} {p : Nat → Bool} {k e : Nat} (hk : k < Q.length) (he : Q[k] = e) (hp : p e = true) (h : ∀ j, j < k → p (Q.getD j 0) = false) : Q.find? p = some e := by
  induction Q generalizing k with
  | nil => cases hk
  | cons q Q ih =>
    cases k with
    | zero =>
      simp only [List.getElem_cons_zero] at he
      rw [List.find?_cons, he, hp]
    | succ k =>
      have h0 := h 0 (by omega)
      simp only [List.getD_cons_zero] at h0
      rw [List.find?_cons, h0]
      simp only [List.getElem_cons_succ, List.length_cons] at he hk
      exact ih (by omega) he fun j hj => by
        have := h (j + 1) (by omega)
        simpa using this
theorem find_no {Q : List Nat} {p : Nat → Bool} (h : ∀ j, j < Q.length → p (Q.getD j 0) = false) : Q.find? p = none := by
  rw [List.find?_eq_none]
  intro x hx
  obtain ⟨j, hj, rfl⟩ := List.getElem_of_mem hx
  have := h j hj
  rw [List.getD_eq_getElem?_getD, List.getElem?_eq_getElem hj] at this
  simpa using this

theorem Reachable_spec {n : Nat} {ws : List (Nat × Nat)} (h : Gr n ws) (own : Bool) (hw : ws.length ≤ 1000) : FDet Tryd.prog 41 [.c (.int .i64 n), .c (.rs 0 0 ws.length), .c (.bool own)] [(0, .ro (ints (prs ws)))] 1 (.t [.c (.int .i64 (2 ^ (bsR n (openR n ws own)).length : Nat)), .c (.int .i64 0)]) [] 1 := by
  have hl := openR_lm h own
  have hl17 : (lC n (openR n ws own)).length = 17 := by rw [lC, List.length_cons, ints_len, castL_len, hl.len]
  have hn := hl.n16
  have ho := open_rn h own hw
  obtain ⟨hS, hB, hQ, hQs⟩ := hl.small (Nat.le_refl n)
  have hr := reduced_spec hl
  simp only [bsR, qsR]
  generalize openR n ws own = rows at *
  generalize reducedP rows n = BQ at *
  obtain ⟨B, Q⟩ := BQ
  dsimp only at hS hB hQ hQs hr ⊢
  rcases B with _ | ⟨b0, B0⟩ <;> rcases Q with _ | ⟨q0, Q0⟩
  · skip
    have hr : FDet Tryd.prog 51 [.c (.ptr 0 0)] [(0, .ro (lC n rows))] 1 (.t [.c (.nils), .c (.nils)]) [] 1 := hr
    refine FSpec.body2 tok true Tryd.func41 ?_
    refine Wk.on ?_
    refine CallA.det2 [0] (.t [.c (.ptr 1 0), .c (.int .i64 0)]) ([(0, .ro (ints (prs ws))), (1, .own (lC n rows))]) (ho) ?_
    refine Wk.on ?_
    refine CallA.det2 [1] (.t [.c (.nils), .c (.nils)]) ([(0, .ro (ints (prs ws))), (1, .own (lC n rows))]) (hr) ?_
    have hw0 : IntKind.u64.wrap (0 : Int) = 0 := by decide
    have hsh : (1 : Int) * 2 ^ (Int.toNat (0 : Int)) = 1 := by decide
    refine Wk.on ?_
    rw [hw0]
    refine Wk.on ?_
    rw [hsh]
    refine Wk.on ?_
    exact AH.Fin.nil2 ⟨rfl, rfl, rfl⟩
  · skip
    have hr : FDet Tryd.prog 51 [.c (.ptr 0 0)] [(0, .ro (lC n rows))] 1 (.t [.c (.nils), .c (.row 1 (q0 :: Q0).length)]) [(1, .row 3 1 (ints (castL (q0 :: Q0))))] 2 := hr
    refine FSpec.body2 tok true Tryd.func41 ?_
    refine Wk.on ?_
    refine CallA.det2 [0] (.t [.c (.ptr 1 0), .c (.int .i64 0)]) ([(0, .ro (ints (prs ws))), (1, .own (lC n rows))]) (ho) ?_
    refine Wk.on ?_
    refine CallA.det2 [1] (.t [.c (.nils), .c (.row 2 (q0 :: Q0).length)]) ([(0, .ro (ints (prs ws))), (1, .own (lC n rows)), (2, .row 3 1 (ints (castL (q0 :: Q0))))]) (hr) ?_
    have hw0 : IntKind.u64.wrap (0 : Int) = 0 := by decide
    have hsh : (1 : Int) * 2 ^ (Int.toNat (0 : Int)) = 1 := by decide
    refine Wk.on ?_
    rw [hw0]
    refine Wk.on ?_
    rw [hsh]
    refine Wk.on ?_
    exact AH.Fin.nil2 ⟨rfl, rfl, rfl⟩
  · skip
    have hr : FDet Tryd.prog 51 [.c (.ptr 0 0)] [(0, .ro (lC n rows))] 1 (.t [.c (.row 1 (b0 :: B0).length), .c (.nils)]) [(1, .row 93 2 (ints (prs (b0 :: B0))))] 2 := hr
    refine FSpec.body2 tok true Tryd.func41 ?_
    refine Wk.on ?_
    refine CallA.det2 [0] (.t [.c (.ptr 1 0), .c (.int .i64 0)]) ([(0, .ro (ints (prs ws))), (1, .own (lC n rows))]) (ho) ?_
    refine Wk.on ?_
    refine CallA.det2 [1] (.t [.c (.row 2 (b0 :: B0).length), .c (.nils)]) ([(0, .ro (ints (prs ws))), (1, .own (lC n rows)), (2, .row 93 2 (ints (prs (b0 :: B0))))]) (hr) ?_
    generalize hBB : b0 :: B0 = B at *
    have hwb : IntKind.u64.wrap ((B.length : Nat) : Int) = (B.length : Nat) := wrapU (by omega)
    have hsh : (1 : Int) * 2 ^ (Int.toNat ((B.length : Nat) : Int)) = ((2 ^ B.length : Nat) : Int) := by simp
    have hp2 : 2 ^ B.length < 131072 := Nat.pow_lt_pow_right (n := 17) (by omega) (by omega)
    generalize 2 ^ B.length = q at *
    refine Wk.on ?_
    rw [hwb]
    refine Wk.on ?_
    rw [hsh]
    refine Wk.on ?_
    exact AH.Fin.nil2 ⟨rfl, rfl, rfl⟩
  · skip
    have hr : FDet Tryd.prog 51 [.c (.ptr 0 0)] [(0, .ro (lC n rows))] 1 (.t [.c (.row 1 (b0 :: B0).length), .c (.row 2 (q0 :: Q0).length)]) [(1, .row 93 2 (ints (prs (b0 :: B0)))), (2, .row 3 1 (ints (castL (q0 :: Q0))))] 3 := hr
    refine FSpec.body2 tok true Tryd.func41 ?_
    refine Wk.on ?_
    refine CallA.det2 [0] (.t [.c (.ptr 1 0), .c (.int .i64 0)]) ([(0, .ro (ints (prs ws))), (1, .own (lC n rows))]) (ho) ?_
    refine Wk.on ?_
    refine CallA.det2 [1] (.t [.c (.row 2 (b0 :: B0).length), .c (.row 3 (q0 :: Q0).length)]) ([(0, .ro (ints (prs ws))), (1, .own (lC n rows)), (3, .row 3 1 (ints (castL (q0 :: Q0)))), (2, .row 93 2 (ints (prs (b0 :: B0))))]) (hr) ?_
    generalize hBB : b0 :: B0 = B at *
    have hwb : IntKind.u64.wrap ((B.length : Nat) : Int) = (B.length : Nat) := wrapU (by omega)
    have hsh : (1 : Int) * 2 ^ (Int.toNat ((B.length : Nat) : Int)) = ((2 ^ B.length : Nat) : Int) := by simp
    have hp2 : 2 ^ B.length < 131072 := Nat.pow_lt_pow_right (n := 17) (by omega) (by omega)
    generalize 2 ^ B.length = q at *
    refine Wk.on ?_
    rw [hwb]
    refine Wk.on ?_
    rw [hsh]
    refine Wk.on ?_
    exact AH.Fin.nil2 ⟨rfl, rfl, rfl⟩
theorem Refute_spec {n : Nat} {ws : List (Nat × Nat)} (h : Gr n ws) (own : Bool) (hw : ws.length ≤ 1000) {t : Nat} (ht : t < 2 ^ n) : FDet Tryd.prog 43 [.c (.int .i64 n), .c (.rs 0 0 ws.length), .c (.bool own), .c (.int .i64 t)] [(0, .ro (ints (prs ws)))] 1 (.t [.c (.int .i64 (((refQ (qsR n (openR n ws own)) t).getD 0 : Nat) : Int)), .c (.bool (refQ (qsR n (openR n ws own)) t).isSome), .c (.int .i64 0)]) [] 1 := by
  have hpw := (openR_lm h own).pow
  have ht2 : t < 65536 := by omega
  have hl := openR_lm h own
  have hl17 : (lC n (openR n ws own)).length = 17 := by rw [lC, List.length_cons, ints_len, castL_len, hl.len]
  have hn := hl.n16
  have ho := open_s1 h own hw ht
  obtain ⟨hS, hB, hQ, hQs⟩ := hl.small (Nat.le_refl n)
  have hr := reduced_spec hl
  simp only [bsR, qsR]
  generalize openR n ws own = rows at *
  generalize reducedP rows n = BQ at *
  obtain ⟨B, Q⟩ := BQ
  dsimp only at hS hB hQ hQs hr ⊢
  rcases B with _ | ⟨b0, B0⟩ <;> rcases Q with _ | ⟨q0, Q0⟩
  · skip
    have hr : FDet Tryd.prog 51 [.c (.ptr 0 0)] [(0, .ro (lC n rows))] 1 (.t [.c (.nils), .c (.nils)]) [] 1 := hr
    refine FSpec.body2 tok true Tryd.func43 ?_
    refine Wk.on ?_
    refine CallA.det2 [0, 1] (.t [.c (.ptr 2 0), .c (.int .i64 0)]) ([(1, .own [.int .i64 t]), (0, .ro (ints (prs ws))), (2, .own (lC n rows))]) (ho) ?_
    refine Wk.on ?_
    refine CallA.det2 [2] (.t [.c (.nils), .c (.nils)]) ([(1, .own [.int .i64 t]), (0, .ro (ints (prs ws))), (2, .own (lC n rows))]) (hr) ?_
    refine Wk.on ?_
    refine Tr.loop (md := true) (X := Unit) (st := fun _ => ⟨[(15, .c (.int .i64 0)), (16, .c (.bool false)), (37, .c (.int .i64 0)), (38, .c (.int .i64 0))], [], 3, 50, 1⟩) (inv := fun _ => True) (μ := fun _ => 0) (x0 := ()) (l := []) tok trivial ?_ ?_
    · exact Sub.nil ⟨rfl, rfl, (by simp [tab64_LL, pC, castL, lC, tV, tH, tK, qV]), rfl, (by simp [tupA, hpLt, tmLt, AV.lt, AE.lt, AC.lt, LL_cons, LL_nil, idOk, ABlk.lt, ints_LL, GB, tab64_LL, pC, castL, lC, tV, tH, tK, qV]), (by simp [tupA, hpLt, tmLt, AV.lt, AE.lt, AC.lt, LL_cons, LL_nil, idOk, ABlk.lt, ints_LL, GB, tab64_LL, pC, castL, lC, tV, tH, tK, qV])⟩ (by (repeat (first | exact trivial | refine ⟨trivial, ?_⟩ | refine ⟨rfl, ?_⟩))) (by (repeat (first | exact trivial | refine ⟨trivial, ?_⟩ | refine ⟨rfl, ?_⟩)))
    intro _ _
    refine Wk.on ?_
    exact AH.Fin.nil2 ⟨rfl, rfl, rfl⟩
  · skip
    have hr : FDet Tryd.prog 51 [.c (.ptr 0 0)] [(0, .ro (lC n rows))] 1 (.t [.c (.nils), .c (.row 1 (q0 :: Q0).length)]) [(1, .row 3 1 (ints (castL (q0 :: Q0))))] 2 := hr
    refine FSpec.body2 tok true Tryd.func43 ?_
    refine Wk.on ?_
    refine CallA.det2 [0, 1] (.t [.c (.ptr 2 0), .c (.int .i64 0)]) ([(1, .own [.int .i64 t]), (0, .ro (ints (prs ws))), (2, .own (lC n rows))]) (ho) ?_
    refine Wk.on ?_
    refine CallA.det2 [2] (.t [.c (.nils), .c (.row 3 (q0 :: Q0).length)]) ([(1, .own [.int .i64 t]), (0, .ro (ints (prs ws))), (2, .own (lC n rows)), (3, .row 3 1 (ints (castL (q0 :: Q0))))]) (hr) ?_
    refine Wk.on ?_
    generalize hQQ : q0 :: Q0 = Q at *
    have hlen : (ints (castL Q)).length = Q.length := by rw [ints_len, castL_len]
    refine Tr.loop (md := true) (X := Nat) (st := fun k => ⟨[(3, .c (.int .i64 t)), (15, .c (.int .i64 0)), (16, .c (.bool false)), (36, .c (.row 3 Q.length)), (37, .c (.int .i64 Q.length)), (38, .c (.int .i64 k))], [(3, .row 3 1 (ints (castL Q)))], 4, 50, 1⟩) (inv := fun k => k ≤ Q.length ∧ ∀ j, j < k → ¬ pop (Q.getD j 0 &&& t) % 2 = 1) (μ := fun k => Q.length - k) (x0 := 0) (l := []) tok ⟨by omega, fun j hj => by omega⟩ ?_ ?_
    · exact Sub.nil ⟨rfl, rfl, (by simp [tab64_LL, pC, castL, lC, tV, tH, tK, qV]), rfl, (by simp [tupA, hpLt, tmLt, AV.lt, AE.lt, AC.lt, LL_cons, LL_nil, idOk, ABlk.lt, ints_LL, GB, tab64_LL, pC, castL, lC, tV, tH, tK, qV]), (by simp [tupA, hpLt, tmLt, AV.lt, AE.lt, AC.lt, LL_cons, LL_nil, idOk, ABlk.lt, ints_LL, GB, tab64_LL, pC, castL, lC, tV, tH, tK, qV])⟩ (by (repeat (first | exact trivial | refine ⟨trivial, ?_⟩ | refine ⟨rfl, ?_⟩))) (by (repeat (first | exact trivial | refine ⟨trivial, ?_⟩ | refine ⟨rfl, ?_⟩)))
    rintro k ⟨hk, hall⟩
    by_cases hkl : k < Q.length
    · obtain ⟨e, he⟩ : ∃ e, e = Q.getD k 0 := ⟨_, rfl⟩
      have heq : Q[k] = e := by rw [he, List.getD_eq_getElem?_getD, List.getElem?_eq_getElem hkl]; rfl
      have he2 : e < 65536 := by rw [← heq]; exact hQs _ (List.getElem_mem hkl)
      have hqt : e &&& t < 65536 := Nat.lt_of_le_of_lt Nat.and_le_left he2
      refine Wk.on ?_
      rw [decide_eq_true (show ((k : Nat) : Int) < ((Q.length : Nat) : Int) by omega)]
      refine Wk.on ?_
      rw [show Int.toNat ((k : Nat) : Int) * 1 = k by rw [Int.toNat_natCast]; omega, ints_getD, castL_getD, ← he]
      refine Wk.on ?_
      rw [show (Int.toNat ((e : Nat) : Int) &&& Int.toNat ((t : Nat) : Int) : Nat) = e &&& t by rw [Int.toNat_natCast, Int.toNat_natCast]]
      refine CallA.ro2 [] (.c (.bool (decide (pop (e &&& t) % 2 = 1)))) (odd_spec hqt) ?_
      refine Wk.on ?_
      by_cases hx : pop (e &&& t) % 2 = 1
      · rw [decide_eq_true hx]
        refine Wk.on ?_
        have hf : refQ Q t = some e := find_at hkl heq (decide_eq_true hx) fun j hj => decide_eq_false (hall j hj)
        exact AH.Fin.nil2 ⟨by rw [hf]; rfl, rfl, rfl⟩
      · rw [decide_eq_false hx]
        refine Wk.on ?_
        have hnx : ∀ j, j < k + 1 → ¬ pop (Q.getD j 0 &&& t) % 2 = 1 := fun j hj => by
          by_cases e1 : j = k
          · rw [e1, ← he]; exact hx
          · exact hall j (by omega)
        refine Again.mk (k + 1) (Sub.nil ⟨rfl, rfl, (by simp [tab64_LL, pC, castL, lC, tV, tH, tK, qV]), rfl, (by simp [tupA, hpLt, tmLt, AV.lt, AE.lt, AC.lt, LL_cons, LL_nil, idOk, ABlk.lt, ints_LL, GB, tab64_LL, pC, castL, lC, tV, tH, tK, qV]), (by simp [tupA, hpLt, tmLt, AV.lt, AE.lt, AC.lt, LL_cons, LL_nil, idOk, ABlk.lt, ints_LL, GB, tab64_LL, pC, castL, lC, tV, tH, tK, qV])⟩ (by (repeat (first | exact trivial | refine ⟨trivial, ?_⟩ | refine ⟨rfl, ?_⟩))) (by (repeat (first | exact trivial | refine ⟨trivial, ?_⟩ | refine ⟨rfl, ?_⟩)))) (⟨by omega, hnx⟩) (by omega)
    obtain rfl : k = Q.length := by omega
    refine Wk.on ?_
    rw [decide_eq_false (show ¬ ((Q.length : Nat) : Int) < ((Q.length : Nat) : Int) by omega)]
    refine Wk.on ?_
    intro _
    refine Wk.on ?_
    have hf : refQ Q t = none := find_no fun j hj => decide_eq_false (hall j hj)
    exact AH.Fin.nil2 ⟨by rw [hf]; rfl, rfl, rfl⟩
  · skip
    have hr : FDet Tryd.prog 51 [.c (.ptr 0 0)] [(0, .ro (lC n rows))] 1 (.t [.c (.row 1 (b0 :: B0).length), .c (.nils)]) [(1, .row 93 2 (ints (prs (b0 :: B0))))] 2 := hr
    refine FSpec.body2 tok true Tryd.func43 ?_
    refine Wk.on ?_
    refine CallA.det2 [0, 1] (.t [.c (.ptr 2 0), .c (.int .i64 0)]) ([(1, .own [.int .i64 t]), (0, .ro (ints (prs ws))), (2, .own (lC n rows))]) (ho) ?_
    refine Wk.on ?_
    refine CallA.det2 [2] (.t [.c (.row 3 (b0 :: B0).length), .c (.nils)]) ([(1, .own [.int .i64 t]), (0, .ro (ints (prs ws))), (2, .own (lC n rows)), (3, .row 93 2 (ints (prs (b0 :: B0))))]) (hr) ?_
    refine Wk.on ?_
    refine Tr.loop (md := true) (X := Unit) (st := fun _ => ⟨[(15, .c (.int .i64 0)), (16, .c (.bool false)), (37, .c (.int .i64 0)), (38, .c (.int .i64 0))], [], 4, 50, 1⟩) (inv := fun _ => True) (μ := fun _ => 0) (x0 := ()) (l := []) tok trivial ?_ ?_
    · exact Sub.nil ⟨rfl, rfl, (by simp [tab64_LL, pC, castL, lC, tV, tH, tK, qV]), rfl, (by simp [tupA, hpLt, tmLt, AV.lt, AE.lt, AC.lt, LL_cons, LL_nil, idOk, ABlk.lt, ints_LL, GB, tab64_LL, pC, castL, lC, tV, tH, tK, qV]), (by simp [tupA, hpLt, tmLt, AV.lt, AE.lt, AC.lt, LL_cons, LL_nil, idOk, ABlk.lt, ints_LL, GB, tab64_LL, pC, castL, lC, tV, tH, tK, qV])⟩ (by (repeat (first | exact trivial | refine ⟨trivial, ?_⟩ | refine ⟨rfl, ?_⟩))) (by (repeat (first | exact trivial | refine ⟨trivial, ?_⟩ | refine ⟨rfl, ?_⟩)))
    intro _ _
    refine Wk.on ?_
    exact AH.Fin.nil2 ⟨rfl, rfl, rfl⟩
  · skip
    have hr : FDet Tryd.prog 51 [.c (.ptr 0 0)] [(0, .ro (lC n rows))] 1 (.t [.c (.row 1 (b0 :: B0).length), .c (.row 2 (q0 :: Q0).length)]) [(1, .row 93 2 (ints (prs (b0 :: B0)))), (2, .row 3 1 (ints (castL (q0 :: Q0))))] 3 := hr
    refine FSpec.body2 tok true Tryd.func43 ?_
    refine Wk.on ?_
    refine CallA.det2 [0, 1] (.t [.c (.ptr 2 0), .c (.int .i64 0)]) ([(1, .own [.int .i64 t]), (0, .ro (ints (prs ws))), (2, .own (lC n rows))]) (ho) ?_
    refine Wk.on ?_
    refine CallA.det2 [2] (.t [.c (.row 3 (b0 :: B0).length), .c (.row 4 (q0 :: Q0).length)]) ([(1, .own [.int .i64 t]), (0, .ro (ints (prs ws))), (2, .own (lC n rows)), (4, .row 3 1 (ints (castL (q0 :: Q0)))), (3, .row 93 2 (ints (prs (b0 :: B0))))]) (hr) ?_
    refine Wk.on ?_
    generalize hQQ : q0 :: Q0 = Q at *
    have hlen : (ints (castL Q)).length = Q.length := by rw [ints_len, castL_len]
    refine Tr.loop (md := true) (X := Nat) (st := fun k => ⟨[(3, .c (.int .i64 t)), (15, .c (.int .i64 0)), (16, .c (.bool false)), (36, .c (.row 4 Q.length)), (37, .c (.int .i64 Q.length)), (38, .c (.int .i64 k))], [(4, .row 3 1 (ints (castL Q)))], 5, 50, 1⟩) (inv := fun k => k ≤ Q.length ∧ ∀ j, j < k → ¬ pop (Q.getD j 0 &&& t) % 2 = 1) (μ := fun k => Q.length - k) (x0 := 0) (l := []) tok ⟨by omega, fun j hj => by omega⟩ ?_ ?_
    · exact Sub.nil ⟨rfl, rfl, (by simp [tab64_LL, pC, castL, lC, tV, tH, tK, qV]), rfl, (by simp [tupA, hpLt, tmLt, AV.lt, AE.lt, AC.lt, LL_cons, LL_nil, idOk, ABlk.lt, ints_LL, GB, tab64_LL, pC, castL, lC, tV, tH, tK, qV]), (by simp [tupA, hpLt, tmLt, AV.lt, AE.lt, AC.lt, LL_cons, LL_nil, idOk, ABlk.lt, ints_LL, GB, tab64_LL, pC, castL, lC, tV, tH, tK, qV])⟩ (by (repeat (first | exact trivial | refine ⟨trivial, ?_⟩ | refine ⟨rfl, ?_⟩))) (by (repeat (first | exact trivial | refine ⟨trivial, ?_⟩ | refine ⟨rfl, ?_⟩)))
    rintro k ⟨hk, hall⟩
    by_cases hkl : k < Q.length
    · obtain ⟨e, he⟩ : ∃ e, e = Q.getD k 0 := ⟨_, rfl⟩
      have heq : Q[k] = e := by rw [he, List.getD_eq_getElem?_getD, List.getElem?_eq_getElem hkl]; rfl
      have he2 : e < 65536 := by rw [← heq]; exact hQs _ (List.getElem_mem hkl)
      have hqt : e &&& t < 65536 := Nat.lt_of_le_of_lt Nat.and_le_left he2
      refine Wk.on ?_
      rw [decide_eq_true (show ((k : Nat) : Int) < ((Q.length : Nat) : Int) by omega)]
      refine Wk.on ?_
      rw [show Int.toNat ((k : Nat) : Int) * 1 = k by rw [Int.toNat_natCast]; omega, ints_getD, castL_getD, ← he]
      refine Wk.on ?_
      rw [show (Int.toNat ((e : Nat) : Int) &&& Int.toNat ((t : Nat) : Int) : Nat) = e &&& t by rw [Int.toNat_natCast, Int.toNat_natCast]]
      refine CallA.ro2 [] (.c (.bool (decide (pop (e &&& t) % 2 = 1)))) (odd_spec hqt) ?_
      refine Wk.on ?_
      by_cases hx : pop (e &&& t) % 2 = 1
      · rw [decide_eq_true hx]
        refine Wk.on ?_
        have hf : refQ Q t = some e := find_at hkl heq (decide_eq_true hx) fun j hj => decide_eq_false (hall j hj)
        exact AH.Fin.nil2 ⟨by rw [hf]; rfl, rfl, rfl⟩
      · rw [decide_eq_false hx]
        refine Wk.on ?_
        have hnx : ∀ j, j < k + 1 → ¬ pop (Q.getD j 0 &&& t) % 2 = 1 := fun j hj => by
          by_cases e1 : j = k
          · rw [e1, ← he]; exact hx
          · exact hall j (by omega)
        refine Again.mk (k + 1) (Sub.nil ⟨rfl, rfl, (by simp [tab64_LL, pC, castL, lC, tV, tH, tK, qV]), rfl, (by simp [tupA, hpLt, tmLt, AV.lt, AE.lt, AC.lt, LL_cons, LL_nil, idOk, ABlk.lt, ints_LL, GB, tab64_LL, pC, castL, lC, tV, tH, tK, qV]), (by simp [tupA, hpLt, tmLt, AV.lt, AE.lt, AC.lt, LL_cons, LL_nil, idOk, ABlk.lt, ints_LL, GB, tab64_LL, pC, castL, lC, tV, tH, tK, qV])⟩ (by (repeat (first | exact trivial | refine ⟨trivial, ?_⟩ | refine ⟨rfl, ?_⟩))) (by (repeat (first | exact trivial | refine ⟨trivial, ?_⟩ | refine ⟨rfl, ?_⟩)))) (⟨by omega, hnx⟩) (by omega)
    obtain rfl : k = Q.length := by omega
    refine Wk.on ?_
    rw [decide_eq_false (show ¬ ((Q.length : Nat) : Int) < ((Q.length : Nat) : Int) by omega)]
    refine Wk.on ?_
    intro _
    refine Wk.on ?_
    have hf : refQ Q t = none := find_no fun j hj => decide_eq_false (hall j hj)
    exact AH.Fin.nil2 ⟨by rw [hf]; rfl, rfl, rfl⟩
theorem Quiet_gen {n : Nat} {ws : List (Nat × Nat)} (h : Gr n ws) (own : Bool) (hw : ws.length ≤ 1000) (hq12 : (qsR n (openR n ws own)).length ≤ 12) : FDet Tryd.prog 18 [.c (.int .i64 n), .c (.rs 0 0 ws.length), .c (.bool own)] [(0, .ro (ints (prs ws)))] 1 (qV (tidyD (qsR n (openR n ws own))).reverse) (tH (tidyD (qsR n (openR n ws own))).reverse) (tK (tidyD (qsR n (openR n ws own))).reverse) := by
  have hQl := (inv_all (openR n ws own) n (by rw [(openR_lm h own).len]; have := h.n16; omega)).len
  have hl := openR_lm h own
  have hl17 : (lC n (openR n ws own)).length = 17 := by rw [lC, List.length_cons, ints_len, castL_len, hl.len]
  have hn := hl.n16
  have ho := open_rn h own hw
  obtain ⟨hS, hB, hQ, hQs⟩ := hl.small (Nat.le_refl n)
  have hr := reduced_spec hl
  simp only [bsR, qsR] at hq12 ⊢
  generalize openR n ws own = rows at *
  generalize reducedP rows n = BQ at *
  obtain ⟨B, Q⟩ := BQ
  dsimp only at hq12 hQl hS hB hQ hQs hr ⊢
  rcases B with _ | ⟨b0, B0⟩ <;> rcases Q with _ | ⟨q0, Q0⟩
  · skip
    have hr : FDet Tryd.prog 51 [.c (.ptr 0 0)] [(0, .ro (lC n rows))] 1 (.t [.c (.nils), .c (.nils)]) [] 1 := hr
    refine FSpec.body2 tok true Tryd.func18 ?_
    refine Wk.on ?_
    refine CallA.det2 [0] (.t [.c (.ptr 1 0), .c (.int .i64 0)]) ([(0, .ro (ints (prs ws))), (1, .own (lC n rows))]) (ho) ?_
    refine Wk.on ?_
    refine CallA.det2 [1] (.t [.c (.nils), .c (.nils)]) ([(0, .ro (ints (prs ws))), (1, .own (lC n rows))]) (hr) ?_
    refine Wk.on ?_
    refine CallA.ro2 [] (.c .nils) (tidied_nil) ?_
    refine Wk.on ?_
    exact AH.Fin.nil2 ⟨rfl, rfl, rfl⟩
  · skip
    have hr : FDet Tryd.prog 51 [.c (.ptr 0 0)] [(0, .ro (lC n rows))] 1 (.t [.c (.nils), .c (.row 1 (q0 :: Q0).length)]) [(1, .row 3 1 (ints (castL (q0 :: Q0))))] 2 := hr
    refine FSpec.body2 tok true Tryd.func18 ?_
    refine Wk.on ?_
    refine CallA.det2 [0] (.t [.c (.ptr 1 0), .c (.int .i64 0)]) ([(0, .ro (ints (prs ws))), (1, .own (lC n rows))]) (ho) ?_
    refine Wk.on ?_
    refine CallA.det2 [1] (.t [.c (.nils), .c (.row 2 (q0 :: Q0).length)]) ([(0, .ro (ints (prs ws))), (1, .own (lC n rows)), (2, .row 3 1 (ints (castL (q0 :: Q0))))]) (hr) ?_
    refine Wk.on ?_
    have htd := tidied_row (q0 :: Q0) (by omega) hQs
    generalize (tidyD (q0 :: Q0)).reverse = D at *
    rcases D with _ | ⟨d0, D0⟩
    · have htd : FDet Tryd.prog 52 [.c (.row 0 (q0 :: Q0).length)] [(0, .row 3 1 (ints (castL (q0 :: Q0))))] 1 (.c .nils) [] 1 := htd
      refine CallA.det2 [2] (.c .nils) ([(0, .ro (ints (prs ws))), (1, .own (lC n rows))]) (htd) ?_
      refine Wk.on ?_
      exact AH.Fin.nil2 ⟨rfl, rfl, rfl⟩
    · have htd : FDet Tryd.prog 52 [.c (.row 0 (q0 :: Q0).length)] [(0, .row 3 1 (ints (castL (q0 :: Q0))))] 1 (.c (.row 1 (d0 :: D0).length)) [(1, .row 3 1 (ints (castL (d0 :: D0))))] 2 := htd
      refine CallA.det2 [2] (.c (.row 3 (d0 :: D0).length)) ([(0, .ro (ints (prs ws))), (1, .own (lC n rows)), (3, .row 3 1 (ints (castL (d0 :: D0))))]) (htd) ?_
      refine Wk.on ?_
      exact AH.Fin.new [3] _ _ ⟨rfl, rfl, rfl⟩ rfl ⟨by show some (ABlk.row 3 1 _) = some (ABlk.row 3 1 ((ints _).map _)); rw [ints_ren], trivial⟩ rfl (by simp [tupA, hpLt, tmLt, AV.lt, AE.lt, AC.lt, LL_cons, LL_nil, idOk, ABlk.lt, ints_LL, GB, tab64_LL, pC, castL, lC, tV, tH, tK, qV]) (by simp [tupA, hpLt, tmLt, AV.lt, AE.lt, AC.lt, LL_cons, LL_nil, idOk, ABlk.lt, ints_LL, GB, tab64_LL, pC, castL, lC, tV, tH, tK, qV])
  · skip
    have hr : FDet Tryd.prog 51 [.c (.ptr 0 0)] [(0, .ro (lC n rows))] 1 (.t [.c (.row 1 (b0 :: B0).length), .c (.nils)]) [(1, .row 93 2 (ints (prs (b0 :: B0))))] 2 := hr
    refine FSpec.body2 tok true Tryd.func18 ?_
    refine Wk.on ?_
    refine CallA.det2 [0] (.t [.c (.ptr 1 0), .c (.int .i64 0)]) ([(0, .ro (ints (prs ws))), (1, .own (lC n rows))]) (ho) ?_
    refine Wk.on ?_
    refine CallA.det2 [1] (.t [.c (.row 2 (b0 :: B0).length), .c (.nils)]) ([(0, .ro (ints (prs ws))), (1, .own (lC n rows)), (2, .row 93 2 (ints (prs (b0 :: B0))))]) (hr) ?_
    refine Wk.on ?_
    refine CallA.ro2 [] (.c .nils) (tidied_nil) ?_
    refine Wk.on ?_
    exact AH.Fin.nil2 ⟨rfl, rfl, rfl⟩
  · skip
    have hr : FDet Tryd.prog 51 [.c (.ptr 0 0)] [(0, .ro (lC n rows))] 1 (.t [.c (.row 1 (b0 :: B0).length), .c (.row 2 (q0 :: Q0).length)]) [(1, .row 93 2 (ints (prs (b0 :: B0)))), (2, .row 3 1 (ints (castL (q0 :: Q0))))] 3 := hr
    refine FSpec.body2 tok true Tryd.func18 ?_
    refine Wk.on ?_
    refine CallA.det2 [0] (.t [.c (.ptr 1 0), .c (.int .i64 0)]) ([(0, .ro (ints (prs ws))), (1, .own (lC n rows))]) (ho) ?_
    refine Wk.on ?_
    refine CallA.det2 [1] (.t [.c (.row 2 (b0 :: B0).length), .c (.row 3 (q0 :: Q0).length)]) ([(0, .ro (ints (prs ws))), (1, .own (lC n rows)), (3, .row 3 1 (ints (castL (q0 :: Q0)))), (2, .row 93 2 (ints (prs (b0 :: B0))))]) (hr) ?_
    refine Wk.on ?_
    have htd := tidied_row (q0 :: Q0) (by omega) hQs
    generalize (tidyD (q0 :: Q0)).reverse = D at *
    rcases D with _ | ⟨d0, D0⟩
    · have htd : FDet Tryd.prog 52 [.c (.row 0 (q0 :: Q0).length)] [(0, .row 3 1 (ints (castL (q0 :: Q0))))] 1 (.c .nils) [] 1 := htd
      refine CallA.det2 [3] (.c .nils) ([(0, .ro (ints (prs ws))), (1, .own (lC n rows)), (2, .row 93 2 (ints (prs (b0 :: B0))))]) (htd) ?_
      refine Wk.on ?_
      exact AH.Fin.nil2 ⟨rfl, rfl, rfl⟩
    · have htd : FDet Tryd.prog 52 [.c (.row 0 (q0 :: Q0).length)] [(0, .row 3 1 (ints (castL (q0 :: Q0))))] 1 (.c (.row 1 (d0 :: D0).length)) [(1, .row 3 1 (ints (castL (d0 :: D0))))] 2 := htd
      refine CallA.det2 [3] (.c (.row 4 (d0 :: D0).length)) ([(0, .ro (ints (prs ws))), (1, .own (lC n rows)), (2, .row 93 2 (ints (prs (b0 :: B0)))), (4, .row 3 1 (ints (castL (d0 :: D0))))]) (htd) ?_
      refine Wk.on ?_
      exact AH.Fin.new [4] _ _ ⟨rfl, rfl, rfl⟩ rfl ⟨by show some (ABlk.row 3 1 _) = some (ABlk.row 3 1 ((ints _).map _)); rw [ints_ren], trivial⟩ rfl (by simp [tupA, hpLt, tmLt, AV.lt, AE.lt, AC.lt, LL_cons, LL_nil, idOk, ABlk.lt, ints_LL, GB, tab64_LL, pC, castL, lC, tV, tH, tK, qV]) (by simp [tupA, hpLt, tmLt, AV.lt, AE.lt, AC.lt, LL_cons, LL_nil, idOk, ABlk.lt, ints_LL, GB, tab64_LL, pC, castL, lC, tV, tH, tK, qV])
theorem Quiet_spec {n : Nat} {ws : List (Nat × Nat)} (h : Gr n ws) (hn12 : n ≤ 12) (own : Bool) (hw : ws.length ≤ 1000) : FDet Tryd.prog 18 [.c (.int .i64 n), .c (.rs 0 0 ws.length), .c (.bool own)] [(0, .ro (ints (prs ws)))] 1 (qV (tidyD (qsR n (openR n ws own))).reverse) (tH (tidyD (qsR n (openR n ws own))).reverse) (tK (tidyD (qsR n (openR n ws own))).reverse) := by
  have hQl := (inv_all (openR n ws own) n (by rw [(openR_lm h own).len]; have := h.n16; omega)).len
  exact Quiet_gen h own hw (by show (reducedP (openR n ws own) n).2.length ≤ 12; omega)
end Go.Proofs.YtimknijehaamlaaDoor
