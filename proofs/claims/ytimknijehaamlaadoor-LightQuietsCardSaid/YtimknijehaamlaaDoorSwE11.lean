/-
  Contracts: the reference's Quiet.
-/
import Derived.Test.YtimknijehaamlaaDoorSwE20
set_option linter.unusedSimpArgs false
set_option linter.unusedVariables false
namespace Go.Proofs.YtimknijehaamlaaDoor
open Go Go.AH Go.Lin
set_option maxRecDepth 100000
set_option maxHeartbeats 1000000

def rqSt (n : Nat) (L : List Nat) : Nat × List Nat → AS
  | (k, []) => ⟨[(0, .c (.rs 0 0 n)), (3, .c .nils), (4, .c (.int .i64 (rq L k).2)), (5, .c (.int .i64 k))], [(0, .ro (ints (castL L)))], 2, 33, 1⟩
  | (k, e :: E) => ⟨[(0, .c (.rs 0 0 n)), (3, .c (.row 1 (e :: E).length)), (4, .c (.int .i64 (rq L k).2)), (5, .c (.int .i64 k))], [(0, .ro (ints (castL L))), (1, .row 3 1 (ints (castL (e :: E))))], 2, 33, 1⟩
theorem top_div {x i : Nat} (hx : x ≠ 0) : 1 < x / 2 ^ i ↔ i < x.log2 := by
  have h := Nat.le_log2 hx (k := i + 1)
  have h2 : 2 ≤ x / 2 ^ i ↔ 2 * 2 ^ i ≤ x := Nat.le_div_iff_mul_le (Nat.two_pow_pos i)
  rw [Nat.pow_succ] at h
  omega
theorem refTop_spec {x : Nat} (hx : x ≠ 0) (hx2 : x < 65536) : FDet Tryd.prog 53 [.c (.int .i64 x)] [] 0 (.c (.int .i64 (x.log2 : Nat))) [] 0 := by
  have hl : x.log2 < 16 := lt_two_pow_log2 hx hx2
  refine FSpec.body2 tok true Tryd.func53 ?_
  refine Wk.on ?_
  refine Tr.loop (md := true) (X := Nat) (st := fun i => ⟨[(0, .c (.int .i64 x)), (3, .c (.int .i64 i))], [], 0, 11, 0⟩) (inv := fun i => i ≤ x.log2) (μ := fun i => x.log2 - i) (x0 := 0) (l := []) tok (by omega) ?_ ?_
  · exact Sub.nil ⟨rfl, rfl, (by simp [tab64_LL, pC, castL, prs, tV, tH, tK, rqSt]), rfl, (by simp [tupA, hpLt, tmLt, AV.lt, AE.lt, AC.lt, LL_cons, LL_nil, idOk, ABlk.lt, ints_LL, GB, tab64_LL, pC, castL, prs, tV, tH, tK, rqSt]), (by simp [tupA, hpLt, tmLt, AV.lt, AE.lt, AC.lt, LL_cons, LL_nil, idOk, ABlk.lt, ints_LL, GB, tab64_LL, pC, castL, prs, tV, tH, tK, rqSt])⟩ (by (repeat (first | exact trivial | refine ⟨trivial, ?_⟩ | refine ⟨rfl, ?_⟩))) (by (repeat (first | exact trivial | refine ⟨trivial, ?_⟩ | refine ⟨rfl, ?_⟩)))
  intro i hi
  have hd := top_div (i := i) hx
  obtain ⟨z, hz⟩ : ∃ z, z = x / 2 ^ i := ⟨_, rfl⟩
  rw [← hz] at hd
  by_cases hil : i < x.log2
  · refine Wk.on ?_
    rw [shrN, ← hz, decide_eq_true (show (1 : Int) < ((z : Nat) : Int) by omega)]
    refine Wk.on ?_
    refine Again.mk (i + 1) (Sub.nil ⟨rfl, rfl, (by simp [tab64_LL, pC, castL, prs, tV, tH, tK, rqSt]), rfl, (by simp [tupA, hpLt, tmLt, AV.lt, AE.lt, AC.lt, LL_cons, LL_nil, idOk, ABlk.lt, ints_LL, GB, tab64_LL, pC, castL, prs, tV, tH, tK, rqSt]), (by simp [tupA, hpLt, tmLt, AV.lt, AE.lt, AC.lt, LL_cons, LL_nil, idOk, ABlk.lt, ints_LL, GB, tab64_LL, pC, castL, prs, tV, tH, tK, rqSt])⟩ (by (repeat (first | exact trivial | refine ⟨trivial, ?_⟩ | refine ⟨rfl, ?_⟩))) (by (repeat (first | exact trivial | refine ⟨trivial, ?_⟩ | refine ⟨rfl, ?_⟩)))) (by omega) (by omega)
  · have hil2 : i = x.log2 := by omega
    rw [← hil2]
    refine Wk.on ?_
    rw [shrN, ← hz, decide_eq_false (show ¬ (1 : Int) < ((z : Nat) : Int) by omega)]
    refine Wk.on ?_
    exact AH.Fin.nil2 ⟨rfl, rfl, rfl⟩
theorem rq_tops_lt (L : List Nat) {k : Nat} (hk : k ≤ 65536) : (rq L k).2 < 65536 := by
  refine Nat.lt_pow_two_of_testBit (n := 16) _ fun j hj => ?_
  cases h : (rq L k).2.testBit j with
  | false => rfl
  | true =>
    obtain ⟨x, hx, he⟩ := ((ri_all L k).tops j).1 h
    obtain ⟨_, h0, hlt⟩ := (ri_all L k).sub x hx
    have := lt_two_pow_log2 (k := 16) h0 (by omega)
    omega
theorem rq_len (L : List Nat) : ∀ k, (rq L k).1.length ≤ k
  | 0 => Nat.le_refl 0
  | k + 1 => by
    have := rq_len L k
    rw [rq]
    split
    · simp
    · rw [rqS]; split
      · simp; omega
      · omega
theorem rq_succ (L : List Nat) {k : Nat} (hk : k ≠ 0) : rq L (k + 1) = rqS L (rq L k) k := by rw [rq, if_neg hk]
theorem refEffect_rs {L : List Nat} {k n : Nat} (hL : ∀ j, L.getD j 0 < 2 ^ k) (hk : k ≤ 16) (hn : L.length = n) (hl : n ≤ 16) (x : Nat) : FDet Tryd.prog 36 [.c (.rs 0 0 n), .c (.int .i64 x)] [(0, .ro (ints (castL L)))] 1 (.c (.int .i64 (eff L x : Nat))) [] 1 := by
  subst hn
  exact refEffect_spec hL hk hl x
theorem refQuiet_spec {n : Nat} {L : List Nat} (hL : ∀ j, L.getD j 0 < 2 ^ n) (hn : n ≤ 16) (hl : L.length = n) : FDet Tryd.prog 20 [.c (.rs 0 0 n)] [(0, .ro (ints (castL L)))] 1 (tV (rq L (2 ^ n)).1) (tH (rq L (2 ^ n)).1) (tK (rq L (2 ^ n)).1) := by
  obtain ⟨q, hq⟩ : ∃ q, q = 2 ^ n := ⟨_, rfl⟩
  have hsh : (1 : Int) * 2 ^ (Int.toNat ((n : Nat) : Int)) = (q : Int) := by simp [hq]
  have hq2 : q ≤ 65536 := by rw [hq]; exact (Nat.pow_le_pow_right (by omega) hn : 2 ^ n ≤ 2 ^ 16)
  have hq0 : 1 ≤ q := by rw [hq]; exact Nat.two_pow_pos n
  have hef : ∀ x, eff L x < q := fun x => by rw [hq]; exact effX_lt hL x _ 0 (Nat.two_pow_pos n)
  rw [← hq]
  refine FSpec.body2 tok true Tryd.func20 ?_
  refine Wk.on ?_
  refine Tr.loopU (md := true) (X := Nat × List Nat) (rqSt n L) (fun p => 1 ≤ p.1 ∧ p.1 ≤ q ∧ (rq L p.1).1 = p.2) (fun p => q - p.1) (1, []) tok ⟨by omega, hq0, rfl⟩ (Under.wk [] ⟨rfl, rfl, Nat.le_of_ble_eq_true rfl, Nat.le_of_ble_eq_true rfl⟩ rfl ⟨.inl rfl, .inl rfl, .inl rfl, .inl rfl, trivial⟩ ⟨.inl (congrArg ABlk.ro (ints_ren _ _).symm), trivial⟩ rfl (by simp [tupA, hpLt, tmLt, AV.lt, AE.lt, AC.lt, LL_cons, LL_nil, idOk, ABlk.lt, ints_LL, GB, tab64_LL, pC, castL, prs, tV, tH, tK, rqSt]) (by simp [tupA, hpLt, tmLt, AV.lt, AE.lt, AC.lt, LL_cons, LL_nil, idOk, ABlk.lt, ints_LL, GB, tab64_LL, pC, castL, prs, tV, tH, tK, rqSt])) ?_
  rintro ⟨k, O⟩ ⟨hk1, hk, hO⟩
  dsimp only at hk1 hk hO
  have hOl := rq_len L k
  rw [hO] at hOl
  have htl := rq_tops_lt L (k := k) (by omega)
  have hlast : k = q → rq L k = rq L q := fun e => by rw [e]
  by_cases hkq : k < q
  · have hsu := rq_succ L (k := k) (by omega)
    rw [rqS, hO] at hsu
    have he := hef k
    have re := refEffect_rs hL hn hl hn k
    have rt := refTop_spec (x := k) (by omega) (by omega)
    have hlg : k.log2 < 16 := lt_two_pow_log2 (by omega) (by omega)
    obtain ⟨P2, hP2⟩ : ∃ p, p = 2 ^ k.log2 := ⟨_, rfl⟩
    have hP3 : P2 < 65536 := by rw [hP2]; exact Nat.pow_lt_pow_right (n := 16) (by omega) hlg
    have hsp : (1 : Int) * 2 ^ (Int.toNat ((k.log2 : Nat) : Int)) = (P2 : Int) := by simp [hP2]
    rw [← hP2] at hsu
    obtain ⟨tp, htp⟩ : ∃ t, t = (rq L k).2 := ⟨_, rfl⟩
    rw [← htp] at hsu htl
    obtain ⟨tn, htn⟩ : ∃ t, t = (rq L (k + 1)).2 := ⟨_, rfl⟩
    generalize eff L k = e at *
    generalize k.log2 = lg at *
    rcases O with _ | ⟨b0, O0⟩
    · skip
      have hst : ∀ k : Nat, rqSt n L (k, []) = ⟨[(0, .c (.rs 0 0 n)), (3, .c .nils), (4, .c (.int .i64 (rq L k).2)), (5, .c (.int .i64 k))], [(0, .ro (ints (castL L)))], 2, 33, 1⟩ := fun k => rfl
      rw [hst, ← htp]
      refine Wk.on ?_
      rw [hsh, decide_eq_true (show ((k : Nat) : Int) < ((q : Nat) : Int) by omega)]
      refine Wk.on ?_
      rw [show (Int.toNat ((k : Nat) : Int) &&& Int.toNat ((tp : Nat) : Int) : Nat) = k &&& tp by rw [Int.toNat_natCast, Int.toNat_natCast]]
      by_cases c0 : k &&& tp = 0
      · rw [c0]
        refine Wk.on ?_
        refine CallA.ro2 [0] (.c (.int .i64 e)) (re) ?_
        refine Wk.on ?_
        by_cases c1 : e = 0
        · rw [decide_eq_true (show ((e : Nat) : Int) = 0 by omega)]
          refine Wk.on ?_
          refine CallA.ro2 [] (.c (.int .i64 lg)) (rt) ?_
          refine Wk.on ?_
          rw [hsp]
          refine Wk.on ?_
          rw [show (Int.toNat ((tp : Nat) : Int) ||| Int.toNat ((P2 : Nat) : Int) : Nat) = tp ||| P2 by rw [Int.toNat_natCast, Int.toNat_natCast]]
          have hs : rq L (k + 1) = ([] ++ [k], tp ||| P2) := by rw [hsu, if_pos ⟨c0, c1⟩]
          refine Again.under (k + 1, [k]) ?_ ⟨by show 1 ≤ k + 1; omega, by show k + 1 ≤ q; omega, by show (rq L (k + 1)).1 = [k]; rw [hs]; rfl⟩ (by show q - (k + 1) < q - k; omega)
          have hst2 : rqSt n L (k + 1, [k]) = ⟨[(0, .c (.rs 0 0 n)), (3, .c (.row 1 ([k]).length)), (4, .c (.int .i64 (rq L (k + 1)).2)), (5, .c (.int .i64 (k + 1 : Nat)))], [(0, .ro (ints (castL L))), (1, .row 3 1 (ints (castL ([k]))))], 2, 33, 1⟩ := rfl
          rw [hst2, hs]
          exact Under.wk [(1, 3)] ⟨rfl, rfl, Nat.le_of_ble_eq_true rfl, Nat.le_of_ble_eq_true rfl⟩ rfl ⟨.inl rfl, .inl rfl, .inl rfl, .inl rfl, trivial⟩ ⟨.inl (congrArg ABlk.ro (ints_ren _ _).symm), .inl (congrArg (ABlk.row _ _) (one_lie _ _)), trivial⟩ rfl (by simp [tupA, hpLt, tmLt, AV.lt, AE.lt, AC.lt, LL_cons, LL_nil, idOk, ABlk.lt, ints_LL, GB, tab64_LL, pC, castL, prs, tV, tH, tK, rqSt]) (by simp [tupA, hpLt, tmLt, AV.lt, AE.lt, AC.lt, LL_cons, LL_nil, idOk, ABlk.lt, ints_LL, GB, tab64_LL, pC, castL, prs, tV, tH, tK, rqSt])
        · rw [decide_eq_false (show ¬ ((e : Nat) : Int) = 0 by omega)]
          refine Wk.on ?_
          have hs : rq L (k + 1) = ([], tp) := by rw [hsu, if_neg (by omega), htp, ← hO]
          refine Again.under (k + 1, []) ?_ ⟨by show 1 ≤ k + 1; omega, by show k + 1 ≤ q; omega, by show (rq L (k + 1)).1 = []; rw [hs]⟩ (by show q - (k + 1) < q - k; omega)
          rw [hst, hs]
          exact Under.wk [] ⟨rfl, rfl, Nat.le_of_ble_eq_true rfl, Nat.le_of_ble_eq_true rfl⟩ rfl ⟨.inl rfl, .inl rfl, .inl rfl, .inl rfl, trivial⟩ ⟨.inl (congrArg ABlk.ro (ints_ren _ _).symm), trivial⟩ rfl (by simp [tupA, hpLt, tmLt, AV.lt, AE.lt, AC.lt, LL_cons, LL_nil, idOk, ABlk.lt, ints_LL, GB, tab64_LL, pC, castL, prs, tV, tH, tK, rqSt]) (by simp [tupA, hpLt, tmLt, AV.lt, AE.lt, AC.lt, LL_cons, LL_nil, idOk, ABlk.lt, ints_LL, GB, tab64_LL, pC, castL, prs, tV, tH, tK, rqSt])
      · rw [decide_eq_false (show ¬ ((k &&& tp : Nat) : Int) = 0 by omega)]
        refine Wk.on ?_
        have hs : rq L (k + 1) = ([], tp) := by rw [hsu, if_neg (by omega), htp, ← hO]
        refine Again.under (k + 1, []) ?_ ⟨by show 1 ≤ k + 1; omega, by show k + 1 ≤ q; omega, by show (rq L (k + 1)).1 = []; rw [hs]⟩ (by show q - (k + 1) < q - k; omega)
        rw [hst, hs]
        exact Under.wk [] ⟨rfl, rfl, Nat.le_of_ble_eq_true rfl, Nat.le_of_ble_eq_true rfl⟩ rfl ⟨.inl rfl, .inl rfl, .inl rfl, .inl rfl, trivial⟩ ⟨.inl (congrArg ABlk.ro (ints_ren _ _).symm), trivial⟩ rfl (by simp [tupA, hpLt, tmLt, AV.lt, AE.lt, AC.lt, LL_cons, LL_nil, idOk, ABlk.lt, ints_LL, GB, tab64_LL, pC, castL, prs, tV, tH, tK, rqSt]) (by simp [tupA, hpLt, tmLt, AV.lt, AE.lt, AC.lt, LL_cons, LL_nil, idOk, ABlk.lt, ints_LL, GB, tab64_LL, pC, castL, prs, tV, tH, tK, rqSt])
    · skip
      generalize hLL : b0 :: O0 = O at *
      have hml : (ints (castL O)).length = O.length := by rw [ints_len, castL_len]
      have hst : ∀ k : Nat, rqSt n L (k, O) = ⟨[(0, .c (.rs 0 0 n)), (3, .c (.row 1 O.length)), (4, .c (.int .i64 (rq L k).2)), (5, .c (.int .i64 k))], [(0, .ro (ints (castL L))), (1, .row 3 1 (ints (castL O)))], 2, 33, 1⟩ := fun k => by rw [← hLL]; rfl
      rw [hst, ← htp]
      refine Wk.on ?_
      rw [hsh, decide_eq_true (show ((k : Nat) : Int) < ((q : Nat) : Int) by omega)]
      refine Wk.on ?_
      rw [show (Int.toNat ((k : Nat) : Int) &&& Int.toNat ((tp : Nat) : Int) : Nat) = k &&& tp by rw [Int.toNat_natCast, Int.toNat_natCast]]
      by_cases c0 : k &&& tp = 0
      · rw [c0]
        refine Wk.on ?_
        refine CallA.ro2 [0] (.c (.int .i64 e)) (re) ?_
        refine Wk.on ?_
        by_cases c1 : e = 0
        · rw [decide_eq_true (show ((e : Nat) : Int) = 0 by omega)]
          refine Wk.on ?_
          refine ⟨⟨Nat.le_of_ble_eq_true rfl, rfl, rfl, by rw [hml]; show O.length = O.length * 1; omega, by show ((O.length + 1 : Nat) : Int) * 8 ≤ _; omega, by omega⟩, ?_⟩
          refine Wk.on ?_
          refine CallA.ro2 [] (.c (.int .i64 lg)) (rt) ?_
          refine Wk.on ?_
          rw [hsp]
          refine Wk.on ?_
          rw [show (Int.toNat ((tp : Nat) : Int) ||| Int.toNat ((P2 : Nat) : Int) : Nat) = tp ||| P2 by rw [Int.toNat_natCast, Int.toNat_natCast]]
          have hs : rq L (k + 1) = (O ++ [k], tp ||| P2) := by rw [hsu, if_pos ⟨c0, c1⟩]
          have hal : O ++ [k] = b0 :: (O0 ++ [k]) := by rw [← hLL]; rfl
          have hll : O.length + 1 = (b0 :: (O0 ++ [k])).length := by rw [← hal]; simp
          rw [hal] at hs
          refine Again.under (k + 1, b0 :: (O0 ++ [k])) ?_ ⟨by show 1 ≤ k + 1; omega, by show k + 1 ≤ q; omega, by show (rq L (k + 1)).1 = b0 :: (O0 ++ [k]); rw [hs]⟩ (by show q - (k + 1) < q - k; omega)
          have hst2 : rqSt n L (k + 1, b0 :: (O0 ++ [k])) = ⟨[(0, .c (.rs 0 0 n)), (3, .c (.row 1 (b0 :: (O0 ++ [k])).length)), (4, .c (.int .i64 (rq L (k + 1)).2)), (5, .c (.int .i64 (k + 1 : Nat)))], [(0, .ro (ints (castL L))), (1, .row 3 1 (ints (castL (b0 :: (O0 ++ [k])))))], 2, 33, 1⟩ := rfl
          rw [hst2, hs]
          exact Under.wk [(1, 3)] ⟨rfl, rfl, Nat.le_of_ble_eq_true rfl, Nat.le_of_ble_eq_true rfl⟩ rfl ⟨.inl rfl, .inl (by rw [← hll]; rfl), .inl rfl, .inl rfl, trivial⟩ ⟨.inl (congrArg ABlk.ro (ints_ren _ _).symm), .inl (by rw [← hal]; exact congrArg (ABlk.row _ _) (app_lie _ _ _)), trivial⟩ rfl (by simp [tupA, hpLt, tmLt, AV.lt, AE.lt, AC.lt, LL_cons, LL_nil, idOk, ABlk.lt, ints_LL, GB, tab64_LL, pC, castL, prs, tV, tH, tK, rqSt]) (by simp [tupA, hpLt, tmLt, AV.lt, AE.lt, AC.lt, LL_cons, LL_nil, idOk, ABlk.lt, ints_LL, GB, tab64_LL, pC, castL, prs, tV, tH, tK, rqSt])
        · rw [decide_eq_false (show ¬ ((e : Nat) : Int) = 0 by omega)]
          refine Wk.on ?_
          have hs : rq L (k + 1) = (O, tp) := by rw [hsu, if_neg (by omega), htp, ← hO]
          refine Again.under (k + 1, O) ?_ ⟨by show 1 ≤ k + 1; omega, by show k + 1 ≤ q; omega, by show (rq L (k + 1)).1 = O; rw [hs]⟩ (by show q - (k + 1) < q - k; omega)
          rw [hst, hs]
          exact Under.wk [] ⟨rfl, rfl, Nat.le_of_ble_eq_true rfl, Nat.le_of_ble_eq_true rfl⟩ rfl ⟨.inl rfl, .inl rfl, .inl rfl, .inl rfl, trivial⟩ ⟨.inl (congrArg ABlk.ro (ints_ren _ _).symm), .inl (congrArg (ABlk.row _ _) (ints_ren _ _).symm), trivial⟩ rfl (by simp [tupA, hpLt, tmLt, AV.lt, AE.lt, AC.lt, LL_cons, LL_nil, idOk, ABlk.lt, ints_LL, GB, tab64_LL, pC, castL, prs, tV, tH, tK, rqSt]) (by simp [tupA, hpLt, tmLt, AV.lt, AE.lt, AC.lt, LL_cons, LL_nil, idOk, ABlk.lt, ints_LL, GB, tab64_LL, pC, castL, prs, tV, tH, tK, rqSt])
      · rw [decide_eq_false (show ¬ ((k &&& tp : Nat) : Int) = 0 by omega)]
        refine Wk.on ?_
        have hs : rq L (k + 1) = (O, tp) := by rw [hsu, if_neg (by omega), htp, ← hO]
        refine Again.under (k + 1, O) ?_ ⟨by show 1 ≤ k + 1; omega, by show k + 1 ≤ q; omega, by show (rq L (k + 1)).1 = O; rw [hs]⟩ (by show q - (k + 1) < q - k; omega)
        rw [hst, hs]
        exact Under.wk [] ⟨rfl, rfl, Nat.le_of_ble_eq_true rfl, Nat.le_of_ble_eq_true rfl⟩ rfl ⟨.inl rfl, .inl rfl, .inl rfl, .inl rfl, trivial⟩ ⟨.inl (congrArg ABlk.ro (ints_ren _ _).symm), .inl (congrArg (ABlk.row _ _) (ints_ren _ _).symm), trivial⟩ rfl (by simp [tupA, hpLt, tmLt, AV.lt, AE.lt, AC.lt, LL_cons, LL_nil, idOk, ABlk.lt, ints_LL, GB, tab64_LL, pC, castL, prs, tV, tH, tK, rqSt]) (by simp [tupA, hpLt, tmLt, AV.lt, AE.lt, AC.lt, LL_cons, LL_nil, idOk, ABlk.lt, ints_LL, GB, tab64_LL, pC, castL, prs, tV, tH, tK, rqSt])
  · obtain rfl : k = q := by omega
    rw [hO]
    rcases O with _ | ⟨b0, O0⟩
    · refine Wk.on ?_
      rw [hsh, decide_eq_false (show ¬ ((k : Nat) : Int) < ((k : Nat) : Int) by omega)]
      refine Wk.on ?_
      exact AH.Fin.nil2 ⟨rfl, rfl, rfl⟩
    · refine Wk.on ?_
      rw [hsh, decide_eq_false (show ¬ ((k : Nat) : Int) < ((k : Nat) : Int) by omega)]
      refine Wk.on ?_
      exact AH.Fin.new [1] _ _ ⟨rfl, rfl, rfl⟩ rfl ⟨by show some (ABlk.row 3 1 _) = some (ABlk.row 3 1 ((ints _).map _)); rw [ints_ren], trivial⟩ rfl (by simp [tupA, hpLt, tmLt, AV.lt, AE.lt, AC.lt, LL_cons, LL_nil, idOk, ABlk.lt, ints_LL, GB, tab64_LL, pC, castL, prs, tV, tH, tK, rqSt]) (by simp [tupA, hpLt, tmLt, AV.lt, AE.lt, AC.lt, LL_cons, LL_nil, idOk, ABlk.lt, ints_LL, GB, tab64_LL, pC, castL, prs, tV, tH, tK, rqSt])
end Go.Proofs.YtimknijehaamlaaDoor
